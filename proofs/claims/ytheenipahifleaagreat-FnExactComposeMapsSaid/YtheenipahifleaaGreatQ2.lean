import Derived.Test.YtheenipahifleaaGreatQ1
set_option linter.unusedSectionVars false
set_option linter.unusedSimpArgs false
set_option linter.unusedVariables false
open Go renaming wp_seq→ZE9,wp_skip→ZFc,wp_block→ZFf,wp_ret→ZFh,wp_exit→ZFn
open Go.Instr renaming build→ZF4,buildSlice→ZGg
open Go.IntKind renaming i64→Zwe,u8→ZFl
open Go.Proofs.Tryz renaming prog→ZFb,underlying55→ZFg,underlying53→ZFj,underlying90→ZFp,underlying88→ZFr,underlying22→ZFs,underlying32→ZFt,underlying110→ZFw,underlying28→ZFx,func40→ZF0,func60→ZF1,func59→ZF2,underlying99→ZF5,underlying5→ZGb,func69→ZGc,func41→ZGd,func82→ZGe,underlying2→ZGf,underlying3→ZGh,func100→ZGj
open Go.Value renaming ownBlock→Zum
open Inhabited renaming default→Zt0
open Int renaming tmod→Zul,natCast_nonneg→ZFq,ofNat_lt→ZF8
open List renaming toArray→ZE8,length_eq_one_iff→ZF7
open Nat renaming le_of_ble_eq_true→ZFi,le_trans→Zt1
open Option renaming toList→ZF6
open Vc renaming ETerm→ZFa,Form→ZFd,TForm→ZFv
open Vc.A8 renaming enc→ZE7,zero→ZFe,enc_get→ZFm,enc_set→ZF3
open Vc.Ctx renaming start→ZFu
open Vc.Enc renaming encs_append→ZFy,encs_one'→ZF9,encs→ZGa
open Vc.Term renaming enc→ZFk
open Vc.Tr renaming item→ZFo
open Vc.Ty renaming item→ZBl
set_option maxRecDepth 4000
set_option maxHeartbeats 4000000
namespace Go.Proofs.YtheenipahifleaaGreat
open Go Go.RowKit Vc
variable {b0 bp0 b1 bp1 b2 bp2 b3 bp3 b4 bp4 b5 bp5 b6 bp6 b7 bp7 mb0:Nat} {u0_0 u0_1 u0_2 u0_3 u0_4 u0_5 u1_0 u1_1 u1_2 u1_3 u1_4 u1_5 u2_0 u2_1 u2_2 u2_3 u2_4 u2_5 u3_0 u3_1 u3_2 u3_3 u3_4 u3_5 u4_0 u4_1 u4_2 u4_3 u4_4 u4_5 u5_0 u5_1 u5_2 u5_3 u5_4 u5_5 u6_0 u6_1 u6_2 u6_3 u6_4 u6_5 u7_0 u7_1 u7_2 u7_3 u7_4 u7_5:Value} {fp0 fp1 fp2 fp3 fp4 fp5 fp6 fp7 fp0_0 fp0_1 fp0_2 fp0_3 fp0_4 fp0_5 fp1_0 fp1_1 fp1_2 fp1_3 fp1_4 fp1_5 F0:List Nat}
theorem sc2:ScaT ZFb 2:=⟨⟨_,ZGf,rfl⟩,by kernel_rfl⟩
theorem sc5:ScaT ZFb 5:=⟨⟨_,ZGb,rfl⟩,by kernel_rfl⟩
theorem z55:Xj ZFb 55 (.agg #[.slice none 0 0]):=by unfold Xj; kernel_rfl
theorem Za7  (w:World):(ZF4 55 #[]).run ZFb w=.ok (.agg #[.slice none 0 0]) w:=by kernel_rfl
theorem ag55:AggT ZFb 55 1:=⟨⟨_,ZFg,rfl⟩,by kernel_rfl⟩
theorem mixed:ZFb.follows .mixedOrders=true:=by kernel_rfl
theorem ag88:AggT ZFb 88 8:=⟨⟨_,ZFr,rfl⟩,by kernel_rfl⟩
theorem Zen (x0:A8) (x1:Int) (w:World):(ZF4 90 #[(0,.agg (ZE8 (ZE7 .u8 x0))),(1,.int .i64 x1)]).run ZFb w=.ok (.agg (ZE8 (ZFk (⟨x0,x1⟩:Term)))) w:=by kernel_rfl
theorem Zdc (x0:Term) (w:World):(ZGg 53 1 #[(0,.agg (ZE8 (ZFk x0)))]).run ZFb w=.ok (.slice (some ⟨w.heap.size,0,none⟩) 1 1) (w.alloc (.cells (ZE8 (ZFa.encs [x0])) 90)):=by kernel_rfl
theorem Zpj (x0:Value) (hx0:Zdb x0) (w:World):(ZF4 55 #[(0,x0)]).run ZFb w=.ok (.agg #[x0]) w:=by obtain ⟨_,_,_,rfl⟩:=hx0; kernel_rfl
theorem sc53:ScaT ZFb 53:=⟨⟨_,ZFj,rfl⟩,by kernel_rfl⟩
theorem ag90:AggT ZFb 90 9:=⟨⟨_,ZFp,rfl⟩,by kernel_rfl⟩
theorem Zdd:J6 ZFb 90 (.agg (ZE8 (ZFk (⟨ZFe,0⟩:Term)))) 9 16:=by unfold J6; kernel_rfl
theorem z88:Xj ZFb 88 (.agg (ZE8 (ZE7 .u8 ZFe))):=by unfold Xj; kernel_rfl
theorem Zeo  (w:World):(ZF4 88 #[]).run ZFb w=.ok (.agg (ZE8 (ZE7 .u8 ZFe))) w:=by kernel_rfl
theorem z90:Xj ZFb 90 (.agg (ZE8 (ZFk (⟨ZFe,0⟩:Term)))):=by unfold Xj; kernel_rfl
theorem sc22:ScaT ZFb 22:=⟨⟨_,ZFs,rfl⟩,by kernel_rfl⟩
theorem sc28:ScaT ZFb 28:=⟨⟨_,ZFx,rfl⟩,by kernel_rfl⟩
theorem ag32:AggT ZFb 32 2:=⟨⟨_,ZFt,rfl⟩,by kernel_rfl⟩
theorem J3:Xj ZFb 110 (.agg (ZE8 (ZE7 .i64 ZFe))):=by unfold Xj; kernel_rfl
theorem Zgo  (w:World):(ZF4 110 #[]).run ZFb w=.ok (.agg (ZE8 (ZE7 .i64 ZFe))) w:=by kernel_rfl
theorem ag110:AggT ZFb 110 8:=⟨⟨_,ZFw,rfl⟩,by kernel_rfl⟩
theorem sc3:ScaT ZFb 3:=⟨⟨_,ZGh,rfl⟩,by kernel_rfl⟩
theorem X5:KeyT ZFb 110 (kvA .i64):=Zoe ZFw ZGh sc3
theorem z2:Xj ZFb 2 (.int .i64 0):=by unfold Xj; kernel_rfl
theorem Zpk  (w:World):(ZGg 128 0 #[]).run ZFb w=.ok (.slice (some ⟨w.heap.size,0,none⟩) 0 0) (w.alloc (.cells (ZE8 ((EA .i64).encs [])) 110)):=by kernel_rfl
theorem Zpl (x0:A8) (w:World):(ZGg 128 1 #[(0,.agg (ZE8 (ZE7 .i64 x0)))]).run ZFb w=.ok (.slice (some ⟨w.heap.size,0,none⟩) 1 1) (w.alloc (.cells (ZE8 ((EA .i64).encs [x0])) 110)):=by kernel_rfl
theorem Zpm:J6 ZFb 110 (.agg (ZE8 (ZE7 .i64 ZFe))) 8 64:=by unfold J6; kernel_rfl
theorem Zin:Xj ZFb 145 (.agg (ZE8 (List.replicate 8 (Value.map none)))):=by unfold Xj; kernel_rfl
theorem Zpn (w:World):(ZF4 145 #[]).run ZFb w=.ok (.agg (ZE8 (List.replicate 8 (Value.map none)))) w:=by kernel_rfl
theorem ag145:AggT ZFb 145 8:=⟨⟨_,Tryz.underlying145,rfl⟩,by kernel_rfl⟩
theorem sc99:ScaT ZFb 99:=⟨⟨_,ZF5,rfl⟩,by kernel_rfl⟩
theorem el2:J6 ZFb 2 (.int .i64 0) 1 8:=by unfold J6; kernel_rfl
theorem ag87:AggT ZFb 87 8:=⟨⟨_,Tryz.underlying87,rfl⟩,by kernel_rfl⟩
theorem ag122:AggT ZFb 122 9:=⟨⟨_,Tryz.underlying122,rfl⟩,by kernel_rfl⟩
theorem sc49:ScaT ZFb 49:=⟨⟨_,Tryz.underlying49,rfl⟩,by kernel_rfl⟩
def Zde (a0:Int) (a1:Int) (a2:Int) (K:Bool→Prop):Prop :=
 (if a0≥a1 then K (decide (a0≤a2)) else K false)
theorem Zk0 (a0:Int) (a1:Int) (a2:Int)  {K:Bool→Prop} (h:Zde a0 a1 a2 K) (w0:World)  :
  Calls ZFb 39 #[vI a0,vI a1,vI a2] w0 fun e w'=>∃ (r0:Bool),
   e=.returned (.bool r0)∧K r0∧Bel w0 w':=by
 unfold Zde at h
 refine cof Tryz.func39 rfl 15 Tryz.ntmps39 ?_
 have hC:=ZFu (X:=Nox) w0 [] (by simp)
 refine sr (Zc (v:=.bool false) rfl (dn (sr (Zb (v:=vI a0) rfl (Zb (v:=vI a1) rfl (Zbh rfl rfl (Zb (v:=.bool (decide (a0≥a1))) rfl ?_)))))))
 refine Yt (decide (a0≥a1)) (fun hb1=>?_) (fun hb1=>?_)
 ·replace h:=ift h (ct hb1)
  refine Zi 3 10 rfl rfl hb1 (Zb (v:=vI a0) rfl (Zi 3 10 rfl rfl hb1 (Zb (v:=vI a2) rfl (Zi 3 10 rfl rfl hb1 (Zb3 rfl rfl (Zw (v:=.bool (decide (a0≤a2))) (b:=true) (tr rfl (congrArg _ hb1)) rfl (Zc (v:=.bool (decide (a0≤a2))) rfl (dn (ZFh ?_)))))))))
  exact Zk rfl (Zg rfl) ⟨decide (a0≤a2),rfl,h,hC.below⟩ (.inl rfl)
 ·replace h:=Zl h (cf hb1)
  refine Zh (b:=false) 3 10 rfl (tr rfl (congrArg _ hb1)) (by decide) (Zh (b:=false) 3 10 rfl (tr rfl (congrArg _ hb1)) (by decide) (Zh (b:=false) 3 10 rfl (tr rfl (congrArg _ hb1)) (by decide) (Zw (v:=.bool false) (b:=false) (tr rfl (congrArg _ hb1)) rfl (Zc (v:=.bool false) rfl (dn (ZFh ?_))))))
  exact Zk rfl (Zg rfl) ⟨false,rfl,h,hC.below⟩ (.inl rfl)
def Zep (a0:List Int) (K:Bool→Prop):Prop :=
 Yg (fun i10 (s10:Unit) nx10=>Zde (a0.getD i10 Zt0) 1 12 (fun r10=>(if¬ (r10=true) then K false else nx10 ()))) (fun (s10:Unit)=>K (decide ((a0.length:Int)≤8))) a0.length 0 ()
theorem Zpo (a0:List Int)  {K:Bool→Prop} (h:Zep a0 K) (w0:World) (q0:TInts.rep a0 [u0_0] fp0 w0) :
  Calls ZFb 68 #[u0_0] w0 fun e w'=>∃ (r0:Bool),
   e=.returned (.bool r0)∧K r0∧Bel w0 w':=by
 unfold Zep at h
 refine cof Tryz.func68 rfl 19 Tryz.ntmps68 ?_
 have hC:=ZFu (X:=Nox) w0 [ZBl TInts a0 [u0_0] fp0] (al1 q0)
 refine sr (Zc (v:=.bool false) rfl (dn (ZE9 (sr (Zc (v:=vI 0) rfl (dn (ZFf ?_)))))))
 have hN10:a0.length≤9223372036854775807:=Y0 (hC.getP 0 rfl)
 refine Yp (S:=Unit) _ _ (fun i10 s10 e_ w_=>Z2 e_ [(0,u0_0),(3,vI (i10:Int))]∧Ctx Nox w0 w_ [] [ZBl TInts a0 [u0_0] fp0]) a0.length ?_ ?_ (s0:=()) ?_ h
 ·clear hC h
  rintro i10 s10 e_ w10 nx10 K10 hi10 ⟨hS_,hC⟩ h hK10
  rw [ue hS_]
  refine ZE9 (sr (Zb (v:=vI (i10:Int)) rfl (Zb (v:=u0_0) rfl (Zx hC 0 rfl ZFs rfl (Zo rfl rfl (dn (Z8 rfl (decide_eq_true (by omega)) (ZFc (Zd (ZE9 (ZFf (sr (Zb (v:=u0_0) rfl (Zb (v:=vI (i10:Int)) rfl ?_))))))))))))))
  obtain ⟨Ad10,c10,hv10⟩:=Z3 (hC.getP 0 rfl) i10 hi10
  refine Yu (len:=a0.length) ZFs sc2.size (tr rfl hv10) rfl (ZFq _) (ZF8.2 hi10) (Xz (vI (a0.getD i10 Zt0)) (Yj (hC.getP 0 rfl) hv10 i10 hi10) sc2 rfl (Zf [vI (a0.getD i10 Zt0),vI 1,vI 12] _ Tryz.func39 rfl rfl rfl (Zk0 (a0.getD i10 Zt0) 1 12 h _) ?_))
  rintro _ w11 ⟨r10,rfl,h,hB10⟩
  refine rt ?_
  replace hC:=hC.grow hB10
  refine Y4 rfl (dn ?_)
  refine Zq rfl (fun hb10=>?_) (fun hb10=>?_)
  ·replace h:=ift h (Yq (Y5 hb10))
   refine sr (Zc (v:=.bool false) rfl (dn ?_))
   refine ZFh (Zv (Ze (Ze (Zv (Ze ?_)))))
   exact Zk rfl (Zg rfl) ⟨false,rfl,h,hC.below⟩ (.inl rfl)
  ·replace h:=Zl h (not_not_intro ((Y6 hb10)))
   refine ZFc (Zt (Zd (Zn (Zb (v:=vI (i10:Int)) rfl (Zr rfl rfl (Zc (v:=vI (Zwe.wrap ((i10:Int)+1))) rfl (done ?_)))))))
   exact hK10 () _ _ ⟨(sl ⟨rfl,(tr rfl (congrArg _ (Z9 hi10 hN10))),trivial⟩),hC⟩ h
 ·clear hC h
  rintro s10 e_ w12 K10 ⟨hS_,hC⟩ h
  rw [ue hS_]
  refine ZE9 (sr (Zb (v:=vI (a0.length:Int)) rfl (Zb (v:=u0_0) rfl (Zx hC 0 rfl ZFs rfl (Zo rfl rfl (dn (Ya rfl (decide_eq_false (by omega)) ?_)))))))
  refine ZFn (Zm (Zm (Z5 ?_)))
  refine Zd (sr (Zb (v:=u0_0) rfl (Zx hC 0 rfl ZFs rfl (Zb3 rfl rfl (Zc (v:=.bool (decide ((a0.length:Int)≤8))) rfl (dn (ZFh ?_)))))))
  exact Zk rfl (Zg rfl) ⟨decide ((a0.length:Int)≤8),rfl,h,hC.below⟩ (.inl rfl)
 ·skip
  exact⟨(slq rfl),hC⟩
def Zeq (a0:List Int) (a1:A8) (K:Bool→Prop):Prop :=
 Yg (fun i10 (s10:Unit) nx10=>(if(i10:Int)≥(a0.length:Int) then(if a1.get i10≠0 then K false else nx10 ()) else(if a1.get i10 > 20 then K false else((0≤(i10:Int)∧(i10:Int) < (a0.length:Int))∧(if Zul (a0.getD i10 Zt0) 2≠0 then(if a1.get i10 > 1 then K false else nx10 ()) else nx10 ()))))) (fun (s10:Unit)=>K true) 8 0 ()
theorem Zpp (a0:List Int) (a1:A8)  {K:Bool→Prop} (h:Zeq a0 a1 K) (w0:World) (q0:TInts.rep a0 [u0_0] fp0 w0) :
  Calls ZFb 81 #[u0_0,.agg (ZE8 (ZE7 .u8 a1))] w0 fun e w'=>∃ (r0:Bool),
   e=.returned (.bool r0)∧K r0∧Bel w0 w':=by
 unfold Zeq at h
 refine cof Tryz.func81 rfl 38 Tryz.ntmps81 ?_
 have hC:=ZFu (X:=Nox) w0 [ZBl TInts a0 [u0_0] fp0] (al1 q0)
 refine sr (Yf (v:=.agg (ZE8 (ZE7 .u8 a1))) hC (ZE7 .u8 a1) rfl rfl fun b2 w4 hB_ hC=>Zc (v:=.bool false) rfl (dn (ZE9 (sr (Zc (v:=vI 0) rfl (dn (ZFf ?_)))))))
 refine Yp (S:=Unit) _ _ (fun i10 s10 e_ w_=>Z2 e_ [(0,u0_0),(3,vQ b2),(5,vI (i10:Int))]∧Ctx Nox w0 w_ [blk b2 88 (ZE7 .u8 a1)] [ZBl TInts a0 [u0_0] fp0]) 8 ?_ ?_ (s0:=()) ?_ h
 ·clear hC h
  rintro i10 s10 e_ w10 nx10 K10 hi10 ⟨hS_,hC⟩ h hK10
  rw [ue hS_]
  refine ZE9 (sr (Zb (v:=vI (i10:Int)) rfl (Zo rfl rfl (dn (Z8 rfl (decide_eq_true (by omega)) (ZFc (Zd (ZE9 (ZFf (ZFf (sr (Zb (v:=vI (i10:Int)) rfl (Zb (v:=u0_0) rfl (Zx hC 0 rfl ZFs rfl (Zbh rfl rfl (Zc (v:=.bool (decide ((i10:Int)≥(a0.length:Int)))) rfl (dn ?_)))))))))))))))))
  refine Zq rfl (fun hb12=>?_) (fun hb12=>?_)
  ·replace h:=ift h (ct hb12)
   refine sr (Zb (v:=vI (i10:Int)) rfl (Xc i10 ZFr sc5.size rfl rfl (ZFq _) (by omega) (by omega) (Z6 hC 0 (.int .u8 (a1.get i10)) rfl sc5 rfl (ZFm _ _ hi10) (Y7 rfl rfl (dn ?_)))))
   refine Zq rfl (fun hb13=>?_) (fun hb13=>?_)
   ·replace h:=ift h (ct hb13)
    refine sr (Zc (v:=.bool false) rfl (dn ?_))
    refine ZFh (Zv (Zv (Ze (Ze (Zv (Ze ?_))))))
    exact Zk rfl (Zg rfl) ⟨false,rfl,h,hC.below⟩ (.inl rfl)
   ·replace h:=Zl h (cf hb13)
    refine ZFc (Zt (Zt (Zd (Zn (Zb (v:=vI (i10:Int)) rfl (Zr rfl rfl (Zc (v:=vI (Zwe.wrap ((i10:Int)+1))) rfl (done ?_))))))))
    exact hK10 () _ _ ⟨(sl ⟨rfl,rfl,(tr rfl (congrArg _ (Z9 hi10 (by decide)))),trivial⟩),hC⟩ h
  ·replace h:=Zl h (cf hb12)
   refine sr (Zb (v:=vI (i10:Int)) rfl (Xc i10 ZFr sc5.size rfl rfl (ZFq _) (by omega) (by omega) (Z6 hC 0 (.int .u8 (a1.get i10)) rfl sc5 rfl (ZFm _ _ hi10) (Xx rfl rfl (Zb (v:=.bool (decide (a1.get i10 > 20))) rfl ?_)))))
   refine Yt (decide (a1.get i10 > 20)) (fun hb10=>?_) (fun hb10=>?_)
   ·replace h:=ift h (ct hb10)
    refine Zh (b:=true) 4 24 rfl (tr rfl (congrArg _ hb10)) (by decide) (Zh (b:=true) 4 24 rfl (tr rfl (congrArg _ hb10)) (by decide) (Zh (b:=true) 4 24 rfl (tr rfl (congrArg _ hb10)) (by decide) (Zh (b:=true) 4 24 rfl (tr rfl (congrArg _ hb10)) (by decide) (Zh (b:=true) 4 24 rfl (tr rfl (congrArg _ hb10)) (by decide) (Zh (b:=true) 4 24 rfl (tr rfl (congrArg _ hb10)) (by decide) (Zh (b:=true) 4 24 rfl (tr rfl (congrArg _ hb10)) (by decide) (Xg 11 31 rfl rfl (Xg 11 31 rfl rfl (Xg 11 31 rfl rfl (Xg 11 31 rfl rfl (Zh (b:=true) 4 24 rfl (tr rfl (congrArg _ hb10)) (by decide) (Zw (v:=.bool true) (b:=true) (tr rfl (congrArg _ hb10)) rfl (Zc (v:=.bool true) rfl (dn (Z8 rfl rfl (sr (Zc (v:=.bool false) rfl (dn ?_))))))))))))))))))
    refine ZFh (Zv (Zv (Ze (Ze (Zv (Ze ?_))))))
    exact Zk rfl (Zg rfl) ⟨false,rfl,h,hC.below⟩ (.inl rfl)
   ·replace h:=Zl h (cf hb10)
    refine Zi 4 24 rfl rfl hb10 (Zb (v:=u0_0) rfl (Zi 4 24 rfl rfl hb10 (Zb (v:=vI (i10:Int)) rfl (Zi 4 24 rfl rfl hb10 ?_))))
    obtain ⟨⟨h10,h11⟩,h⟩:=h
    obtain ⟨Ad10,c10,hv10⟩:=Z3 (hC.getP 0 rfl) i10 (show i10 < a0.length by omega)
    refine Yu (len:=a0.length) ZFs sc2.size (tr rfl hv10) rfl h10 h11 (Zi 4 24 rfl rfl hb10 (Xz (vI (a0.getD i10 Zt0)) (Yj (hC.getP 0 rfl) hv10 i10 (show i10 < a0.length by omega)) sc2 rfl (Zi 4 24 rfl rfl hb10 (Jj rfl rfl (by decide) (Zi 4 24 rfl rfl hb10 (Y7 rfl rfl (Zi 4 24 rfl rfl hb10 (Zb (v:=.bool (decide (Zul (a0.getD i10 Zt0) 2≠0))) rfl ?_))))))))
    refine Yt (decide (Zul (a0.getD i10 Zt0) 2≠0)) (fun hb11=>?_) (fun hb11=>?_)
    ·replace h:=ift h (ct hb11)
     refine Zi 11 31 rfl rfl hb11 (Zb (v:=vI (i10:Int)) rfl (Zi 11 31 rfl rfl hb11 (Xc i10 ZFr sc5.size rfl rfl (ZFq _) (by omega) (by omega) (Zi 11 31 rfl rfl hb11 (Z6 hC 0 (.int .u8 (a1.get i10)) rfl sc5 rfl (ZFm _ _ hi10) (Zi 11 31 rfl rfl hb11 (Xx rfl rfl (Zi 4 24 rfl rfl hb10 (Zw (v:=.bool (decide (a1.get i10 > 1))) (b:=true) (tr rfl (congrArg _ hb11)) rfl (Zw (v:=.bool (decide (a1.get i10 > 1))) (b:=false) (tr rfl (congrArg _ hb10)) rfl (Zc (v:=.bool (decide (a1.get i10 > 1))) rfl (dn ?_))))))))))))
     refine Zq rfl (fun hb14=>?_) (fun hb14=>?_)
     ·replace h:=ift h (ct hb14)
      refine sr (Zc (v:=.bool false) rfl (dn ?_))
      refine ZFh (Zv (Zv (Ze (Ze (Zv (Ze ?_))))))
      exact Zk rfl (Zg rfl) ⟨false,rfl,h,hC.below⟩ (.inl rfl)
     ·replace h:=Zl h (cf hb14)
      refine ZFc (Zt (Zt (Zd (Zn (Zb (v:=vI (i10:Int)) rfl (Zr rfl rfl (Zc (v:=vI (Zwe.wrap ((i10:Int)+1))) rfl (done ?_))))))))
      exact hK10 () _ _ ⟨(sl ⟨rfl,rfl,(tr rfl (congrArg _ (Z9 hi10 (by decide)))),trivial⟩),hC⟩ h
    ·replace h:=Zl h (cf hb11)
     refine Zh (b:=false) 11 31 rfl (tr rfl (congrArg _ hb11)) (by decide) (Zh (b:=false) 11 31 rfl (tr rfl (congrArg _ hb11)) (by decide) (Zh (b:=false) 11 31 rfl (tr rfl (congrArg _ hb11)) (by decide) (Zh (b:=false) 11 31 rfl (tr rfl (congrArg _ hb11)) (by decide) (Zi 4 24 rfl rfl hb10 (Zw (v:=.bool false) (b:=false) (tr rfl (congrArg _ hb11)) rfl (Zw (v:=.bool false) (b:=false) (tr rfl (congrArg _ hb10)) rfl (Zc (v:=.bool false) rfl (dn (Ya rfl rfl (ZFc (Zt (Zt (Zd (Zn (Zb (v:=vI (i10:Int)) rfl (Zr rfl rfl (Zc (v:=vI (Zwe.wrap ((i10:Int)+1))) rfl (done ?_))))))))))))))))))
     exact hK10 () _ _ ⟨(sl ⟨rfl,rfl,(tr rfl (congrArg _ (Z9 hi10 (by decide)))),trivial⟩),hC⟩ h
 ·clear hC h
  rintro s10 e_ w11 K10 ⟨hS_,hC⟩ h
  rw [ue hS_]
  refine ZE9 (sr (Zb (v:=vI 8) rfl (Zo rfl rfl (dn (Ya rfl (decide_eq_false (by omega)) ?_)))))
  refine ZFn (Zm (Zm (Z5 ?_)))
  refine Zd (sr (Zc (v:=.bool true) rfl (dn (ZFh ?_))))
  exact Zk rfl (Zg rfl) ⟨true,rfl,h,hC.below⟩ (.inl rfl)
 ·skip
  exact⟨(slq rfl),hC⟩
def X6 (a0:Int) (K:Int→Prop):Prop :=
 K (Zul (Zwe.wrap ((Zul a0 10007)+10007)) 10007)
theorem Zbm (a0:Int)  {K:Int→Prop} (h:X6 a0 K) (w0:World)  :
  Calls ZFb 40 #[vI a0] w0 fun e w'=>∃ (r0:Int),
   e=.returned (vI r0)∧K r0∧Bel w0 w':=by
 unfold X6 at h
 refine cof ZF0 rfl 7 Tryz.ntmps40 ?_
 have hC:=ZFu (X:=Nox) w0 [] (by simp)
 refine sr (Zc (v:=vI 0) rfl (dn (sr (Zb (v:=vI a0) rfl (Jj rfl rfl (by decide) (Zr rfl rfl (Jj rfl rfl (by decide) (Zc (v:=vI (Zul (Zwe.wrap ((Zul a0 10007)+10007)) 10007)) rfl (dn (ZFh ?_))))))))))
 exact Zk rfl (Zg rfl) ⟨Zul (Zwe.wrap ((Zul a0 10007)+10007)) 10007,rfl,h,hC.below⟩ (.inl rfl)
def X1 (a0:A8) (a1:Int) (K:ZFd→Prop):Prop :=
 X6 a1 (fun r11=>(if r11=0 then K (⟨[]⟩:ZFd) else X6 a1 (fun r10=>K (⟨[(⟨a0,r10⟩:Term)]⟩:ZFd))))
theorem Zbn (a0:A8) (a1:Int)  {K:ZFd→Prop} (h:X1 a0 a1 K) (w0:World)  :
  Calls ZFb 59 #[.agg (ZE8 (ZE7 .u8 a0)),vI a1] w0 fun e w'=>∃ (r0:ZFd) (z0_0:Value) (fz0:List Nat),
   e=.returned (.agg #[z0_0])∧K r0∧(ZFo (Zj 90) r0 [z0_0] fz0).holds w'∧(∀ b,b∈fz0→w0.heap.size≤b)∧Bel w0 w':=by
 unfold X1 at h
 refine cof ZF2 rfl 15 Tryz.ntmps59 ?_
 have hC:=ZFu (X:=Nox) w0 [] (by simp)
 refine sr (Yf (v:=.agg (ZE8 (ZE7 .u8 a0))) hC (ZE7 .u8 a0) rfl rfl fun b1 w3 hB_ hC=>Yb hC [.slice none 0 0] z55 rfl fun b4 w6 hB_ hC=>dn (ZE9 (sr (Zb (v:=vI a1) rfl (Zf [vI a1] _ ZF0 rfl rfl rfl (Zbm a1 h _) ?_)))))
 rintro _ w9 ⟨r11,rfl,h,hB10⟩
 refine rt ?_
 replace hC:=hC.grow hB10
 refine Jh rfl rfl (dn ?_)
 refine Zq rfl (fun hb10=>?_) (fun hb10=>?_)
 ·replace h:=ift h (ct hb10)
  refine sr (Xp [] rfl (Za7   _) (Zu (v:=.agg #[.slice none 0 0]) hC 0 [.slice none 0 0] [.slice none 0 0] rfl ag55.size rfl rfl rfl rfl rfl (ZFi rfl) rfl fun w10 hC=>dn ?_))
  refine ZFh (Ze ?_)
  exact Zk rfl (X3 hC 0 rfl ag55 rfl rfl) ⟨(⟨[]⟩:ZFd),.slice none 0 0,[],rfl,h,(Jr (Zbl _ _ _)),(fun b hb=>absurd hb (by simp)),hC.below⟩ (.inl rfl)
 ·replace h:=Zl h (cf hb10)
  refine ZFc (Zd (ZE9 ?_))
  refine cwd 3 mixed [0,0,2,7,15,31,63] [0] [1] (fun hM10 hM11 w11 hB_=>?_)
  replace hC:=hC.grow hB_
  refine bL 0 (.agg (ZE8 (ZE7 .u8 a0))) rfl rfl hM10 (fun _ hB_=>by exact Yo (hC.grow hB_) 1 (ZE7 .u8 a0) rfl ag88 rfl rfl rfl) (Za 7 1) (bM 1 (vI a1) rfl hM11 (Za 7 3) (aO 2 rfl (Zf [vI a1] _ ZF0 rfl rfl rfl (Zbm a1 h _) ?_)))
  rintro _ w12 ⟨r10,rfl,h,hB11⟩
  refine rt ?_
  replace hC:=hC.grow hB11
  refine done (aK (by assumption) (Za 7 7) (Z0 3 (by decide) (by decide) (by kernel_rfl) (by kernel_rfl) rfl (Xp [(0,.agg (ZE8 (ZE7 .u8 a0))),(1,vI r10)] rfl (Zen a0 r10  _) (Ju (sz:=9) hC [(0,.agg (ZE8 (ZFk (⟨a0,r10⟩:Term))))] (ZFa.encs [(⟨a0,r10⟩:Term)]) rfl (fun _=>Zdc (⟨a0,r10⟩:Term) _) rfl (by decide) fun b10 w13 hB_ hC=>Xp [(0,.slice (some ⟨b10,0,none⟩) 1 1)] rfl (Zpj (.slice (some ⟨b10,0,none⟩) 1 1) (Zii (hC.getM 0 rfl)) _) (Zu (v:=.agg #[.slice (some ⟨b10,0,none⟩) 1 1]) hC 1 [.slice (some ⟨b10,0,none⟩) 1 1] [.slice (some ⟨b10,0,none⟩) 1 1] rfl ag55.size rfl rfl rfl rfl (Ym (Y8 (hC.getM 0 rfl)) rfl) (ZFi rfl) rfl fun w14 hC=>done (Z1 (Zd (ZFh ?_))))))))
  exact Zk rfl (X3 hC 1 rfl ag55 rfl rfl) ⟨(⟨[(⟨a0,r10⟩:Term)]⟩:ZFd),.slice (some ⟨b10,0,none⟩) 1 1,(ZF6 (Zum (.slice (some ⟨b10,0,none⟩) 1 1))),rfl,h,(Jr (Jq (hC.getM 0 rfl))),(Jo hC 0 rfl),hC.below⟩ (.inl rfl)
def Zcf (a0:A8) (a1:A8) (K:Bool→Prop):Prop :=
 Yg (fun i10 (s10:Unit) nx10=>(if a0.get i10≠a1.get i10 then K (decide (a0.get i10 > a1.get i10)) else nx10 ())) (fun (s10:Unit)=>K false) 8 0 ()
theorem Zio (a0:A8) (a1:A8)  {K:Bool→Prop} (h:Zcf a0 a1 K) (w0:World)  :
  Calls ZFb 69 #[.agg (ZE8 (ZE7 .u8 a0)),.agg (ZE8 (ZE7 .u8 a1))] w0 fun e w'=>∃ (r0:Bool),
   e=.returned (.bool r0)∧K r0∧Bel w0 w':=by
 unfold Zcf at h
 refine cof ZGc rfl 24 Tryz.ntmps69 ?_
 have hC:=ZFu (X:=Nox) w0 [] (by simp)
 refine sr (Yf (v:=.agg (ZE8 (ZE7 .u8 a0))) hC (ZE7 .u8 a0) rfl rfl fun b1 w3 hB_ hC=>Yf (v:=.agg (ZE8 (ZE7 .u8 a1))) hC (ZE7 .u8 a1) rfl rfl fun b4 w6 hB_ hC=>Zc (v:=.bool false) rfl (dn (ZE9 (sr (Zc (v:=vI 0) rfl (dn (ZFf ?_)))))))
 refine Yp (S:=Unit) _ _ (fun i10 s10 e_ w_=>Z2 e_ [(2,vQ b1),(3,vQ b4),(5,vI (i10:Int))]∧Ctx Nox w0 w_ [blk b4 88 (ZE7 .u8 a1),blk b1 88 (ZE7 .u8 a0)] []) 8 ?_ ?_ (s0:=()) ?_ h
 ·clear hC h
  rintro i10 s10 e_ w10 nx10 K10 hi10 ⟨hS_,hC⟩ h hK10
  rw [ue hS_]
  refine ZE9 (sr (Zb (v:=vI (i10:Int)) rfl (Zo rfl rfl (dn (Z8 rfl (decide_eq_true (by omega)) (ZFc (Zd (ZE9 (ZFf (ZE9 ?_))))))))))
  refine cwd 6 mixed [0,1,3,0,8,24,63] [1,2,4,5] [0,3] (fun hM10 hM12 w11 hB_=>?_)
  replace hC:=hC.grow hB_
  refine bM 0 (vI (i10:Int)) rfl hM12 (Za 7 1) (bL 1 (.pointer (some ⟨b1,i10,none⟩)) rfl rfl hM10 (fun _ hB_=>by exact Jb i10 ZFr sc5.size rfl rfl (ZFq _) (by omega) (by omega)) (Za 7 3) (bL 2 (.int .u8 (a0.get i10)) rfl rfl hM10 (fun _ hB_=>by exact Yc (hC.grow hB_) 1 (.int .u8 (a0.get i10)) rfl sc5 rfl (ZFm _ _ hi10)) (Za 7 7) (bM 3 (vI (i10:Int)) rfl hM12 (Za 7 15) (bL 4 (.pointer (some ⟨b4,i10,none⟩)) rfl rfl hM10 (fun _ hB_=>by exact Jb i10 ZFr sc5.size rfl rfl (ZFq _) (by omega) (by omega)) (Za 7 31) (bL 5 (.int .u8 (a1.get i10)) rfl rfl hM10 (fun _ hB_=>by exact Yc (hC.grow hB_) 0 (.int .u8 (a1.get i10)) rfl sc5 rfl (ZFm _ _ hi10)) (Za 7 63) (Z0 6 (by decide) (by decide) (by kernel_rfl) (by kernel_rfl) rfl (Y7 rfl rfl (done (Z1 (Zd ?_))))))))))
  refine Zq rfl (fun hb10=>?_) (fun hb10=>?_)
  ·replace h:=ift h (ct hb10)
   refine ZE9 ?_
   refine cwd 6 mixed [0,1,3,0,8,24,63,127] [1,2,4,5] [0,3] (fun hM11 hM13 w12 hB_=>?_)
   replace hC:=hC.grow hB_
   refine bM 0 (vI (i10:Int)) rfl hM13 (Za 8 1) (bL 1 (.pointer (some ⟨b1,i10,none⟩)) rfl rfl hM11 (fun _ hB_=>by exact Jb i10 ZFr sc5.size rfl rfl (ZFq _) (by omega) (by omega)) (Za 8 3) (bL 2 (.int .u8 (a0.get i10)) rfl rfl hM11 (fun _ hB_=>by exact Yc (hC.grow hB_) 1 (.int .u8 (a0.get i10)) rfl sc5 rfl (ZFm _ _ hi10)) (Za 8 7) (bM 3 (vI (i10:Int)) rfl hM13 (Za 8 15) (bL 4 (.pointer (some ⟨b4,i10,none⟩)) rfl rfl hM11 (fun _ hB_=>by exact Jb i10 ZFr sc5.size rfl rfl (ZFq _) (by omega) (by omega)) (Za 8 31) (bL 5 (.int .u8 (a1.get i10)) rfl rfl hM11 (fun _ hB_=>by exact Yc (hC.grow hB_) 0 (.int .u8 (a1.get i10)) rfl sc5 rfl (ZFm _ _ hi10)) (Za 8 63) (Z0 6 (by decide) (by decide) (by kernel_rfl) (by kernel_rfl) rfl (Xx rfl rfl (Zc (v:=.bool (decide (a0.get i10 > a1.get i10))) rfl (done (Z1 (Zd ?_)))))))))))
   refine ZFh (Zv (Ze (Ze (Zv (Ze ?_)))))
   exact Zk rfl (Zg rfl) ⟨decide (a0.get i10 > a1.get i10),rfl,h,hC.below⟩ (.inl rfl)
  ·replace h:=Zl h (cf hb10)
   refine ZFc (Zt (Zd (Zn (Zb (v:=vI (i10:Int)) rfl (Zr rfl rfl (Zc (v:=vI (Zwe.wrap ((i10:Int)+1))) rfl (done ?_)))))))
   exact hK10 () _ _ ⟨(sl ⟨rfl,rfl,(tr rfl (congrArg _ (Z9 hi10 (by decide)))),trivial⟩),hC⟩ h
 ·clear hC h
  rintro s10 e_ w13 K10 ⟨hS_,hC⟩ h
  rw [ue hS_]
  refine ZE9 (sr (Zb (v:=vI 8) rfl (Zo rfl rfl (dn (Ya rfl (decide_eq_false (by omega)) ?_)))))
  refine ZFn (Zm (Zm (Z5 ?_)))
  refine Zd (sr (Zc (v:=.bool false) rfl (dn (ZFh ?_))))
  exact Zk rfl (Zg rfl) ⟨false,rfl,h,hC.below⟩ (.inl rfl)
 ·skip
  exact⟨(slq rfl),hC⟩
def Jy (a0:ZFd) (a1:ZFd) (a2:Int) (K:ZFd→Prop):Prop :=
 Jc (fun (s10:(List Term)×Int×Int) nx10=>joinP (fun (jn11:Bool→Prop)=>(if s10.2.1 < (a0.terms.length:Int) then jn11 true else jn11 (decide (s10.2.2 < (a1.terms.length:Int))))) (fun (x10:Bool)=>(if x10=true then joinP (fun (jn10:Bool→Prop)=>(if s10.2.2=(a1.terms.length:Int) then jn10 true else(if s10.2.1 < (a0.terms.length:Int) then((0≤s10.2.1∧s10.2.1 < (a0.terms.length:Int))∧((0≤s10.2.2∧s10.2.2 < (a1.terms.length:Int))∧Zcf ((a0.terms.getD s10.2.1.toNat Zt0).mono) ((a1.terms.getD s10.2.2.toNat Zt0).mono) (fun r12=>jn10 r12))) else jn10 false))) (fun (x11:Bool)=>(if x11=true then((0≤s10.2.1∧s10.2.1 < (a0.terms.length:Int))∧(X4 (s10.1.length+1) 16∧nx10 (s10.1++[a0.terms.getD s10.2.1.toNat Zt0],Zwe.wrap (s10.2.1+1),s10.2.2))) else joinP (fun (jn12:Bool→Prop)=>(if s10.2.1=(a0.terms.length:Int) then jn12 true else((0≤s10.2.2∧s10.2.2 < (a1.terms.length:Int))∧((0≤s10.2.1∧s10.2.1 < (a0.terms.length:Int))∧Zcf ((a1.terms.getD s10.2.2.toNat Zt0).mono) ((a0.terms.getD s10.2.1.toNat Zt0).mono) (fun r13=>jn12 r13))))) (fun (x12:Bool)=>(if x12=true then((0≤s10.2.2∧s10.2.2 < (a1.terms.length:Int))∧X6 (Zwe.wrap (a2 * ((a1.terms.getD s10.2.2.toNat Zt0).factor))) (fun r10=>(if r10≠0 then((0≤s10.2.2∧s10.2.2 < (a1.terms.length:Int))∧(X4 (s10.1.length+1) 16∧nx10 (s10.1++[(⟨(a1.terms.getD s10.2.2.toNat Zt0).mono,r10⟩:Term)],s10.2.1,Zwe.wrap (s10.2.2+1)))) else nx10 (s10.1,s10.2.1,Zwe.wrap (s10.2.2+1))))) else((0≤s10.2.1∧s10.2.1 < (a0.terms.length:Int))∧((0≤s10.2.2∧s10.2.2 < (a1.terms.length:Int))∧X6 (Zwe.wrap (a2 * ((a1.terms.getD s10.2.2.toNat Zt0).factor))) (fun r14=>X6 (Zwe.wrap (((a0.terms.getD s10.2.1.toNat Zt0).factor)+r14)) (fun r11=>(if r11≠0 then((0≤s10.2.1∧s10.2.1 < (a0.terms.length:Int))∧(X4 (s10.1.length+1) 16∧nx10 (s10.1++[(⟨(a0.terms.getD s10.2.1.toNat Zt0).mono,r11⟩:Term)],Zwe.wrap (s10.2.1+1),Zwe.wrap (s10.2.2+1)))) else nx10 (s10.1,Zwe.wrap (s10.2.1+1),Zwe.wrap (s10.2.2+1))))))))))) else K (⟨s10.1⟩:ZFd)))) ([],0,0)
theorem Zer (a0 : ZFd) (a1 : ZFd) (a2 : Int)  {K : ZFd → Prop} (h : Jy a0 a1 a2 K) (w0 : World) (q0 : ZFv.rep a0 [u0_0] fp0 w0) (q1 : ZFv.rep a1 [u1_0] fp1 w0) :
  Calls ZFb 41 #[.agg #[u0_0],.agg #[u1_0],vI a2] w0 fun e w'=>∃ (r0:ZFd) (z0_0:Value) (fz0:List Nat),
   e=.returned (.agg #[z0_0])∧K r0∧(ZFo (Zj 90) r0 [z0_0] fz0).holds w'∧(∀ b,b∈fz0→w0.heap.size≤b)∧Bel w0 w':=by
 unfold Jy at h
 refine cof ZGd rfl 149 Tryz.ntmps41 ?_
 have hC:=ZFu (X:=Nox) w0 [ZBl TForm a0 [u0_0] fp0,ZBl TForm a1 [u1_0] fp1] (alc q0 (al1 q1))
 have hp3:=(hC.getP 0 rfl)
 replace hC:=hC.derive 0 rfl (ZBl ZFa.ty.sl a0.terms [u0_0] fp0) (fun _=>(Yn hp3)) (fun _ hb_=>hb_)
 have hp5:=(hC.getP 2 rfl)
 replace hC:=hC.derive 2 rfl (ZBl ZFa.ty.sl a1.terms [u1_0] fp1) (fun _=>(Yn hp5)) (fun _ hb_=>hb_)
 refine sr (Yf (v:=.agg #[u0_0]) hC [u0_0] rfl rfl fun b7 w9 hB_ hC=>Yf (v:=.agg #[u1_0]) hC [u1_0] rfl rfl fun b10 w10 hB_ hC=>Yb hC [.slice none 0 0] z55 rfl fun b12 w11 hB_ hC=>dn (sr (Xp [] rfl (Za7   _) (Yb hC [.slice none 0 0] z55 rfl fun b11 w12 hB_ hC=>Zu (v:=.agg #[.slice none 0 0]) hC 0 [.slice none 0 0] [.slice none 0 0] rfl ag55.size rfl rfl rfl rfl rfl (ZFi rfl) rfl fun w13 hC=>dn (sr (Zc (v:=vI 0) rfl (Zc (v:=vI 0) rfl (dn (ZE9 (ZFf ?_))))))))))
 refine Jk (S:=(List Term)×Int×Int) _ (fun s10 e_ w_=>∃ (v10:Value),Z2 e_ [(2,vI a2),(3,vQ b7),(4,vQ b10),(6,vQ b12),(7,vQ b11),(8,vI s10.2.1),(9,vI s10.2.2)]∧Ctx Nox w0 w_ [own 90 9 v10 s10.1.length (ZFa.encs s10.1),blk b11 55 [v10],blk b12 55 [.slice none 0 0],blk b10 55 [u1_0],blk b7 55 [u0_0]] [ZBl ZFa.ty.sl a1.terms [u1_0] fp1,ZBl ZFa.ty.sl a0.terms [u0_0] fp0,ZBl TForm a0 [u0_0] fp0,ZBl TForm a1 [u1_0] fp1]) ?_ (s0:=([],0,0)) ?_ h
 ·clear hC h
  rintro s10 e_ w14 nx10 K10 ⟨v10,hS_,hC⟩ h hK10
  rw [ue hS_]
  refine ZE9 (ZE9 ?_)
  obtain ⟨jn11,hj10,h⟩:=Zhu h
  refine Zh3 (fun e_ w_=>∃ (x10:Bool),Z2 e_ [(2,vI a2),(3,vQ b7),(4,vQ b10),(6,vQ b12),(7,vQ b11),(8,vI s10.2.1),(9,vI s10.2.2),(24,.bool x10)]∧Ctx Nox w0 w_ [own 90 9 v10 s10.1.length (ZFa.encs s10.1),blk b11 55 [v10],blk b12 55 [.slice none 0 0],blk b10 55 [u1_0],blk b7 55 [u0_0]] [ZBl ZFa.ty.sl a1.terms [u1_0] fp1,ZBl ZFa.ty.sl a0.terms [u0_0] fp0,ZBl TForm a0 [u0_0] fp0,ZBl TForm a1 [u1_0] fp1]∧jn11 x10) ?_ ?_
  ·skip
   refine Zn (Zb (v:=vI s10.2.1) rfl (Zz 0 ZFg rfl sc53.size rfl rfl (Z6 hC 4 (u0_0) rfl sc53 rfl rfl (Zx hC 1 rfl ZFj rfl (Zo rfl rfl (Zb (v:=.bool (decide (s10.2.1 < (a0.terms.length:Int)))) rfl ?_))))))
   refine Yt (decide (s10.2.1 < (a0.terms.length:Int))) (fun hb13=>?_) (fun hb13=>?_)
   ·replace h:=ift h (ct hb13)
    refine Zh (b:=true) 5 18 rfl (tr rfl (congrArg _ hb13)) (by decide) (Zh (b:=true) 5 18 rfl (tr rfl (congrArg _ hb13)) (by decide) (Zh (b:=true) 5 18 rfl (tr rfl (congrArg _ hb13)) (by decide) (Zh (b:=true) 5 18 rfl (tr rfl (congrArg _ hb13)) (by decide) (Zh (b:=true) 5 18 rfl (tr rfl (congrArg _ hb13)) (by decide) (Zw (v:=.bool true) (b:=true) (tr rfl (congrArg _ hb13)) rfl (done ?_))))))
    exact⟨rfl,_,rfl,true,(slq rfl),hC,h⟩
   ·replace h:=Zl h (cf hb13)
    refine Zi 5 18 rfl rfl hb13 (Zb (v:=vI s10.2.2) rfl (Zi 5 18 rfl rfl hb13 (Zz 0 ZFg rfl sc53.size rfl rfl (Zi 5 18 rfl rfl hb13 (Z6 hC 3 (u1_0) rfl sc53 rfl rfl (Zi 5 18 rfl rfl hb13 (Zx hC 0 rfl ZFj rfl (Zi 5 18 rfl rfl hb13 (Zo rfl rfl (Zw (v:=.bool (decide (s10.2.2 < (a1.terms.length:Int)))) (b:=false) (tr rfl (congrArg _ hb13)) rfl (done ?_)))))))))))
    exact⟨rfl,_,rfl,decide (s10.2.2 < (a1.terms.length:Int)),(slq rfl),hC,h⟩
  ·clear hC h
   rintro e_ w15 ⟨x10,hS_,hC,h⟩
   replace h:=hj10 _ h
   rw [ue hS_]
   refine Zd ?_
   refine Zq rfl (fun hb14=>?_) (fun hb14=>?_)
   ·replace h:=ift h (hb14)
    refine ZFc (Zd (ZFf (ZFf (ZE9 ?_))))
    obtain ⟨jn10,hj11,h⟩:=Zhu h
    refine Zh3 (fun e_ w_=>∃ (x11:Bool),Z2 e_ [(2,vI a2),(3,vQ b7),(4,vQ b10),(6,vQ b12),(7,vQ b11),(8,vI s10.2.1),(9,vI s10.2.2),(61,.bool x11)]∧Ctx Nox w0 w_ [own 90 9 v10 s10.1.length (ZFa.encs s10.1),blk b11 55 [v10],blk b12 55 [.slice none 0 0],blk b10 55 [u1_0],blk b7 55 [u0_0]] [ZBl ZFa.ty.sl a1.terms [u1_0] fp1,ZBl ZFa.ty.sl a0.terms [u0_0] fp0,ZBl TForm a0 [u0_0] fp0,ZBl TForm a1 [u1_0] fp1]∧jn10 x11) ?_ ?_
    ·skip
     refine cwd 24 mixed [0,0,2,6,15,31,63,63,191,447,1023,2047,4095,8191,4095,32767,65535,131071,4095,266239,4095,1839103,3936255,8130559,16777215,33554431,67108863,134217727] [2,3,8,9,13,15,17,19,21,23] [0,1,4,5,6,7,8,9,10,11,12,13,14,15,16,17,18,19,20,21,22,23] (fun hM12 hM10 w16 hB_=>?_)
     replace hC:=hC.grow hB_
     refine bM 0 (vI s10.2.2) rfl hM10 (Za 28 1) (bF 1 (vQ b10) rfl rfl hM10 (fun _=>by exact Ye 0 ZFg rfl sc53.size rfl rfl) (Za 28 3) (bL 2 (u1_0) rfl rfl hM12 (fun _ hB_=>by exact Yc (hC.grow hB_) 3 (u1_0) rfl sc53 rfl rfl) (Za 28 7) (bL 3 (vI (a1.terms.length:Int)) rfl rfl hM12 (fun _ hB_=>by exact Zim (hC.grow hB_) 0 rfl ZFj rfl) (Za 28 15) (bF 4 (.bool (decide (s10.2.2=(a1.terms.length:Int)))) rfl rfl hM10 (fun _=>by exact Zjt rfl rfl) (Za 28 31) (bM 5 (.bool (decide (s10.2.2=(a1.terms.length:Int)))) rfl hM10 (Za 28 63) ?_)))))
     refine Yt (decide (s10.2.2=(a1.terms.length:Int))) (fun hb12=>?_) (fun hb12=>?_)
     ·replace h:=ift h (ct hb12)
      refine Zp Zs 6 undef rfl rfl (by kernel_rfl) (hM10 6 rfl) (fun w_=>.inr ⟨Z4 (b:=true) 5 67 rfl (tr rfl (congrArg _ hb12)) (by decide),rfl⟩) (l9:=(Za 28 127)) (by kernel_rfl) (Zp Zs 7 undef rfl rfl (by kernel_rfl) (hM10 7 rfl) (fun w_=>.inr ⟨Z4 (b:=true) 5 67 rfl (tr rfl (congrArg _ hb12)) (by decide),rfl⟩) (l9:=(Za 28 255)) (by kernel_rfl) (Zp Zs 8 undef rfl rfl (by kernel_rfl) (hM10 8 rfl) (fun w_=>.inr ⟨Z4 (b:=true) 5 67 rfl (tr rfl (congrArg _ hb12)) (by decide),rfl⟩) (l9:=(Za 28 511)) (by kernel_rfl) (Zp Zs 9 undef rfl rfl (by kernel_rfl) (hM10 9 rfl) (fun w_=>.inr ⟨Z4 (b:=true) 5 67 rfl (tr rfl (congrArg _ hb12)) (by decide),rfl⟩) (l9:=(Za 28 1023)) (by kernel_rfl) (Zp Zs 10 undef rfl rfl (by kernel_rfl) (hM10 10 rfl) (fun w_=>.inr ⟨Z4 (b:=true) 5 67 rfl (tr rfl (congrArg _ hb12)) (by decide),rfl⟩) (l9:=(Za 28 2047)) (by kernel_rfl) (Zp Zs 11 undef rfl rfl (by kernel_rfl) (hM10 11 rfl) (fun w_=>.inr ⟨Z4 (b:=true) 5 67 rfl (tr rfl (congrArg _ hb12)) (by decide),rfl⟩) (l9:=(Za 28 4095)) (by kernel_rfl) (Zp Zs 12 undef rfl rfl (by kernel_rfl) (hM10 12 rfl) (fun w_=>.inr ⟨Xd 11 73 rfl rfl,rfl⟩) (l9:=(Za 28 8191)) (by kernel_rfl) (Zp Zs 13 undef rfl rfl (by kernel_rfl) (hM10 13 rfl) (fun w_=>.inr ⟨Xd 11 73 rfl rfl,rfl⟩) (l9:=(Za 28 16383)) (by kernel_rfl) (Zp Zs 14 undef rfl rfl (by kernel_rfl) (hM10 14 rfl) (fun w_=>.inr ⟨Xd 11 73 rfl rfl,rfl⟩) (l9:=(Za 28 32767)) (by kernel_rfl) (Zp Zs 15 undef rfl rfl (by kernel_rfl) (hM10 15 rfl) (fun w_=>.inr ⟨Xd 11 73 rfl rfl,rfl⟩) (l9:=(Za 28 65535)) (by kernel_rfl) (Zp Zs 16 undef rfl rfl (by kernel_rfl) (hM10 16 rfl) (fun w_=>.inr ⟨Xd 11 73 rfl rfl,rfl⟩) (l9:=(Za 28 131071)) (by kernel_rfl) (Zp Zs 17 undef rfl rfl (by kernel_rfl) (hM10 17 rfl) (fun w_=>.inr ⟨Xd 11 73 rfl rfl,rfl⟩) (l9:=(Za 28 262143)) (by kernel_rfl) (Zp Zs 18 undef rfl rfl (by kernel_rfl) (hM10 18 rfl) (fun w_=>.inr ⟨Xd 11 73 rfl rfl,rfl⟩) (l9:=(Za 28 524287)) (by kernel_rfl) (Zp Zs 19 undef rfl rfl (by kernel_rfl) (hM10 19 rfl) (fun w_=>.inr ⟨Xd 11 73 rfl rfl,rfl⟩) (l9:=(Za 28 1048575)) (by kernel_rfl) (Zp Zs 20 undef rfl rfl (by kernel_rfl) (hM10 20 rfl) (fun w_=>.inr ⟨Xd 11 73 rfl rfl,rfl⟩) (l9:=(Za 28 2097151)) (by kernel_rfl) (Zp Zs 21 undef rfl rfl (by kernel_rfl) (hM10 21 rfl) (fun w_=>.inr ⟨Xd 11 73 rfl rfl,rfl⟩) (l9:=(Za 28 4194303)) (by kernel_rfl) (Zp Zs 22 undef rfl rfl (by kernel_rfl) (hM10 22 rfl) (fun w_=>.inr ⟨Xd 11 73 rfl rfl,rfl⟩) (l9:=(Za 28 8388607)) (by kernel_rfl) (Zp Zs 23 undef rfl rfl (by kernel_rfl) (hM10 23 rfl) (fun w_=>.inr ⟨Xd 11 73 rfl rfl,rfl⟩) (l9:=(Za 28 16777215)) (by kernel_rfl) (Z0 24 (by decide) (by decide) (by kernel_rfl) (by kernel_rfl) rfl (Xg 11 73 rfl rfl (Zh (b:=true) 5 67 rfl (tr rfl (congrArg _ hb12)) (by decide) (Zw (v:=.bool true) (b:=true) (tr rfl (congrArg _ hb12)) rfl (Zc (v:=.bool true) rfl (done (Z1 ?_))))))))))))))))))))))))
      exact⟨rfl,_,rfl,true,(slq rfl),hC,h⟩
     ·replace h:=Zl h (cf hb12)
      refine aF 6 (vI s10.2.1) rfl rfl (hM10 6 rfl) (Z7 5 67 rfl rfl hb12) (fun _=>by exact Xw (v:=vI s10.2.1) rfl) (Za 28 127) (aF 7 (vQ b7) rfl rfl (hM10 7 rfl) (Z7 5 67 rfl rfl hb12) (fun _=>by exact Ye 0 ZFg rfl sc53.size rfl rfl) (Za 28 255) (aL 8 (u0_0) rfl rfl (hM12 8 rfl) (Z7 5 67 rfl rfl hb12) (fun _ hB_=>by exact Yc (hC.grow hB_) 4 (u0_0) rfl sc53 rfl rfl) (Za 28 511) (aL 9 (vI (a0.terms.length:Int)) rfl rfl (hM12 9 rfl) (Z7 5 67 rfl rfl hb12) (fun _ hB_=>by exact Zim (hC.grow hB_) 1 rfl ZFj rfl) (Za 28 1023) (aF 10 (.bool (decide (s10.2.1 < (a0.terms.length:Int)))) rfl rfl (hM10 10 rfl) (Z7 5 67 rfl rfl hb12) (fun _=>by exact Znh rfl rfl) (Za 28 2047) (aF 11 (.bool (decide (s10.2.1 < (a0.terms.length:Int)))) rfl rfl (hM10 11 rfl) (Z7 5 67 rfl rfl hb12) (fun _=>by exact Xw (v:=.bool (decide (s10.2.1 < (a0.terms.length:Int)))) rfl) (Za 28 4095) ?_)))))
      refine Yt (decide (s10.2.1 < (a0.terms.length:Int))) (fun hb10=>?_) (fun hb10=>?_)
      ·replace h:=ift h (ct hb10)
       refine aF 12 (vQ b7) rfl rfl (hM10 12 rfl) (Z7 11 73 rfl rfl hb10) (fun _=>by exact Ye 0 ZFg rfl sc53.size rfl rfl) (Za 28 8191) (aL 13 (u0_0) rfl rfl (hM12 13 rfl) (Z7 11 73 rfl rfl hb10) (fun _ hB_=>by exact Yc (hC.grow hB_) 4 (u0_0) rfl sc53 rfl rfl) (Za 28 16383) (aF 14 (vI s10.2.1) rfl rfl (hM10 14 rfl) (Z7 11 73 rfl rfl hb10) (fun _=>by exact Xw (v:=vI s10.2.1) rfl) (Za 28 32767) ?_))
       obtain ⟨⟨h10,h11⟩,h⟩:=h
       obtain ⟨Ad10,c10,hv10⟩:=Z3 (hC.getP 1 rfl) s10.2.1.toNat (show s10.2.1.toNat < a0.terms.length by omega)
       refine aL 15 (.pointer (some (Ad10.add (s10.2.1.toNat * 9)))) rfl rfl (hM12 15 rfl) (Z7 11 73 rfl rfl hb10) (fun _ hB_=>by exact Yy (len:=a0.terms.length) ZFj ag90.size (by exact tr rfl hv10) rfl h10 h11) (Za 28 65535) (aF 16 (.pointer (some (Ad10.add (s10.2.1.toNat * 9+0)))) rfl rfl (hM10 16 rfl) (Z7 11 73 rfl rfl hb10) (fun _=>by exact J1 (s10.2.1.toNat * 9+0) ZFp rfl ag88.size rfl rfl) (Za 28 131071) (aL 17 (.agg (ZE8 (ZE7 .u8 ((a0.terms.getD s10.2.1.toNat Zt0).mono)))) rfl rfl (hM12 17 rfl) (Z7 11 73 rfl rfl hb10) (fun _ hB_=>by exact Xl (ZE7 .u8 ((a0.terms.getD s10.2.1.toNat Zt0).mono)) (Xo (o:=0) (k:=8) (Yj ((hC.grow hB_).getP 1 rfl) hv10 s10.2.1.toNat (show s10.2.1.toNat < a0.terms.length by omega)) rfl) ag88 rfl rfl) (Za 28 262143) (aF 18 (vQ b10) rfl rfl (hM10 18 rfl) (Z7 11 73 rfl rfl hb10) (fun _=>by exact Ye 0 ZFg rfl sc53.size rfl rfl) (Za 28 524287) (aL 19 (u1_0) rfl rfl (hM12 19 rfl) (Z7 11 73 rfl rfl hb10) (fun _ hB_=>by exact Yc (hC.grow hB_) 3 (u1_0) rfl sc53 rfl rfl) (Za 28 1048575) (aF 20 (vI s10.2.2) rfl rfl (hM10 20 rfl) (Z7 11 73 rfl rfl hb10) (fun _=>by exact Xw (v:=vI s10.2.2) rfl) (Za 28 2097151) ?_)))))
       obtain ⟨⟨h12,h13⟩,h⟩:=h
       obtain ⟨Ad11,c11,hv11⟩:=Z3 (hC.getP 0 rfl) s10.2.2.toNat (show s10.2.2.toNat < a1.terms.length by omega)
       refine aL 21 (.pointer (some (Ad11.add (s10.2.2.toNat * 9)))) rfl rfl (hM12 21 rfl) (Z7 11 73 rfl rfl hb10) (fun _ hB_=>by exact Yy (len:=a1.terms.length) ZFj ag90.size (by exact tr rfl hv11) rfl h12 h13) (Za 28 4194303) (aF 22 (.pointer (some (Ad11.add (s10.2.2.toNat * 9+0)))) rfl rfl (hM10 22 rfl) (Z7 11 73 rfl rfl hb10) (fun _=>by exact J1 (s10.2.2.toNat * 9+0) ZFp rfl ag88.size rfl rfl) (Za 28 8388607) (aL 23 (.agg (ZE8 (ZE7 .u8 ((a1.terms.getD s10.2.2.toNat Zt0).mono)))) rfl rfl (hM12 23 rfl) (Z7 11 73 rfl rfl hb10) (fun _ hB_=>by exact Xl (ZE7 .u8 ((a1.terms.getD s10.2.2.toNat Zt0).mono)) (Xo (o:=0) (k:=8) (Yj ((hC.grow hB_).getP 0 rfl) hv11 s10.2.2.toNat (show s10.2.2.toNat < a1.terms.length by omega)) rfl) ag88 rfl rfl) (Za 28 16777215) (Z0 24 (by decide) (by decide) (by kernel_rfl) (by kernel_rfl) rfl (Zi 11 73 rfl rfl hb10 (Zf [.agg (ZE8 (ZE7 .u8 ((a0.terms.getD s10.2.1.toNat Zt0).mono))),.agg (ZE8 (ZE7 .u8 ((a1.terms.getD s10.2.2.toNat Zt0).mono)))] _ ZGc rfl rfl rfl (Zio ((a0.terms.getD s10.2.1.toNat Zt0).mono) ((a1.terms.getD s10.2.2.toNat Zt0).mono) h _) ?_)))))
       rintro _ w17 ⟨r12,rfl,h,hB10⟩
       refine rt ?_
       replace hC:=hC.grow hB10
       refine Zi 5 67 rfl rfl hb12 (Zw (v:=.bool r12) (b:=true) (tr rfl (congrArg _ hb10)) rfl (Zw (v:=.bool r12) (b:=false) (tr rfl (congrArg _ hb12)) rfl (Zc (v:=.bool r12) rfl (done (Z1 ?_)))))
       exact⟨rfl,_,rfl,r12,(slq rfl),hC,h⟩
      ·replace h:=Zl h (cf hb10)
       refine Zp Zs 12 undef rfl rfl (by kernel_rfl) (hM10 12 rfl) (fun w_=>.inr ⟨Z4 (b:=false) 11 73 rfl (tr rfl (congrArg _ hb10)) (by decide),rfl⟩) (l9:=(Za 28 8191)) (by kernel_rfl) (Zp Zs 13 undef rfl rfl (by kernel_rfl) (hM10 13 rfl) (fun w_=>.inr ⟨Z4 (b:=false) 11 73 rfl (tr rfl (congrArg _ hb10)) (by decide),rfl⟩) (l9:=(Za 28 16383)) (by kernel_rfl) (Zp Zs 14 undef rfl rfl (by kernel_rfl) (hM10 14 rfl) (fun w_=>.inr ⟨Z4 (b:=false) 11 73 rfl (tr rfl (congrArg _ hb10)) (by decide),rfl⟩) (l9:=(Za 28 32767)) (by kernel_rfl) (Zp Zs 15 undef rfl rfl (by kernel_rfl) (hM10 15 rfl) (fun w_=>.inr ⟨Z4 (b:=false) 11 73 rfl (tr rfl (congrArg _ hb10)) (by decide),rfl⟩) (l9:=(Za 28 65535)) (by kernel_rfl) (Zp Zs 16 undef rfl rfl (by kernel_rfl) (hM10 16 rfl) (fun w_=>.inr ⟨Z4 (b:=false) 11 73 rfl (tr rfl (congrArg _ hb10)) (by decide),rfl⟩) (l9:=(Za 28 131071)) (by kernel_rfl) (Zp Zs 17 undef rfl rfl (by kernel_rfl) (hM10 17 rfl) (fun w_=>.inr ⟨Z4 (b:=false) 11 73 rfl (tr rfl (congrArg _ hb10)) (by decide),rfl⟩) (l9:=(Za 28 262143)) (by kernel_rfl) (Zp Zs 18 undef rfl rfl (by kernel_rfl) (hM10 18 rfl) (fun w_=>.inr ⟨Z4 (b:=false) 11 73 rfl (tr rfl (congrArg _ hb10)) (by decide),rfl⟩) (l9:=(Za 28 524287)) (by kernel_rfl) (Zp Zs 19 undef rfl rfl (by kernel_rfl) (hM10 19 rfl) (fun w_=>.inr ⟨Z4 (b:=false) 11 73 rfl (tr rfl (congrArg _ hb10)) (by decide),rfl⟩) (l9:=(Za 28 1048575)) (by kernel_rfl) (Zp Zs 20 undef rfl rfl (by kernel_rfl) (hM10 20 rfl) (fun w_=>.inr ⟨Z4 (b:=false) 11 73 rfl (tr rfl (congrArg _ hb10)) (by decide),rfl⟩) (l9:=(Za 28 2097151)) (by kernel_rfl) (Zp Zs 21 undef rfl rfl (by kernel_rfl) (hM10 21 rfl) (fun w_=>.inr ⟨Z4 (b:=false) 11 73 rfl (tr rfl (congrArg _ hb10)) (by decide),rfl⟩) (l9:=(Za 28 4194303)) (by kernel_rfl) (Zp Zs 22 undef rfl rfl (by kernel_rfl) (hM10 22 rfl) (fun w_=>.inr ⟨Z4 (b:=false) 11 73 rfl (tr rfl (congrArg _ hb10)) (by decide),rfl⟩) (l9:=(Za 28 8388607)) (by kernel_rfl) (Zp Zs 23 undef rfl rfl (by kernel_rfl) (hM10 23 rfl) (fun w_=>.inr ⟨Z4 (b:=false) 11 73 rfl (tr rfl (congrArg _ hb10)) (by decide),rfl⟩) (l9:=(Za 28 16777215)) (by kernel_rfl) (Z0 24 (by decide) (by decide) (by kernel_rfl) (by kernel_rfl) rfl (Zh (b:=false) 11 73 rfl (tr rfl (congrArg _ hb10)) (by decide) (Zi 5 67 rfl rfl hb12 (Zw (v:=.bool false) (b:=false) (tr rfl (congrArg _ hb10)) rfl (Zw (v:=.bool false) (b:=false) (tr rfl (congrArg _ hb12)) rfl (Zc (v:=.bool false) rfl (done (Z1 ?_)))))))))))))))))))
       exact⟨rfl,_,rfl,false,(slq rfl),hC,h⟩
    ·clear hC h
     rintro e_ w18 ⟨x11,hS_,hC,h⟩
     replace h:=hj11 _ h
     rw [ue hS_]
     refine Zd ?_
     refine Zq rfl (fun hb15=>?_) (fun hb15=>?_)
     ·replace h:=ift h (hb15)
      refine ZE9 ?_
      refine cwd 8 mixed [0,1,0,4,0,28,60,124,255,511,1023] [1,3,5,6] [0,2,4] (fun hM20 hM21 w19 hB_=>?_)
      replace hC:=hC.grow hB_
      refine bF 0 (vQ b11) rfl rfl hM21 (fun _=>by exact Ye 0 ZFg rfl sc53.size rfl rfl) (Za 11 1) (bL 1 (v10) rfl rfl hM20 (fun _ hB_=>by exact Yc (hC.grow hB_) 1 (v10) rfl sc53 rfl rfl) (Za 11 3) (bF 2 (vQ b7) rfl rfl hM21 (fun _=>by exact Ye 0 ZFg rfl sc53.size rfl rfl) (Za 11 7) (bL 3 (u0_0) rfl rfl hM20 (fun _ hB_=>by exact Yc (hC.grow hB_) 4 (u0_0) rfl sc53 rfl rfl) (Za 11 15) (bM 4 (vI s10.2.1) rfl hM21 (Za 11 31) ?_))))
      obtain ⟨⟨h14,h15⟩,h⟩:=h
      obtain ⟨Ad18,c12,hv12⟩:=Z3 (hC.getP 1 rfl) s10.2.1.toNat (show s10.2.1.toNat < a0.terms.length by omega)
      refine bL 5 (.pointer (some (Ad18.add (s10.2.1.toNat * 9)))) rfl rfl hM20 (fun _ hB_=>by exact Yy (len:=a0.terms.length) ZFj ag90.size (by exact tr rfl hv12) rfl h14 h15) (Za 11 63) (bL 6 (.agg (ZE8 (ZFk (a0.terms.getD s10.2.1.toNat Zt0)))) rfl rfl hM20 (fun _ hB_=>by exact Xl (ZFk (a0.terms.getD s10.2.1.toNat Zt0)) (Yj ((hC.grow hB_).getP 1 rfl) hv12 s10.2.1.toNat (show s10.2.1.toNat < a0.terms.length by omega)) ag90 rfl rfl) (Za 11 127) (aO 7 rfl (Ju (sz:=9) hC [(0,.agg (ZE8 (ZFk (a0.terms.getD s10.2.1.toNat Zt0))))] (ZFa.encs [a0.terms.getD s10.2.1.toNat Zt0]) rfl (fun _=>Zdc (a0.terms.getD s10.2.1.toNat Zt0) _) rfl (by decide) fun b13 w20 hB_ hC=>done (aK (by assumption) (Za 11 255) (Z0 8 (by decide) (by decide) (by kernel_rfl) (by kernel_rfl) rfl ?_)))))
      obtain ⟨hm10,h⟩:=h
      refine Zb4 hC 1 ZFj Zdd rfl (by decide) (by decide) rfl (Zam (hC.getM 0 rfl)) (fun q hq=>ZF9 (E:=ETerm) _ q hq) rfl rfl hm10 fun v11 w21 hC=>?_
      replace hC:=J8 hC 1 ((s10.1++[a0.terms.getD s10.2.1.toNat Zt0]).length) (ZFa.encs (s10.1++[a0.terms.getD s10.2.1.toNat Zt0])) rfl (by simp) (by first | (simp [ZFy]; done) | simp [ZFy,ZGa])
      refine Zz 0 ZFg rfl sc53.size rfl rfl (Zu (v:=v11) hC 2 [v11] [v11] rfl sc53.size rfl rfl (Zb7 (hC.getM 1 rfl)) rfl (Ym (Y8 (hC.getM 1 rfl)) rfl) (ZFi rfl) rfl fun w22 hC=>done (Z1 (Zd (Zn (Zb (v:=vI s10.2.1) rfl (Zr rfl rfl (Zc (v:=vI (Zwe.wrap (s10.2.1+1))) rfl (done (Zt (Zt ?_))))))))))
      exact hK10 (s10.1++[a0.terms.getD s10.2.1.toNat Zt0],Zwe.wrap (s10.2.1+1),s10.2.2) _ _ ⟨v11,(slq rfl),(hC.xM [1,2,3,4,5] rfl)⟩ h
     ·replace h:=Zl h (Yq hb15)
      refine ZE9 ?_
      obtain ⟨jn12,hj12,h⟩:=Zhu h
      refine Zh3 (fun e_ w_=>∃ (x12:Bool),Z2 e_ [(2,vI a2),(3,vQ b7),(4,vQ b10),(6,vQ b12),(7,vQ b11),(8,vI s10.2.1),(9,vI s10.2.2),(101,.bool x12)]∧Ctx Nox w0 w_ [own 90 9 v10 s10.1.length (ZFa.encs s10.1),blk b11 55 [v10],blk b12 55 [.slice none 0 0],blk b10 55 [u1_0],blk b7 55 [u0_0]] [ZBl ZFa.ty.sl a1.terms [u1_0] fp1,ZBl ZFa.ty.sl a0.terms [u0_0] fp0,ZBl TForm a0 [u0_0] fp0,ZBl TForm a1 [u1_0] fp1]∧jn12 x12) ?_ ?_
      ·skip
       refine cwd 18 mixed [0,0,2,6,15,31,63,127,63,511,1023,2047,63,4159,63,28735,61503,127039,262143,524287,1048575] [2,3,7,9,11,13,15,17] [0,1,4,5,6,7,8,9,10,11,12,13,14,15,16,17] (fun hM13 hM11 w23 hB_=>?_)
       replace hC:=hC.grow hB_
       refine bM 0 (vI s10.2.1) rfl hM11 (Za 21 1) (bF 1 (vQ b7) rfl rfl hM11 (fun _=>by exact Ye 0 ZFg rfl sc53.size rfl rfl) (Za 21 3) (bL 2 (u0_0) rfl rfl hM13 (fun _ hB_=>by exact Yc (hC.grow hB_) 4 (u0_0) rfl sc53 rfl rfl) (Za 21 7) (bL 3 (vI (a0.terms.length:Int)) rfl rfl hM13 (fun _ hB_=>by exact Zim (hC.grow hB_) 1 rfl ZFj rfl) (Za 21 15) (bF 4 (.bool (decide (s10.2.1=(a0.terms.length:Int)))) rfl rfl hM11 (fun _=>by exact Zjt rfl rfl) (Za 21 31) (bM 5 (.bool (decide (s10.2.1=(a0.terms.length:Int)))) rfl hM11 (Za 21 63) ?_)))))
       refine Yt (decide (s10.2.1=(a0.terms.length:Int))) (fun hb11=>?_) (fun hb11=>?_)
       ·replace h:=ift h (ct hb11)
        refine Zp Zs 6 undef rfl rfl (by kernel_rfl) (hM11 6 rfl) (fun w_=>.inr ⟨Z4 (b:=true) 5 107 rfl (tr rfl (congrArg _ hb11)) (by decide),rfl⟩) (l9:=(Za 21 127)) (by kernel_rfl) (Zp Zs 7 undef rfl rfl (by kernel_rfl) (hM11 7 rfl) (fun w_=>.inr ⟨Z4 (b:=true) 5 107 rfl (tr rfl (congrArg _ hb11)) (by decide),rfl⟩) (l9:=(Za 21 255)) (by kernel_rfl) (Zp Zs 8 undef rfl rfl (by kernel_rfl) (hM11 8 rfl) (fun w_=>.inr ⟨Z4 (b:=true) 5 107 rfl (tr rfl (congrArg _ hb11)) (by decide),rfl⟩) (l9:=(Za 21 511)) (by kernel_rfl) (Zp Zs 9 undef rfl rfl (by kernel_rfl) (hM11 9 rfl) (fun w_=>.inr ⟨Z4 (b:=true) 5 107 rfl (tr rfl (congrArg _ hb11)) (by decide),rfl⟩) (l9:=(Za 21 1023)) (by kernel_rfl) (Zp Zs 10 undef rfl rfl (by kernel_rfl) (hM11 10 rfl) (fun w_=>.inr ⟨Z4 (b:=true) 5 107 rfl (tr rfl (congrArg _ hb11)) (by decide),rfl⟩) (l9:=(Za 21 2047)) (by kernel_rfl) (Zp Zs 11 undef rfl rfl (by kernel_rfl) (hM11 11 rfl) (fun w_=>.inr ⟨Z4 (b:=true) 5 107 rfl (tr rfl (congrArg _ hb11)) (by decide),rfl⟩) (l9:=(Za 21 4095)) (by kernel_rfl) (Zp Zs 12 undef rfl rfl (by kernel_rfl) (hM11 12 rfl) (fun w_=>.inr ⟨Z4 (b:=true) 5 107 rfl (tr rfl (congrArg _ hb11)) (by decide),rfl⟩) (l9:=(Za 21 8191)) (by kernel_rfl) (Zp Zs 13 undef rfl rfl (by kernel_rfl) (hM11 13 rfl) (fun w_=>.inr ⟨Z4 (b:=true) 5 107 rfl (tr rfl (congrArg _ hb11)) (by decide),rfl⟩) (l9:=(Za 21 16383)) (by kernel_rfl) (Zp Zs 14 undef rfl rfl (by kernel_rfl) (hM11 14 rfl) (fun w_=>.inr ⟨Z4 (b:=true) 5 107 rfl (tr rfl (congrArg _ hb11)) (by decide),rfl⟩) (l9:=(Za 21 32767)) (by kernel_rfl) (Zp Zs 15 undef rfl rfl (by kernel_rfl) (hM11 15 rfl) (fun w_=>.inr ⟨Z4 (b:=true) 5 107 rfl (tr rfl (congrArg _ hb11)) (by decide),rfl⟩) (l9:=(Za 21 65535)) (by kernel_rfl) (Zp Zs 16 undef rfl rfl (by kernel_rfl) (hM11 16 rfl) (fun w_=>.inr ⟨Z4 (b:=true) 5 107 rfl (tr rfl (congrArg _ hb11)) (by decide),rfl⟩) (l9:=(Za 21 131071)) (by kernel_rfl) (Zp Zs 17 undef rfl rfl (by kernel_rfl) (hM11 17 rfl) (fun w_=>.inr ⟨Z4 (b:=true) 5 107 rfl (tr rfl (congrArg _ hb11)) (by decide),rfl⟩) (l9:=(Za 21 262143)) (by kernel_rfl) (Z0 18 (by decide) (by decide) (by kernel_rfl) (by kernel_rfl) rfl (Zh (b:=true) 5 107 rfl (tr rfl (congrArg _ hb11)) (by decide) (Zw (v:=.bool true) (b:=true) (tr rfl (congrArg _ hb11)) rfl (Zc (v:=.bool true) rfl (done (Z1 ?_)))))))))))))))))
        exact⟨rfl,_,rfl,true,(slq rfl),hC,h⟩
       ·replace h:=Zl h (cf hb11)
        refine aF 6 (vQ b10) rfl rfl (hM11 6 rfl) (Z7 5 107 rfl rfl hb11) (fun _=>by exact Ye 0 ZFg rfl sc53.size rfl rfl) (Za 21 127) (aL 7 (u1_0) rfl rfl (hM13 7 rfl) (Z7 5 107 rfl rfl hb11) (fun _ hB_=>by exact Yc (hC.grow hB_) 3 (u1_0) rfl sc53 rfl rfl) (Za 21 255) (aF 8 (vI s10.2.2) rfl rfl (hM11 8 rfl) (Z7 5 107 rfl rfl hb11) (fun _=>by exact Xw (v:=vI s10.2.2) rfl) (Za 21 511) ?_))
        obtain ⟨⟨h16,h17⟩,h⟩:=h
        obtain ⟨Ad12,c13,hv13⟩:=Z3 (hC.getP 0 rfl) s10.2.2.toNat (show s10.2.2.toNat < a1.terms.length by omega)
        refine aL 9 (.pointer (some (Ad12.add (s10.2.2.toNat * 9)))) rfl rfl (hM13 9 rfl) (Z7 5 107 rfl rfl hb11) (fun _ hB_=>by exact Yy (len:=a1.terms.length) ZFj ag90.size (by exact tr rfl hv13) rfl h16 h17) (Za 21 1023) (aF 10 (.pointer (some (Ad12.add (s10.2.2.toNat * 9+0)))) rfl rfl (hM11 10 rfl) (Z7 5 107 rfl rfl hb11) (fun _=>by exact J1 (s10.2.2.toNat * 9+0) ZFp rfl ag88.size rfl rfl) (Za 21 2047) (aL 11 (.agg (ZE8 (ZE7 .u8 ((a1.terms.getD s10.2.2.toNat Zt0).mono)))) rfl rfl (hM13 11 rfl) (Z7 5 107 rfl rfl hb11) (fun _ hB_=>by exact Xl (ZE7 .u8 ((a1.terms.getD s10.2.2.toNat Zt0).mono)) (Xo (o:=0) (k:=8) (Yj ((hC.grow hB_).getP 0 rfl) hv13 s10.2.2.toNat (show s10.2.2.toNat < a1.terms.length by omega)) rfl) ag88 rfl rfl) (Za 21 4095) (aF 12 (vQ b7) rfl rfl (hM11 12 rfl) (Z7 5 107 rfl rfl hb11) (fun _=>by exact Ye 0 ZFg rfl sc53.size rfl rfl) (Za 21 8191) (aL 13 (u0_0) rfl rfl (hM13 13 rfl) (Z7 5 107 rfl rfl hb11) (fun _ hB_=>by exact Yc (hC.grow hB_) 4 (u0_0) rfl sc53 rfl rfl) (Za 21 16383) (aF 14 (vI s10.2.1) rfl rfl (hM11 14 rfl) (Z7 5 107 rfl rfl hb11) (fun _=>by exact Xw (v:=vI s10.2.1) rfl) (Za 21 32767) ?_)))))
        obtain ⟨⟨h18,h19⟩,h⟩:=h
        obtain ⟨Ad13,c14,hv14⟩:=Z3 (hC.getP 1 rfl) s10.2.1.toNat (show s10.2.1.toNat < a0.terms.length by omega)
        refine aL 15 (.pointer (some (Ad13.add (s10.2.1.toNat * 9)))) rfl rfl (hM13 15 rfl) (Z7 5 107 rfl rfl hb11) (fun _ hB_=>by exact Yy (len:=a0.terms.length) ZFj ag90.size (by exact tr rfl hv14) rfl h18 h19) (Za 21 65535) (aF 16 (.pointer (some (Ad13.add (s10.2.1.toNat * 9+0)))) rfl rfl (hM11 16 rfl) (Z7 5 107 rfl rfl hb11) (fun _=>by exact J1 (s10.2.1.toNat * 9+0) ZFp rfl ag88.size rfl rfl) (Za 21 131071) (aL 17 (.agg (ZE8 (ZE7 .u8 ((a0.terms.getD s10.2.1.toNat Zt0).mono)))) rfl rfl (hM13 17 rfl) (Z7 5 107 rfl rfl hb11) (fun _ hB_=>by exact Xl (ZE7 .u8 ((a0.terms.getD s10.2.1.toNat Zt0).mono)) (Xo (o:=0) (k:=8) (Yj ((hC.grow hB_).getP 1 rfl) hv14 s10.2.1.toNat (show s10.2.1.toNat < a0.terms.length by omega)) rfl) ag88 rfl rfl) (Za 21 262143) (Z0 18 (by decide) (by decide) (by kernel_rfl) (by kernel_rfl) rfl (Zi 5 107 rfl rfl hb11 (Zf [.agg (ZE8 (ZE7 .u8 ((a1.terms.getD s10.2.2.toNat Zt0).mono))),.agg (ZE8 (ZE7 .u8 ((a0.terms.getD s10.2.1.toNat Zt0).mono)))] _ ZGc rfl rfl rfl (Zio ((a1.terms.getD s10.2.2.toNat Zt0).mono) ((a0.terms.getD s10.2.1.toNat Zt0).mono) h _) ?_)))))
        rintro _ w24 ⟨r13,rfl,h,hB11⟩
        refine rt ?_
        replace hC:=hC.grow hB11
        refine Zw (v:=.bool r13) (b:=false) (tr rfl (congrArg _ hb11)) rfl (Zc (v:=.bool r13) rfl (done (Z1 ?_)))
        exact⟨rfl,_,rfl,r13,(slq rfl),hC,h⟩
      ·clear hC h
       rintro e_ w25 ⟨x12,hS_,hC,h⟩
       replace h:=hj12 _ h
       rw [ue hS_]
       refine Zd ?_
       refine Zq rfl (fun hb16=>?_) (fun hb16=>?_)
       ·replace h:=ift h (hb16)
        refine ZE9 (sr (Zb (v:=vI a2) rfl (Zz 0 ZFg rfl sc53.size rfl rfl (Z6 hC 3 (u1_0) rfl sc53 rfl rfl (Zb (v:=vI s10.2.2) rfl ?_)))))
        obtain ⟨⟨h20,h21⟩,h⟩:=h
        obtain ⟨Ad19,c15,hv15⟩:=Z3 (hC.getP 0 rfl) s10.2.2.toNat (show s10.2.2.toNat < a1.terms.length by omega)
        refine Yu (len:=a1.terms.length) ZFj ag90.size (tr rfl hv15) rfl h20 h21 (Zal (s10.2.2.toNat * 9+8) ZFp rfl sc2.size rfl rfl (Xz (vI ((a1.terms.getD s10.2.2.toNat Zt0).factor)) (Xo (o:=8) (k:=1) (Yj (hC.getP 0 rfl) hv15 s10.2.2.toNat (show s10.2.2.toNat < a1.terms.length by omega)) rfl) sc2 rfl (Zbg rfl rfl (Zf [vI (Zwe.wrap (a2 * ((a1.terms.getD s10.2.2.toNat Zt0).factor)))] _ ZF0 rfl rfl rfl (Zbm (Zwe.wrap (a2 * ((a1.terms.getD s10.2.2.toNat Zt0).factor))) h _) ?_))))
        rintro _ w26 ⟨r10,rfl,h,hB12⟩
        refine rt ?_
        replace hC:=hC.grow hB12
        refine Zc (v:=vI r10) rfl (dn (sr (Zb (v:=vI r10) rfl (Y7 rfl rfl (dn ?_)))))
        refine Zq rfl (fun hb17=>?_) (fun hb17=>?_)
        ·replace h:=ift h (ct hb17)
         refine cwd 11 mixed [0,1,0,4,0,28,60,124,0,508,1020,2047,4095,8191] [1,3,5,7,9] [0,2,4,6,8] (fun hM16 hM17 w27 hB_=>?_)
         replace hC:=hC.grow hB_
         refine bF 0 (vQ b11) rfl rfl hM17 (fun _=>by exact Ye 0 ZFg rfl sc53.size rfl rfl) (Za 14 1) (bL 1 (v10) rfl rfl hM16 (fun _ hB_=>by exact Yc (hC.grow hB_) 1 (v10) rfl sc53 rfl rfl) (Za 14 3) (bF 2 (vQ b10) rfl rfl hM17 (fun _=>by exact Ye 0 ZFg rfl sc53.size rfl rfl) (Za 14 7) (bL 3 (u1_0) rfl rfl hM16 (fun _ hB_=>by exact Yc (hC.grow hB_) 3 (u1_0) rfl sc53 rfl rfl) (Za 14 15) (bM 4 (vI s10.2.2) rfl hM17 (Za 14 31) ?_))))
         obtain ⟨⟨h22,h23⟩,h⟩:=h
         obtain ⟨Ad14,c16,hv16⟩:=Z3 (hC.getP 0 rfl) s10.2.2.toNat (show s10.2.2.toNat < a1.terms.length by omega)
         refine bL 5 (.pointer (some (Ad14.add (s10.2.2.toNat * 9)))) rfl rfl hM16 (fun _ hB_=>by exact Yy (len:=a1.terms.length) ZFj ag90.size (by exact tr rfl hv16) rfl h22 h23) (Za 14 63) (bF 6 (.pointer (some (Ad14.add (s10.2.2.toNat * 9+0)))) rfl rfl hM17 (fun _=>by exact J1 (s10.2.2.toNat * 9+0) ZFp rfl ag88.size rfl rfl) (Za 14 127) (bL 7 (.agg (ZE8 (ZE7 .u8 ((a1.terms.getD s10.2.2.toNat Zt0).mono)))) rfl rfl hM16 (fun _ hB_=>by exact Xl (ZE7 .u8 ((a1.terms.getD s10.2.2.toNat Zt0).mono)) (Xo (o:=0) (k:=8) (Yj ((hC.grow hB_).getP 0 rfl) hv16 s10.2.2.toNat (show s10.2.2.toNat < a1.terms.length by omega)) rfl) ag88 rfl rfl) (Za 14 255) (bM 8 (vI r10) rfl hM17 (Za 14 511) (bL 9 (.agg (ZE8 (ZFk (⟨(a1.terms.getD s10.2.2.toNat Zt0).mono,r10⟩:Term)))) rfl rfl hM16 (fun _ hB_=>by exact Zf1 [(0,.agg (ZE8 (ZE7 .u8 ((a1.terms.getD s10.2.2.toNat Zt0).mono)))),(1,vI r10)] rfl (Zen ((a1.terms.getD s10.2.2.toNat Zt0).mono) r10  _)) (Za 14 1023) (aO 10 rfl (Ju (sz:=9) hC [(0,.agg (ZE8 (ZFk (⟨(a1.terms.getD s10.2.2.toNat Zt0).mono,r10⟩:Term))))] (ZFa.encs [(⟨(a1.terms.getD s10.2.2.toNat Zt0).mono,r10⟩:Term)]) rfl (fun _=>Zdc (⟨(a1.terms.getD s10.2.2.toNat Zt0).mono,r10⟩:Term) _) rfl (by decide) fun b14 w28 hB_ hC=>done (aK (by assumption) (Za 14 2047) (Z0 11 (by decide) (by decide) (by kernel_rfl) (by kernel_rfl) rfl ?_))))))))
         obtain ⟨hm11,h⟩:=h
         refine Zb4 hC 1 ZFj Zdd rfl (by decide) (by decide) rfl (Zam (hC.getM 0 rfl)) (fun q hq=>ZF9 (E:=ETerm) _ q hq) rfl rfl hm11 fun v12 w29 hC=>?_
         replace hC:=J8 hC 1 ((s10.1++[(⟨(a1.terms.getD s10.2.2.toNat Zt0).mono,r10⟩:Term)]).length) (ZFa.encs (s10.1++[(⟨(a1.terms.getD s10.2.2.toNat Zt0).mono,r10⟩:Term)])) rfl (by simp) (by first | (simp [ZFy]; done) | simp [ZFy,ZGa])
         refine Zz 0 ZFg rfl sc53.size rfl rfl (Zu (v:=v12) hC 2 [v12] [v12] rfl sc53.size rfl rfl (Zb7 (hC.getM 1 rfl)) rfl (Ym (Y8 (hC.getM 1 rfl)) rfl) (ZFi rfl) rfl fun w30 hC=>done (Z1 (Zd (Zn (Zb (v:=vI s10.2.2) rfl (Zr rfl rfl (Zc (v:=vI (Zwe.wrap (s10.2.2+1))) rfl (done (Zt (Zt ?_))))))))))
         exact hK10 (s10.1++[(⟨(a1.terms.getD s10.2.2.toNat Zt0).mono,r10⟩:Term)],s10.2.1,Zwe.wrap (s10.2.2+1)) _ _ ⟨v12,(slq rfl),(hC.xM [1,2,3,4,5] rfl)⟩ h
        ·replace h:=Zl h (cf hb17)
         refine ZFc (Zd (Zn (Zb (v:=vI s10.2.2) rfl (Zr rfl rfl (Zc (v:=vI (Zwe.wrap (s10.2.2+1))) rfl (done (Zt (Zt ?_))))))))
         exact hK10 (s10.1,s10.2.1,Zwe.wrap (s10.2.2+1)) _ _ ⟨v10,(slq rfl),hC⟩ h
       ·replace h:=Zl h (Yq hb16)
        refine ZE9 (ZE9 ?_)
        refine cwd 15 mixed [0,1,0,7,15,31,0,0,128,0,896,1920,3968,8128,16320,32767,65535,131071] [1,3,5,8,10,12] [0,2,4,6,7,9,11,13] (fun hM15 hM14 w31 hB_=>?_)
        replace hC:=hC.grow hB_
        refine bF 0 (vQ b7) rfl rfl hM14 (fun _=>by exact Ye 0 ZFg rfl sc53.size rfl rfl) (Za 18 1) (bL 1 (u0_0) rfl rfl hM15 (fun _ hB_=>by exact Yc (hC.grow hB_) 4 (u0_0) rfl sc53 rfl rfl) (Za 18 3) (bM 2 (vI s10.2.1) rfl hM14 (Za 18 7) ?_))
        obtain ⟨⟨h24,h25⟩,h⟩:=h
        obtain ⟨Ad15,c17,hv17⟩:=Z3 (hC.getP 1 rfl) s10.2.1.toNat (show s10.2.1.toNat < a0.terms.length by omega)
        refine bL 3 (.pointer (some (Ad15.add (s10.2.1.toNat * 9)))) rfl rfl hM15 (fun _ hB_=>by exact Yy (len:=a0.terms.length) ZFj ag90.size (by exact tr rfl hv17) rfl h24 h25) (Za 18 15) (bF 4 (.pointer (some (Ad15.add (s10.2.1.toNat * 9+8)))) rfl rfl hM14 (fun _=>by exact J1 (s10.2.1.toNat * 9+8) ZFp rfl sc2.size rfl rfl) (Za 18 31) (bL 5 (vI ((a0.terms.getD s10.2.1.toNat Zt0).factor)) rfl rfl hM15 (fun _ hB_=>by exact J7 (vI ((a0.terms.getD s10.2.1.toNat Zt0).factor)) (Xo (o:=8) (k:=1) (Yj ((hC.grow hB_).getP 1 rfl) hv17 s10.2.1.toNat (show s10.2.1.toNat < a0.terms.length by omega)) rfl) sc2 rfl) (Za 18 63) (bM 6 (vI a2) rfl hM14 (Za 18 127) (bF 7 (vQ b10) rfl rfl hM14 (fun _=>by exact Ye 0 ZFg rfl sc53.size rfl rfl) (Za 18 255) (bL 8 (u1_0) rfl rfl hM15 (fun _ hB_=>by exact Yc (hC.grow hB_) 3 (u1_0) rfl sc53 rfl rfl) (Za 18 511) (bM 9 (vI s10.2.2) rfl hM14 (Za 18 1023) ?_))))))
        obtain ⟨⟨h26,h27⟩,h⟩:=h
        obtain ⟨Ad16,c18,hv18⟩:=Z3 (hC.getP 0 rfl) s10.2.2.toNat (show s10.2.2.toNat < a1.terms.length by omega)
        refine bL 10 (.pointer (some (Ad16.add (s10.2.2.toNat * 9)))) rfl rfl hM15 (fun _ hB_=>by exact Yy (len:=a1.terms.length) ZFj ag90.size (by exact tr rfl hv18) rfl h26 h27) (Za 18 2047) (bF 11 (.pointer (some (Ad16.add (s10.2.2.toNat * 9+8)))) rfl rfl hM14 (fun _=>by exact J1 (s10.2.2.toNat * 9+8) ZFp rfl sc2.size rfl rfl) (Za 18 4095) (bL 12 (vI ((a1.terms.getD s10.2.2.toNat Zt0).factor)) rfl rfl hM15 (fun _ hB_=>by exact J7 (vI ((a1.terms.getD s10.2.2.toNat Zt0).factor)) (Xo (o:=8) (k:=1) (Yj ((hC.grow hB_).getP 0 rfl) hv18 s10.2.2.toNat (show s10.2.2.toNat < a1.terms.length by omega)) rfl) sc2 rfl) (Za 18 8191) (bF 13 (vI (Zwe.wrap (a2 * ((a1.terms.getD s10.2.2.toNat Zt0).factor)))) rfl rfl hM14 (fun _=>by exact Zeb rfl rfl) (Za 18 16383) (aO 14 rfl (Zf [vI (Zwe.wrap (a2 * ((a1.terms.getD s10.2.2.toNat Zt0).factor)))] _ ZF0 rfl rfl rfl (Zbm (Zwe.wrap (a2 * ((a1.terms.getD s10.2.2.toNat Zt0).factor))) h _) ?_)))))
        rintro _ w32 ⟨r14,rfl,h,hB13⟩
        refine rt ?_
        replace hC:=hC.grow hB13
        refine done (aK (by assumption) (Za 18 32767) (Z0 15 (by decide) (by decide) (by kernel_rfl) (by kernel_rfl) rfl (Zr rfl rfl (Zf [vI (Zwe.wrap (((a0.terms.getD s10.2.1.toNat Zt0).factor)+r14))] _ ZF0 rfl rfl rfl (Zbm (Zwe.wrap (((a0.terms.getD s10.2.1.toNat Zt0).factor)+r14)) h _) ?_))))
        rintro _ w33 ⟨r11,rfl,h,hB14⟩
        refine rt ?_
        replace hC:=hC.grow hB14
        refine Zc (v:=vI r11) rfl (done (Z1 (Zd (sr (Zb (v:=vI r11) rfl (Y7 rfl rfl (dn ?_)))))))
        refine Zq rfl (fun hb18=>?_) (fun hb18=>?_)
        ·replace h:=ift h (ct hb18)
         refine cwd 11 mixed [0,1,0,4,0,28,60,124,0,508,1020,2047,4095,8191] [1,3,5,7,9] [0,2,4,6,8] (fun hM18 hM19 w34 hB_=>?_)
         replace hC:=hC.grow hB_
         refine bF 0 (vQ b11) rfl rfl hM19 (fun _=>by exact Ye 0 ZFg rfl sc53.size rfl rfl) (Za 14 1) (bL 1 (v10) rfl rfl hM18 (fun _ hB_=>by exact Yc (hC.grow hB_) 1 (v10) rfl sc53 rfl rfl) (Za 14 3) (bF 2 (vQ b7) rfl rfl hM19 (fun _=>by exact Ye 0 ZFg rfl sc53.size rfl rfl) (Za 14 7) (bL 3 (u0_0) rfl rfl hM18 (fun _ hB_=>by exact Yc (hC.grow hB_) 4 (u0_0) rfl sc53 rfl rfl) (Za 14 15) (bM 4 (vI s10.2.1) rfl hM19 (Za 14 31) ?_))))
         obtain ⟨⟨h28,h29⟩,h⟩:=h
         obtain ⟨Ad17,c19,hv19⟩:=Z3 (hC.getP 1 rfl) s10.2.1.toNat (show s10.2.1.toNat < a0.terms.length by omega)
         refine bL 5 (.pointer (some (Ad17.add (s10.2.1.toNat * 9)))) rfl rfl hM18 (fun _ hB_=>by exact Yy (len:=a0.terms.length) ZFj ag90.size (by exact tr rfl hv19) rfl h28 h29) (Za 14 63) (bF 6 (.pointer (some (Ad17.add (s10.2.1.toNat * 9+0)))) rfl rfl hM19 (fun _=>by exact J1 (s10.2.1.toNat * 9+0) ZFp rfl ag88.size rfl rfl) (Za 14 127) (bL 7 (.agg (ZE8 (ZE7 .u8 ((a0.terms.getD s10.2.1.toNat Zt0).mono)))) rfl rfl hM18 (fun _ hB_=>by exact Xl (ZE7 .u8 ((a0.terms.getD s10.2.1.toNat Zt0).mono)) (Xo (o:=0) (k:=8) (Yj ((hC.grow hB_).getP 1 rfl) hv19 s10.2.1.toNat (show s10.2.1.toNat < a0.terms.length by omega)) rfl) ag88 rfl rfl) (Za 14 255) (bM 8 (vI r11) rfl hM19 (Za 14 511) (bL 9 (.agg (ZE8 (ZFk (⟨(a0.terms.getD s10.2.1.toNat Zt0).mono,r11⟩:Term)))) rfl rfl hM18 (fun _ hB_=>by exact Zf1 [(0,.agg (ZE8 (ZE7 .u8 ((a0.terms.getD s10.2.1.toNat Zt0).mono)))),(1,vI r11)] rfl (Zen ((a0.terms.getD s10.2.1.toNat Zt0).mono) r11  _)) (Za 14 1023) (aO 10 rfl (Ju (sz:=9) hC [(0,.agg (ZE8 (ZFk (⟨(a0.terms.getD s10.2.1.toNat Zt0).mono,r11⟩:Term))))] (ZFa.encs [(⟨(a0.terms.getD s10.2.1.toNat Zt0).mono,r11⟩:Term)]) rfl (fun _=>Zdc (⟨(a0.terms.getD s10.2.1.toNat Zt0).mono,r11⟩:Term) _) rfl (by decide) fun b15 w35 hB_ hC=>done (aK (by assumption) (Za 14 2047) (Z0 11 (by decide) (by decide) (by kernel_rfl) (by kernel_rfl) rfl ?_))))))))
         obtain ⟨hm12,h⟩:=h
         refine Zb4 hC 1 ZFj Zdd rfl (by decide) (by decide) rfl (Zam (hC.getM 0 rfl)) (fun q hq=>ZF9 (E:=ETerm) _ q hq) rfl rfl hm12 fun v13 w36 hC=>?_
         replace hC:=J8 hC 1 ((s10.1++[(⟨(a0.terms.getD s10.2.1.toNat Zt0).mono,r11⟩:Term)]).length) (ZFa.encs (s10.1++[(⟨(a0.terms.getD s10.2.1.toNat Zt0).mono,r11⟩:Term)])) rfl (by simp) (by first | (simp [ZFy]; done) | simp [ZFy,ZGa])
         refine Zz 0 ZFg rfl sc53.size rfl rfl (Zu (v:=v13) hC 2 [v13] [v13] rfl sc53.size rfl rfl (Zb7 (hC.getM 1 rfl)) rfl (Ym (Y8 (hC.getM 1 rfl)) rfl) (ZFi rfl) rfl fun w37 hC=>done (Z1 (Zd (sr (Zb (v:=vI s10.2.1) rfl (Zr rfl rfl (Zc (v:=vI (Zwe.wrap (s10.2.1+1))) rfl (dn (Zn (Zb (v:=vI s10.2.2) rfl (Zr rfl rfl (Zc (v:=vI (Zwe.wrap (s10.2.2+1))) rfl (done (Zt (Zt ?_)))))))))))))))
         exact hK10 (s10.1++[(⟨(a0.terms.getD s10.2.1.toNat Zt0).mono,r11⟩:Term)],Zwe.wrap (s10.2.1+1),Zwe.wrap (s10.2.2+1)) _ _ ⟨v13,(slq rfl),(hC.xM [1,2,3,4,5] rfl)⟩ h
        ·replace h:=Zl h (cf hb18)
         refine ZFc (Zd (sr (Zb (v:=vI s10.2.1) rfl (Zr rfl rfl (Zc (v:=vI (Zwe.wrap (s10.2.1+1))) rfl (dn (Zn (Zb (v:=vI s10.2.2) rfl (Zr rfl rfl (Zc (v:=vI (Zwe.wrap (s10.2.2+1))) rfl (done (Zt (Zt ?_)))))))))))))
         exact hK10 (s10.1,Zwe.wrap (s10.2.1+1),Zwe.wrap (s10.2.2+1)) _ _ ⟨v10,(slq rfl),hC⟩ h
   ·replace h:=Zl h (Yq hb14)
    refine ZFn (Zm (Zm (Z5 ?_)))
    refine Zd (sr (Yd hC 1 [v10] rfl ag55 rfl rfl rfl (Zu (v:=.agg #[v10]) hC 2 [v10] [v10] rfl ag55.size rfl rfl rfl rfl (Ym (Y8 (hC.getM 0 rfl)) rfl) (ZFi rfl) rfl fun w38 hC=>dn (ZFh ?_))))
    exact Zk rfl (X3 hC 2 rfl ag55 rfl rfl) ⟨(⟨s10.1⟩:ZFd),v10,(ZF6 (Zum v10)),rfl,h,(Jr (Jq (hC.getM 0 rfl))),(Jo hC 0 rfl),hC.below⟩ (.inl rfl)
 ·skip
  replace hC:=hC.pushNil 90 9
  exact⟨.slice none 0 0,(slq rfl),hC⟩
def Zes (a0:List Int) (a1:A8) (a2:A8) (K:A8→Int→Prop):Prop :=
 Yg (fun i10 (s11:A8×Int) nx10=>((0≤(i10:Int)∧(i10:Int) < 8)∧((0≤(i10:Int)∧(i10:Int) < 8)∧((0≤(i10:Int)∧(i10:Int) < 8)∧(if Zul (a0.getD i10 Zt0) 2=0 then nx10 (s11.1.set i10 (ZFl.wrap ((a1.get i10)+(a2.get i10))),s11.2) else((0≤(i10:Int)∧(i10:Int) < 8)∧(if(s11.1.set i10 (ZFl.wrap ((a1.get i10)+(a2.get i10)))).get i10 > 1 then K ZFe 0 else Jc (fun (s10:Int×Int) nx11=>(if s10.1 < (a0.length:Int) then((0≤(i10:Int)∧(i10:Int) < 8)∧(if a2.get i10=1 then((0≤s10.1∧s10.1 < (a0.length:Int))∧(if Zul (a0.getD s10.1.toNat Zt0) 2≠0 then((0≤s10.1∧s10.1 < 8)∧(if a1.get s10.1.toNat=1 then nx11 (Zwe.wrap (s10.1+1),Zwe.wrap (0 - s10.2)) else nx11 (Zwe.wrap (s10.1+1),s10.2))) else nx11 (Zwe.wrap (s10.1+1),s10.2))) else nx10 (s11.1.set i10 (ZFl.wrap ((a1.get i10)+(a2.get i10))),s10.2))) else nx10 (s11.1.set i10 (ZFl.wrap ((a1.get i10)+(a2.get i10))),s10.2))) (Zwe.wrap ((i10:Int)+1),s11.2)))))))) (fun (s11:A8×Int)=>K s11.1 s11.2) a0.length 0 (ZFe,1)
theorem Zk1 (a0 : List Int) (a1 : A8) (a2 : A8)  {K : A8 → Int → Prop} (h : Zes a0 a1 a2 K) (w0 : World) (q0 : TInts.rep a0 [u0_0] fp0 w0) :
  Calls ZFb 100 #[u0_0,.agg (ZE8 (ZE7 .u8 a1)),.agg (ZE8 (ZE7 .u8 a2))] w0 fun e w'=>∃ (r0:A8) (r1:Int),
   e=.returned (.tuple #[.agg (ZE8 (ZE7 .u8 r0)),vI r1])∧K r0 r1∧Bel w0 w':=by
 unfold Zes at h
 refine cof ZGj rfl 69 Tryz.ntmps100 ?_
 have hC:=ZFu (X:=Nox) w0 [ZBl TInts a0 [u0_0] fp0] (al1 q0)
 refine sr (Yf (v:=.agg (ZE8 (ZE7 .u8 a1))) hC (ZE7 .u8 a1) rfl rfl fun b2 w4 hB_ hC=>Yf (v:=.agg (ZE8 (ZE7 .u8 a2))) hC (ZE7 .u8 a2) rfl rfl fun b5 w7 hB_ hC=>Yb hC (ZE7 .u8 ZFe) z88 rfl fun b8 w10 hB_ hC=>Zc (v:=vI 0) rfl (dn (sr (Xp [] rfl (Zeo   _) (Yb hC (ZE7 .u8 ZFe) z88 rfl fun b10 w11 hB_ hC=>Zu (v:=.agg (ZE8 (ZE7 .u8 ZFe))) hC 0 (ZE7 .u8 ZFe) (ZE7 .u8 ZFe) rfl ag88.size rfl rfl rfl rfl rfl (ZFi rfl) rfl fun w12 hC=>Zc (v:=vI 1) rfl (dn (ZE9 (sr (Zc (v:=vI 0) rfl (dn (ZFf ?_)))))))))))
 have hN10:a0.length≤9223372036854775807:=Y0 (hC.getP 0 rfl)
 refine Yp (S:=A8×Int) _ _ (fun i10 s11 e_ w_=>Z2 e_ [(0,u0_0),(4,vQ b2),(5,vQ b5),(6,vQ b8),(8,vQ b10),(9,vI s11.2),(10,vI (i10:Int))]∧Ctx Nox w0 w_ [blk b10 88 (ZE7 .u8 s11.1),blk b8 88 (ZE7 .u8 ZFe),blk b5 88 (ZE7 .u8 a2),blk b2 88 (ZE7 .u8 a1)] [ZBl TInts a0 [u0_0] fp0]) a0.length ?_ ?_ (s0:=(ZFe,1)) ?_ h
 ·clear hC h
  rintro i10 s11 e_ w13 nx10 K10 hi10 ⟨hS_,hC⟩ h hK10
  rw [ue hS_]
  refine ZE9 (sr (Zb (v:=vI (i10:Int)) rfl (Zb (v:=u0_0) rfl (Zx hC 0 rfl ZFs rfl (Zo rfl rfl (dn (Z8 rfl (decide_eq_true (by omega)) (ZFc (Zd (ZE9 (ZFf (ZE9 ?_))))))))))))
  refine cwd 8 mixed [0,0,2,6,0,16,48,126,255,511] [2,3,5,6] [0,1,4,7] (fun hM10 hM11 w14 hB_=>?_)
  replace hC:=hC.grow hB_
  refine bM 0 (vI (i10:Int)) rfl hM11 (Za 10 1) (bM 1 (vI (i10:Int)) rfl hM11 (Za 10 3) ?_)
  obtain ⟨⟨h10,h11⟩,h⟩:=h
  refine bL 2 (.pointer (some ⟨b2,i10,none⟩)) rfl rfl hM10 (fun _ hB_=>by exact Jb i10 ZFr sc5.size rfl rfl h10 h11 (by omega)) (Za 10 7) (bL 3 (.int .u8 (a1.get i10)) rfl rfl hM10 (fun _ hB_=>by exact Yc (hC.grow hB_) 3 (.int .u8 (a1.get i10)) rfl sc5 rfl (ZFm _ _ (show i10 < 8 by omega))) (Za 10 15) (bM 4 (vI (i10:Int)) rfl hM11 (Za 10 31) ?_))
  obtain ⟨⟨h12,h13⟩,h⟩:=h
  refine bL 5 (.pointer (some ⟨b5,i10,none⟩)) rfl rfl hM10 (fun _ hB_=>by exact Jb i10 ZFr sc5.size rfl rfl h12 h13 (by omega)) (Za 10 63) (bL 6 (.int .u8 (a2.get i10)) rfl rfl hM10 (fun _ hB_=>by exact Yc (hC.grow hB_) 2 (.int .u8 (a2.get i10)) rfl sc5 rfl (ZFm _ _ (show i10 < 8 by omega))) (Za 10 127) (bF 7 (.int .u8 (ZFl.wrap ((a1.get i10)+(a2.get i10)))) rfl rfl hM11 (fun _=>by exact Zjs rfl rfl) (Za 10 255) (Z0 8 (by decide) (by decide) (by kernel_rfl) (by kernel_rfl) rfl ?_)))
  obtain ⟨⟨h14,h15⟩,h⟩:=h
  refine Xc i10 ZFr sc5.size rfl rfl h14 h15 (by omega) (Zu (v:=.int .u8 (ZFl.wrap ((a1.get i10)+(a2.get i10)))) hC 0 [.int .u8 (ZFl.wrap ((a1.get i10)+(a2.get i10)))] (ZE7 .u8 (s11.1.set i10 (ZFl.wrap ((a1.get i10)+(a2.get i10))))) rfl sc5.size rfl rfl rfl rfl rfl (show i10 < 8 by omega) (ZF3 _ _ _ (show i10 < 8 by omega)) fun w15 hC=>done (Z1 (Zd (ZE9 (sr (Zb (v:=u0_0) rfl (Zb (v:=vI (i10:Int)) rfl ?_)))))))
  obtain ⟨Ad10,c10,hv10⟩:=Z3 (hC.getP 0 rfl) i10 hi10
  refine Yu (len:=a0.length) ZFs sc2.size (tr rfl hv10) rfl (ZFq _) (ZF8.2 hi10) (Xz (vI (a0.getD i10 Zt0)) (Yj (hC.getP 0 rfl) hv10 i10 hi10) sc2 rfl (Jj rfl rfl (by decide) (Jh rfl rfl (dn ?_))))
  refine Zq rfl (fun hb12=>?_) (fun hb12=>?_)
  ·replace h:=ift h (ct hb12)
   refine ZFn (Zm (Z5 ?_))
   refine Zd (Zn (Zb (v:=vI (i10:Int)) rfl (Zr rfl rfl (Zc (v:=vI (Zwe.wrap ((i10:Int)+1))) rfl (done ?_)))))
   exact hK10 (s11.1.set i10 (ZFl.wrap ((a1.get i10)+(a2.get i10))),s11.2) _ _ ⟨(sl ⟨rfl,rfl,rfl,rfl,rfl,rfl,(tr rfl (congrArg _ (Z9 hi10 hN10))),trivial⟩),hC⟩ h
  ·replace h:=Zl h (cf hb12)
   refine ZFc (Zd (ZE9 (sr (Zb (v:=vI (i10:Int)) rfl ?_))))
   obtain ⟨⟨h16,h17⟩,h⟩:=h
   refine Xc i10 ZFr sc5.size rfl rfl h16 h17 (by omega) (Z6 hC 0 (.int .u8 ((s11.1.set i10 (ZFl.wrap ((a1.get i10)+(a2.get i10)))).get i10)) rfl sc5 rfl (ZFm _ _ (show i10 < 8 by omega)) (Xx rfl rfl (dn ?_)))
   refine Zq rfl (fun hb13=>?_) (fun hb13=>?_)
   ·replace h:=ift h (ct hb13)
    refine sr (Xp [] rfl (Zeo   _) (Zu (v:=.agg (ZE8 (ZE7 .u8 ZFe))) hC 1 (ZE7 .u8 ZFe) (ZE7 .u8 ZFe) rfl ag88.size rfl rfl rfl rfl rfl (ZFi rfl) rfl fun w16 hC=>Zc (v:=vI 0) rfl (dn ?_)))
    refine ZFh (Ze (Zv (Ze (Ze (Zv (Ze ?_))))))
    exact Xy rfl (X3 hC 1 rfl ag88 rfl rfl) (Zg rfl) ⟨ZFe,0,rfl,h,hC.below⟩ (.inl rfl)
   ·replace h:=Zl h (cf hb13)
    refine ZFc (Zd (sr (Zb (v:=vI (i10:Int)) rfl (Zr rfl rfl (Zc (v:=vI (Zwe.wrap ((i10:Int)+1))) rfl (dn (ZFf ?_)))))))
    refine Jk (S:=Int×Int) _ (fun s10 e_ w_=>Z2 e_ [(0,u0_0),(4,vQ b2),(5,vQ b5),(6,vQ b8),(8,vQ b10),(9,vI s10.2),(10,vI (i10:Int)),(11,vI s10.1)]∧Ctx Nox w0 w_ [blk b10 88 (ZE7 .u8 (s11.1.set i10 (ZFl.wrap ((a1.get i10)+(a2.get i10))))),blk b8 88 (ZE7 .u8 ZFe),blk b5 88 (ZE7 .u8 a2),blk b2 88 (ZE7 .u8 a1)] [ZBl TInts a0 [u0_0] fp0]) ?_ (s0:=(Zwe.wrap ((i10:Int)+1),s11.2)) ?_ h
    ·clear hC h
     rintro s10 e_ w17 nx11 K11 ⟨hS_,hC⟩ h hK11
     rw [ue hS_]
     refine ZE9 (sr (Zb (v:=vI s10.1) rfl (Zb (v:=u0_0) rfl (Zx hC 0 rfl ZFs rfl (Zo rfl rfl (Zb (v:=.bool (decide (s10.1 < (a0.length:Int)))) rfl ?_))))))
     refine Yt (decide (s10.1 < (a0.length:Int))) (fun hb10=>?_) (fun hb10=>?_)
     ·replace h:=ift h (ct hb10)
      refine Zi 4 45 rfl rfl hb10 (Zb (v:=vI (i10:Int)) rfl (Zi 4 45 rfl rfl hb10 ?_))
      obtain ⟨⟨h18,h19⟩,h⟩:=h
      refine Xc i10 ZFr sc5.size rfl rfl h18 h19 (by omega) (Zi 4 45 rfl rfl hb10 (Z6 hC 2 (.int .u8 (a2.get i10)) rfl sc5 rfl (ZFm _ _ (show i10 < 8 by omega)) (Zi 4 45 rfl rfl hb10 (Jh rfl rfl (Zw (v:=.bool (decide (a2.get i10=1))) (b:=true) (tr rfl (congrArg _ hb10)) rfl (dn ?_))))))
      refine Zq rfl (fun hb14=>?_) (fun hb14=>?_)
      ·replace h:=ift h (ct hb14)
       refine ZFc (Zd (ZE9 (ZFf (sr (Zb (v:=u0_0) rfl (Zb (v:=vI s10.1) rfl ?_))))))
       obtain ⟨⟨h20,h21⟩,h⟩:=h
       obtain ⟨Ad11,c11,hv11⟩:=Z3 (hC.getP 0 rfl) s10.1.toNat (show s10.1.toNat < a0.length by omega)
       refine Yu (len:=a0.length) ZFs sc2.size (tr rfl hv11) rfl h20 h21 (Xz (vI (a0.getD s10.1.toNat Zt0)) (Yj (hC.getP 0 rfl) hv11 s10.1.toNat (show s10.1.toNat < a0.length by omega)) sc2 rfl (Jj rfl rfl (by decide) (Y7 rfl rfl (Zb (v:=.bool (decide (Zul (a0.getD s10.1.toNat Zt0) 2≠0))) rfl ?_))))
       refine Yt (decide (Zul (a0.getD s10.1.toNat Zt0) 2≠0)) (fun hb11=>?_) (fun hb11=>?_)
       ·replace h:=ift h (ct hb11)
        refine Zi 6 59 rfl rfl hb11 (Zb (v:=vI s10.1) rfl (Zi 6 59 rfl rfl hb11 ?_))
        obtain ⟨⟨h22,h23⟩,h⟩:=h
        refine Xc s10.1.toNat ZFr sc5.size rfl rfl h22 h23 (by omega) (Zi 6 59 rfl rfl hb11 (Z6 hC 3 (.int .u8 (a1.get s10.1.toNat)) rfl sc5 rfl (ZFm _ _ (show s10.1.toNat < 8 by omega)) (Zi 6 59 rfl rfl hb11 (Jh rfl rfl (Zw (v:=.bool (decide (a1.get s10.1.toNat=1))) (b:=true) (tr rfl (congrArg _ hb11)) rfl (dn ?_))))))
        refine Zq rfl (fun hb15=>?_) (fun hb15=>?_)
        ·replace h:=ift h (ct hb15)
         refine Zn (Zb (v:=vI s10.2) rfl (Zfy rfl (Zc (v:=vI (Zwe.wrap (0 - s10.2))) rfl (done (Zt (Zd (Zn (Zb (v:=vI s10.1) rfl (Zr rfl rfl (Zc (v:=vI (Zwe.wrap (s10.1+1))) rfl (done ?_)))))))))))
         exact hK11 (Zwe.wrap (s10.1+1),Zwe.wrap (0 - s10.2)) _ _ ⟨(slq rfl),hC⟩ h
        ·replace h:=Zl h (cf hb15)
         refine ZFc (Zt (Zd (Zn (Zb (v:=vI s10.1) rfl (Zr rfl rfl (Zc (v:=vI (Zwe.wrap (s10.1+1))) rfl (done ?_)))))))
         exact hK11 (Zwe.wrap (s10.1+1),s10.2) _ _ ⟨(slq rfl),hC⟩ h
       ·replace h:=Zl h (cf hb11)
        refine Zh (b:=false) 6 59 rfl (tr rfl (congrArg _ hb11)) (by decide) (Zh (b:=false) 6 59 rfl (tr rfl (congrArg _ hb11)) (by decide) (Zh (b:=false) 6 59 rfl (tr rfl (congrArg _ hb11)) (by decide) (Zh (b:=false) 6 59 rfl (tr rfl (congrArg _ hb11)) (by decide) (Zw (v:=.bool false) (b:=false) (tr rfl (congrArg _ hb11)) rfl (dn (Ya rfl rfl (ZFc (Zt (Zd (Zn (Zb (v:=vI s10.1) rfl (Zr rfl rfl (Zc (v:=vI (Zwe.wrap (s10.1+1))) rfl (done ?_))))))))))))))
        exact hK11 (Zwe.wrap (s10.1+1),s10.2) _ _ ⟨(slq rfl),hC⟩ h
      ·replace h:=Zl h (cf hb14)
       refine ZFn (Zm (Zm (Z5 ?_)))
       refine Zt (Zd (Zn (Zb (v:=vI (i10:Int)) rfl (Zr rfl rfl (Zc (v:=vI (Zwe.wrap ((i10:Int)+1))) rfl (done ?_))))))
       exact hK10 (s11.1.set i10 (ZFl.wrap ((a1.get i10)+(a2.get i10))),s10.2) _ _ ⟨(sl ⟨rfl,rfl,rfl,rfl,rfl,rfl,(tr rfl (congrArg _ (Z9 hi10 hN10))),trivial⟩),hC⟩ h
     ·replace h:=Zl h (cf hb10)
      refine Zh (b:=false) 4 45 rfl (tr rfl (congrArg _ hb10)) (by decide) (Zh (b:=false) 4 45 rfl (tr rfl (congrArg _ hb10)) (by decide) (Zh (b:=false) 4 45 rfl (tr rfl (congrArg _ hb10)) (by decide) (Zh (b:=false) 4 45 rfl (tr rfl (congrArg _ hb10)) (by decide) (Zw (v:=.bool false) (b:=false) (tr rfl (congrArg _ hb10)) rfl (dn (Ya rfl rfl ?_))))))
      refine ZFn (Zm (Zm (Z5 ?_)))
      refine Zt (Zd (Zn (Zb (v:=vI (i10:Int)) rfl (Zr rfl rfl (Zc (v:=vI (Zwe.wrap ((i10:Int)+1))) rfl (done ?_))))))
      exact hK10 (s11.1.set i10 (ZFl.wrap ((a1.get i10)+(a2.get i10))),s10.2) _ _ ⟨(sl ⟨rfl,rfl,rfl,rfl,rfl,rfl,(tr rfl (congrArg _ (Z9 hi10 hN10))),trivial⟩),hC⟩ h
    ·skip
     exact⟨(slq rfl),hC⟩
 ·clear hC h
  rintro s11 e_ w18 K10 ⟨hS_,hC⟩ h
  rw [ue hS_]
  refine ZE9 (sr (Zb (v:=vI (a0.length:Int)) rfl (Zb (v:=u0_0) rfl (Zx hC 0 rfl ZFs rfl (Zo rfl rfl (dn (Ya rfl (decide_eq_false (by omega)) ?_)))))))
  refine ZFn (Zm (Zm (Z5 ?_)))
  refine Zd (sr (Yd hC 0 (ZE7 .u8 s11.1) rfl ag88 rfl rfl rfl (Zb (v:=vI s11.2) rfl (Zu (v:=.agg (ZE8 (ZE7 .u8 s11.1))) hC 1 (ZE7 .u8 s11.1) (ZE7 .u8 s11.1) rfl ag88.size rfl rfl rfl rfl rfl (ZFi rfl) rfl fun w19 hC=>Zc (v:=vI s11.2) rfl (dn (ZFh ?_))))))
  exact Xy rfl (X3 hC 1 rfl ag88 rfl rfl) (Zg rfl) ⟨s11.1,s11.2,rfl,h,hC.below⟩ (.inl rfl)
 ·skip
  exact⟨(slq rfl),hC⟩
def Zet (a0:List Int) (a1:Term) (a2:ZFd) (K:ZFd→Prop):Prop :=
 Jc (fun (s10:(List Term)×Int) nx10=>(if s10.2 < (a2.terms.length:Int) then((0≤s10.2∧s10.2 < (a2.terms.length:Int))∧Zes a0 a1.mono ((a2.terms.getD s10.2.toNat Zt0).mono) (fun r13 r14=>(if r14≠0 then((0≤s10.2∧s10.2 < (a2.terms.length:Int))∧X6 (Zwe.wrap ((Zwe.wrap (r14 * a1.factor)) * ((a2.terms.getD s10.2.toNat Zt0).factor))) (fun r11=>(X4 (s10.1.length+1) 16∧nx10 (s10.1++[(⟨r13,r11⟩:Term)],Zwe.wrap (s10.2+1))))) else nx10 (s10.1,Zwe.wrap (s10.2+1))))) else K (⟨s10.1⟩:ZFd))) ([],0)
theorem Zpq (a0:List Int) (a1:Term) (a2:ZFd)  {K:ZFd→Prop} (h:Zet a0 a1 a2 K) (w0:World) (q0:TInts.rep a0 [u0_0] fp0 w0) (q2:ZFv.rep a2 [u2_0] fp2 w0) :
  Calls ZFb 83 #[u0_0,.agg (ZE8 (ZFk a1)),.agg #[u2_0]] w0 fun e w'=>∃ (r0:ZFd) (z0_0:Value) (fz0:List Nat),
   e=.returned (.agg #[z0_0])∧K r0∧(ZFo (Zj 90) r0 [z0_0] fz0).holds w'∧(∀ b,b∈fz0→w0.heap.size≤b)∧Bel w0 w':=by
 unfold Zet at h
 refine cof Tryz.func83 rfl 54 Tryz.ntmps83 ?_
 have hC:=ZFu (X:=Nox) w0 [ZBl TInts a0 [u0_0] fp0,ZBl TForm a2 [u2_0] fp2] (alc q0 (al1 q2))
 have hp3:=(hC.getP 1 rfl)
 replace hC:=hC.derive 1 rfl (ZBl ZFa.ty.sl a2.terms [u2_0] fp2) (fun _=>(Yn hp3)) (fun _ hb_=>hb_)
 refine sr (Yf (v:=.agg (ZE8 (ZFk a1))) hC (ZFk a1) rfl rfl fun b5 w7 hB_ hC=>Yf (v:=.agg #[u2_0]) hC [u2_0] rfl rfl fun b8 w10 hB_ hC=>Yb hC [.slice none 0 0] z55 rfl fun b11 w11 hB_ hC=>dn (sr (Xp [] rfl (Za7   _) (Yb hC [.slice none 0 0] z55 rfl fun b10 w12 hB_ hC=>Zu (v:=.agg #[.slice none 0 0]) hC 0 [.slice none 0 0] [.slice none 0 0] rfl ag55.size rfl rfl rfl rfl rfl (ZFi rfl) rfl fun w13 hC=>dn (ZE9 (sr (Zc (v:=vI 0) rfl (dn (ZFf ?_)))))))))
 refine Jk (S:=(List Term)×Int) _ (fun s10 e_ w_=>∃ (v10:Value),Z2 e_ [(0,u0_0),(4,vQ b5),(5,vQ b8),(6,vQ b11),(7,vQ b10),(8,vI s10.2)]∧Ctx Nox w0 w_ [own 90 9 v10 s10.1.length (ZFa.encs s10.1),blk b10 55 [v10],blk b11 55 [.slice none 0 0],blk b8 55 [u2_0],blk b5 90 (ZFk a1)] [ZBl ZFa.ty.sl a2.terms [u2_0] fp2,ZBl TInts a0 [u0_0] fp0,ZBl TForm a2 [u2_0] fp2]) ?_ (s0:=([],0)) ?_ h
 ·clear hC h
  rintro s10 e_ w14 nx10 K10 ⟨v10,hS_,hC⟩ h hK10
  rw [ue hS_]
  refine ZE9 (sr (Zb (v:=vI s10.2) rfl (Zz 0 ZFg rfl sc53.size rfl rfl (Z6 hC 3 (u2_0) rfl sc53 rfl rfl (Zx hC 0 rfl ZFj rfl (Zo rfl rfl (dn ?_)))))))
  refine Zq rfl (fun hb10=>?_) (fun hb10=>?_)
  ·replace h:=ift h (ct hb10)
   refine ZFc (Zd (ZE9 (ZFf (ZE9 ?_))))
   refine cwd 14 mixed [0,0,2,0,8,0,56,120,248,511,1023,2047,2047,0,12287,32767] [2,4,6,8] [0,1,3,5,7,10,11,12] (fun hM13 hM10 w15 hB_=>?_)
   replace hC:=hC.grow hB_
   refine bM 0 (u0_0) rfl hM10 (Za 16 1) (bF 1 (vQ b5) rfl rfl hM10 (fun _=>by exact Ye 0 ZFp rfl ag88.size rfl rfl) (Za 16 3) (bL 2 (.agg (ZE8 (ZE7 .u8 a1.mono))) rfl rfl hM13 (fun _ hB_=>by exact Yo (hC.grow hB_) 4 (ZE7 .u8 a1.mono) rfl ag88 rfl rfl rfl) (Za 16 7) (bF 3 (vQ b8) rfl rfl hM10 (fun _=>by exact Ye 0 ZFg rfl sc53.size rfl rfl) (Za 16 15) (bL 4 (u2_0) rfl rfl hM13 (fun _ hB_=>by exact Yc (hC.grow hB_) 3 (u2_0) rfl sc53 rfl rfl) (Za 16 31) (bM 5 (vI s10.2) rfl hM10 (Za 16 63) ?_)))))
   obtain ⟨⟨h10,h11⟩,h⟩:=h
   obtain ⟨Ad10,c10,hv10⟩:=Z3 (hC.getP 0 rfl) s10.2.toNat (show s10.2.toNat < a2.terms.length by omega)
   refine bL 6 (.pointer (some (Ad10.add (s10.2.toNat * 9)))) rfl rfl hM13 (fun _ hB_=>by exact Yy (len:=a2.terms.length) ZFj ag90.size (by exact tr rfl hv10) rfl h10 h11) (Za 16 127) (bF 7 (.pointer (some (Ad10.add (s10.2.toNat * 9+0)))) rfl rfl hM10 (fun _=>by exact J1 (s10.2.toNat * 9+0) ZFp rfl ag88.size rfl rfl) (Za 16 255) (bL 8 (.agg (ZE8 (ZE7 .u8 ((a2.terms.getD s10.2.toNat Zt0).mono)))) rfl rfl hM13 (fun _ hB_=>by exact Xl (ZE7 .u8 ((a2.terms.getD s10.2.toNat Zt0).mono)) (Xo (o:=0) (k:=8) (Yj ((hC.grow hB_).getP 0 rfl) hv10 s10.2.toNat (show s10.2.toNat < a2.terms.length by omega)) rfl) ag88 rfl rfl) (Za 16 511) ?_))
   refine Zeg (fun e_ w_=>∃ (b12:Nat),∃ (r10:A8),∃ (r12:Int),Z2 e_ [(0,u0_0),(4,vQ b5),(5,vQ b8),(6,vQ b11),(7,vQ b10),(8,vI s10.2),(9,vQ b12),(10,vI r12)]∧Ctx Nox w0 w_ [blk b12 88 (ZE7 .u8 r10),own 90 9 v10 s10.1.length (ZFa.encs s10.1),blk b10 55 [v10],blk b11 55 [.slice none 0 0],blk b8 55 [u2_0],blk b5 90 (ZFk a1)] [ZBl ZFa.ty.sl a2.terms [u2_0] fp2,ZBl TInts a0 [u0_0] fp0,ZBl TForm a2 [u2_0] fp2]∧(if r12≠0 then((0≤s10.2∧s10.2 < (a2.terms.length:Int))∧X6 (Zwe.wrap ((Zwe.wrap (r12 * a1.factor)) * ((a2.terms.getD s10.2.toNat Zt0).factor))) (fun r11=>(X4 (s10.1.length+1) 16∧nx10 (s10.1++[(⟨r10,r11⟩:Term)],Zwe.wrap (s10.2+1))))) else nx10 (s10.1,Zwe.wrap (s10.2+1)))) ?_ ?_
   ·clear hC h
    rintro e_ w16 ⟨b12,r10,r12,hS_,hC,h⟩
    rw [ue hS_]
    refine Zd (sr (Zb (v:=vI r12) rfl (Y7 rfl rfl (dn ?_))))
    refine Zq rfl (fun hb11=>?_) (fun hb11=>?_)
    ·replace h:=ift h (ct hb11)
     refine cwd 17 mixed [0,1,0,0,0,16,56,0,128,0,896,1920,3968,8184,16376,32764,65532,131071,262143,524287] [1,2,5,8,10,12,15] [0,3,4,6,7,9,11,13] (fun hM12 hM11 w17 hB_=>?_)
     replace hC:=hC.grow hB_
     refine bF 0 (vQ b10) rfl rfl hM11 (fun _=>by exact Ye 0 ZFg rfl sc53.size rfl rfl) (Za 20 1) (bL 1 (v10) rfl rfl hM12 (fun _ hB_=>by exact Yc (hC.grow hB_) 2 (v10) rfl sc53 rfl rfl) (Za 20 3) (bL 2 (.agg (ZE8 (ZE7 .u8 r10))) rfl rfl hM12 (fun _ hB_=>by exact Yo (hC.grow hB_) 0 (ZE7 .u8 r10) rfl ag88 rfl rfl rfl) (Za 20 7) (bM 3 (vI r12) rfl hM11 (Za 20 15) (bF 4 (.pointer (some ⟨b5,8,none⟩)) rfl rfl hM11 (fun _=>by exact Ye 8 ZFp rfl sc2.size rfl rfl) (Za 20 31) (bL 5 (vI a1.factor) rfl rfl hM12 (fun _ hB_=>by exact Yc (hC.grow hB_) 5 (vI a1.factor) rfl sc2 rfl rfl) (Za 20 63) (bF 6 (vI (Zwe.wrap (r12 * a1.factor))) rfl rfl hM11 (fun _=>by exact Zeb rfl rfl) (Za 20 127) (bF 7 (vQ b8) rfl rfl hM11 (fun _=>by exact Ye 0 ZFg rfl sc53.size rfl rfl) (Za 20 255) (bL 8 (u2_0) rfl rfl hM12 (fun _ hB_=>by exact Yc (hC.grow hB_) 4 (u2_0) rfl sc53 rfl rfl) (Za 20 511) (bM 9 (vI s10.2) rfl hM11 (Za 20 1023) ?_)))))))))
     obtain ⟨⟨h12,h13⟩,h⟩:=h
     obtain ⟨Ad11,c11,hv11⟩:=Z3 (hC.getP 0 rfl) s10.2.toNat (show s10.2.toNat < a2.terms.length by omega)
     refine bL 10 (.pointer (some (Ad11.add (s10.2.toNat * 9)))) rfl rfl hM12 (fun _ hB_=>by exact Yy (len:=a2.terms.length) ZFj ag90.size (by exact tr rfl hv11) rfl h12 h13) (Za 20 2047) (bF 11 (.pointer (some (Ad11.add (s10.2.toNat * 9+8)))) rfl rfl hM11 (fun _=>by exact J1 (s10.2.toNat * 9+8) ZFp rfl sc2.size rfl rfl) (Za 20 4095) (bL 12 (vI ((a2.terms.getD s10.2.toNat Zt0).factor)) rfl rfl hM12 (fun _ hB_=>by exact J7 (vI ((a2.terms.getD s10.2.toNat Zt0).factor)) (Xo (o:=8) (k:=1) (Yj ((hC.grow hB_).getP 0 rfl) hv11 s10.2.toNat (show s10.2.toNat < a2.terms.length by omega)) rfl) sc2 rfl) (Za 20 8191) (bF 13 (vI (Zwe.wrap ((Zwe.wrap (r12 * a1.factor)) * ((a2.terms.getD s10.2.toNat Zt0).factor)))) rfl rfl hM11 (fun _=>by exact Zeb rfl rfl) (Za 20 16383) (aO 14 rfl (Zf [vI (Zwe.wrap ((Zwe.wrap (r12 * a1.factor)) * ((a2.terms.getD s10.2.toNat Zt0).factor)))] _ ZF0 rfl rfl rfl (Zbm (Zwe.wrap ((Zwe.wrap (r12 * a1.factor)) * ((a2.terms.getD s10.2.toNat Zt0).factor))) h _) ?_)))))
     rintro _ w18 ⟨r11,rfl,h,hB10⟩
     refine rt ?_
     replace hC:=hC.grow hB10
     refine done (aK (by assumption) (Za 20 32767) (bL 15 (.agg (ZE8 (ZFk (⟨r10,r11⟩:Term)))) rfl rfl hM12 (fun _ hB_=>by exact Zf1 [(0,.agg (ZE8 (ZE7 .u8 r10))),(1,vI r11)] rfl (Zen r10 r11  _)) (Za 20 65535) (aO 16 rfl (Ju (sz:=9) hC [(0,.agg (ZE8 (ZFk (⟨r10,r11⟩:Term))))] (ZFa.encs [(⟨r10,r11⟩:Term)]) rfl (fun _=>Zdc (⟨r10,r11⟩:Term) _) rfl (by decide) fun b15 w19 hB_ hC=>done (aK (by assumption) (Za 20 131071) (Z0 17 (by decide) (by decide) (by kernel_rfl) (by kernel_rfl) rfl ?_))))))
     obtain ⟨hm10,h⟩:=h
     refine Zb4 hC 2 ZFj Zdd rfl (by decide) (by decide) rfl (Zam (hC.getM 0 rfl)) (fun q hq=>ZF9 (E:=ETerm) _ q hq) rfl rfl hm10 fun v11 w20 hC=>?_
     replace hC:=J8 hC 2 ((s10.1++[(⟨r10,r11⟩:Term)]).length) (ZFa.encs (s10.1++[(⟨r10,r11⟩:Term)])) rfl (by simp) (by first | (simp [ZFy]; done) | simp [ZFy,ZGa])
     refine Zz 0 ZFg rfl sc53.size rfl rfl (Zu (v:=v11) hC 3 [v11] [v11] rfl sc53.size rfl rfl (Zb7 (hC.getM 2 rfl)) rfl (Ym (Y8 (hC.getM 2 rfl)) rfl) (ZFi rfl) rfl fun w21 hC=>done (Z1 (Zt (Zd (Zn (Zb (v:=vI s10.2) rfl (Zr rfl rfl (Zc (v:=vI (Zwe.wrap (s10.2+1))) rfl (done ?_)))))))))
     exact hK10 (s10.1++[(⟨r10,r11⟩:Term)],Zwe.wrap (s10.2+1)) _ _ ⟨v11,(slq rfl),(hC.xM [2,3,4,5,6] rfl)⟩ h
    ·replace h:=Zl h (cf hb11)
     refine ZFc (Zt (Zd (Zn (Zb (v:=vI s10.2) rfl (Zr rfl rfl (Zc (v:=vI (Zwe.wrap (s10.2+1))) rfl (done ?_)))))))
     exact hK10 (s10.1,Zwe.wrap (s10.2+1)) _ _ ⟨v10,(slq rfl),(hC.xM [1,2,3,4,5] rfl)⟩ h
   refine Jv 9 13 rfl rfl (by kernel_rfl) ?_ ?_
   ·skip
    refine Zf [u0_0,.agg (ZE8 (ZE7 .u8 a1.mono)),.agg (ZE8 (ZE7 .u8 ((a2.terms.getD s10.2.toNat Zt0).mono)))] _ ZGj rfl rfl rfl (Zk1 a0 a1.mono ((a2.terms.getD s10.2.toNat Zt0).mono) h _ (hC.getP 1 rfl)) ?_
    rintro _ w22 ⟨r13,r14,rfl,h,hB11⟩
    refine rt ?_
    replace hC:=hC.grow hB11
    refine done (aK (by assumption) (Za 16 1023) (bM 10 (.tuple #[.agg (ZE8 (ZE7 .u8 r13)),vI r14]) rfl hM10 (Za 16 2047) (bF 11 (.agg (ZE8 (ZE7 .u8 r13))) rfl rfl hM10 (fun _=>by exact Jm (v:=.agg (ZE8 (ZE7 .u8 r13))) rfl rfl) (Za 16 4095) (bF 12 (vI r14) rfl rfl hM10 (fun _=>by exact Jm (v:=vI r14) rfl rfl) (Za 16 8191) (aO 13 rfl (Yb hC (ZE7 .u8 ZFe) z88 rfl fun b13 w23 hB_ hC=>done (aK (by assumption) (Za 16 16383) (aO 14 rfl (Zu (v:=.agg (ZE8 (ZE7 .u8 r13))) hC 0 (ZE7 .u8 r13) (ZE7 .u8 r13) rfl ag88.size rfl rfl rfl rfl rfl (ZFi rfl) rfl fun w24 hC=>done (Zge (by decide) (l9:=(Za 16 32767)) (by kernel_rfl) (Z0 15 (by decide) (by decide) (by kernel_rfl) (by kernel_rfl) rfl (Zc (v:=vI r14) rfl (done (Z1 ?_))))))))))))))
    exact⟨rfl,_,rfl,⟨b13,r13,r14,(slq rfl),hC,h⟩⟩
   ·skip
    refine Yb hC (ZE7 .u8 ZFe) z88 rfl fun b14 w25 hB_ hC=>done (aK (by assumption) (Za 16 8703) (aO 9 rfl (Zf [u0_0,.agg (ZE8 (ZE7 .u8 a1.mono)),.agg (ZE8 (ZE7 .u8 ((a2.terms.getD s10.2.toNat Zt0).mono)))] _ ZGj rfl rfl rfl (Zk1 a0 a1.mono ((a2.terms.getD s10.2.toNat Zt0).mono) h _ (hC.getP 1 rfl)) ?_)))
    rintro _ w26 ⟨r15,r16,rfl,h,hB12⟩
    refine rt ?_
    replace hC:=hC.grow hB12
    refine done (aK (by assumption) (Za 16 9215) (bM 10 (.tuple #[.agg (ZE8 (ZE7 .u8 r15)),vI r16]) rfl hM10 (Za 16 10239) (bF 11 (.agg (ZE8 (ZE7 .u8 r15))) rfl rfl hM10 (fun _=>by exact Jm (v:=.agg (ZE8 (ZE7 .u8 r15))) rfl rfl) (Za 16 12287) (bF 12 (vI r16) rfl rfl hM10 (fun _=>by exact Jm (v:=vI r16) rfl rfl) (Za 16 16383) (aO 14 rfl (Zu (v:=.agg (ZE8 (ZE7 .u8 r15))) hC 0 (ZE7 .u8 r15) (ZE7 .u8 r15) rfl ag88.size rfl rfl rfl rfl rfl (ZFi rfl) rfl fun w27 hC=>done (Zge (by decide) (l9:=(Za 16 32767)) (by kernel_rfl) (Z0 15 (by decide) (by decide) (by kernel_rfl) (by kernel_rfl) rfl (Zc (v:=vI r16) rfl (done (Z1 ?_)))))))))))
    exact⟨rfl,_,rfl,⟨b14,r15,r16,(slq rfl),hC,h⟩⟩
  ·replace h:=Zl h (cf hb10)
   refine ZFn (Zm (Zm (Z5 ?_)))
   refine Zd (sr (Yd hC 1 [v10] rfl ag55 rfl rfl rfl (Zu (v:=.agg #[v10]) hC 2 [v10] [v10] rfl ag55.size rfl rfl rfl rfl (Ym (Y8 (hC.getM 0 rfl)) rfl) (ZFi rfl) rfl fun w28 hC=>dn (ZFh ?_))))
   exact Zk rfl (X3 hC 2 rfl ag55 rfl rfl) ⟨(⟨s10.1⟩:ZFd),v10,(ZF6 (Zum v10)),rfl,h,(Jr (Jq (hC.getM 0 rfl))),(Jo hC 0 rfl),hC.below⟩ (.inl rfl)
 ·skip
  replace hC:=hC.pushNil 90 9
  exact⟨.slice none 0 0,(slq rfl),hC⟩
def X2 (a0:List Int) (a1:ZFd) (a2:ZFd) (K:ZFd→Prop):Prop :=
 Jc (fun (s10:(List Term)×Int) nx10=>(if s10.2 < (a1.terms.length:Int) then((0≤s10.2∧s10.2 < (a1.terms.length:Int))∧Zet a0 (a1.terms.getD s10.2.toNat Zt0) a2 (fun r10=>Jy (⟨s10.1⟩:ZFd) r10 1 (fun r11=>nx10 (r11.terms,Zwe.wrap (s10.2+1))))) else K (⟨s10.1⟩:ZFd))) ([],0)
theorem Zav (a0:List Int) (a1:ZFd) (a2:ZFd)  {K:ZFd→Prop} (h:X2 a0 a1 a2 K) (w0:World) (q0:TInts.rep a0 [u0_0] fp0 w0) (q1:ZFv.rep a1 [u1_0] fp1 w0) (q2:ZFv.rep a2 [u2_0] fp2 w0) :
  Calls ZFb 60 #[u0_0,.agg #[u1_0],.agg #[u2_0]] w0 fun e w'=>∃ (r0:ZFd) (z0_0:Value) (fz0:List Nat),
   e=.returned (.agg #[z0_0])∧K r0∧(ZFo (Zj 90) r0 [z0_0] fz0).holds w'∧(∀ b,b∈fz0→w0.heap.size≤b)∧Bel w0 w':=by
 unfold X2 at h
 refine cof ZF1 rfl 28 Tryz.ntmps60 ?_
 have hC:=ZFu (X:=Nox) w0 [ZBl TInts a0 [u0_0] fp0,ZBl TForm a1 [u1_0] fp1,ZBl TForm a2 [u2_0] fp2] (alc q0 (alc q1 (al1 q2)))
 have hp4:=(hC.getP 1 rfl)
 replace hC:=hC.derive 1 rfl (ZBl ZFa.ty.sl a1.terms [u1_0] fp1) (fun _=>(Yn hp4)) (fun _ hb_=>hb_)
 have hp6:=(hC.getP 3 rfl)
 replace hC:=hC.derive 3 rfl (ZBl ZFa.ty.sl a2.terms [u2_0] fp2) (fun _=>(Yn hp6)) (fun _ hb_=>hb_)
 refine sr (Yf (v:=.agg #[u1_0]) hC [u1_0] rfl rfl fun b8 w10 hB_ hC=>Yf (v:=.agg #[u2_0]) hC [u2_0] rfl rfl fun b10 w11 hB_ hC=>Yb hC [.slice none 0 0] z55 rfl fun b11 w12 hB_ hC=>dn (sr (Xp [] rfl (Za7   _) (Yb hC [.slice none 0 0] z55 rfl fun b12 w13 hB_ hC=>Zu (v:=.agg #[.slice none 0 0]) hC 0 [.slice none 0 0] [.slice none 0 0] rfl ag55.size rfl rfl rfl rfl rfl (ZFi rfl) rfl fun w14 hC=>dn (ZE9 (sr (Zc (v:=vI 0) rfl (dn (ZFf ?_)))))))))
 refine Jk (S:=(List Term)×Int) _ (fun s10 e_ w_=>∃ (v10:Value),Z2 e_ [(0,u0_0),(4,vQ b8),(5,vQ b10),(6,vQ b11),(7,vQ b12),(8,vI s10.2)]∧Ctx Nox w0 w_ [own 90 9 v10 s10.1.length (ZFa.encs s10.1),blk b12 55 [v10],blk b11 55 [.slice none 0 0],blk b10 55 [u2_0],blk b8 55 [u1_0]] [ZBl ZFa.ty.sl a2.terms [u2_0] fp2,ZBl ZFa.ty.sl a1.terms [u1_0] fp1,ZBl TInts a0 [u0_0] fp0,ZBl TForm a1 [u1_0] fp1,ZBl TForm a2 [u2_0] fp2]) ?_ (s0:=([],0)) ?_ h
 ·clear hC h
  rintro s10 e_ w15 nx10 K10 ⟨v10,hS_,hC⟩ h hK10
  rw [ue hS_]
  refine ZE9 (sr (Zb (v:=vI s10.2) rfl (Zz 0 ZFg rfl sc53.size rfl rfl (Z6 hC 4 (u1_0) rfl sc53 rfl rfl (Zx hC 1 rfl ZFj rfl (Zo rfl rfl (dn ?_)))))))
  refine Zq rfl (fun hb10=>?_) (fun hb10=>?_)
  ·replace h:=ift h (ct hb10)
   refine ZFc (Zd (ZE9 (ZFf ?_)))
   refine cwd 9 mixed [0,0,0,4,0,28,60,0,254,511,1023] [0,3,5,6,7] [1,2,4] (fun hM10 hM11 w16 hB_=>?_)
   replace hC:=hC.grow hB_
   refine bL 0 (.agg #[v10]) rfl rfl hM10 (fun _ hB_=>by exact Yo (hC.grow hB_) 1 [v10] rfl ag55 rfl rfl rfl) (Za 11 1) (bM 1 (u0_0) rfl hM11 (Za 11 3) (bF 2 (vQ b8) rfl rfl hM11 (fun _=>by exact Ye 0 ZFg rfl sc53.size rfl rfl) (Za 11 7) (bL 3 (u1_0) rfl rfl hM10 (fun _ hB_=>by exact Yc (hC.grow hB_) 4 (u1_0) rfl sc53 rfl rfl) (Za 11 15) (bM 4 (vI s10.2) rfl hM11 (Za 11 31) ?_))))
   obtain ⟨⟨h10,h11⟩,h⟩:=h
   obtain ⟨Ad10,c10,hv10⟩:=Z3 (hC.getP 1 rfl) s10.2.toNat (show s10.2.toNat < a1.terms.length by omega)
   refine bL 5 (.pointer (some (Ad10.add (s10.2.toNat * 9)))) rfl rfl hM10 (fun _ hB_=>by exact Yy (len:=a1.terms.length) ZFj ag90.size (by exact tr rfl hv10) rfl h10 h11) (Za 11 63) (bL 6 (.agg (ZE8 (ZFk (a1.terms.getD s10.2.toNat Zt0)))) rfl rfl hM10 (fun _ hB_=>by exact Xl (ZFk (a1.terms.getD s10.2.toNat Zt0)) (Yj ((hC.grow hB_).getP 1 rfl) hv10 s10.2.toNat (show s10.2.toNat < a1.terms.length by omega)) ag90 rfl rfl) (Za 11 127) (bL 7 (.agg #[u2_0]) rfl rfl hM10 (fun _ hB_=>by exact Yo (hC.grow hB_) 3 [u2_0] rfl ag55 rfl rfl rfl) (Za 11 255) (aO 8 rfl (Zf [u0_0,.agg (ZE8 (ZFk (a1.terms.getD s10.2.toNat Zt0))),.agg #[u2_0]] _ Tryz.func83 rfl rfl rfl (Zpq a0 (a1.terms.getD s10.2.toNat Zt0) a2 h _ (hC.getP 2 rfl) (Yh (hC.getP 0 rfl))) ?_))))
   rintro _ w17 ⟨r10,u11,f10,rfl,h,hr10,hf10,hB10⟩
   refine rt ?_
   replace hC:=hC.push hB10 (ZFo (Zj 90) r10 [u11] f10) hr10 hf10
   obtain ⟨ho10,hf11⟩:=Xb (hC.getM 0 rfl)
   subst hf11
   replace hC:=hC.recast (c:=own 90 9 u11 r10.terms.length (ZFa.encs r10.terms)) (fun _ h_=>h_) (fun _=>ho10)
   refine done (aK (by assumption) (Za 11 511) (Z0 9 (by decide) (by decide) (by kernel_rfl) (by kernel_rfl) rfl (Zf [.agg #[v10],.agg #[u11],vI 1] _ ZGd rfl rfl rfl (Zer (⟨s10.1⟩:ZFd) r10 1 h _ (Yh (Yv (hC.getM 1 rfl))) (Yh (Yv (hC.getM 0 rfl)))) ?_)))
   rintro _ w18 ⟨r11,u10,f11,rfl,h,hr11,hf12,hB11⟩
   refine rt ?_
   replace hC:=hC.push hB11 (ZFo (Zj 90) r11 [u10] f11) hr11 hf12
   obtain ⟨ho11,hf13⟩:=Xb (hC.getM 0 rfl)
   subst hf13
   replace hC:=hC.recast (c:=own 90 9 u10 r11.terms.length (ZFa.encs r11.terms)) (fun _ h_=>h_) (fun _=>ho11)
   refine Zu (v:=.agg #[u10]) hC 3 [u10] [u10] rfl ag55.size rfl rfl rfl rfl (Ym (Y8 (hC.getM 0 rfl)) rfl) (ZFi rfl) rfl fun w19 hC=>done (Z1 (Zt (Zd (Zn (Zb (v:=vI s10.2) rfl (Zr rfl rfl (Zc (v:=vI (Zwe.wrap (s10.2+1))) rfl (done ?_))))))))
   exact hK10 (r11.terms,Zwe.wrap (s10.2+1)) _ _ ⟨u10,(slq rfl),(hC.xM [0,3,4,5,6] rfl)⟩ h
  ·replace h:=Zl h (cf hb10)
   refine ZFn (Zm (Zm (Z5 ?_)))
   refine Zd (sr (Yd hC 1 [v10] rfl ag55 rfl rfl rfl (Zu (v:=.agg #[v10]) hC 2 [v10] [v10] rfl ag55.size rfl rfl rfl rfl (Ym (Y8 (hC.getM 0 rfl)) rfl) (ZFi rfl) rfl fun w20 hC=>dn (ZFh ?_))))
   exact Zk rfl (X3 hC 2 rfl ag55 rfl rfl) ⟨(⟨s10.1⟩:ZFd),v10,(ZF6 (Zum v10)),rfl,h,(Jr (Jq (hC.getM 0 rfl))),(Jo hC 0 rfl),hC.below⟩ (.inl rfl)
 ·skip
  replace hC:=hC.pushNil 90 9
  exact⟨.slice none 0 0,(slq rfl),hC⟩
def Zcg (a0:List Int) (a1:ZFd) (K:Bool→Prop):Prop :=
 Jc (fun (s10:Int) nx10=>(if s10 < (a1.terms.length:Int) then((0≤s10∧s10 < (a1.terms.length:Int))∧Zeq a0 ((a1.terms.getD s10.toNat Zt0).mono) (fun r11=>(if¬ (r11=true) then K false else Zde ((a1.terms.getD s10.toNat Zt0).factor) 1 10006 (fun r10=>(if¬ (r10=true) then K false else(if s10 > 0 then((0≤Zwe.wrap (s10 - 1)∧Zwe.wrap (s10 - 1) < (a1.terms.length:Int))∧Zcf ((a1.terms.getD ((Zwe.wrap (s10 - 1)).toNat) Zt0).mono) ((a1.terms.getD s10.toNat Zt0).mono) (fun r12=>(if¬ (r12=true) then K false else nx10 (Zwe.wrap (s10+1))))) else nx10 (Zwe.wrap (s10+1)))))))) else K (decide ((a1.terms.length:Int)≤400)))) 0
theorem Zip (a0:List Int) (a1:ZFd)  {K:Bool→Prop} (h:Zcg a0 a1 K) (w0:World) (q0:TInts.rep a0 [u0_0] fp0 w0) (q1:ZFv.rep a1 [u1_0] fp1 w0) :
  Calls ZFb 56 #[u0_0,.agg #[u1_0]] w0 fun e w'=>∃ (r0:Bool),
   e=.returned (.bool r0)∧K r0∧Bel w0 w':=by
 unfold Zcg at h
 refine cof Tryz.func56 rfl 51 Tryz.ntmps56 ?_
 have hC:=ZFu (X:=Nox) w0 [ZBl TInts a0 [u0_0] fp0,ZBl TForm a1 [u1_0] fp1] (alc q0 (al1 q1))
 have hp3:=(hC.getP 1 rfl)
 replace hC:=hC.derive 1 rfl (ZBl ZFa.ty.sl a1.terms [u1_0] fp1) (fun _=>(Yn hp3)) (fun _ hb_=>hb_)
 refine sr (Yf (v:=.agg #[u1_0]) hC [u1_0] rfl rfl fun b5 w7 hB_ hC=>Zc (v:=.bool false) rfl (dn (ZE9 (sr (Zc (v:=vI 0) rfl (dn (ZFf ?_)))))))
 refine Jk (S:=Int) _ (fun s10 e_ w_=>Z2 e_ [(0,u0_0),(3,vQ b5),(5,vI s10)]∧Ctx Nox w0 w_ [blk b5 55 [u1_0]] [ZBl ZFa.ty.sl a1.terms [u1_0] fp1,ZBl TInts a0 [u0_0] fp0,ZBl TForm a1 [u1_0] fp1]) ?_ (s0:=0) ?_ h
 ·clear hC h
  rintro s10 e_ w10 nx10 K10 ⟨hS_,hC⟩ h hK10
  rw [ue hS_]
  refine ZE9 (sr (Zb (v:=vI s10) rfl (Zz 0 ZFg rfl sc53.size rfl rfl (Z6 hC 0 (u1_0) rfl sc53 rfl rfl (Zx hC 0 rfl ZFj rfl (Zo rfl rfl (dn ?_)))))))
  refine Zq rfl (fun hb13=>?_) (fun hb13=>?_)
  ·replace h:=ift h (ct hb13)
   refine ZFc (Zd (ZE9 (ZFf (sr (Zz 0 ZFg rfl sc53.size rfl rfl (Z6 hC 0 (u1_0) rfl sc53 rfl rfl (Zb (v:=vI s10) rfl ?_)))))))
   obtain ⟨⟨h10,h11⟩,h⟩:=h
   obtain ⟨Ad11,c10,hv10⟩:=Z3 (hC.getP 0 rfl) s10.toNat (show s10.toNat < a1.terms.length by omega)
   refine Yu (len:=a1.terms.length) ZFj ag90.size (tr rfl hv10) rfl h10 h11 (X9 (ZFk (a1.terms.getD s10.toNat Zt0)) (Yj (hC.getP 0 rfl) hv10 s10.toNat (show s10.toNat < a1.terms.length by omega)) ag90 rfl rfl (Yb hC (ZFk (⟨ZFe,0⟩:Term)) z90 rfl fun b10 w11 hB_ hC=>Zu (v:=.agg (ZE8 (ZFk (a1.terms.getD s10.toNat Zt0)))) hC 0 (ZFk (a1.terms.getD s10.toNat Zt0)) (ZFk (a1.terms.getD s10.toNat Zt0)) rfl ag90.size rfl rfl rfl rfl rfl (ZFi rfl) rfl fun w12 hC=>dn (ZE9 ?_)))
   refine cwd 24 mixed [0,0,2,7,15,31,63,127,255,511,1023,2047,4095,8191,16383,32767,65535,32767,163839,524287,1048575,2097151,32767,4227071,16777215,33554431,67108863,134217727] [2,7,16,19,21,23] [0,1,4,5,6,7,8,9,10,11,12,13,14,15,16,17,18,19,20,21,22,23] (fun hM11 hM10 w13 hB_=>?_)
   replace hC:=hC.grow hB_
   refine bM 0 (u0_0) rfl hM10 (Za 28 1) (bF 1 (vQ b10) rfl rfl hM10 (fun _=>by exact Ye 0 ZFp rfl ag88.size rfl rfl) (Za 28 3) (bL 2 (.agg (ZE8 (ZE7 .u8 ((a1.terms.getD s10.toNat Zt0).mono)))) rfl rfl hM11 (fun _ hB_=>by exact Yo (hC.grow hB_) 0 (ZE7 .u8 ((a1.terms.getD s10.toNat Zt0).mono)) rfl ag88 rfl rfl rfl) (Za 28 7) (aO 3 rfl (Zf [u0_0,.agg (ZE8 (ZE7 .u8 ((a1.terms.getD s10.toNat Zt0).mono)))] _ Tryz.func81 rfl rfl rfl (Zpp a0 ((a1.terms.getD s10.toNat Zt0).mono) h _ (hC.getP 1 rfl)) ?_))))
   rintro _ w14 ⟨r11,rfl,h,hB10⟩
   refine rt ?_
   replace hC:=hC.grow hB10
   refine done (aK (by assumption) (Za 28 15) (bF 4 (.bool (!r11)) rfl rfl hM10 (fun _=>by exact Zfx rfl) (Za 28 31) (bM 5 (.bool (!r11)) rfl hM10 (Za 28 63) ?_)))
   refine Yt (!r11) (fun hb12=>?_) (fun hb12=>?_)
   ·replace h:=ift h (Yq (Y5 hb12))
    refine Zp Zs 6 undef rfl rfl (by kernel_rfl) (hM10 6 rfl) (fun w_=>.inr ⟨Z4 (b:=true) 5 24 rfl (tr rfl (congrArg _ hb12)) (by decide),rfl⟩) (l9:=(Za 28 127)) (by kernel_rfl) (Zp Zs 7 undef rfl rfl (by kernel_rfl) (hM10 7 rfl) (fun w_=>.inr ⟨Z4 (b:=true) 5 24 rfl (tr rfl (congrArg _ hb12)) (by decide),rfl⟩) (l9:=(Za 28 255)) (by kernel_rfl) (Zp Zs 8 undef rfl rfl (by kernel_rfl) (hM10 8 rfl) (fun w_=>.inr ⟨Z4 (b:=true) 5 24 rfl (tr rfl (congrArg _ hb12)) (by decide),rfl⟩) (l9:=(Za 28 511)) (by kernel_rfl) (Zp Zs 9 undef rfl rfl (by kernel_rfl) (hM10 9 rfl) (fun w_=>.inr ⟨Z4 (b:=true) 5 24 rfl (tr rfl (congrArg _ hb12)) (by decide),rfl⟩) (l9:=(Za 28 1023)) (by kernel_rfl) (bF 10 (.bool true) rfl rfl hM10 (fun _=>by exact Zjr (v:=.bool true) (b:=true) (by exact tr rfl (congrArg _ hb12)) rfl) (Za 28 2047) (bM 11 (.bool true) rfl hM10 (Za 28 4095) (Zp Zs 12 undef rfl rfl (by kernel_rfl) (hM10 12 rfl) (fun w_=>.inr ⟨Z4 (b:=true) 11 30 rfl (tr rfl (congrArg _ rfl)) (by decide),rfl⟩) (l9:=(Za 28 8191)) (by kernel_rfl) (Zp Zs 13 undef rfl rfl (by kernel_rfl) (hM10 13 rfl) (fun w_=>.inr ⟨Z4 (b:=true) 11 30 rfl (tr rfl (congrArg _ rfl)) (by decide),rfl⟩) (l9:=(Za 28 16383)) (by kernel_rfl) (Zp Zs 14 undef rfl rfl (by kernel_rfl) (hM10 14 rfl) (fun w_=>.inr ⟨Z4 (b:=true) 11 30 rfl (tr rfl (congrArg _ rfl)) (by decide),rfl⟩) (l9:=(Za 28 32767)) (by kernel_rfl) (Zp Zs 15 undef rfl rfl (by kernel_rfl) (hM10 15 rfl) (fun w_=>.inr ⟨Xd 14 33 rfl rfl,rfl⟩) (l9:=(Za 28 65535)) (by kernel_rfl) (Zp Zs 16 undef rfl rfl (by kernel_rfl) (hM10 16 rfl) (fun w_=>.inr ⟨Xd 14 33 rfl rfl,rfl⟩) (l9:=(Za 28 131071)) (by kernel_rfl) (Zp Zs 17 undef rfl rfl (by kernel_rfl) (hM10 17 rfl) (fun w_=>.inr ⟨Xd 14 33 rfl rfl,rfl⟩) (l9:=(Za 28 262143)) (by kernel_rfl) (Zp Zs 18 undef rfl rfl (by kernel_rfl) (hM10 18 rfl) (fun w_=>.inr ⟨Xd 14 33 rfl rfl,rfl⟩) (l9:=(Za 28 524287)) (by kernel_rfl) (Zp Zs 19 undef rfl rfl (by kernel_rfl) (hM10 19 rfl) (fun w_=>.inr ⟨Xd 14 33 rfl rfl,rfl⟩) (l9:=(Za 28 1048575)) (by kernel_rfl) (Zp Zs 20 undef rfl rfl (by kernel_rfl) (hM10 20 rfl) (fun w_=>.inr ⟨Xd 14 33 rfl rfl,rfl⟩) (l9:=(Za 28 2097151)) (by kernel_rfl) (Zp Zs 21 undef rfl rfl (by kernel_rfl) (hM10 21 rfl) (fun w_=>.inr ⟨Xd 14 33 rfl rfl,rfl⟩) (l9:=(Za 28 4194303)) (by kernel_rfl) (Zp Zs 22 undef rfl rfl (by kernel_rfl) (hM10 22 rfl) (fun w_=>.inr ⟨Xd 14 33 rfl rfl,rfl⟩) (l9:=(Za 28 8388607)) (by kernel_rfl) (Zp Zs 23 undef rfl rfl (by kernel_rfl) (hM10 23 rfl) (fun w_=>.inr ⟨Xd 14 33 rfl rfl,rfl⟩) (l9:=(Za 28 16777215)) (by kernel_rfl) (Z0 24 (by decide) (by decide) (by kernel_rfl) (by kernel_rfl) rfl (Xg 14 33 rfl rfl (Xg 14 33 rfl rfl (Zh (b:=true) 11 30 rfl (tr rfl (congrArg _ rfl)) (by decide) (Zw (v:=.bool true) (b:=true) rfl rfl (done (Z1 (Zd (Z8 rfl rfl (sr (Zc (v:=.bool false) rfl (dn ?_)))))))))))))))))))))))))))))
    refine ZFh (Zv (Ze (Ze (Zv (Ze ?_)))))
    exact Zk rfl (Zg rfl) ⟨false,rfl,h,hC.below⟩ (.inl rfl)
   ·replace h:=Zl h (not_not_intro ((Y6 hb12)))
    refine aF 6 (.pointer (some ⟨b10,8,none⟩)) rfl rfl (hM10 6 rfl) (Z7 5 24 rfl rfl hb12) (fun _=>by exact Ye 8 ZFp rfl sc2.size rfl rfl) (Za 28 127) (aL 7 (vI ((a1.terms.getD s10.toNat Zt0).factor)) rfl rfl (hM11 7 rfl) (Z7 5 24 rfl rfl hb12) (fun _ hB_=>by exact Yc (hC.grow hB_) 0 (vI ((a1.terms.getD s10.toNat Zt0).factor)) rfl sc2 rfl rfl) (Za 28 255) (aO 8 rfl (Zi 5 24 rfl rfl hb12 (Zf [vI ((a1.terms.getD s10.toNat Zt0).factor),vI 1,vI 10006] _ Tryz.func39 rfl rfl rfl (Zk0 ((a1.terms.getD s10.toNat Zt0).factor) 1 10006 h _) ?_))))
    rintro _ w15 ⟨r10,rfl,h,hB11⟩
    refine rt ?_
    replace hC:=hC.grow hB11
    refine done (aK (by assumption) (Za 28 511) (aF 9 (.bool (!r10)) rfl rfl (hM10 9 rfl) (Z7 5 24 rfl rfl hb12) (fun _=>by exact Zfx rfl) (Za 28 1023) (bF 10 (.bool (!r10)) rfl rfl hM10 (fun _=>by exact Zjr (v:=.bool (!r10)) (b:=false) (by exact tr rfl (congrArg _ hb12)) rfl) (Za 28 2047) (bM 11 (.bool (!r10)) rfl hM10 (Za 28 4095) ?_))))
    refine Yt (!r10) (fun hb11=>?_) (fun hb11=>?_)
    ·replace h:=ift h (Yq (Y5 hb11))
     refine Zp Zs 12 undef rfl rfl (by kernel_rfl) (hM10 12 rfl) (fun w_=>.inr ⟨Z4 (b:=true) 11 30 rfl (tr rfl (congrArg _ hb11)) (by decide),rfl⟩) (l9:=(Za 28 8191)) (by kernel_rfl) (Zp Zs 13 undef rfl rfl (by kernel_rfl) (hM10 13 rfl) (fun w_=>.inr ⟨Z4 (b:=true) 11 30 rfl (tr rfl (congrArg _ hb11)) (by decide),rfl⟩) (l9:=(Za 28 16383)) (by kernel_rfl) (Zp Zs 14 undef rfl rfl (by kernel_rfl) (hM10 14 rfl) (fun w_=>.inr ⟨Z4 (b:=true) 11 30 rfl (tr rfl (congrArg _ hb11)) (by decide),rfl⟩) (l9:=(Za 28 32767)) (by kernel_rfl) (Zp Zs 15 undef rfl rfl (by kernel_rfl) (hM10 15 rfl) (fun w_=>.inr ⟨Xd 14 33 rfl rfl,rfl⟩) (l9:=(Za 28 65535)) (by kernel_rfl) (Zp Zs 16 undef rfl rfl (by kernel_rfl) (hM10 16 rfl) (fun w_=>.inr ⟨Xd 14 33 rfl rfl,rfl⟩) (l9:=(Za 28 131071)) (by kernel_rfl) (Zp Zs 17 undef rfl rfl (by kernel_rfl) (hM10 17 rfl) (fun w_=>.inr ⟨Xd 14 33 rfl rfl,rfl⟩) (l9:=(Za 28 262143)) (by kernel_rfl) (Zp Zs 18 undef rfl rfl (by kernel_rfl) (hM10 18 rfl) (fun w_=>.inr ⟨Xd 14 33 rfl rfl,rfl⟩) (l9:=(Za 28 524287)) (by kernel_rfl) (Zp Zs 19 undef rfl rfl (by kernel_rfl) (hM10 19 rfl) (fun w_=>.inr ⟨Xd 14 33 rfl rfl,rfl⟩) (l9:=(Za 28 1048575)) (by kernel_rfl) (Zp Zs 20 undef rfl rfl (by kernel_rfl) (hM10 20 rfl) (fun w_=>.inr ⟨Xd 14 33 rfl rfl,rfl⟩) (l9:=(Za 28 2097151)) (by kernel_rfl) (Zp Zs 21 undef rfl rfl (by kernel_rfl) (hM10 21 rfl) (fun w_=>.inr ⟨Xd 14 33 rfl rfl,rfl⟩) (l9:=(Za 28 4194303)) (by kernel_rfl) (Zp Zs 22 undef rfl rfl (by kernel_rfl) (hM10 22 rfl) (fun w_=>.inr ⟨Xd 14 33 rfl rfl,rfl⟩) (l9:=(Za 28 8388607)) (by kernel_rfl) (Zp Zs 23 undef rfl rfl (by kernel_rfl) (hM10 23 rfl) (fun w_=>.inr ⟨Xd 14 33 rfl rfl,rfl⟩) (l9:=(Za 28 16777215)) (by kernel_rfl) (Z0 24 (by decide) (by decide) (by kernel_rfl) (by kernel_rfl) rfl (Xg 14 33 rfl rfl (Xg 14 33 rfl rfl (Zh (b:=true) 11 30 rfl (tr rfl (congrArg _ hb11)) (by decide) (Zw (v:=.bool true) (b:=true) (tr rfl (congrArg _ hb11)) rfl (done (Z1 (Zd (Z8 rfl rfl (sr (Zc (v:=.bool false) rfl (dn ?_)))))))))))))))))))))))
     refine ZFh (Zv (Ze (Ze (Zv (Ze ?_)))))
     exact Zk rfl (Zg rfl) ⟨false,rfl,h,hC.below⟩ (.inl rfl)
    ·replace h:=Zl h (not_not_intro ((Y6 hb11)))
     refine aF 12 (vI s10) rfl rfl (hM10 12 rfl) (Z7 11 30 rfl rfl hb11) (fun _=>by exact Xw (v:=vI s10) rfl) (Za 28 8191) (aF 13 (.bool (decide (s10 > 0))) rfl rfl (hM10 13 rfl) (Z7 11 30 rfl rfl hb11) (fun _=>by exact Zju rfl rfl) (Za 28 16383) (aF 14 (.bool (decide (s10 > 0))) rfl rfl (hM10 14 rfl) (Z7 11 30 rfl rfl hb11) (fun _=>by exact Xw (v:=.bool (decide (s10 > 0))) rfl) (Za 28 32767) ?_))
     refine Yt (decide (s10 > 0)) (fun hb10=>?_) (fun hb10=>?_)
     ·replace h:=ift h (ct hb10)
      refine aF 15 (vQ b5) rfl rfl (hM10 15 rfl) (Z7 14 33 rfl rfl hb10) (fun _=>by exact Ye 0 ZFg rfl sc53.size rfl rfl) (Za 28 65535) (aL 16 (u1_0) rfl rfl (hM11 16 rfl) (Z7 14 33 rfl rfl hb10) (fun _ hB_=>by exact Yc (hC.grow hB_) 1 (u1_0) rfl sc53 rfl rfl) (Za 28 131071) (aF 17 (vI s10) rfl rfl (hM10 17 rfl) (Z7 14 33 rfl rfl hb10) (fun _=>by exact Xw (v:=vI s10) rfl) (Za 28 262143) (aF 18 (vI (Zwe.wrap (s10 - 1))) rfl rfl (hM10 18 rfl) (Z7 14 33 rfl rfl hb10) (fun _=>by exact Zht rfl rfl) (Za 28 524287) ?_)))
      obtain ⟨⟨h12,h13⟩,h⟩:=h
      obtain ⟨Ad10,c11,hv11⟩:=Z3 (hC.getP 0 rfl) ((Zwe.wrap (s10 - 1)).toNat) (show (Zwe.wrap (s10 - 1)).toNat < a1.terms.length by omega)
      refine aL 19 (.pointer (some (Ad10.add ((Zwe.wrap (s10 - 1)).toNat * 9)))) rfl rfl (hM11 19 rfl) (Z7 14 33 rfl rfl hb10) (fun _ hB_=>by exact Yy (len:=a1.terms.length) ZFj ag90.size (by exact tr rfl hv11) rfl h12 h13) (Za 28 1048575) (aF 20 (.pointer (some (Ad10.add ((Zwe.wrap (s10 - 1)).toNat * 9+0)))) rfl rfl (hM10 20 rfl) (Z7 14 33 rfl rfl hb10) (fun _=>by exact J1 ((Zwe.wrap (s10 - 1)).toNat * 9+0) ZFp rfl ag88.size rfl rfl) (Za 28 2097151) (aL 21 (.agg (ZE8 (ZE7 .u8 ((a1.terms.getD ((Zwe.wrap (s10 - 1)).toNat) Zt0).mono)))) rfl rfl (hM11 21 rfl) (Z7 14 33 rfl rfl hb10) (fun _ hB_=>by exact Xl (ZE7 .u8 ((a1.terms.getD ((Zwe.wrap (s10 - 1)).toNat) Zt0).mono)) (Xo (o:=0) (k:=8) (Yj ((hC.grow hB_).getP 0 rfl) hv11 ((Zwe.wrap (s10 - 1)).toNat) (show (Zwe.wrap (s10 - 1)).toNat < a1.terms.length by omega)) rfl) ag88 rfl rfl) (Za 28 4194303) (aF 22 (vQ b10) rfl rfl (hM10 22 rfl) (Z7 14 33 rfl rfl hb10) (fun _=>by exact Ye 0 ZFp rfl ag88.size rfl rfl) (Za 28 8388607) (aL 23 (.agg (ZE8 (ZE7 .u8 ((a1.terms.getD s10.toNat Zt0).mono)))) rfl rfl (hM11 23 rfl) (Z7 14 33 rfl rfl hb10) (fun _ hB_=>by exact Yo (hC.grow hB_) 0 (ZE7 .u8 ((a1.terms.getD s10.toNat Zt0).mono)) rfl ag88 rfl rfl rfl) (Za 28 16777215) (Z0 24 (by decide) (by decide) (by kernel_rfl) (by kernel_rfl) rfl (Zi 14 33 rfl rfl hb10 (Zf [.agg (ZE8 (ZE7 .u8 ((a1.terms.getD ((Zwe.wrap (s10 - 1)).toNat) Zt0).mono))),.agg (ZE8 (ZE7 .u8 ((a1.terms.getD s10.toNat Zt0).mono)))] _ ZGc rfl rfl rfl (Zio ((a1.terms.getD ((Zwe.wrap (s10 - 1)).toNat) Zt0).mono) ((a1.terms.getD s10.toNat Zt0).mono) h _) ?_)))))))
      rintro _ w16 ⟨r12,rfl,h,hB12⟩
      refine rt ?_
      replace hC:=hC.grow hB12
      refine Zi 14 33 rfl rfl hb10 (Y4 rfl (Zi 11 30 rfl rfl hb11 (Zw (v:=.bool (!r12)) (b:=true) (tr rfl (congrArg _ hb10)) rfl (Zw (v:=.bool (!r12)) (b:=false) (tr rfl (congrArg _ hb11)) rfl (done (Z1 (Zd ?_)))))))
      refine Zq rfl (fun hb14=>?_) (fun hb14=>?_)
      ·replace h:=ift h (Yq (Y5 hb14))
       refine sr (Zc (v:=.bool false) rfl (dn ?_))
       refine ZFh (Zv (Ze (Ze (Zv (Ze ?_)))))
       exact Zk rfl (Zg rfl) ⟨false,rfl,h,hC.below⟩ (.inl rfl)
      ·replace h:=Zl h (not_not_intro ((Y6 hb14)))
       refine ZFc (Zt (Zd (Zn (Zb (v:=vI s10) rfl (Zr rfl rfl (Zc (v:=vI (Zwe.wrap (s10+1))) rfl (done ?_)))))))
       exact hK10 (Zwe.wrap (s10+1)) _ _ ⟨(slq rfl),(hC.xM [1] rfl)⟩ h
     ·replace h:=Zl h (cf hb10)
      refine Zp Zs 15 undef rfl rfl (by kernel_rfl) (hM10 15 rfl) (fun w_=>.inr ⟨Z4 (b:=false) 14 33 rfl (tr rfl (congrArg _ hb10)) (by decide),rfl⟩) (l9:=(Za 28 65535)) (by kernel_rfl) (Zp Zs 16 undef rfl rfl (by kernel_rfl) (hM10 16 rfl) (fun w_=>.inr ⟨Z4 (b:=false) 14 33 rfl (tr rfl (congrArg _ hb10)) (by decide),rfl⟩) (l9:=(Za 28 131071)) (by kernel_rfl) (Zp Zs 17 undef rfl rfl (by kernel_rfl) (hM10 17 rfl) (fun w_=>.inr ⟨Z4 (b:=false) 14 33 rfl (tr rfl (congrArg _ hb10)) (by decide),rfl⟩) (l9:=(Za 28 262143)) (by kernel_rfl) (Zp Zs 18 undef rfl rfl (by kernel_rfl) (hM10 18 rfl) (fun w_=>.inr ⟨Z4 (b:=false) 14 33 rfl (tr rfl (congrArg _ hb10)) (by decide),rfl⟩) (l9:=(Za 28 524287)) (by kernel_rfl) (Zp Zs 19 undef rfl rfl (by kernel_rfl) (hM10 19 rfl) (fun w_=>.inr ⟨Z4 (b:=false) 14 33 rfl (tr rfl (congrArg _ hb10)) (by decide),rfl⟩) (l9:=(Za 28 1048575)) (by kernel_rfl) (Zp Zs 20 undef rfl rfl (by kernel_rfl) (hM10 20 rfl) (fun w_=>.inr ⟨Z4 (b:=false) 14 33 rfl (tr rfl (congrArg _ hb10)) (by decide),rfl⟩) (l9:=(Za 28 2097151)) (by kernel_rfl) (Zp Zs 21 undef rfl rfl (by kernel_rfl) (hM10 21 rfl) (fun w_=>.inr ⟨Z4 (b:=false) 14 33 rfl (tr rfl (congrArg _ hb10)) (by decide),rfl⟩) (l9:=(Za 28 4194303)) (by kernel_rfl) (Zp Zs 22 undef rfl rfl (by kernel_rfl) (hM10 22 rfl) (fun w_=>.inr ⟨Z4 (b:=false) 14 33 rfl (tr rfl (congrArg _ hb10)) (by decide),rfl⟩) (l9:=(Za 28 8388607)) (by kernel_rfl) (Zp Zs 23 undef rfl rfl (by kernel_rfl) (hM10 23 rfl) (fun w_=>.inr ⟨Z4 (b:=false) 14 33 rfl (tr rfl (congrArg _ hb10)) (by decide),rfl⟩) (l9:=(Za 28 16777215)) (by kernel_rfl) (Z0 24 (by decide) (by decide) (by kernel_rfl) (by kernel_rfl) rfl (Zh (b:=false) 14 33 rfl (tr rfl (congrArg _ hb10)) (by decide) (Zh (b:=false) 14 33 rfl (tr rfl (congrArg _ hb10)) (by decide) (Zi 11 30 rfl rfl hb11 (Zw (v:=.bool false) (b:=false) (tr rfl (congrArg _ hb10)) rfl (Zw (v:=.bool false) (b:=false) (tr rfl (congrArg _ hb11)) rfl (done (Z1 (Zd (Ya rfl rfl (ZFc (Zt (Zd (Zn (Zb (v:=vI s10) rfl (Zr rfl rfl (Zc (v:=vI (Zwe.wrap (s10+1))) rfl (done ?_))))))))))))))))))))))))))
      exact hK10 (Zwe.wrap (s10+1)) _ _ ⟨(slq rfl),(hC.xM [1] rfl)⟩ h
  ·replace h:=Zl h (cf hb13)
   refine ZFn (Zm (Zm (Z5 ?_)))
   refine Zd (sr (Zz 0 ZFg rfl sc53.size rfl rfl (Z6 hC 0 (u1_0) rfl sc53 rfl rfl (Zx hC 0 rfl ZFj rfl (Zb3 rfl rfl (Zc (v:=.bool (decide ((a1.terms.length:Int)≤400))) rfl (dn (ZFh ?_))))))))
   exact Zk rfl (Zg rfl) ⟨decide ((a1.terms.length:Int)≤400),rfl,h,hC.below⟩ (.inl rfl)
 ·skip
  exact⟨(slq rfl),hC⟩
def Zbo (a0:List Int) (a1:A8) (K:Int→Prop):Prop :=
 Yg (fun i10 (s10:Int) nx10=>((0≤(i10:Int)∧(i10:Int) < 8)∧nx10 (Zwe.wrap (s10+(Zwe.wrap ((a0.getD i10 Zt0) * (Zwe.wrap (a1.get i10)))))))) (fun (s10:Int)=>K s10) a0.length 0 0
theorem Ziq (a0:List Int) (a1:A8)  {K:Int→Prop} (h:Zbo a0 a1 K) (w0:World) (q0:TInts.rep a0 [u0_0] fp0 w0) :
  Calls ZFb 82 #[u0_0,.agg (ZE8 (ZE7 .u8 a1))] w0 fun e w'=>∃ (r0:Int),
   e=.returned (vI r0)∧K r0∧Bel w0 w':=by
 unfold Zbo at h
 refine cof ZGe rfl 25 Tryz.ntmps82 ?_
 have hC:=ZFu (X:=Nox) w0 [ZBl TInts a0 [u0_0] fp0] (al1 q0)
 refine sr (Yf (v:=.agg (ZE8 (ZE7 .u8 a1))) hC (ZE7 .u8 a1) rfl rfl fun b2 w4 hB_ hC=>Zc (v:=vI 0) rfl (dn (sr (Zc (v:=vI 0) rfl (dn (ZE9 (sr (Zc (v:=vI 0) rfl (dn (ZFf ?_))))))))))
 have hN10:a0.length≤9223372036854775807:=Y0 (hC.getP 0 rfl)
 refine Yp (S:=Int) _ _ (fun i10 s10 e_ w_=>Z2 e_ [(0,u0_0),(3,vQ b2),(5,vI s10),(6,vI (i10:Int))]∧Ctx Nox w0 w_ [blk b2 88 (ZE7 .u8 a1)] [ZBl TInts a0 [u0_0] fp0]) a0.length ?_ ?_ (s0:=0) ?_ h
 ·clear hC h
  rintro i10 s10 e_ w10 nx10 K10 hi10 ⟨hS_,hC⟩ h hK10
  rw [ue hS_]
  refine ZE9 (sr (Zb (v:=vI (i10:Int)) rfl (Zb (v:=u0_0) rfl (Zx hC 0 rfl ZFs rfl (Zo rfl rfl (dn (Z8 rfl (decide_eq_true (by omega)) (ZFc (Zd (ZE9 (ZFf ?_)))))))))))
  refine cwd 10 mixed [0,0,0,6,14,0,32,96,224,510,1023,2047] [3,4,6,7] [0,1,2,5,8,9] (fun hM11 hM10 w11 hB_=>?_)
  replace hC:=hC.grow hB_
  refine bM 0 (vI s10) rfl hM10 (Za 12 1) (bM 1 (u0_0) rfl hM10 (Za 12 3) (bM 2 (vI (i10:Int)) rfl hM10 (Za 12 7) ?_))
  obtain ⟨Ad10,c10,hv10⟩:=Z3 (hC.getP 0 rfl) i10 hi10
  refine bL 3 (.pointer (some (Ad10.add (i10 * 1)))) rfl rfl hM11 (fun _ hB_=>by exact Yy (len:=a0.length) ZFs sc2.size (by exact tr rfl hv10) rfl (ZFq _) (ZF8.2 hi10)) (Za 12 15) (bL 4 (vI (a0.getD i10 Zt0)) rfl rfl hM11 (fun _ hB_=>by exact J7 (vI (a0.getD i10 Zt0)) (Yj ((hC.grow hB_).getP 0 rfl) hv10 i10 hi10) sc2 rfl) (Za 12 31) (bM 5 (vI (i10:Int)) rfl hM10 (Za 12 63) ?_))
  obtain ⟨⟨h10,h11⟩,h⟩:=h
  refine bL 6 (.pointer (some ⟨b2,i10,none⟩)) rfl rfl hM11 (fun _ hB_=>by exact Jb i10 ZFr sc5.size rfl rfl h10 h11 (by omega)) (Za 12 127) (bL 7 (.int .u8 (a1.get i10)) rfl rfl hM11 (fun _ hB_=>by exact Yc (hC.grow hB_) 0 (.int .u8 (a1.get i10)) rfl sc5 rfl (ZFm _ _ (show i10 < 8 by omega))) (Za 12 255) (bF 8 (vI (Zwe.wrap (a1.get i10))) rfl rfl hM10 (fun _=>by exact Zjv ZGb ZGf rfl) (Za 12 511) (bF 9 (vI (Zwe.wrap ((a0.getD i10 Zt0) * (Zwe.wrap (a1.get i10))))) rfl rfl hM10 (fun _=>by exact Zeb rfl rfl) (Za 12 1023) (Z0 10 (by decide) (by decide) (by kernel_rfl) (by kernel_rfl) rfl (Zr rfl rfl (Zc (v:=vI (Zwe.wrap (s10+(Zwe.wrap ((a0.getD i10 Zt0) * (Zwe.wrap (a1.get i10))))))) rfl (done (Z1 (Zt (Zd (Zn (Zb (v:=vI (i10:Int)) rfl (Zr rfl rfl (Zc (v:=vI (Zwe.wrap ((i10:Int)+1))) rfl (done ?_)))))))))))))))
  exact hK10 (Zwe.wrap (s10+(Zwe.wrap ((a0.getD i10 Zt0) * (Zwe.wrap (a1.get i10)))))) _ _ ⟨(sl ⟨rfl,rfl,rfl,(tr rfl (congrArg _ (Z9 hi10 hN10))),trivial⟩),hC⟩ h
 ·clear hC h
  rintro s10 e_ w12 K10 ⟨hS_,hC⟩ h
  rw [ue hS_]
  refine ZE9 (sr (Zb (v:=vI (a0.length:Int)) rfl (Zb (v:=u0_0) rfl (Zx hC 0 rfl ZFs rfl (Zo rfl rfl (dn (Ya rfl (decide_eq_false (by omega)) ?_)))))))
  refine ZFn (Zm (Zm (Z5 ?_)))
  refine Zd (sr (Zb (v:=vI s10) rfl (Zc (v:=vI s10) rfl (dn (ZFh ?_)))))
  exact Zk rfl (Zg rfl) ⟨s10,rfl,h,hC.below⟩ (.inl rfl)
 ·skip
  exact⟨(slq rfl),hC⟩
def Zdf (a0:List Int) (a1:ZFd) (K:Int→Bool→Prop):Prop :=
 (if(a1.terms.length:Int)=0 then K (-1) true else((0≤(0:Int)∧(0:Int) < (a1.terms.length:Int))∧Zbo a0 ((a1.terms.getD 0 Zt0).mono) (fun r10=>Jc (fun (s10:Int) nx10=>(if s10 < (a1.terms.length:Int) then((0≤s10∧s10 < (a1.terms.length:Int))∧Zbo a0 ((a1.terms.getD s10.toNat Zt0).mono) (fun r11=>(if r11≠r10 then K 0 false else nx10 (Zwe.wrap (s10+1))))) else K r10 true)) 1)))
theorem Zk2 (a0:List Int) (a1:ZFd)  {K:Int→Bool→Prop} (h:Zdf a0 a1 K) (w0:World) (q0:TInts.rep a0 [u0_0] fp0 w0) (q1:ZFv.rep a1 [u1_0] fp1 w0) :
  Calls ZFb 57 #[u0_0,.agg #[u1_0]] w0 fun e w'=>∃ (r0:Int) (r1:Bool),
   e=.returned (.tuple #[vI r0,.bool r1])∧K r0 r1∧Bel w0 w':=by
 unfold Zdf at h
 refine cof Tryz.func57 rfl 37 Tryz.ntmps57 ?_
 have hC:=ZFu (X:=Nox) w0 [ZBl TInts a0 [u0_0] fp0,ZBl TForm a1 [u1_0] fp1] (alc q0 (al1 q1))
 have hp3:=(hC.getP 1 rfl)
 replace hC:=hC.derive 1 rfl (ZBl ZFa.ty.sl a1.terms [u1_0] fp1) (fun _=>(Yn hp3)) (fun _ hb_=>hb_)
 refine sr (Yf (v:=.agg #[u1_0]) hC [u1_0] rfl rfl fun b5 w7 hB_ hC=>Zc (v:=vI 0) rfl (Zc (v:=.bool false) rfl (dn (ZE9 (sr (Zz 0 ZFg rfl sc53.size rfl rfl (Z6 hC 0 (u1_0) rfl sc53 rfl rfl (Zx hC 0 rfl ZFj rfl (Jh rfl rfl (dn ?_))))))))))
 refine Zq rfl (fun hb10=>?_) (fun hb10=>?_)
 ·replace h:=ift h (ct hb10)
  refine sr (Zc (v:=vI (-1)) rfl (Zc (v:=.bool true) rfl (dn ?_)))
  refine ZFh (Ze ?_)
  exact Xy rfl (Zg rfl) (Zg rfl) ⟨(-1),true,rfl,h,hC.below⟩ (.inl rfl)
 ·replace h:=Zl h (cf hb10)
  refine ZFc (Zd (sr (Zb (v:=u0_0) rfl (Zz 0 ZFg rfl sc53.size rfl rfl (Z6 hC 0 (u1_0) rfl sc53 rfl rfl ?_)))))
  obtain ⟨⟨h10,h11⟩,h⟩:=h
  obtain ⟨Ad10,c10,hv10⟩:=Z3 (hC.getP 0 rfl) 0 (show 0 < a1.terms.length by omega)
  refine Yu (len:=a1.terms.length) ZFj ag90.size (tr rfl hv10) rfl h10 h11 (Zal (0 * 9+0) ZFp rfl ag88.size rfl rfl (X9 (ZE7 .u8 ((a1.terms.getD 0 Zt0).mono)) (Xo (o:=0) (k:=8) (Yj (hC.getP 0 rfl) hv10 0 (show 0 < a1.terms.length by omega)) rfl) ag88 rfl rfl (Zf [u0_0,.agg (ZE8 (ZE7 .u8 ((a1.terms.getD 0 Zt0).mono)))] _ ZGe rfl rfl rfl (Ziq a0 ((a1.terms.getD 0 Zt0).mono) h _ (hC.getP 1 rfl)) ?_)))
  rintro _ w10 ⟨r10,rfl,h,hB10⟩
  refine rt ?_
  replace hC:=hC.grow hB10
  refine Zc (v:=vI r10) rfl (dn (ZE9 (sr (Zc (v:=vI 1) rfl (dn (ZFf ?_))))))
  refine Jk (S:=Int) _ (fun s10 e_ w_=>Z2 e_ [(0,u0_0),(3,vQ b5),(6,vI r10),(7,vI s10)]∧Ctx Nox w0 w_ [blk b5 55 [u1_0]] [ZBl ZFa.ty.sl a1.terms [u1_0] fp1,ZBl TInts a0 [u0_0] fp0,ZBl TForm a1 [u1_0] fp1]) ?_ (s0:=1) ?_ h
  ·clear hC h
   rintro s10 e_ w11 nx10 K10 ⟨hS_,hC⟩ h hK10
   rw [ue hS_]
   refine ZE9 (sr (Zb (v:=vI s10) rfl (Zz 0 ZFg rfl sc53.size rfl rfl (Z6 hC 0 (u1_0) rfl sc53 rfl rfl (Zx hC 0 rfl ZFj rfl (Zo rfl rfl (dn ?_)))))))
   refine Zq rfl (fun hb11=>?_) (fun hb11=>?_)
   ·replace h:=ift h (ct hb11)
    refine ZFc (Zd (ZE9 (ZFf (sr (Zb (v:=u0_0) rfl (Zz 0 ZFg rfl sc53.size rfl rfl (Z6 hC 0 (u1_0) rfl sc53 rfl rfl (Zb (v:=vI s10) rfl ?_))))))))
    obtain ⟨⟨h12,h13⟩,h⟩:=h
    obtain ⟨Ad11,c11,hv11⟩:=Z3 (hC.getP 0 rfl) s10.toNat (show s10.toNat < a1.terms.length by omega)
    refine Yu (len:=a1.terms.length) ZFj ag90.size (tr rfl hv11) rfl h12 h13 (Zal (s10.toNat * 9+0) ZFp rfl ag88.size rfl rfl (X9 (ZE7 .u8 ((a1.terms.getD s10.toNat Zt0).mono)) (Xo (o:=0) (k:=8) (Yj (hC.getP 0 rfl) hv11 s10.toNat (show s10.toNat < a1.terms.length by omega)) rfl) ag88 rfl rfl (Zf [u0_0,.agg (ZE8 (ZE7 .u8 ((a1.terms.getD s10.toNat Zt0).mono)))] _ ZGe rfl rfl rfl (Ziq a0 ((a1.terms.getD s10.toNat Zt0).mono) h _ (hC.getP 1 rfl)) ?_)))
    rintro _ w12 ⟨r11,rfl,h,hB11⟩
    refine rt ?_
    replace hC:=hC.grow hB11
    refine Zb (v:=vI r10) rfl (Y7 rfl rfl (dn ?_))
    refine Zq rfl (fun hb12=>?_) (fun hb12=>?_)
    ·replace h:=ift h (ct hb12)
     refine sr (Zc (v:=vI 0) rfl (Zc (v:=.bool false) rfl (dn ?_)))
     refine ZFh (Zv (Ze (Ze (Zv (Ze ?_)))))
     exact Xy rfl (Zg rfl) (Zg rfl) ⟨0,false,rfl,h,hC.below⟩ (.inl rfl)
    ·replace h:=Zl h (cf hb12)
     refine ZFc (Zt (Zd (Zn (Zb (v:=vI s10) rfl (Zr rfl rfl (Zc (v:=vI (Zwe.wrap (s10+1))) rfl (done ?_)))))))
     exact hK10 (Zwe.wrap (s10+1)) _ _ ⟨(slq rfl),hC⟩ h
   ·replace h:=Zl h (cf hb11)
    refine ZFn (Zm (Zm (Z5 ?_)))
    refine Zd (sr (Zb (v:=vI r10) rfl (Zc (v:=vI r10) rfl (Zc (v:=.bool true) rfl (dn (ZFh ?_))))))
    exact Xy rfl (Zg rfl) (Zg rfl) ⟨r10,true,rfl,h,hC.below⟩ (.inl rfl)
  ·skip
   exact⟨(slq rfl),hC⟩
def Zdg (a0:Alg) (a1:ZFd) (K:ZFd→Prop):Prop :=
 Jc (fun (s11:(List Term)×Int) nx12=>(if s11.2 < (a1.terms.length:Int) then((0≤s11.2∧s11.2 < (a1.terms.length:Int))∧Jc (fun (s10:(List Term)×Int) nx11=>(if s10.2 < (a0.degrees.length:Int) then((0≤s10.2∧s10.2 < 8)∧(if((a1.terms.getD s11.2.toNat Zt0).mono).get s10.2.toNat=0 then nx11 (s10.1,Zwe.wrap (s10.2+1)) else Yg (fun i10 (s12:A8×A8) nx10=>(if(i10:Int)≥s10.2 then(if(i10:Int)≤s10.2 then nx10 (s12.1.set i10 0,s12.2.set i10 0) else nx10 (s12.1.set i10 0,s12.2)) else(if(i10:Int)≤s10.2 then nx10 (s12.1,s12.2.set i10 0) else nx10 (s12.1,s12.2)))) (fun (s12:A8×A8)=>((0≤s10.2∧s10.2 < 8)∧((0≤s10.2∧s10.2 < 8)∧((0≤s11.2∧s11.2 < (a1.terms.length:Int))∧((0≤s10.2∧s10.2 < 8)∧Zbo a0.degrees s12.1 (fun r24=>(if Zul r24 2≠0 then((0≤s10.2∧s10.2 < (a0.images.length:Int))∧X1 (s12.1.set s10.2.toNat (ZFl.wrap ((((a1.terms.getD s11.2.toNat Zt0).mono).get s10.2.toNat) - 1))) 1 (fun r16=>X2 a0.degrees r16 (a0.images.getD s10.2.toNat Zt0) (fun r18=>X1 s12.2 1 (fun r10=>X2 a0.degrees r18 r10 (fun r11=>X6 (Zwe.wrap (0 - (Zwe.wrap (((a1.terms.getD s11.2.toNat Zt0).factor) * (Zwe.wrap (((a1.terms.getD s11.2.toNat Zt0).mono).get s10.2.toNat)))))) (fun r19=>Jy (⟨s10.1⟩:ZFd) r11 r19 (fun r12=>nx11 (r12.terms,Zwe.wrap (s10.2+1))))))))) else((0≤s10.2∧s10.2 < (a0.images.length:Int))∧X1 (s12.1.set s10.2.toNat (ZFl.wrap ((((a1.terms.getD s11.2.toNat Zt0).mono).get s10.2.toNat) - 1))) 1 (fun r17=>X2 a0.degrees r17 (a0.images.getD s10.2.toNat Zt0) (fun r20=>X1 s12.2 1 (fun r13=>X2 a0.degrees r20 r13 (fun r14=>X6 (Zwe.wrap (((a1.terms.getD s11.2.toNat Zt0).factor) * (Zwe.wrap (((a1.terms.getD s11.2.toNat Zt0).mono).get s10.2.toNat)))) (fun r21=>Jy (⟨s10.1⟩:ZFd) r14 r21 (fun r15=>nx11 (r15.terms,Zwe.wrap (s10.2+1)))))))))))))))) 8 0 ((a1.terms.getD s11.2.toNat Zt0).mono,(a1.terms.getD s11.2.toNat Zt0).mono))) else nx12 (s10.1,Zwe.wrap (s11.2+1)))) (s11.1,0)) else K (⟨s11.1⟩:ZFd))) ([],0)
theorem Zk3 (a0 : Alg) (a1 : ZFd)  {K : ZFd → Prop} (h : Zdg a0 a1 K) (w0 : World) (q0 : TAlg.rep a0 [u0_0, u0_1] fp0 w0) (q1 : ZFv.rep a1 [u1_0] fp1 w0) :
  Calls ZFb 58 #[.agg #[u0_0,u0_1],.agg #[u1_0]] w0 fun e w'=>∃ (r0:ZFd) (z0_0:Value) (fz0:List Nat),
   e=.returned (.agg #[z0_0])∧K r0∧(ZFo (Zj 90) r0 [z0_0] fz0).holds w'∧(∀ b,b∈fz0→w0.heap.size≤b)∧Bel w0 w':=by
 unfold Zdg at h
 refine cof Tryz.func58 rfl 103 Tryz.ntmps58 ?_
 have hC:=ZFu (X:=Nox) w0 [ZBl TAlg a0 [u0_0,u0_1] fp0,ZBl TForm a1 [u1_0] fp1] (alc q0 (al1 q1))
 replace hC:=hC.dAlg 0 rfl
 have hp5:=(hC.getP 3 rfl)
 replace hC:=hC.derive 3 rfl (ZBl ZFa.ty.sl a1.terms [u1_0] fp1) (fun _=>(Yn hp5)) (fun _ hb_=>hb_)
 refine sr (Yf (v:=.agg #[u0_0,u0_1]) hC [u0_0,u0_1] rfl rfl fun b7 w9 hB_ hC=>Yf (v:=.agg #[u1_0]) hC [u1_0] rfl rfl fun b10 w11 hB_ hC=>Yb hC [.slice none 0 0] z55 rfl fun b11 w12 hB_ hC=>dn (sr (Xp [] rfl (Za7   _) (Yb hC [.slice none 0 0] z55 rfl fun b12 w13 hB_ hC=>Zu (v:=.agg #[.slice none 0 0]) hC 0 [.slice none 0 0] [.slice none 0 0] rfl ag55.size rfl rfl rfl rfl rfl (ZFi rfl) rfl fun w14 hC=>dn (ZE9 (sr (Zc (v:=vI 0) rfl (dn (ZFf ?_)))))))))
 refine Jk (S:=(List Term)×Int) _ (fun s11 e_ w_=>∃ (v11:Value),Z2 e_ [(2,vQ b7),(3,vQ b10),(4,vQ b11),(5,vQ b12),(6,vI s11.2)]∧Ctx Nox w0 w_ [own 90 9 v11 s11.1.length (ZFa.encs s11.1),blk b12 55 [v11],blk b11 55 [.slice none 0 0],blk b10 55 [u1_0],blk b7 32 [u0_0,u0_1]] [ZBl ZFa.ty.sl a1.terms [u1_0] fp1,ZBl ZFv.sl a0.images [u0_1] fp0,ZBl TInts a0.degrees [u0_0] fp0,ZBl TAlg a0 [u0_0,u0_1] fp0,ZBl TForm a1 [u1_0] fp1]) ?_ (s0:=([],0)) ?_ h
 ·clear hC h
  rintro s11 e_ w15 nx12 K11 ⟨v11,hS_,hC⟩ h hK12
  rw [ue hS_]
  refine ZE9 (sr (Zb (v:=vI s11.2) rfl (Zz 0 ZFg rfl sc53.size rfl rfl (Z6 hC 3 (u1_0) rfl sc53 rfl rfl (Zx hC 0 rfl ZFj rfl (Zo rfl rfl (dn ?_)))))))
  refine Zq rfl (fun hb10=>?_) (fun hb10=>?_)
  ·replace h := ift h (ct hb10)
   refine ZFc (Zd (ZE9 (ZFf (sr (Zz 0 ZFg rfl sc53.size rfl rfl (Z6 hC 3 (u1_0) rfl sc53 rfl rfl (Zb (v:=vI s11.2) rfl ?_)))))))
   obtain ⟨⟨h10,h11⟩,h⟩:=h
   obtain ⟨Ad13,c10,hv10⟩:=Z3 (hC.getP 0 rfl) s11.2.toNat (show s11.2.toNat < a1.terms.length by omega)
   refine Yu (len:=a1.terms.length) ZFj ag90.size (tr rfl hv10) rfl h10 h11 (Zal (s11.2.toNat * 9+0) ZFp rfl ag88.size rfl rfl (X9 (ZE7 .u8 ((a1.terms.getD s11.2.toNat Zt0).mono)) (Xo (o:=0) (k:=8) (Yj (hC.getP 0 rfl) hv10 s11.2.toNat (show s11.2.toNat < a1.terms.length by omega)) rfl) ag88 rfl rfl (Yb hC (ZE7 .u8 ZFe) z88 rfl fun b13 w16 hB_ hC=>Zu (v:=.agg (ZE8 (ZE7 .u8 ((a1.terms.getD s11.2.toNat Zt0).mono)))) hC 0 (ZE7 .u8 ((a1.terms.getD s11.2.toNat Zt0).mono)) (ZE7 .u8 ((a1.terms.getD s11.2.toNat Zt0).mono)) rfl ag88.size rfl rfl rfl rfl rfl (ZFi rfl) rfl fun w17 hC=>dn (sr (Zc (v:=vI 0) rfl (dn (ZFf ?_)))))))
   refine Jk (S:=(List Term)×Int) _ (fun s10 e_ w_=>∃ (v10:Value),Z2 e_ [(2,vQ b7),(3,vQ b10),(4,vQ b11),(5,vQ b12),(6,vI s11.2),(7,vQ b13),(8,vI s10.2)]∧Ctx Nox w0 w_ [own 90 9 v10 s10.1.length (ZFa.encs s10.1),blk b13 88 (ZE7 .u8 ((a1.terms.getD s11.2.toNat Zt0).mono)),blk b12 55 [v10],blk b11 55 [.slice none 0 0],blk b10 55 [u1_0],blk b7 32 [u0_0,u0_1]] [ZBl ZFa.ty.sl a1.terms [u1_0] fp1,ZBl ZFv.sl a0.images [u0_1] fp0,ZBl TInts a0.degrees [u0_0] fp0,ZBl TAlg a0 [u0_0,u0_1] fp0,ZBl TForm a1 [u1_0] fp1]) ?_ (s0:=(s11.1,0)) ?_ h
   ·clear hC h
    rintro s10 e_ w18 nx11 K12 ⟨v10,hS_,hC⟩ h hK11
    rw [ue hS_]
    refine ZE9 (sr (Zb (v:=vI s10.2) rfl (Zz 0 ZFt rfl sc22.size rfl rfl (Z6 hC 5 (u0_0) rfl sc22 rfl rfl (Zx hC 2 rfl ZFs rfl (Zo rfl rfl (dn ?_)))))))
    refine Zq rfl (fun hb11=>?_) (fun hb11=>?_)
    ·replace h:=ift h (ct hb11)
     refine ZFc (Zd (ZE9 (ZFf (ZE9 (sr (Zb (v:=vI s10.2) rfl ?_))))))
     obtain ⟨⟨h12,h13⟩,h⟩:=h
     refine Xc s10.2.toNat ZFr sc5.size rfl rfl h12 h13 (by omega) (Z6 hC 1 (.int .u8 (((a1.terms.getD s11.2.toNat Zt0).mono).get s10.2.toNat)) rfl sc5 rfl (ZFm _ _ (show s10.2.toNat < 8 by omega)) (Jh rfl rfl (dn ?_)))
     refine Zq rfl (fun hb12=>?_) (fun hb12=>?_)
     ·replace h:=ift h (ct hb12)
      refine ZFn (Zm (Z5 ?_))
      refine Zd (Zn (Zb (v:=vI s10.2) rfl (Zr rfl rfl (Zc (v:=vI (Zwe.wrap (s10.2+1))) rfl (done ?_)))))
      exact hK11 (s10.1,Zwe.wrap (s10.2+1)) _ _ ⟨v10,(slq rfl),hC⟩ h
     ·replace h:=Zl h (cf hb12)
      refine ZFc (Zd (ZE9 ?_))
      refine Zkz 5 mixed [0,0,0,0,13,31] [0,1] [] (fun hM18 hM21 w10 hB_=>?_)
      replace hC:=hC.grow hB_
      have hN_:w10.heap.size≤w10.heap.size:=Nat.le_refl _
      refine Ja (Xa _) 0 (.agg (ZE8 (ZE7 .u8 ((a1.terms.getD s11.2.toNat Zt0).mono)))) rfl rfl (by kernel_rfl) (hM18 0 rfl) (fun w_ hB_=>.inl ⟨rfl,by exact Yo (hC.grow (Zcd hB_)) 1 (ZE7 .u8 ((a1.terms.getD s11.2.toNat Zt0).mono)) rfl ag88 rfl rfl rfl⟩) (l9:=(Za 6 1)) (by kernel_rfl) (Ja (Xa _) 1 (.agg (ZE8 (ZE7 .u8 ((a1.terms.getD s11.2.toNat Zt0).mono)))) rfl rfl (by kernel_rfl) (hM18 1 rfl) (fun w_ hB_=>.inl ⟨rfl,by exact Yo (hC.grow (Zcd hB_)) 1 (ZE7 .u8 ((a1.terms.getD s11.2.toNat Zt0).mono)) rfl ag88 rfl rfl rfl⟩) (l9:=(Za 6 3)) (by kernel_rfl) ?_)
      refine Zeg (fun e_ w_=>∃ (b14:Nat),∃ (b15:Nat),Z2 e_ [(2,vQ b7),(3,vQ b10),(4,vQ b11),(5,vQ b12),(6,vI s11.2),(7,vQ b13),(8,vI s10.2),(9,vQ b15),(10,vQ b14)]∧Ctx Nox w0 w_ [blk b14 88 (ZE7 .u8 ((a1.terms.getD s11.2.toNat Zt0).mono)),blk b15 88 (ZE7 .u8 ((a1.terms.getD s11.2.toNat Zt0).mono)),own 90 9 v10 s10.1.length (ZFa.encs s10.1),blk b13 88 (ZE7 .u8 ((a1.terms.getD s11.2.toNat Zt0).mono)),blk b12 55 [v10],blk b11 55 [.slice none 0 0],blk b10 55 [u1_0],blk b7 32 [u0_0,u0_1]] [ZBl ZFa.ty.sl a1.terms [u1_0] fp1,ZBl ZFv.sl a0.images [u0_1] fp0,ZBl TInts a0.degrees [u0_0] fp0,ZBl TAlg a0 [u0_0,u0_1] fp0,ZBl TForm a1 [u1_0] fp1]∧(Yg (fun i10 (s12:A8×A8) nx10=>(if(i10:Int)≥s10.2 then(if(i10:Int)≤s10.2 then nx10 (s12.1.set i10 0,s12.2.set i10 0) else nx10 (s12.1.set i10 0,s12.2)) else(if(i10:Int)≤s10.2 then nx10 (s12.1,s12.2.set i10 0) else nx10 (s12.1,s12.2)))) (fun (s12:A8×A8)=>((0≤s10.2∧s10.2 < 8)∧((0≤s10.2∧s10.2 < 8)∧((0≤s11.2∧s11.2 < (a1.terms.length:Int))∧((0≤s10.2∧s10.2 < 8)∧Zbo a0.degrees s12.1 (fun r24=>(if Zul r24 2≠0 then((0≤s10.2∧s10.2 < (a0.images.length:Int))∧X1 (s12.1.set s10.2.toNat (ZFl.wrap ((((a1.terms.getD s11.2.toNat Zt0).mono).get s10.2.toNat) - 1))) 1 (fun r16=>X2 a0.degrees r16 (a0.images.getD s10.2.toNat Zt0) (fun r18=>X1 s12.2 1 (fun r10=>X2 a0.degrees r18 r10 (fun r11=>X6 (Zwe.wrap (0 - (Zwe.wrap (((a1.terms.getD s11.2.toNat Zt0).factor) * (Zwe.wrap (((a1.terms.getD s11.2.toNat Zt0).mono).get s10.2.toNat)))))) (fun r19=>Jy (⟨s10.1⟩:ZFd) r11 r19 (fun r12=>nx11 (r12.terms,Zwe.wrap (s10.2+1))))))))) else((0≤s10.2∧s10.2 < (a0.images.length:Int))∧X1 (s12.1.set s10.2.toNat (ZFl.wrap ((((a1.terms.getD s11.2.toNat Zt0).mono).get s10.2.toNat) - 1))) 1 (fun r17=>X2 a0.degrees r17 (a0.images.getD s10.2.toNat Zt0) (fun r20=>X1 s12.2 1 (fun r13=>X2 a0.degrees r20 r13 (fun r14=>X6 (Zwe.wrap (((a1.terms.getD s11.2.toNat Zt0).factor) * (Zwe.wrap (((a1.terms.getD s11.2.toNat Zt0).mono).get s10.2.toNat)))) (fun r21=>Jy (⟨s10.1⟩:ZFd) r14 r21 (fun r15=>nx11 (r15.terms,Zwe.wrap (s10.2+1)))))))))))))))) 8 0 ((a1.terms.getD s11.2.toNat Zt0).mono,(a1.terms.getD s11.2.toNat Zt0).mono))) ?_ ?_
      ·clear hC h
       rintro e_ w19 ⟨b14,b15,hS_,hC,h⟩
       rw [ue hS_]
       refine Zd (ZE9 (sr (Zc (v:=vI 0) rfl (dn (ZFf ?_)))))
       refine Yp (S:=A8×A8) _ _ (fun i10 s12 e_ w_=>Z2 e_ [(2,vQ b7),(3,vQ b10),(4,vQ b11),(5,vQ b12),(6,vI s11.2),(7,vQ b13),(8,vI s10.2),(9,vQ b15),(10,vQ b14),(11,vI (i10:Int))]∧Ctx Nox w0 w_ [blk b14 88 (ZE7 .u8 s12.2),blk b15 88 (ZE7 .u8 s12.1),own 90 9 v10 s10.1.length (ZFa.encs s10.1),blk b13 88 (ZE7 .u8 ((a1.terms.getD s11.2.toNat Zt0).mono)),blk b12 55 [v10],blk b11 55 [.slice none 0 0],blk b10 55 [u1_0],blk b7 32 [u0_0,u0_1]] [ZBl ZFa.ty.sl a1.terms [u1_0] fp1,ZBl ZFv.sl a0.images [u0_1] fp0,ZBl TInts a0.degrees [u0_0] fp0,ZBl TAlg a0 [u0_0,u0_1] fp0,ZBl TForm a1 [u1_0] fp1]) 8 ?_ ?_ (s0:=((a1.terms.getD s11.2.toNat Zt0).mono,(a1.terms.getD s11.2.toNat Zt0).mono)) ?_ h
       ·clear hC h
        rintro i10 s12 e_ w20 nx10 K10 hi10 ⟨hS_,hC⟩ h hK10
        rw [ue hS_]
        refine ZE9 (sr (Zb (v:=vI (i10:Int)) rfl (Zo rfl rfl (dn (Z8 rfl (decide_eq_true (by omega)) (ZFc (Zd (ZE9 (ZFf (ZE9 (sr (Zb (v:=vI (i10:Int)) rfl (Zb (v:=vI s10.2) rfl (Zbh rfl rfl (dn ?_)))))))))))))))
        refine Zq rfl (fun hb13=>?_) (fun hb13=>?_)
        ·replace h:=ift h (ct hb13)
         refine Zn (Zb (v:=vI (i10:Int)) rfl (Xc i10 ZFr sc5.size rfl rfl (ZFq _) (by omega) (by omega) (Zu (v:=.int .u8 0) hC 1 [.int .u8 0] (ZE7 .u8 (s12.1.set i10 0)) rfl sc5.size rfl rfl rfl rfl rfl hi10 (ZF3 _ _ _ hi10) fun w21 hC=>dn (sr (Zb (v:=vI (i10:Int)) rfl (Zb (v:=vI s10.2) rfl (Zb3 rfl rfl (dn ?_))))))))
         refine Zq rfl (fun hb14=>?_) (fun hb14=>?_)
         ·replace h:=ift h (ct hb14)
          refine Zn (Zb (v:=vI (i10:Int)) rfl (Xc i10 ZFr sc5.size rfl rfl (ZFq _) (by omega) (by omega) (Zu (v:=.int .u8 0) hC 0 [.int .u8 0] (ZE7 .u8 (s12.2.set i10 0)) rfl sc5.size rfl rfl rfl rfl rfl hi10 (ZF3 _ _ _ hi10) fun w22 hC=>done (Zt (Zd (Zn (Zb (v:=vI (i10:Int)) rfl (Zr rfl rfl (Zc (v:=vI (Zwe.wrap ((i10:Int)+1))) rfl (done ?_))))))))))
          exact hK10 (s12.1.set i10 0,s12.2.set i10 0) _ _ ⟨(sl ⟨rfl,rfl,rfl,rfl,rfl,rfl,rfl,rfl,rfl,(tr rfl (congrArg _ (Z9 hi10 (by decide)))),trivial⟩),hC⟩ h
         ·replace h:=Zl h (cf hb14)
          refine ZFc (Zt (Zd (Zn (Zb (v:=vI (i10:Int)) rfl (Zr rfl rfl (Zc (v:=vI (Zwe.wrap ((i10:Int)+1))) rfl (done ?_)))))))
          exact hK10 (s12.1.set i10 0,s12.2) _ _ ⟨(sl ⟨rfl,rfl,rfl,rfl,rfl,rfl,rfl,rfl,rfl,(tr rfl (congrArg _ (Z9 hi10 (by decide)))),trivial⟩),hC⟩ h
        ·replace h:=Zl h (cf hb13)
         refine ZFc (Zd (sr (Zb (v:=vI (i10:Int)) rfl (Zb (v:=vI s10.2) rfl (Zb3 rfl rfl (dn ?_))))))
         refine Zq rfl (fun hb15=>?_) (fun hb15=>?_)
         ·replace h:=ift h (ct hb15)
          refine Zn (Zb (v:=vI (i10:Int)) rfl (Xc i10 ZFr sc5.size rfl rfl (ZFq _) (by omega) (by omega) (Zu (v:=.int .u8 0) hC 0 [.int .u8 0] (ZE7 .u8 (s12.2.set i10 0)) rfl sc5.size rfl rfl rfl rfl rfl hi10 (ZF3 _ _ _ hi10) fun w23 hC=>done (Zt (Zd (Zn (Zb (v:=vI (i10:Int)) rfl (Zr rfl rfl (Zc (v:=vI (Zwe.wrap ((i10:Int)+1))) rfl (done ?_))))))))))
          exact hK10 (s12.1,s12.2.set i10 0) _ _ ⟨(sl ⟨rfl,rfl,rfl,rfl,rfl,rfl,rfl,rfl,rfl,(tr rfl (congrArg _ (Z9 hi10 (by decide)))),trivial⟩),hC⟩ h
         ·replace h:=Zl h (cf hb15)
          refine ZFc (Zt (Zd (Zn (Zb (v:=vI (i10:Int)) rfl (Zr rfl rfl (Zc (v:=vI (Zwe.wrap ((i10:Int)+1))) rfl (done ?_)))))))
          exact hK10 (s12.1,s12.2) _ _ ⟨(sl ⟨rfl,rfl,rfl,rfl,rfl,rfl,rfl,rfl,rfl,(tr rfl (congrArg _ (Z9 hi10 (by decide)))),trivial⟩),hC⟩ h
       ·clear hC h
        rintro s12 e_ w24 K10 ⟨hS_,hC⟩ h
        rw [ue hS_]
        refine ZE9 (sr (Zb (v:=vI 8) rfl (Zo rfl rfl (dn (Ya rfl (decide_eq_false (by omega)) ?_)))))
        refine ZFn (Zm (Zm (Z5 ?_)))
        refine Zd (sr (Yd hC 1 (ZE7 .u8 s12.1) rfl ag88 rfl rfl rfl (Yb hC (ZE7 .u8 ZFe) z88 rfl fun b28 w25 hB_ hC=>Zu (v:=.agg (ZE8 (ZE7 .u8 s12.1))) hC 0 (ZE7 .u8 s12.1) (ZE7 .u8 s12.1) rfl ag88.size rfl rfl rfl rfl rfl (ZFi rfl) rfl fun w26 hC=>dn (sr (Zb (v:=vI s10.2) rfl (Zb (v:=vI s10.2) rfl ?_))))))
        obtain ⟨⟨h14,h15⟩,h⟩:=h
        refine Xc s10.2.toNat ZFr sc5.size rfl rfl h14 h15 (by omega) (Z6 hC 4 (.int .u8 (((a1.terms.getD s11.2.toNat Zt0).mono).get s10.2.toNat)) rfl sc5 rfl (ZFm _ _ (show s10.2.toNat < 8 by omega)) (Zb2 rfl rfl ?_))
        obtain ⟨⟨h16,h17⟩,h⟩:=h
        refine Xc s10.2.toNat ZFr sc5.size rfl rfl h16 h17 (by omega) (Zu (v:=.int .u8 (ZFl.wrap ((((a1.terms.getD s11.2.toNat Zt0).mono).get s10.2.toNat) - 1))) hC 0 [.int .u8 (ZFl.wrap ((((a1.terms.getD s11.2.toNat Zt0).mono).get s10.2.toNat) - 1))] (ZE7 .u8 (s12.1.set s10.2.toNat (ZFl.wrap ((((a1.terms.getD s11.2.toNat Zt0).mono).get s10.2.toNat) - 1)))) rfl sc5.size rfl rfl rfl rfl rfl (show s10.2.toNat < 8 by omega) (ZF3 _ _ _ (show s10.2.toNat < 8 by omega)) fun w27 hC=>dn (ZE9 ?_))
        refine cwd 10 mixed [0,1,0,7,15,31,0,64,192,448,1023,2047] [1,3,5,7,8] [0,2,4,6,9] (fun hM10 hM11 w28 hB_=>?_)
        replace hC:=hC.grow hB_
        refine bF 0 (vQ b10) rfl rfl hM11 (fun _=>by exact Ye 0 ZFg rfl sc53.size rfl rfl) (Za 12 1) (bL 1 (u1_0) rfl rfl hM10 (fun _ hB_=>by exact Yc (hC.grow hB_) 7 (u1_0) rfl sc53 rfl rfl) (Za 12 3) (bM 2 (vI s11.2) rfl hM11 (Za 12 7) ?_))
        obtain ⟨⟨h18,h19⟩,h⟩:=h
        obtain ⟨Ad10,c11,hv11⟩:=Z3 (hC.getP 0 rfl) s11.2.toNat (show s11.2.toNat < a1.terms.length by omega)
        refine bL 3 (.pointer (some (Ad10.add (s11.2.toNat * 9)))) rfl rfl hM10 (fun _ hB_=>by exact Yy (len:=a1.terms.length) ZFj ag90.size (by exact tr rfl hv11) rfl h18 h19) (Za 12 15) (bF 4 (.pointer (some (Ad10.add (s11.2.toNat * 9+8)))) rfl rfl hM11 (fun _=>by exact J1 (s11.2.toNat * 9+8) ZFp rfl sc2.size rfl rfl) (Za 12 31) (bL 5 (vI ((a1.terms.getD s11.2.toNat Zt0).factor)) rfl rfl hM10 (fun _ hB_=>by exact J7 (vI ((a1.terms.getD s11.2.toNat Zt0).factor)) (Xo (o:=8) (k:=1) (Yj ((hC.grow hB_).getP 0 rfl) hv11 s11.2.toNat (show s11.2.toNat < a1.terms.length by omega)) rfl) sc2 rfl) (Za 12 63) (bM 6 (vI s10.2) rfl hM11 (Za 12 127) ?_)))
        obtain ⟨⟨h20,h21⟩,h⟩:=h
        refine bL 7 (.pointer (some ⟨b13,s10.2.toNat,none⟩)) rfl rfl hM10 (fun _ hB_=>by exact Jb s10.2.toNat ZFr sc5.size rfl rfl h20 h21 (by omega)) (Za 12 255) (bL 8 (.int .u8 (((a1.terms.getD s11.2.toNat Zt0).mono).get s10.2.toNat)) rfl rfl hM10 (fun _ hB_=>by exact Yc (hC.grow hB_) 4 (.int .u8 (((a1.terms.getD s11.2.toNat Zt0).mono).get s10.2.toNat)) rfl sc5 rfl (ZFm _ _ (show s10.2.toNat < 8 by omega))) (Za 12 511) (bF 9 (vI (Zwe.wrap (((a1.terms.getD s11.2.toNat Zt0).mono).get s10.2.toNat))) rfl rfl hM11 (fun _=>by exact Zjv ZGb ZGf rfl) (Za 12 1023) (Z0 10 (by decide) (by decide) (by kernel_rfl) (by kernel_rfl) rfl (Zbg rfl rfl (Zc (v:=vI (Zwe.wrap (((a1.terms.getD s11.2.toNat Zt0).factor) * (Zwe.wrap (((a1.terms.getD s11.2.toNat Zt0).mono).get s10.2.toNat))))) rfl (done (Z1 (Zd (ZE9 (sr (Zz 0 ZFt rfl sc22.size rfl rfl (Z6 hC 8 (u0_0) rfl sc22 rfl rfl (Yd hC 2 (ZE7 .u8 s12.1) rfl ag88 rfl rfl rfl (Zf [u0_0,.agg (ZE8 (ZE7 .u8 s12.1))] _ ZGe rfl rfl rfl (Ziq a0.degrees s12.1 h _ (hC.getP 2 rfl)) ?_))))))))))))))
        rintro _ w29 ⟨r24,rfl,h,hB10⟩
        refine rt ?_
        replace hC:=hC.grow hB10
        refine Jj rfl rfl (by decide) (Y7 rfl rfl (dn ?_))
        refine Zq rfl (fun hb16=>?_) (fun hb16=>?_)
        ·replace h:=ift h (ct hb16)
         refine Zn (Zb (v:=vI (Zwe.wrap (((a1.terms.getD s11.2.toNat Zt0).factor) * (Zwe.wrap (((a1.terms.getD s11.2.toNat Zt0).mono).get s10.2.toNat))))) rfl (Zfy rfl (Zc (v:=vI (Zwe.wrap (0 - (Zwe.wrap (((a1.terms.getD s11.2.toNat Zt0).factor) * (Zwe.wrap (((a1.terms.getD s11.2.toNat Zt0).mono).get s10.2.toNat))))))) rfl (dn (ZE9 ?_)))))
         refine cwd 11 mixed [0,1,0,4,0,16,0,112,240,511,0,2047] [1,2,5,7,8] [0,4,6] (fun hM12 hM16 w30 hB_=>?_)
         replace hC:=hC.grow hB_
         refine bF 0 (vQ b7) rfl rfl hM16 (fun _=>by exact Ye 0 ZFt rfl sc22.size rfl rfl) (Za 12 1) (bL 1 (u0_0) rfl rfl hM12 (fun _ hB_=>by exact Yc (hC.grow hB_) 8 (u0_0) rfl sc22 rfl rfl) (Za 12 3) (bL 2 (.agg (ZE8 (ZE7 .u8 (s12.1.set s10.2.toNat (ZFl.wrap ((((a1.terms.getD s11.2.toNat Zt0).mono).get s10.2.toNat) - 1)))))) rfl rfl hM12 (fun _ hB_=>by exact Yo (hC.grow hB_) 0 (ZE7 .u8 (s12.1.set s10.2.toNat (ZFl.wrap ((((a1.terms.getD s11.2.toNat Zt0).mono).get s10.2.toNat) - 1)))) rfl ag88 rfl rfl rfl) (Za 12 7) (bF 4 (.pointer (some ⟨b7,1,none⟩)) rfl rfl hM16 (fun _=>by exact Ye 1 ZFt rfl sc28.size rfl rfl) (Za 12 23) (bL 5 (u0_1) rfl rfl hM12 (fun _ hB_=>by exact Yc (hC.grow hB_) 8 (u0_1) rfl sc28 rfl rfl) (Za 12 55) (bM 6 (vI s10.2) rfl hM16 (Za 12 119) ?_)))))
         obtain ⟨⟨h22,h23⟩,h⟩:=h
         obtain ⟨Ad11,c12,hv12⟩:=Z3 (hC.getP 1 rfl) s10.2.toNat (show s10.2.toNat < a0.images.length by omega)
         refine bL 7 (.pointer (some (Ad11.add (s10.2.toNat * 1)))) rfl rfl hM12 (fun _ hB_=>by exact Yy (len:=a0.images.length) ZFx ag55.size (by exact tr rfl hv12) rfl h22 h23) (Za 12 247) ?_
         obtain ⟨cs_,hl10,hc10,hr10⟩:=Xh (hC.getP 1 rfl) hv12 s10.2.toNat (show s10.2.toNat < a0.images.length by omega)
         obtain ⟨u10,rfl⟩:=ZF7.1 hl10
         clear hl10
         rw [Xf _ _ (show s10.2.toNat < a0.images.length by omega)] at hr10
         have hp10:=hr10
         replace hC:=hC.derive 1 rfl (ZBl ZFa.ty.sl ((a0.images.getD s10.2.toNat Zt0).terms) [u10] fp0) (fun _=>(Yn hp10)) (fun _ hb_=>hb_)
         refine bL 8 (.agg #[u10]) rfl rfl hM12 (fun _ hB_=>by exact Xl [u10] (J9 hB_ hc10) ag55 rfl rfl) (Za 12 503) ?_
         refine Zeg (fun e_ w_=>∃ (b16:Nat),∃ (u12:Value),∃ (r22:ZFd),Z2 e_ [(2,vQ b7),(3,vQ b10),(4,vQ b11),(5,vQ b12),(6,vI s11.2),(7,vQ b13),(8,vI s10.2),(10,vQ b14),(13,vI (Zwe.wrap (0 - (Zwe.wrap (((a1.terms.getD s11.2.toNat Zt0).factor) * (Zwe.wrap (((a1.terms.getD s11.2.toNat Zt0).mono).get s10.2.toNat))))))),(14,vQ b16)]∧Ctx Nox w0 w_ [blk b16 55 [u12],own 90 9 u12 r22.terms.length (ZFa.encs r22.terms),blk b14 88 (ZE7 .u8 s12.2),own 90 9 v10 s10.1.length (ZFa.encs s10.1),blk b13 88 (ZE7 .u8 ((a1.terms.getD s11.2.toNat Zt0).mono)),blk b12 55 [v10],blk b11 55 [.slice none 0 0],blk b10 55 [u1_0],blk b7 32 [u0_0,u0_1]] [ZBl ZFa.ty.sl ((a0.images.getD s10.2.toNat Zt0).terms) [u10] fp0,ZBl ZFa.ty.sl a1.terms [u1_0] fp1,ZBl ZFv.sl a0.images [u0_1] fp0,ZBl TInts a0.degrees [u0_0] fp0,ZBl TAlg a0 [u0_0,u0_1] fp0,ZBl TForm a1 [u1_0] fp1]∧(X1 s12.2 1 (fun r10=>X2 a0.degrees r22 r10 (fun r11=>X6 (Zwe.wrap (0 - (Zwe.wrap (((a1.terms.getD s11.2.toNat Zt0).factor) * (Zwe.wrap (((a1.terms.getD s11.2.toNat Zt0).mono).get s10.2.toNat)))))) (fun r19=>Jy (⟨s10.1⟩:ZFd) r11 r19 (fun r12=>nx11 (r12.terms,Zwe.wrap (s10.2+1)))))))) ?_ ?_
         ·clear hC h
          rintro e_ w31 ⟨b16,u12,r22,hS_,hC,h⟩
          rw [ue hS_]
          refine Zd ?_
          refine cwd 9 mixed [0,0,2,0,0,16,62,0,254,511,1023] [0,2,3,4] [1,7] (fun hM14 hM19 w32 hB_=>?_)
          replace hC:=hC.grow hB_
          refine bL 0 (.agg #[v10]) rfl rfl hM14 (fun _ hB_=>by exact Yo (hC.grow hB_) 5 [v10] rfl ag55 rfl rfl rfl) (Za 11 1) (bF 1 (vQ b7) rfl rfl hM19 (fun _=>by exact Ye 0 ZFt rfl sc22.size rfl rfl) (Za 11 3) (bL 2 (u0_0) rfl rfl hM14 (fun _ hB_=>by exact Yc (hC.grow hB_) 8 (u0_0) rfl sc22 rfl rfl) (Za 11 7) (bL 3 (.agg #[u12]) rfl rfl hM14 (fun _ hB_=>by exact Yo (hC.grow hB_) 0 [u12] rfl ag55 rfl rfl rfl) (Za 11 15) (bL 4 (.agg (ZE8 (ZE7 .u8 s12.2))) rfl rfl hM14 (fun _ hB_=>by exact Yo (hC.grow hB_) 2 (ZE7 .u8 s12.2) rfl ag88 rfl rfl rfl) (Za 11 31) (bM 7 (vI (Zwe.wrap (0 - (Zwe.wrap (((a1.terms.getD s11.2.toNat Zt0).factor) * (Zwe.wrap (((a1.terms.getD s11.2.toNat Zt0).mono).get s10.2.toNat))))))) rfl hM19 (Za 11 159) (aO 5 rfl (Zf [.agg (ZE8 (ZE7 .u8 s12.2)),vI 1] _ ZF2 rfl rfl rfl (Zbn s12.2 1 h _) ?_)))))))
          rintro _ w33 ⟨r10,u24,f10,rfl,h,hr12,hf10,hB11⟩
          refine rt ?_
          replace hC:=hC.push hB11 (ZFo (Zj 90) r10 [u24] f10) hr12 hf10
          obtain ⟨ho10,hf11⟩:=Xb (hC.getM 0 rfl)
          subst hf11
          replace hC:=hC.recast (c:=own 90 9 u24 r10.terms.length (ZFa.encs r10.terms)) (fun _ h_=>h_) (fun _=>ho10)
          refine done (aK (by assumption) (Za 11 191) (aO 6 rfl (Zf [u0_0,.agg #[u12],.agg #[u24]] _ ZF1 rfl rfl rfl (Zav a0.degrees r22 r10 h _ (hC.getP 3 rfl) (Yh (Yv (hC.getM 2 rfl))) (Yh (Yv (hC.getM 0 rfl)))) ?_)))
          rintro _ w34 ⟨r11,u25,f11,rfl,h,hr13,hf12,hB12⟩
          refine rt ?_
          replace hC:=hC.push hB12 (ZFo (Zj 90) r11 [u25] f11) hr13 hf12
          obtain ⟨ho11,hf13⟩:=Xb (hC.getM 0 rfl)
          subst hf13
          replace hC:=hC.recast (c:=own 90 9 u25 r11.terms.length (ZFa.encs r11.terms)) (fun _ h_=>h_) (fun _=>ho11)
          refine done (aK (by assumption) (Za 11 255) (aO 8 rfl (Zf [vI (Zwe.wrap (0 - (Zwe.wrap (((a1.terms.getD s11.2.toNat Zt0).factor) * (Zwe.wrap (((a1.terms.getD s11.2.toNat Zt0).mono).get s10.2.toNat))))))] _ ZF0 rfl rfl rfl (Zbm (Zwe.wrap (0 - (Zwe.wrap (((a1.terms.getD s11.2.toNat Zt0).factor) * (Zwe.wrap (((a1.terms.getD s11.2.toNat Zt0).mono).get s10.2.toNat)))))) h _) ?_)))
          rintro _ w35 ⟨r19,rfl,h,hB13⟩
          refine rt ?_
          replace hC:=hC.grow hB13
          refine done (aK (by assumption) (Za 11 511) (Z0 9 (by decide) (by decide) (by kernel_rfl) (by kernel_rfl) rfl (Zf [.agg #[v10],.agg #[u25],vI r19] _ ZGd rfl rfl rfl (Zer (⟨s10.1⟩:ZFd) r11 r19 h _ (Yh (Yv (hC.getM 5 rfl))) (Yh (Yv (hC.getM 0 rfl)))) ?_)))
          rintro _ w36 ⟨r12,u13,f12,rfl,h,hr14,hf14,hB14⟩
          refine rt ?_
          replace hC:=hC.push hB14 (ZFo (Zj 90) r12 [u13] f12) hr14 hf14
          obtain ⟨ho12,hf15⟩:=Xb (hC.getM 0 rfl)
          subst hf15
          replace hC:=hC.recast (c:=own 90 9 u13 r12.terms.length (ZFa.encs r12.terms)) (fun _ h_=>h_) (fun _=>ho12)
          refine Zu (v:=.agg #[u13]) hC 8 [u13] [u13] rfl ag55.size rfl rfl rfl rfl (Ym (Y8 (hC.getM 0 rfl)) rfl) (ZFi rfl) rfl fun w37 hC=>done (Z1 (Zt (Zd (Zn (Zb (v:=vI s10.2) rfl (Zr rfl rfl (Zc (v:=vI (Zwe.wrap (s10.2+1))) rfl (done ?_))))))))
          exact hK11 (r12.terms,Zwe.wrap (s10.2+1)) _ _ ⟨u13,(slq rfl),((hC.xM [0,7,8,9,10,11] rfl).sP [1,2,3,4,5] rfl)⟩ h
         refine Jv 3 10 rfl rfl (by kernel_rfl) ?_ ?_
         ·skip
          refine Zf [.agg (ZE8 (ZE7 .u8 (s12.1.set s10.2.toNat (ZFl.wrap ((((a1.terms.getD s11.2.toNat Zt0).mono).get s10.2.toNat) - 1))))),vI 1] _ ZF2 rfl rfl rfl (Zbn (s12.1.set s10.2.toNat (ZFl.wrap ((((a1.terms.getD s11.2.toNat Zt0).mono).get s10.2.toNat) - 1))) 1 h _) ?_
          rintro _ w38 ⟨r16,u22,f13,rfl,h,hr15,hf16,hB15⟩
          refine rt ?_
          replace hC:=hC.push hB15 (ZFo (Zj 90) r16 [u22] f13) hr15 hf16
          obtain ⟨ho13,hf17⟩:=Xb (hC.getM 0 rfl)
          subst hf17
          replace hC:=hC.recast (c:=own 90 9 u22 r16.terms.length (ZFa.encs r16.terms)) (fun _ h_=>h_) (fun _=>ho13)
          refine done (aK (by assumption) (Za 12 511) ?_)
          refine Jv 9 10 rfl rfl (by kernel_rfl) ?_ ?_
          ·skip
           refine Zf [u0_0,.agg #[u22],.agg #[u10]] _ ZF1 rfl rfl rfl (Zav a0.degrees r16 (a0.images.getD s10.2.toNat Zt0) h _ (hC.getP 3 rfl) (Yh (Yv (hC.getM 0 rfl))) (Yh (hC.getP 0 rfl))) ?_
           rintro _ w39 ⟨r18,u14,f14,rfl,h,hr16,hf18,hB16⟩
           refine rt ?_
           replace hC:=hC.push hB16 (ZFo (Zj 90) r18 [u14] f14) hr16 hf18
           obtain ⟨ho14,hf19⟩:=Xb (hC.getM 0 rfl)
           subst hf19
           replace hC:=hC.recast (c:=own 90 9 u14 r18.terms.length (ZFa.encs r18.terms)) (fun _ h_=>h_) (fun _=>ho14)
           refine done (aK (by assumption) (Za 12 1023) (aO 10 rfl (Yb hC [.slice none 0 0] z55 rfl fun b18 w40 hB_ hC=>done (aK (by assumption) (Za 12 2047) (Z0 11 (by decide) (by decide) (by kernel_rfl) (by kernel_rfl) rfl (Zu (v:=.agg #[u14]) hC 0 [u14] [u14] rfl ag55.size rfl rfl rfl rfl (Ym (Y8 (hC.getM 1 rfl)) rfl) (ZFi rfl) rfl fun w41 hC=>done (Z1 ?_)))))))
           exact⟨rfl,_,rfl,⟨b18,u14,r18,(slq rfl),(hC.xM [0,1,4,6,7,8,9,10,11] rfl),h⟩⟩
          ·skip
           refine Yb hC [.slice none 0 0] z55 rfl fun b19 w42 hB_ hC=>done (aK (by assumption) (Za 12 1535) (aO 9 rfl (Zf [u0_0,.agg #[u22],.agg #[u10]] _ ZF1 rfl rfl rfl (Zav a0.degrees r16 (a0.images.getD s10.2.toNat Zt0) h _ (hC.getP 3 rfl) (Yh (Yv (hC.getM 1 rfl))) (Yh (hC.getP 0 rfl))) ?_)))
           rintro _ w43 ⟨r25,u15,f15,rfl,h,hr17,hf20,hB17⟩
           refine rt ?_
           replace hC:=hC.push hB17 (ZFo (Zj 90) r25 [u15] f15) hr17 hf20
           obtain ⟨ho15,hf21⟩:=Xb (hC.getM 0 rfl)
           subst hf21
           replace hC:=hC.recast (c:=own 90 9 u15 r25.terms.length (ZFa.encs r25.terms)) (fun _ h_=>h_) (fun _=>ho15)
           refine done (aK (by assumption) (Za 12 2047) (Z0 11 (by decide) (by decide) (by kernel_rfl) (by kernel_rfl) rfl (Zu (v:=.agg #[u15]) hC 1 [u15] [u15] rfl ag55.size rfl rfl rfl rfl (Ym (Y8 (hC.getM 0 rfl)) rfl) (ZFi rfl) rfl fun w44 hC=>done (Z1 ?_))))
           exact⟨rfl,_,rfl,⟨b19,u15,r25,(slq rfl),(hC.xM [1,0,4,6,7,8,9,10,11] rfl),h⟩⟩
         ·skip
          refine Yb hC [.slice none 0 0] z55 rfl fun b20 w45 hB_ hC=>done (aK (by assumption) (Za 12 1527) (aO 3 rfl (Zf [.agg (ZE8 (ZE7 .u8 (s12.1.set s10.2.toNat (ZFl.wrap ((((a1.terms.getD s11.2.toNat Zt0).mono).get s10.2.toNat) - 1))))),vI 1] _ ZF2 rfl rfl rfl (Zbn (s12.1.set s10.2.toNat (ZFl.wrap ((((a1.terms.getD s11.2.toNat Zt0).mono).get s10.2.toNat) - 1))) 1 h _) ?_)))
          rintro _ w46 ⟨r26,u26,f16,rfl,h,hr18,hf22,hB18⟩
          refine rt ?_
          replace hC:=hC.push hB18 (ZFo (Zj 90) r26 [u26] f16) hr18 hf22
          obtain ⟨ho16,hf23⟩:=Xb (hC.getM 0 rfl)
          subst hf23
          replace hC:=hC.recast (c:=own 90 9 u26 r26.terms.length (ZFa.encs r26.terms)) (fun _ h_=>h_) (fun _=>ho16)
          refine done (aK (by assumption) (Za 12 1535) (aO 9 rfl (Zf [u0_0,.agg #[u26],.agg #[u10]] _ ZF1 rfl rfl rfl (Zav a0.degrees r26 (a0.images.getD s10.2.toNat Zt0) h _ (hC.getP 3 rfl) (Yh (Yv (hC.getM 0 rfl))) (Yh (hC.getP 0 rfl))) ?_)))
          rintro _ w47 ⟨r27,u16,f17,rfl,h,hr19,hf24,hB19⟩
          refine rt ?_
          replace hC:=hC.push hB19 (ZFo (Zj 90) r27 [u16] f17) hr19 hf24
          obtain ⟨ho17,hf25⟩:=Xb (hC.getM 0 rfl)
          subst hf25
          replace hC:=hC.recast (c:=own 90 9 u16 r27.terms.length (ZFa.encs r27.terms)) (fun _ h_=>h_) (fun _=>ho17)
          refine done (aK (by assumption) (Za 12 2047) (Z0 11 (by decide) (by decide) (by kernel_rfl) (by kernel_rfl) rfl (Zu (v:=.agg #[u16]) hC 2 [u16] [u16] rfl ag55.size rfl rfl rfl rfl (Ym (Y8 (hC.getM 0 rfl)) rfl) (ZFi rfl) rfl fun w48 hC=>done (Z1 ?_))))
          exact⟨rfl,_,rfl,⟨b20,u16,r27,(slq rfl),(hC.xM [2,0,4,6,7,8,9,10,11] rfl),h⟩⟩
        ·replace h:=Zl h (cf hb16)
         refine ZFc (Zd (ZE9 ?_))
         refine cwd 11 mixed [0,1,0,4,0,16,0,112,240,511,0,2047] [1,2,5,7,8] [0,4,6] (fun hM13 hM17 w49 hB_=>?_)
         replace hC:=hC.grow hB_
         refine bF 0 (vQ b7) rfl rfl hM17 (fun _=>by exact Ye 0 ZFt rfl sc22.size rfl rfl) (Za 12 1) (bL 1 (u0_0) rfl rfl hM13 (fun _ hB_=>by exact Yc (hC.grow hB_) 8 (u0_0) rfl sc22 rfl rfl) (Za 12 3) (bL 2 (.agg (ZE8 (ZE7 .u8 (s12.1.set s10.2.toNat (ZFl.wrap ((((a1.terms.getD s11.2.toNat Zt0).mono).get s10.2.toNat) - 1)))))) rfl rfl hM13 (fun _ hB_=>by exact Yo (hC.grow hB_) 0 (ZE7 .u8 (s12.1.set s10.2.toNat (ZFl.wrap ((((a1.terms.getD s11.2.toNat Zt0).mono).get s10.2.toNat) - 1)))) rfl ag88 rfl rfl rfl) (Za 12 7) (bF 4 (.pointer (some ⟨b7,1,none⟩)) rfl rfl hM17 (fun _=>by exact Ye 1 ZFt rfl sc28.size rfl rfl) (Za 12 23) (bL 5 (u0_1) rfl rfl hM13 (fun _ hB_=>by exact Yc (hC.grow hB_) 8 (u0_1) rfl sc28 rfl rfl) (Za 12 55) (bM 6 (vI s10.2) rfl hM17 (Za 12 119) ?_)))))
         obtain ⟨⟨h24,h25⟩,h⟩:=h
         obtain ⟨Ad12,c13,hv13⟩:=Z3 (hC.getP 1 rfl) s10.2.toNat (show s10.2.toNat < a0.images.length by omega)
         refine bL 7 (.pointer (some (Ad12.add (s10.2.toNat * 1)))) rfl rfl hM13 (fun _ hB_=>by exact Yy (len:=a0.images.length) ZFx ag55.size (by exact tr rfl hv13) rfl h24 h25) (Za 12 247) ?_
         obtain ⟨cs_,hl11,hc11,hr11⟩:=Xh (hC.getP 1 rfl) hv13 s10.2.toNat (show s10.2.toNat < a0.images.length by omega)
         obtain ⟨u11,rfl⟩:=ZF7.1 hl11
         clear hl11
         rw [Xf _ _ (show s10.2.toNat < a0.images.length by omega)] at hr11
         have hp11:=hr11
         replace hC:=hC.derive 1 rfl (ZBl ZFa.ty.sl ((a0.images.getD s10.2.toNat Zt0).terms) [u11] fp0) (fun _=>(Yn hp11)) (fun _ hb_=>hb_)
         refine bL 8 (.agg #[u11]) rfl rfl hM13 (fun _ hB_=>by exact Xl [u11] (J9 hB_ hc11) ag55 rfl rfl) (Za 12 503) ?_
         refine Zeg (fun e_ w_=>∃ (b17:Nat),∃ (u17:Value),∃ (r23:ZFd),Z2 e_ [(2,vQ b7),(3,vQ b10),(4,vQ b11),(5,vQ b12),(6,vI s11.2),(7,vQ b13),(8,vI s10.2),(10,vQ b14),(13,vI (Zwe.wrap (((a1.terms.getD s11.2.toNat Zt0).factor) * (Zwe.wrap (((a1.terms.getD s11.2.toNat Zt0).mono).get s10.2.toNat))))),(14,vQ b17)]∧Ctx Nox w0 w_ [blk b17 55 [u17],own 90 9 u17 r23.terms.length (ZFa.encs r23.terms),blk b14 88 (ZE7 .u8 s12.2),own 90 9 v10 s10.1.length (ZFa.encs s10.1),blk b13 88 (ZE7 .u8 ((a1.terms.getD s11.2.toNat Zt0).mono)),blk b12 55 [v10],blk b11 55 [.slice none 0 0],blk b10 55 [u1_0],blk b7 32 [u0_0,u0_1]] [ZBl ZFa.ty.sl ((a0.images.getD s10.2.toNat Zt0).terms) [u11] fp0,ZBl ZFa.ty.sl a1.terms [u1_0] fp1,ZBl ZFv.sl a0.images [u0_1] fp0,ZBl TInts a0.degrees [u0_0] fp0,ZBl TAlg a0 [u0_0,u0_1] fp0,ZBl TForm a1 [u1_0] fp1]∧(X1 s12.2 1 (fun r13=>X2 a0.degrees r23 r13 (fun r14=>X6 (Zwe.wrap (((a1.terms.getD s11.2.toNat Zt0).factor) * (Zwe.wrap (((a1.terms.getD s11.2.toNat Zt0).mono).get s10.2.toNat)))) (fun r21=>Jy (⟨s10.1⟩:ZFd) r14 r21 (fun r15=>nx11 (r15.terms,Zwe.wrap (s10.2+1)))))))) ?_ ?_
         ·clear hC h
          rintro e_ w50 ⟨b17,u17,r23,hS_,hC,h⟩
          rw [ue hS_]
          refine Zd ?_
          refine cwd 9 mixed [0,0,2,0,0,16,62,0,254,511,1023] [0,2,3,4] [1,7] (fun hM15 hM20 w51 hB_=>?_)
          replace hC:=hC.grow hB_
          refine bL 0 (.agg #[v10]) rfl rfl hM15 (fun _ hB_=>by exact Yo (hC.grow hB_) 5 [v10] rfl ag55 rfl rfl rfl) (Za 11 1) (bF 1 (vQ b7) rfl rfl hM20 (fun _=>by exact Ye 0 ZFt rfl sc22.size rfl rfl) (Za 11 3) (bL 2 (u0_0) rfl rfl hM15 (fun _ hB_=>by exact Yc (hC.grow hB_) 8 (u0_0) rfl sc22 rfl rfl) (Za 11 7) (bL 3 (.agg #[u17]) rfl rfl hM15 (fun _ hB_=>by exact Yo (hC.grow hB_) 0 [u17] rfl ag55 rfl rfl rfl) (Za 11 15) (bL 4 (.agg (ZE8 (ZE7 .u8 s12.2))) rfl rfl hM15 (fun _ hB_=>by exact Yo (hC.grow hB_) 2 (ZE7 .u8 s12.2) rfl ag88 rfl rfl rfl) (Za 11 31) (bM 7 (vI (Zwe.wrap (((a1.terms.getD s11.2.toNat Zt0).factor) * (Zwe.wrap (((a1.terms.getD s11.2.toNat Zt0).mono).get s10.2.toNat))))) rfl hM20 (Za 11 159) (aO 5 rfl (Zf [.agg (ZE8 (ZE7 .u8 s12.2)),vI 1] _ ZF2 rfl rfl rfl (Zbn s12.2 1 h _) ?_)))))))
          rintro _ w52 ⟨r13,u27,f18,rfl,h,hr20,hf26,hB20⟩
          refine rt ?_
          replace hC:=hC.push hB20 (ZFo (Zj 90) r13 [u27] f18) hr20 hf26
          obtain ⟨ho18,hf27⟩:=Xb (hC.getM 0 rfl)
          subst hf27
          replace hC:=hC.recast (c:=own 90 9 u27 r13.terms.length (ZFa.encs r13.terms)) (fun _ h_=>h_) (fun _=>ho18)
          refine done (aK (by assumption) (Za 11 191) (aO 6 rfl (Zf [u0_0,.agg #[u17],.agg #[u27]] _ ZF1 rfl rfl rfl (Zav a0.degrees r23 r13 h _ (hC.getP 3 rfl) (Yh (Yv (hC.getM 2 rfl))) (Yh (Yv (hC.getM 0 rfl)))) ?_)))
          rintro _ w53 ⟨r14,u28,f19,rfl,h,hr21,hf28,hB21⟩
          refine rt ?_
          replace hC:=hC.push hB21 (ZFo (Zj 90) r14 [u28] f19) hr21 hf28
          obtain ⟨ho19,hf29⟩:=Xb (hC.getM 0 rfl)
          subst hf29
          replace hC:=hC.recast (c:=own 90 9 u28 r14.terms.length (ZFa.encs r14.terms)) (fun _ h_=>h_) (fun _=>ho19)
          refine done (aK (by assumption) (Za 11 255) (aO 8 rfl (Zf [vI (Zwe.wrap (((a1.terms.getD s11.2.toNat Zt0).factor) * (Zwe.wrap (((a1.terms.getD s11.2.toNat Zt0).mono).get s10.2.toNat))))] _ ZF0 rfl rfl rfl (Zbm (Zwe.wrap (((a1.terms.getD s11.2.toNat Zt0).factor) * (Zwe.wrap (((a1.terms.getD s11.2.toNat Zt0).mono).get s10.2.toNat)))) h _) ?_)))
          rintro _ w54 ⟨r21,rfl,h,hB22⟩
          refine rt ?_
          replace hC:=hC.grow hB22
          refine done (aK (by assumption) (Za 11 511) (Z0 9 (by decide) (by decide) (by kernel_rfl) (by kernel_rfl) rfl (Zf [.agg #[v10],.agg #[u28],vI r21] _ ZGd rfl rfl rfl (Zer (⟨s10.1⟩:ZFd) r14 r21 h _ (Yh (Yv (hC.getM 5 rfl))) (Yh (Yv (hC.getM 0 rfl)))) ?_)))
          rintro _ w55 ⟨r15,u18,f20,rfl,h,hr22,hf30,hB23⟩
          refine rt ?_
          replace hC:=hC.push hB23 (ZFo (Zj 90) r15 [u18] f20) hr22 hf30
          obtain ⟨ho20,hf31⟩:=Xb (hC.getM 0 rfl)
          subst hf31
          replace hC:=hC.recast (c:=own 90 9 u18 r15.terms.length (ZFa.encs r15.terms)) (fun _ h_=>h_) (fun _=>ho20)
          refine Zu (v:=.agg #[u18]) hC 8 [u18] [u18] rfl ag55.size rfl rfl rfl rfl (Ym (Y8 (hC.getM 0 rfl)) rfl) (ZFi rfl) rfl fun w56 hC=>done (Z1 (Zt (Zd (Zn (Zb (v:=vI s10.2) rfl (Zr rfl rfl (Zc (v:=vI (Zwe.wrap (s10.2+1))) rfl (done ?_))))))))
          exact hK11 (r15.terms,Zwe.wrap (s10.2+1)) _ _ ⟨u18,(slq rfl),((hC.xM [0,7,8,9,10,11] rfl).sP [1,2,3,4,5] rfl)⟩ h
         refine Jv 3 10 rfl rfl (by kernel_rfl) ?_ ?_
         ·skip
          refine Zf [.agg (ZE8 (ZE7 .u8 (s12.1.set s10.2.toNat (ZFl.wrap ((((a1.terms.getD s11.2.toNat Zt0).mono).get s10.2.toNat) - 1))))),vI 1] _ ZF2 rfl rfl rfl (Zbn (s12.1.set s10.2.toNat (ZFl.wrap ((((a1.terms.getD s11.2.toNat Zt0).mono).get s10.2.toNat) - 1))) 1 h _) ?_
          rintro _ w57 ⟨r17,u23,f21,rfl,h,hr23,hf32,hB24⟩
          refine rt ?_
          replace hC:=hC.push hB24 (ZFo (Zj 90) r17 [u23] f21) hr23 hf32
          obtain ⟨ho21,hf33⟩:=Xb (hC.getM 0 rfl)
          subst hf33
          replace hC:=hC.recast (c:=own 90 9 u23 r17.terms.length (ZFa.encs r17.terms)) (fun _ h_=>h_) (fun _=>ho21)
          refine done (aK (by assumption) (Za 12 511) ?_)
          refine Jv 9 10 rfl rfl (by kernel_rfl) ?_ ?_
          ·skip
           refine Zf [u0_0,.agg #[u23],.agg #[u11]] _ ZF1 rfl rfl rfl (Zav a0.degrees r17 (a0.images.getD s10.2.toNat Zt0) h _ (hC.getP 3 rfl) (Yh (Yv (hC.getM 0 rfl))) (Yh (hC.getP 0 rfl))) ?_
           rintro _ w58 ⟨r20,u19,f22,rfl,h,hr24,hf34,hB25⟩
           refine rt ?_
           replace hC:=hC.push hB25 (ZFo (Zj 90) r20 [u19] f22) hr24 hf34
           obtain ⟨ho22,hf35⟩:=Xb (hC.getM 0 rfl)
           subst hf35
           replace hC:=hC.recast (c:=own 90 9 u19 r20.terms.length (ZFa.encs r20.terms)) (fun _ h_=>h_) (fun _=>ho22)
           refine done (aK (by assumption) (Za 12 1023) (aO 10 rfl (Yb hC [.slice none 0 0] z55 rfl fun b21 w59 hB_ hC=>done (aK (by assumption) (Za 12 2047) (Z0 11 (by decide) (by decide) (by kernel_rfl) (by kernel_rfl) rfl (Zu (v:=.agg #[u19]) hC 0 [u19] [u19] rfl ag55.size rfl rfl rfl rfl (Ym (Y8 (hC.getM 1 rfl)) rfl) (ZFi rfl) rfl fun w60 hC=>done (Z1 ?_)))))))
           exact⟨rfl,_,rfl,⟨b21,u19,r20,(slq rfl),(hC.xM [0,1,4,6,7,8,9,10,11] rfl),h⟩⟩
          ·skip
           refine Yb hC [.slice none 0 0] z55 rfl fun b22 w61 hB_ hC=>done (aK (by assumption) (Za 12 1535) (aO 9 rfl (Zf [u0_0,.agg #[u23],.agg #[u11]] _ ZF1 rfl rfl rfl (Zav a0.degrees r17 (a0.images.getD s10.2.toNat Zt0) h _ (hC.getP 3 rfl) (Yh (Yv (hC.getM 1 rfl))) (Yh (hC.getP 0 rfl))) ?_)))
           rintro _ w62 ⟨r28,u20,f23,rfl,h,hr25,hf36,hB26⟩
           refine rt ?_
           replace hC:=hC.push hB26 (ZFo (Zj 90) r28 [u20] f23) hr25 hf36
           obtain ⟨ho23,hf37⟩:=Xb (hC.getM 0 rfl)
           subst hf37
           replace hC:=hC.recast (c:=own 90 9 u20 r28.terms.length (ZFa.encs r28.terms)) (fun _ h_=>h_) (fun _=>ho23)
           refine done (aK (by assumption) (Za 12 2047) (Z0 11 (by decide) (by decide) (by kernel_rfl) (by kernel_rfl) rfl (Zu (v:=.agg #[u20]) hC 1 [u20] [u20] rfl ag55.size rfl rfl rfl rfl (Ym (Y8 (hC.getM 0 rfl)) rfl) (ZFi rfl) rfl fun w63 hC=>done (Z1 ?_))))
           exact⟨rfl,_,rfl,⟨b22,u20,r28,(slq rfl),(hC.xM [1,0,4,6,7,8,9,10,11] rfl),h⟩⟩
         ·skip
          refine Yb hC [.slice none 0 0] z55 rfl fun b23 w64 hB_ hC=>done (aK (by assumption) (Za 12 1527) (aO 3 rfl (Zf [.agg (ZE8 (ZE7 .u8 (s12.1.set s10.2.toNat (ZFl.wrap ((((a1.terms.getD s11.2.toNat Zt0).mono).get s10.2.toNat) - 1))))),vI 1] _ ZF2 rfl rfl rfl (Zbn (s12.1.set s10.2.toNat (ZFl.wrap ((((a1.terms.getD s11.2.toNat Zt0).mono).get s10.2.toNat) - 1))) 1 h _) ?_)))
          rintro _ w65 ⟨r29,u29,f24,rfl,h,hr26,hf38,hB27⟩
          refine rt ?_
          replace hC:=hC.push hB27 (ZFo (Zj 90) r29 [u29] f24) hr26 hf38
          obtain ⟨ho24,hf39⟩:=Xb (hC.getM 0 rfl)
          subst hf39
          replace hC:=hC.recast (c:=own 90 9 u29 r29.terms.length (ZFa.encs r29.terms)) (fun _ h_=>h_) (fun _=>ho24)
          refine done (aK (by assumption) (Za 12 1535) (aO 9 rfl (Zf [u0_0,.agg #[u29],.agg #[u11]] _ ZF1 rfl rfl rfl (Zav a0.degrees r29 (a0.images.getD s10.2.toNat Zt0) h _ (hC.getP 3 rfl) (Yh (Yv (hC.getM 0 rfl))) (Yh (hC.getP 0 rfl))) ?_)))
          rintro _ w66 ⟨r30,u21,f25,rfl,h,hr27,hf40,hB28⟩
          refine rt ?_
          replace hC:=hC.push hB28 (ZFo (Zj 90) r30 [u21] f25) hr27 hf40
          obtain ⟨ho25,hf41⟩:=Xb (hC.getM 0 rfl)
          subst hf41
          replace hC:=hC.recast (c:=own 90 9 u21 r30.terms.length (ZFa.encs r30.terms)) (fun _ h_=>h_) (fun _=>ho25)
          refine done (aK (by assumption) (Za 12 2047) (Z0 11 (by decide) (by decide) (by kernel_rfl) (by kernel_rfl) rfl (Zu (v:=.agg #[u21]) hC 2 [u21] [u21] rfl ag55.size rfl rfl rfl rfl (Ym (Y8 (hC.getM 0 rfl)) rfl) (ZFi rfl) rfl fun w67 hC=>done (Z1 ?_))))
          exact⟨rfl,_,rfl,⟨b23,u21,r30,(slq rfl),(hC.xM [2,0,4,6,7,8,9,10,11] rfl),h⟩⟩
       ·skip
        exact⟨(slq rfl),hC⟩
      refine Jv 2 3 rfl rfl (by kernel_rfl) ?_ ?_
      ·skip
       refine Zgn hC (ZE7 .u8 ZFe) z88 rfl fun b24 w68 hn_ hB_ hC=>?_
       have hnb_b13098:=Zt1 hN_ hn_
       refine done ?_
       refine Yz (X8 hN_ (by assumption)) hN_ (l9:=(Za 6 7)) (by kernel_rfl) (fun hN_=>?_)
       refine aO 3 rfl (Zgn hC (ZE7 .u8 ZFe) z88 rfl fun b25 w69 hn_ hB_ hC=>?_)
       have hnb_b13101:=Zt1 hN_ hn_
       refine done ?_
       refine Yz (X8 hN_ (by assumption)) hN_ (l9:=(Za 6 15)) (by kernel_rfl) (fun hN_=>?_)
       refine aO 4 rfl (Zky (v:=.agg (ZE8 (ZE7 .u8 ((a1.terms.getD s11.2.toNat Zt0).mono)))) hC 1 (ZE7 .u8 ((a1.terms.getD s11.2.toNat Zt0).mono)) (ZE7 .u8 ((a1.terms.getD s11.2.toNat Zt0).mono)) rfl ag88.size rfl rfl rfl rfl rfl (ZFi rfl) rfl fun w70 hBB_ hC=>done ?_)
       refine Yz (Ji hN_ hnb_b13098 hBB_) hN_ (l9:=(Za 6 31)) (by kernel_rfl) (fun hN_=>?_)
       refine Z0 5 (by decide) (by decide) (by kernel_rfl) (by kernel_rfl) rfl (Zu (v:=.agg (ZE8 (ZE7 .u8 ((a1.terms.getD s11.2.toNat Zt0).mono)))) hC 0 (ZE7 .u8 ((a1.terms.getD s11.2.toNat Zt0).mono)) (ZE7 .u8 ((a1.terms.getD s11.2.toNat Zt0).mono)) rfl ag88.size rfl rfl rfl rfl rfl (ZFi rfl) rfl fun w71 hC=>done (Z1 ?_))
       exact⟨rfl,_,rfl,⟨b25,b24,(slq rfl),hC,h⟩⟩
      ·skip
       refine Zgn hC (ZE7 .u8 ZFe) z88 rfl fun b26 w72 hn_ hB_ hC=>?_
       have hnb_b13106:=Zt1 hN_ hn_
       refine done ?_
       refine Yz (X8 hN_ (by assumption)) hN_ (l9:=(Za 6 11)) (by kernel_rfl) (fun hN_=>?_)
       refine aO 2 rfl (Zgn hC (ZE7 .u8 ZFe) z88 rfl fun b27 w73 hn_ hB_ hC=>?_)
       have hnb_b13109:=Zt1 hN_ hn_
       refine done ?_
       refine Yz (X8 hN_ (by assumption)) hN_ (l9:=(Za 6 15)) (by kernel_rfl) (fun hN_=>?_)
       refine aO 4 rfl (Zky (v:=.agg (ZE8 (ZE7 .u8 ((a1.terms.getD s11.2.toNat Zt0).mono)))) hC 0 (ZE7 .u8 ((a1.terms.getD s11.2.toNat Zt0).mono)) (ZE7 .u8 ((a1.terms.getD s11.2.toNat Zt0).mono)) rfl ag88.size rfl rfl rfl rfl rfl (ZFi rfl) rfl fun w74 hBB_ hC=>done ?_)
       refine Yz (Ji hN_ hnb_b13109 hBB_) hN_ (l9:=(Za 6 31)) (by kernel_rfl) (fun hN_=>?_)
       refine Z0 5 (by decide) (by decide) (by kernel_rfl) (by kernel_rfl) rfl (Zu (v:=.agg (ZE8 (ZE7 .u8 ((a1.terms.getD s11.2.toNat Zt0).mono)))) hC 1 (ZE7 .u8 ((a1.terms.getD s11.2.toNat Zt0).mono)) (ZE7 .u8 ((a1.terms.getD s11.2.toNat Zt0).mono)) rfl ag88.size rfl rfl rfl rfl rfl (ZFi rfl) rfl fun w75 hC=>done (Z1 ?_))
       exact⟨rfl,_,rfl,⟨b26,b27,(slq rfl),(hC.xM [1,0,2,3,4,5,6,7] rfl),h⟩⟩
    ·replace h:=Zl h (cf hb11)
     refine ZFn (Zm (Zm (Z5 ?_)))
     refine Zt (Zd (Zn (Zb (v:=vI s11.2) rfl (Zr rfl rfl (Zc (v:=vI (Zwe.wrap (s11.2+1))) rfl (done ?_))))))
     exact hK12 (s10.1,Zwe.wrap (s11.2+1)) _ _ ⟨v10,(slq rfl),(hC.xM [0,2,3,4,5] rfl)⟩ h
   ·skip
    exact⟨v11,(slq rfl),(hC.xM [1,0,2,3,4,5] rfl)⟩
  ·replace h:=Zl h (cf hb10)
   refine ZFn (Zm (Zm (Z5 ?_)))
   refine Zd (sr (Yd hC 1 [v11] rfl ag55 rfl rfl rfl (Zu (v:=.agg #[v11]) hC 2 [v11] [v11] rfl ag55.size rfl rfl rfl rfl (Ym (Y8 (hC.getM 0 rfl)) rfl) (ZFi rfl) rfl fun w76 hC=>dn (ZFh ?_))))
   exact Zk rfl (X3 hC 2 rfl ag55 rfl rfl) ⟨(⟨s11.1⟩:ZFd),v11,(ZF6 (Zum v11)),rfl,h,(Jr (Jq (hC.getM 0 rfl))),(Jo hC 0 rfl),hC.below⟩ (.inl rfl)
 ·skip
  replace hC:=hC.pushNil 90 9
  exact⟨.slice none 0 0,(slq rfl),hC⟩
def Zdh (a0:Alg) (K:Bool→Prop):Prop :=
 Zep a0.degrees (fun r13=>(if¬ (r13=true) then K false else(if(a0.images.length:Int)≠(a0.degrees.length:Int) then K false else Jc (fun (s10:Int) nx10=>(if s10 < (a0.images.length:Int) then((0≤s10∧s10 < (a0.images.length:Int))∧Zcg a0.degrees (a0.images.getD s10.toNat Zt0) (fun r14=>(if¬ (r14=true) then K false else((0≤s10∧s10 < (a0.images.length:Int))∧Zdf a0.degrees (a0.images.getD s10.toNat Zt0) (fun r10 r11=>(if¬ (r11=true) then K false else((0≤s10∧s10 < (a0.images.length:Int))∧(if(((a0.images.getD s10.toNat Zt0).terms).length:Int) > 0 then((0≤s10∧s10 < (a0.degrees.length:Int))∧(if r10≠Zwe.wrap ((a0.degrees.getD s10.toNat Zt0)+1) then K false else nx10 (Zwe.wrap (s10+1)))) else nx10 (Zwe.wrap (s10+1)))))))))) else Jc (fun (s11:Int) nx11=>(if s11 < (a0.images.length:Int) then((0≤s11∧s11 < (a0.images.length:Int))∧Zdg a0 (a0.images.getD s11.toNat Zt0) (fun r12=>(if(r12.terms.length:Int) > 0 then K false else nx11 (Zwe.wrap (s11+1))))) else K true)) 0)) 0)))
theorem Zk4 (a0 : Alg)  {K : Bool → Prop} (h : Zdh a0 K) (w0 : World) (q0 : TAlg.rep a0 [u0_0, u0_1] fp0 w0) :
  Calls ZFb 38 #[.agg #[u0_0,u0_1]] w0 fun e w'=>∃ (r0:Bool),
   e=.returned (.bool r0)∧K r0∧Bel w0 w':=by
 unfold Zdh at h
 refine cof Tryz.func38 rfl 86 Tryz.ntmps38 ?_
 have hC:=ZFu (X:=Nox) w0 [ZBl TAlg a0 [u0_0,u0_1] fp0] (al1 q0)
 replace hC:=hC.dAlg 0 rfl
 refine sr (Yf (v:=.agg #[u0_0,u0_1]) hC [u0_0,u0_1] rfl rfl fun b4 w6 hB_ hC=>Zc (v:=.bool false) rfl (dn (ZE9 (sr (Zz 0 ZFt rfl sc22.size rfl rfl (Z6 hC 0 (u0_0) rfl sc22 rfl rfl (Zf [u0_0] _ Tryz.func68 rfl rfl rfl (Zpo a0.degrees h _ (hC.getP 1 rfl)) ?_)))))))
 rintro _ w9 ⟨r13,rfl,h,hB10⟩
 refine rt ?_
 replace hC:=hC.grow hB10
 refine Y4 rfl (Zb (v:=.bool (!r13)) rfl ?_)
 refine Yt (!r13) (fun hb12=>?_) (fun hb12=>?_)
 ·replace h:=ift h (Yq (Y5 hb12))
  refine Zh (b:=true) 4 11 rfl (tr rfl (congrArg _ hb12)) (by decide) (Zh (b:=true) 4 11 rfl (tr rfl (congrArg _ hb12)) (by decide) (Zh (b:=true) 4 11 rfl (tr rfl (congrArg _ hb12)) (by decide) (Zh (b:=true) 4 11 rfl (tr rfl (congrArg _ hb12)) (by decide) (Zh (b:=true) 4 11 rfl (tr rfl (congrArg _ hb12)) (by decide) (Zh (b:=true) 4 11 rfl (tr rfl (congrArg _ hb12)) (by decide) (Zh (b:=true) 4 11 rfl (tr rfl (congrArg _ hb12)) (by decide) (Zw (v:=.bool true) (b:=true) (tr rfl (congrArg _ hb12)) rfl (dn (Z8 rfl rfl (sr (Zc (v:=.bool false) rfl (dn ?_))))))))))))
  refine ZFh (Ze ?_)
  exact Zk rfl (Zg rfl) ⟨false,rfl,h,hC.below⟩ (.inl rfl)
 ·replace h:=Zl h (not_not_intro ((Y6 hb12)))
  refine Zi 4 11 rfl rfl hb12 (Zz 1 ZFt rfl sc28.size rfl rfl (Zi 4 11 rfl rfl hb12 (Z6 hC 0 (u0_1) rfl sc28 rfl rfl (Zi 4 11 rfl rfl hb12 (Zx hC 0 rfl ZFx rfl (Zi 4 11 rfl rfl hb12 (Zz 0 ZFt rfl sc22.size rfl rfl (Zi 4 11 rfl rfl hb12 (Z6 hC 0 (u0_0) rfl sc22 rfl rfl (Zi 4 11 rfl rfl hb12 (Zx hC 1 rfl ZFs rfl (Zi 4 11 rfl rfl hb12 (Y7 rfl rfl (Zw (v:=.bool (decide ((a0.images.length:Int)≠(a0.degrees.length:Int)))) (b:=false) (tr rfl (congrArg _ hb12)) rfl (dn ?_)))))))))))))))
  refine Zq rfl (fun hb13=>?_) (fun hb13=>?_)
  ·replace h:=ift h (ct hb13)
   refine sr (Zc (v:=.bool false) rfl (dn ?_))
   refine ZFh (Ze ?_)
   exact Zk rfl (Zg rfl) ⟨false,rfl,h,hC.below⟩ (.inl rfl)
  ·replace h:=Zl h (cf hb13)
   refine ZFc (Zd (ZE9 (sr (Zc (v:=vI 0) rfl (dn (ZFf ?_))))))
   refine Jk (S:=Int) _ (fun s10 e_ w_=>Z2 e_ [(1,vQ b4),(3,vI s10)]∧Ctx Nox w0 w_ [blk b4 32 [u0_0,u0_1]] [ZBl ZFv.sl a0.images [u0_1] fp0,ZBl TInts a0.degrees [u0_0] fp0,ZBl TAlg a0 [u0_0,u0_1] fp0]) ?_ (s0:=0) ?_ h
   ·clear hC h
    rintro s10 e_ w10 nx10 K10 ⟨hS_,hC⟩ h hK10
    rw [ue hS_]
    refine ZE9 (sr (Zb (v:=vI s10) rfl (Zz 1 ZFt rfl sc28.size rfl rfl (Z6 hC 0 (u0_1) rfl sc28 rfl rfl (Zx hC 0 rfl ZFx rfl (Zo rfl rfl (dn ?_)))))))
    refine Zq rfl (fun hb14=>?_) (fun hb14=>?_)
    ·replace h:=ift h (ct hb14)
     refine ZFc (Zd (ZE9 (ZFf (ZE9 (ZE9 ?_)))))
     refine cwd 7 mixed [0,1,0,4,0,28,60,127,255] [1,3,5,6] [0,2,4] (fun hM11 hM14 w11 hB_=>?_)
     replace hC:=hC.grow hB_
     refine bF 0 (vQ b4) rfl rfl hM14 (fun _=>by exact Ye 0 ZFt rfl sc22.size rfl rfl) (Za 9 1) (bL 1 (u0_0) rfl rfl hM11 (fun _ hB_=>by exact Yc (hC.grow hB_) 0 (u0_0) rfl sc22 rfl rfl) (Za 9 3) (bF 2 (.pointer (some ⟨b4,1,none⟩)) rfl rfl hM14 (fun _=>by exact Ye 1 ZFt rfl sc28.size rfl rfl) (Za 9 7) (bL 3 (u0_1) rfl rfl hM11 (fun _ hB_=>by exact Yc (hC.grow hB_) 0 (u0_1) rfl sc28 rfl rfl) (Za 9 15) (bM 4 (vI s10) rfl hM14 (Za 9 31) ?_))))
     obtain ⟨⟨h10,h11⟩,h⟩:=h
     obtain ⟨Ad10,c10,hv10⟩:=Z3 (hC.getP 0 rfl) s10.toNat (show s10.toNat < a0.images.length by omega)
     refine bL 5 (.pointer (some (Ad10.add (s10.toNat * 1)))) rfl rfl hM11 (fun _ hB_=>by exact Yy (len:=a0.images.length) ZFx ag55.size (by exact tr rfl hv10) rfl h10 h11) (Za 9 63) ?_
     obtain ⟨cs_,hl10,hc10,hr10⟩:=Xh (hC.getP 0 rfl) hv10 s10.toNat (show s10.toNat < a0.images.length by omega)
     obtain ⟨u10,rfl⟩:=ZF7.1 hl10
     clear hl10
     rw [Xf _ _ (show s10.toNat < a0.images.length by omega)] at hr10
     have hp10:=hr10
     replace hC:=hC.derive 0 rfl (ZBl ZFa.ty.sl ((a0.images.getD s10.toNat Zt0).terms) [u10] fp0) (fun _=>(Yn hp10)) (fun _ hb_=>hb_)
     refine bL 6 (.agg #[u10]) rfl rfl hM11 (fun _ hB_=>by exact Xl [u10] (J9 hB_ hc10) ag55 rfl rfl) (Za 9 127) (Z0 7 (by decide) (by decide) (by kernel_rfl) (by kernel_rfl) rfl (Zf [u0_0,.agg #[u10]] _ Tryz.func56 rfl rfl rfl (Zip a0.degrees (a0.images.getD s10.toNat Zt0) h _ (hC.getP 2 rfl) (Yh (hC.getP 0 rfl))) ?_))
     rintro _ w12 ⟨r14,rfl,h,hB11⟩
     refine rt ?_
     replace hC:=hC.grow hB11
     refine Y4 rfl (done (Z1 (Zd ?_)))
     refine Zq rfl (fun hb15=>?_) (fun hb15=>?_)
     ·replace h:=ift h (Yq (Y5 hb15))
      refine sr (Zc (v:=.bool false) rfl (dn ?_))
      refine ZFh (Ze (Zv (Ze (Ze (Zv (Ze ?_))))))
      exact Zk rfl (Zg rfl) ⟨false,rfl,h,hC.below⟩ (.inl rfl)
     ·replace h:=Zl h (not_not_intro ((Y6 hb15)))
      refine ZFc (Zd (ZE9 ?_))
      refine cwd 12 mixed [0,1,0,4,0,28,60,127,255,511,511,1023,4095] [1,3,5,6] [0,2,4,8,9,10,11] (fun hM12 hM10 w13 hB_=>?_)
      replace hC:=hC.grow hB_
      refine bF 0 (vQ b4) rfl rfl hM10 (fun _=>by exact Ye 0 ZFt rfl sc22.size rfl rfl) (Za 13 1) (bL 1 (u0_0) rfl rfl hM12 (fun _ hB_=>by exact Yc (hC.grow hB_) 0 (u0_0) rfl sc22 rfl rfl) (Za 13 3) (bF 2 (.pointer (some ⟨b4,1,none⟩)) rfl rfl hM10 (fun _=>by exact Ye 1 ZFt rfl sc28.size rfl rfl) (Za 13 7) (bL 3 (u0_1) rfl rfl hM12 (fun _ hB_=>by exact Yc (hC.grow hB_) 0 (u0_1) rfl sc28 rfl rfl) (Za 13 15) (bM 4 (vI s10) rfl hM10 (Za 13 31) ?_))))
      obtain ⟨⟨h12,h13⟩,h⟩:=h
      obtain ⟨Ad11,c11,hv11⟩:=Z3 (hC.getP 1 rfl) s10.toNat (show s10.toNat < a0.images.length by omega)
      refine bL 5 (.pointer (some (Ad11.add (s10.toNat * 1)))) rfl rfl hM12 (fun _ hB_=>by exact Yy (len:=a0.images.length) ZFx ag55.size (by exact tr rfl hv11) rfl h12 h13) (Za 13 63) ?_
      obtain ⟨cs_,hl11,hc11,hr11⟩:=Xh (hC.getP 1 rfl) hv11 s10.toNat (show s10.toNat < a0.images.length by omega)
      obtain ⟨u11,rfl⟩:=ZF7.1 hl11
      clear hl11
      rw [Xf _ _ (show s10.toNat < a0.images.length by omega)] at hr11
      have hp11:=hr11
      replace hC:=hC.derive 1 rfl (ZBl ZFa.ty.sl ((a0.images.getD s10.toNat Zt0).terms) [u11] fp0) (fun _=>(Yn hp11)) (fun _ hb_=>hb_)
      refine bL 6 (.agg #[u11]) rfl rfl hM12 (fun _ hB_=>by exact Xl [u11] (J9 hB_ hc11) ag55 rfl rfl) (Za 13 127) (aO 7 rfl (Zf [u0_0,.agg #[u11]] _ Tryz.func57 rfl rfl rfl (Zk2 a0.degrees (a0.images.getD s10.toNat Zt0) h _ (hC.getP 3 rfl) (Yh (hC.getP 0 rfl))) ?_))
      rintro _ w14 ⟨r10,r11,rfl,h,hB12⟩
      refine rt ?_
      replace hC:=hC.grow hB12
      refine done (aK (by assumption) (Za 13 255) (bM 8 (.tuple #[vI r10,.bool r11]) rfl hM10 (Za 13 511) (bF 9 (vI r10) rfl rfl hM10 (fun _=>by exact Jm (v:=vI r10) rfl rfl) (Za 13 1023) (bF 10 (.bool r11) rfl rfl hM10 (fun _=>by exact Jm (v:=.bool r11) rfl rfl) (Za 13 2047) (bA 11 (vI r10) rfl hM10 (Za 13 4095) (Z0 12 (by decide) (by decide) (by kernel_rfl) (by kernel_rfl) rfl (Zc (v:=.bool r11) rfl (done (Z1 (Zd (sr (Zb (v:=.bool r11) rfl (Y4 rfl (Zb (v:=.bool (!r11)) rfl ?_))))))))))))))
      refine Yt (!r11) (fun hb10=>?_) (fun hb10=>?_)
      ·replace h:=ift h (Yq (Y5 hb10))
       refine Zh (b:=true) 2 49 rfl (tr rfl (congrArg _ hb10)) (by decide) (Zh (b:=true) 2 49 rfl (tr rfl (congrArg _ hb10)) (by decide) (Zh (b:=true) 2 49 rfl (tr rfl (congrArg _ hb10)) (by decide) (Zh (b:=true) 2 49 rfl (tr rfl (congrArg _ hb10)) (by decide) (Zh (b:=true) 2 49 rfl (tr rfl (congrArg _ hb10)) (by decide) (Zh (b:=true) 2 49 rfl (tr rfl (congrArg _ hb10)) (by decide) (Zh (b:=true) 2 49 rfl (tr rfl (congrArg _ hb10)) (by decide) (Zh (b:=true) 2 49 rfl (tr rfl (congrArg _ hb10)) (by decide) (Zh (b:=true) 2 49 rfl (tr rfl (congrArg _ hb10)) (by decide) (Xg 11 58 rfl rfl (Xg 11 58 rfl rfl (Xg 11 58 rfl rfl (Xg 11 58 rfl rfl (Xg 11 58 rfl rfl (Xg 11 58 rfl rfl (Xg 11 58 rfl rfl (Xg 11 58 rfl rfl (Zh (b:=true) 2 49 rfl (tr rfl (congrArg _ hb10)) (by decide) (Zw (v:=.bool true) (b:=true) (tr rfl (congrArg _ hb10)) rfl (dn (Z8 rfl rfl (sr (Zc (v:=.bool false) rfl (dn ?_)))))))))))))))))))))))
       refine ZFh (Zv (Ze (Ze (Zv (Ze ?_)))))
       exact Zk rfl (Zg rfl) ⟨false,rfl,h,hC.below⟩ (.inl rfl)
      ·replace h:=Zl h (not_not_intro ((Y6 hb10)))
       refine Zi 2 49 rfl rfl hb10 (Zz 1 ZFt rfl sc28.size rfl rfl (Zi 2 49 rfl rfl hb10 (Z6 hC 0 (u0_1) rfl sc28 rfl rfl (Zi 2 49 rfl rfl hb10 (Zb (v:=vI s10) rfl (Zi 2 49 rfl rfl hb10 ?_))))))
       obtain ⟨⟨h14,h15⟩,h⟩:=h
       obtain ⟨Ad13,c12,hv12⟩:=Z3 (hC.getP 2 rfl) s10.toNat (show s10.toNat < a0.images.length by omega)
       refine Yu (len:=a0.images.length) ZFx ag55.size (tr rfl hv12) rfl h14 h15 (Zi 2 49 rfl rfl hb10 (Zal (s10.toNat * 1+0) ZFg rfl sc53.size rfl rfl (Zi 2 49 rfl rfl hb10 ?_)))
       obtain ⟨cs_,hl12,hc12,hr12⟩:=Xh (hC.getP 2 rfl) hv12 s10.toNat (show s10.toNat < a0.images.length by omega)
       obtain ⟨u14,rfl⟩:=ZF7.1 hl12
       clear hl12
       rw [Xf _ _ (show s10.toNat < a0.images.length by omega)] at hr12
       have hp12:=hr12
       replace hC:=hC.derive 2 rfl (ZBl ZFa.ty.sl ((a0.images.getD s10.toNat Zt0).terms) [u14] fp0) (fun _=>(Yn hp12)) (fun _ hb_=>hb_)
       refine Xz (u14) (Xo (o:=0) (k:=1) hc12 rfl) sc53 rfl (Zi 2 49 rfl rfl hb10 (Zx hC 0 rfl ZFj rfl (Zi 2 49 rfl rfl hb10 (Xx rfl rfl (Zi 2 49 rfl rfl hb10 (Zb (v:=.bool (decide ((((a0.images.getD s10.toNat Zt0).terms).length:Int) > 0))) rfl ?_))))))
       refine Yt (decide ((((a0.images.getD s10.toNat Zt0).terms).length:Int) > 0)) (fun hb11=>?_) (fun hb11=>?_)
       ·replace h:=ift h (ct hb11)
        refine Zi 11 58 rfl rfl hb11 (Zb (v:=vI r10) rfl (Zi 11 58 rfl rfl hb11 (Zz 0 ZFt rfl sc22.size rfl rfl (Zi 11 58 rfl rfl hb11 (Z6 hC 0 (u0_0) rfl sc22 rfl rfl (Zi 11 58 rfl rfl hb11 (Zb (v:=vI s10) rfl (Zi 11 58 rfl rfl hb11 ?_))))))))
        obtain ⟨⟨h16,h17⟩,h⟩:=h
        obtain ⟨Ad14,c13,hv13⟩:=Z3 (hC.getP 4 rfl) s10.toNat (show s10.toNat < a0.degrees.length by omega)
        refine Yu (len:=a0.degrees.length) ZFs sc2.size (tr rfl hv13) rfl h16 h17 (Zi 11 58 rfl rfl hb11 (Xz (vI (a0.degrees.getD s10.toNat Zt0)) (Yj (hC.getP 4 rfl) hv13 s10.toNat (show s10.toNat < a0.degrees.length by omega)) sc2 rfl (Zi 11 58 rfl rfl hb11 (Zr rfl rfl (Zi 11 58 rfl rfl hb11 (Y7 rfl rfl (Zi 2 49 rfl rfl hb10 (Zw (v:=.bool (decide (r10≠Zwe.wrap ((a0.degrees.getD s10.toNat Zt0)+1)))) (b:=true) (tr rfl (congrArg _ hb11)) rfl (Zw (v:=.bool (decide (r10≠Zwe.wrap ((a0.degrees.getD s10.toNat Zt0)+1)))) (b:=false) (tr rfl (congrArg _ hb10)) rfl (dn ?_))))))))))
        refine Zq rfl (fun hb16=>?_) (fun hb16=>?_)
        ·replace h:=ift h (ct hb16)
         refine sr (Zc (v:=.bool false) rfl (dn ?_))
         refine ZFh (Zv (Ze (Ze (Zv (Ze ?_)))))
         exact Zk rfl (Zg rfl) ⟨false,rfl,h,hC.below⟩ (.inl rfl)
        ·replace h:=Zl h (cf hb16)
         refine ZFc (Zt (Zd (Zn (Zb (v:=vI s10) rfl (Zr rfl rfl (Zc (v:=vI (Zwe.wrap (s10+1))) rfl (done ?_)))))))
         exact hK10 (Zwe.wrap (s10+1)) _ _ ⟨(slq rfl),(hC.sP [3,4,5] rfl)⟩ h
       ·replace h:=Zl h (cf hb11)
        refine Zh (b:=false) 11 58 rfl (tr rfl (congrArg _ hb11)) (by decide) (Zh (b:=false) 11 58 rfl (tr rfl (congrArg _ hb11)) (by decide) (Zh (b:=false) 11 58 rfl (tr rfl (congrArg _ hb11)) (by decide) (Zh (b:=false) 11 58 rfl (tr rfl (congrArg _ hb11)) (by decide) (Zh (b:=false) 11 58 rfl (tr rfl (congrArg _ hb11)) (by decide) (Zh (b:=false) 11 58 rfl (tr rfl (congrArg _ hb11)) (by decide) (Zh (b:=false) 11 58 rfl (tr rfl (congrArg _ hb11)) (by decide) (Zh (b:=false) 11 58 rfl (tr rfl (congrArg _ hb11)) (by decide) (Zi 2 49 rfl rfl hb10 (Zw (v:=.bool false) (b:=false) (tr rfl (congrArg _ hb11)) rfl (Zw (v:=.bool false) (b:=false) (tr rfl (congrArg _ hb10)) rfl (dn (Ya rfl rfl (ZFc (Zt (Zd (Zn (Zb (v:=vI s10) rfl (Zr rfl rfl (Zc (v:=vI (Zwe.wrap (s10+1))) rfl (done ?_))))))))))))))))))))
        exact hK10 (Zwe.wrap (s10+1)) _ _ ⟨(slq rfl),(hC.sP [3,4,5] rfl)⟩ h
    ·replace h:=Zl h (cf hb14)
     refine ZFn (Zm (Zm (Z5 ?_)))
     refine Zd (ZE9 (sr (Zc (v:=vI 0) rfl (dn (ZFf ?_)))))
     refine Jk (S:=Int) _ (fun s11 e_ w_=>Z2 e_ [(1,vQ b4),(6,vI s11)]∧Ctx Nox w0 w_ [blk b4 32 [u0_0,u0_1]] [ZBl ZFv.sl a0.images [u0_1] fp0,ZBl TInts a0.degrees [u0_0] fp0,ZBl TAlg a0 [u0_0,u0_1] fp0]) ?_ (s0:=0) ?_ h
     ·clear hC h
      rintro s11 e_ w15 nx11 K11 ⟨hS_,hC⟩ h hK11
      rw [ue hS_]
      refine ZE9 (sr (Zb (v:=vI s11) rfl (Zz 1 ZFt rfl sc28.size rfl rfl (Z6 hC 0 (u0_1) rfl sc28 rfl rfl (Zx hC 0 rfl ZFx rfl (Zo rfl rfl (dn ?_)))))))
      refine Zq rfl (fun hb17=>?_) (fun hb17=>?_)
      ·replace h:=ift h (ct hb17)
       refine ZFc (Zd (ZE9 (ZFf (ZE9 ?_))))
       refine cwd 6 mixed [0,0,2,0,14,30,63,127,255,511] [0,2,4,5] [1,3] (fun hM13 hM15 w16 hB_=>?_)
       replace hC:=hC.grow hB_
       refine bL 0 (.agg #[u0_0,u0_1]) rfl rfl hM13 (fun _ hB_=>by exact Yo (hC.grow hB_) 0 [u0_0,u0_1] rfl ag32 rfl rfl rfl) (Za 10 1) (bF 1 (.pointer (some ⟨b4,1,none⟩)) rfl rfl hM15 (fun _=>by exact Ye 1 ZFt rfl sc28.size rfl rfl) (Za 10 3) (bL 2 (u0_1) rfl rfl hM13 (fun _ hB_=>by exact Yc (hC.grow hB_) 0 (u0_1) rfl sc28 rfl rfl) (Za 10 7) (bM 3 (vI s11) rfl hM15 (Za 10 15) ?_)))
       obtain ⟨⟨h18,h19⟩,h⟩:=h
       obtain ⟨Ad12,c14,hv14⟩:=Z3 (hC.getP 0 rfl) s11.toNat (show s11.toNat < a0.images.length by omega)
       refine bL 4 (.pointer (some (Ad12.add (s11.toNat * 1)))) rfl rfl hM13 (fun _ hB_=>by exact Yy (len:=a0.images.length) ZFx ag55.size (by exact tr rfl hv14) rfl h18 h19) (Za 10 31) ?_
       obtain ⟨cs_,hl13,hc13,hr13⟩:=Xh (hC.getP 0 rfl) hv14 s11.toNat (show s11.toNat < a0.images.length by omega)
       obtain ⟨u12,rfl⟩:=ZF7.1 hl13
       clear hl13
       rw [Xf _ _ (show s11.toNat < a0.images.length by omega)] at hr13
       have hp13:=hr13
       replace hC:=hC.derive 0 rfl (ZBl ZFa.ty.sl ((a0.images.getD s11.toNat Zt0).terms) [u12] fp0) (fun _=>(Yn hp13)) (fun _ hb_=>hb_)
       refine bL 5 (.agg #[u12]) rfl rfl hM13 (fun _ hB_=>by exact Xl [u12] (J9 hB_ hc13) ag55 rfl rfl) (Za 10 63) (Z0 6 (by decide) (by decide) (by kernel_rfl) (by kernel_rfl) rfl (Zf [.agg #[u0_0,u0_1],.agg #[u12]] _ Tryz.func58 rfl rfl rfl (Zk3 a0 (a0.images.getD s11.toNat Zt0) h _ (Yi (hC.getP 2 rfl) (hC.getP 1 rfl)) (Yh (hC.getP 0 rfl))) ?_))
       rintro _ w17 ⟨r12,u13,f10,rfl,h,hr14,hf10,hB13⟩
       refine rt ?_
       replace hC:=hC.push hB13 (ZFo (Zj 90) r12 [u13] f10) hr14 hf10
       obtain ⟨ho10,hf11⟩:=Xb (hC.getM 0 rfl)
       subst hf11
       replace hC:=hC.recast (c:=own 90 9 u13 r12.terms.length (ZFa.encs r12.terms)) (fun _ h_=>h_) (fun _=>ho10)
       refine Zkx (u13) ZFg rfl sc53 rfl rfl (Zem hC 0 rfl ZFj rfl (Xx rfl rfl (done (Z1 (Zd ?_)))))
       refine Zq rfl (fun hb18=>?_) (fun hb18=>?_)
       ·replace h:=ift h (ct hb18)
        refine sr (Zc (v:=.bool false) rfl (dn ?_))
        refine ZFh (Zv (Ze (Ze (Zv (Ze ?_)))))
        exact Zk rfl (Zg rfl) ⟨false,rfl,h,hC.below⟩ (.inl rfl)
       ·replace h:=Zl h (cf hb18)
        refine ZFc (Zt (Zd (Zn (Zb (v:=vI s11) rfl (Zr rfl rfl (Zc (v:=vI (Zwe.wrap (s11+1))) rfl (done ?_)))))))
        exact hK11 (Zwe.wrap (s11+1)) _ _ ⟨(slq rfl),((hC.xM [1] rfl).sP [1,2,3] rfl)⟩ h
      ·replace h:=Zl h (cf hb17)
       refine ZFn (Zm (Zm (Z5 ?_)))
       refine Zd (sr (Zc (v:=.bool true) rfl (dn (ZFh ?_))))
       exact Zk rfl (Zg rfl) ⟨true,rfl,h,hC.below⟩ (.inl rfl)
     ·skip
      exact⟨(slq rfl),hC⟩
   ·skip
    exact⟨(slq rfl),hC⟩
def Zbp (a0:Int) (K:Int→Prop):Prop :=
 K (Zul (Zwe.wrap ((Zul a0 10007)+10007)) 10007)
theorem Zk5 (a0:Int)  {K:Int→Prop} (h:Zbp a0 K) (w0:World)  :
  Calls ZFb 109 #[vI a0] w0 fun e w'=>∃ (r0:Int),
   e=.returned (vI r0)∧K r0∧Bel w0 w':=by
 unfold Zbp at h
 refine cof Tryz.func109 rfl 7 Tryz.ntmps109 ?_
 have hC:=ZFu (X:=Nox) w0 [] (by simp)
 refine sr (Zc (v:=vI 0) rfl (dn (sr (Zb (v:=vI a0) rfl (Jj rfl rfl (by decide) (Zr rfl rfl (Jj rfl rfl (by decide) (Zc (v:=vI (Zul (Zwe.wrap ((Zul a0 10007)+10007)) 10007)) rfl (dn (ZFh ?_))))))))))
 exact Zk rfl (Zg rfl) ⟨Zul (Zwe.wrap ((Zul a0 10007)+10007)) 10007,rfl,h,hC.below⟩ (.inl rfl)
def Zbq (a0:A8) (K:A8→Prop):Prop :=
 Yg (fun i10 (s10:A8) nx10=>nx10 (s10.set i10 (Zwe.wrap (a0.get i10)))) (fun (s10:A8)=>K s10) 8 0 ZFe
theorem Zgp (a0:A8)  {K:A8→Prop} (h:Zbq a0 K) (w0:World)  :
  Calls ZFb 85 #[.agg (ZE8 (ZE7 .u8 a0))] w0 fun e w'=>∃ (r0:A8),
   e=.returned (.agg (ZE8 (ZE7 .i64 r0)))∧K r0∧Bel w0 w':=by
 unfold Zbq at h
 refine cof Tryz.func85 rfl 18 Tryz.ntmps85 ?_
 have hC:=ZFu (X:=Nox) w0 [] (by simp)
 refine sr (Yf (v:=.agg (ZE8 (ZE7 .u8 a0))) hC (ZE7 .u8 a0) rfl rfl fun b1 w3 hB_ hC=>Yb hC (ZE7 .i64 ZFe) J3 rfl fun b4 w6 hB_ hC=>dn (sr (Xp [] rfl (Zgo   _) (Yb hC (ZE7 .i64 ZFe) J3 rfl fun b7 w9 hB_ hC=>Zu (v:=.agg (ZE8 (ZE7 .i64 ZFe))) hC 0 (ZE7 .i64 ZFe) (ZE7 .i64 ZFe) rfl ag110.size rfl rfl rfl rfl rfl (ZFi rfl) rfl fun w10 hC=>dn (ZE9 (sr (Yd hC 2 (ZE7 .u8 a0) rfl ag88 rfl rfl rfl (Zb (v:=vI 0) rfl (dn (ZFf ?_))))))))))
 refine Yp (S:=A8) _ _ (fun i10 s10 e_ w_=>Z2 e_ [(2,vQ b4),(3,vQ b7),(7,.agg (ZE8 (ZE7 .u8 a0))),(8,vI (i10:Int))]∧Ctx Nox w0 w_ [blk b7 110 (ZE7 .i64 s10),blk b4 110 (ZE7 .i64 ZFe)] []) 8 ?_ ?_ (s0:=ZFe) ?_ h
 ·clear hC h
  rintro i10 s10 e_ w11 nx10 K10 hi10 ⟨hS_,hC⟩ h hK10
  rw [ue hS_]
  refine sr (Zo rfl rfl (dn (ZE9 (Z8 rfl (decide_eq_true (by omega)) (ZFc (Zd (ZE9 (ZFf (sr (Zb (v:=vI (i10:Int)) rfl (Zf0 (.int .u8 (a0.get i10)) ZFr rfl rfl (ZFq _) (by omega) sc5 (ZFm _ _ hi10) (Zc (v:=vI (i10:Int)) rfl (Zc (v:=.int .u8 (a0.get i10)) rfl (dn (Zn (Zb (v:=vI (i10:Int)) rfl (Zb (v:=.int .u8 (a0.get i10)) rfl (Zfz ZGb ZGh rfl (Xc i10 ZFw sc3.size rfl rfl (ZFq _) (by omega) (by omega) (Zu (v:=vI (Zwe.wrap (a0.get i10))) hC 0 [vI (Zwe.wrap (a0.get i10))] (ZE7 .i64 (s10.set i10 (Zwe.wrap (a0.get i10)))) rfl sc3.size rfl rfl rfl rfl rfl hi10 (ZF3 _ _ _ hi10) fun w12 hC=>done (Zt (Zd (Zn (Zr rfl rfl (Zb (v:=vI (Zwe.wrap ((i10:Int)+1))) rfl (done ?_))))))))))))))))))))))))))
  exact hK10 (s10.set i10 (Zwe.wrap (a0.get i10))) _ _ ⟨(sl ⟨rfl,rfl,rfl,(tr rfl (congrArg _ (Z9 hi10 (by decide)))),trivial⟩),hC⟩ h
 ·clear hC h
  rintro s10 e_ w13 K10 ⟨hS_,hC⟩ h
  rw [ue hS_]
  refine sr (Zo rfl rfl (dn (ZE9 (Ya rfl (decide_eq_false (by omega)) ?_))))
  refine ZFn (Zm (Zm (Z5 ?_)))
  refine Zd (sr (Yd hC 0 (ZE7 .i64 s10) rfl ag110 rfl rfl rfl (Zu (v:=.agg (ZE8 (ZE7 .i64 s10))) hC 1 (ZE7 .i64 s10) (ZE7 .i64 s10) rfl ag110.size rfl rfl rfl rfl rfl (ZFi rfl) rfl fun w14 hC=>dn (ZFh ?_))))
  exact Zk rfl (X3 hC 1 rfl ag110 rfl rfl) ⟨s10,rfl,h,hC.below⟩ (.inl rfl)
 ·skip
  exact⟨(slq rfl),(hC.xM [0,1] rfl)⟩
def Zeu (a0:A8) (a1:List Int) (a2:A8) (K:A8→Int→Prop):Prop :=
 Yg (fun i10 (s12:Int) nx10=>(if Zul (a1.getD i10 Zt0) 2=0 then nx10 s12 else((0≤(i10:Int)∧(i10:Int) < 8)∧(if a0.get i10 > 0 then((0≤(i10:Int)∧(i10:Int) < 8)∧(if a2.get i10 > 0 then K ZFe 0 else((0≤(i10:Int)∧(i10:Int) < 8)∧nx10 s12))) else((0≤(i10:Int)∧(i10:Int) < 8)∧(if a2.get i10 > 0 then Jc (fun (s10:Int×Int) nx11=>(if s10.1 < (a1.length:Int) then((0≤s10.1∧s10.1 < (a1.length:Int))∧((0≤s10.1∧s10.1 < 8)∧nx11 (Zwe.wrap (s10.1+1),Zwe.wrap (s10.2+(Zwe.wrap ((Zul (a1.getD s10.1.toNat Zt0) 2) * (a0.get s10.1.toNat))))))) else nx10 s10.2)) (Zwe.wrap ((i10:Int)+1),s12) else nx10 s12)))))) (fun (s12:Int)=>Yg (fun i11 (s11:A8) nx12=>nx12 (s11.set i11 (Zwe.wrap ((s11.get i11)+(a2.get i11))))) (fun (s11:A8)=>(if Zul s12 2=1 then K s11 (-1) else K s11 1)) 8 0 a0) a1.length 0 0
theorem Zpr (a0:A8) (a1:List Int) (a2:A8)  {K:A8→Int→Prop} (h:Zeu a0 a1 a2 K) (w0:World) (q1:TInts.rep a1 [u1_0] fp1 w0) :
  Calls ZFb 102 #[.agg (ZE8 (ZE7 .i64 a0)),u1_0,.agg (ZE8 (ZE7 .i64 a2))] w0 fun e w'=>∃ (r0:A8) (r1:Int),
   e=.returned (.tuple #[.agg (ZE8 (ZE7 .i64 r0)),vI r1])∧K r0 r1∧Bel w0 w':=by
 unfold Zeu at h
 refine cof Tryz.func102 rfl 75 Tryz.ntmps102 ?_
 have hC:=ZFu (X:=Nox) w0 [ZBl TInts a1 [u1_0] fp1] (al1 q1)
 refine sr (Yf (v:=.agg (ZE8 (ZE7 .i64 a0))) hC (ZE7 .i64 a0) rfl rfl fun b2 w4 hB_ hC=>Yf (v:=.agg (ZE8 (ZE7 .i64 a2))) hC (ZE7 .i64 a2) rfl rfl fun b5 w7 hB_ hC=>Yb hC (ZE7 .i64 ZFe) J3 rfl fun b8 w10 hB_ hC=>Zc (v:=vI 0) rfl (dn (sr (Zc (v:=vI 0) rfl (dn (ZE9 (sr (Zb (v:=u1_0) rfl (Zx hC 0 rfl ZFs rfl (Zb (v:=vI 0) rfl (dn (ZFf ?_))))))))))))
 have hN10:a1.length≤9223372036854775807:=Y0 (hC.getP 0 rfl)
 refine Yp (S:=Int) _ _ (fun i10 s12 e_ w_=>Z2 e_ [(1,u1_0),(3,vQ b2),(5,vQ b5),(6,vQ b8),(8,vI s12),(13,u1_0),(14,vI (a1.length:Int)),(15,vI (i10:Int))]∧Ctx Nox w0 w_ [blk b8 110 (ZE7 .i64 ZFe),blk b5 110 (ZE7 .i64 a2),blk b2 110 (ZE7 .i64 a0)] [ZBl TInts a1 [u1_0] fp1]) a1.length ?_ ?_ (s0:=0) ?_ h
 ·clear hC h
  rintro i10 s12 e_ w11 nx10 K10 hi10 ⟨hS_,hC⟩ h hK10
  rw [ue hS_]
  refine sr (Zo rfl rfl (dn (ZE9 (Z8 rfl (decide_eq_true (by omega)) (ZFc (Zd (ZE9 (ZFf (sr (Zb (v:=vI (i10:Int)) rfl ?_))))))))))
  obtain ⟨Ad11,c10,hv10⟩:=Z3 (hC.getP 0 rfl) i10 hi10
  refine Yu (len:=a1.length) ZFs sc2.size (tr rfl hv10) rfl (ZFq _) (ZF8.2 hi10) (Xz (vI (a1.getD i10 Zt0)) (Yj (hC.getP 0 rfl) hv10 i10 hi10) sc2 rfl (Zc (v:=vI (i10:Int)) rfl (Zc (v:=vI (a1.getD i10 Zt0)) rfl (dn (ZE9 (sr (Zb (v:=vI (a1.getD i10 Zt0)) rfl (Jj rfl rfl (by decide) (Jh rfl rfl (dn ?_))))))))))
  refine Zq rfl (fun hb12=>?_) (fun hb12=>?_)
  ·replace h:=ift h (ct hb12)
   refine ZFn (Zm (Z5 ?_))
   refine Zd (Zn (Zr rfl rfl (Zb (v:=vI (Zwe.wrap ((i10:Int)+1))) rfl (done ?_))))
   exact hK10 s12 _ _ ⟨(sl ⟨rfl,rfl,rfl,rfl,rfl,rfl,rfl,(tr rfl (congrArg _ (Z9 hi10 hN10))),trivial⟩),hC⟩ h
  ·replace h:=Zl h (cf hb12)
   refine ZFc (Zd (ZE9 (sr (Zb (v:=vI (i10:Int)) rfl ?_))))
   obtain ⟨⟨h10,h11⟩,h⟩:=h
   refine Xc i10 ZFw sc3.size rfl rfl h10 h11 (by omega) (Z6 hC 2 (vI (a0.get i10)) rfl sc3 rfl (ZFm _ _ (show i10 < 8 by omega)) (Xx rfl rfl (Zb (v:=.bool (decide (a0.get i10 > 0))) rfl ?_)))
   refine Yt (decide (a0.get i10 > 0)) (fun hb10=>?_) (fun hb10=>?_)
   ·replace h:=ift h (ct hb10)
    refine Zi 4 27 rfl rfl hb10 (Zb (v:=vI (i10:Int)) rfl (Zi 4 27 rfl rfl hb10 ?_))
    obtain ⟨⟨h12,h13⟩,h⟩:=h
    refine Xc i10 ZFw sc3.size rfl rfl h12 h13 (by omega) (Zi 4 27 rfl rfl hb10 (Z6 hC 1 (vI (a2.get i10)) rfl sc3 rfl (ZFm _ _ (show i10 < 8 by omega)) (Zi 4 27 rfl rfl hb10 (Xx rfl rfl (Zw (v:=.bool (decide (a2.get i10 > 0))) (b:=true) (tr rfl (congrArg _ hb10)) rfl (dn ?_))))))
    refine Zq rfl (fun hb11=>?_) (fun hb11=>?_)
    ·replace h:=ift h (ct hb11)
     refine sr (Xp [] rfl (Zgo   _) (Zu (v:=.agg (ZE8 (ZE7 .i64 ZFe))) hC 0 (ZE7 .i64 ZFe) (ZE7 .i64 ZFe) rfl ag110.size rfl rfl rfl rfl rfl (ZFi rfl) rfl fun w12 hC=>Zc (v:=vI 0) rfl (dn ?_)))
     refine ZFh (Ze (Zv (Ze (Ze (Zv (Ze ?_))))))
     exact Xy rfl (X3 hC 0 rfl ag110 rfl rfl) (Zg rfl) ⟨ZFe,0,rfl,h,hC.below⟩ (.inl rfl)
    ·replace h:=Zl h (cf hb11)
     refine ZFc (Zd (sr (Zb (v:=vI (i10:Int)) rfl ?_)))
     obtain ⟨⟨h14,h15⟩,h⟩:=h
     refine Xc i10 ZFw sc3.size rfl rfl h14 h15 (by omega) (Z6 hC 1 (vI (a2.get i10)) rfl sc3 rfl (ZFm _ _ (show i10 < 8 by omega)) (Xx rfl rfl (dn (Ya rfl hb11 (ZFc (Zt (Zd (Zn (Zr rfl rfl (Zb (v:=vI (Zwe.wrap ((i10:Int)+1))) rfl (done ?_)))))))))))
     exact hK10 s12 _ _ ⟨(sl ⟨rfl,rfl,rfl,rfl,rfl,rfl,rfl,(tr rfl (congrArg _ (Z9 hi10 hN10))),trivial⟩),hC⟩ h
   ·replace h:=Zl h (cf hb10)
    refine Zh (b:=false) 4 27 rfl (tr rfl (congrArg _ hb10)) (by decide) (Zh (b:=false) 4 27 rfl (tr rfl (congrArg _ hb10)) (by decide) (Zh (b:=false) 4 27 rfl (tr rfl (congrArg _ hb10)) (by decide) (Zh (b:=false) 4 27 rfl (tr rfl (congrArg _ hb10)) (by decide) (Zw (v:=.bool false) (b:=false) (tr rfl (congrArg _ hb10)) rfl (dn (Ya rfl rfl (ZFc (Zd (sr (Zb (v:=vI (i10:Int)) rfl ?_))))))))))
    obtain ⟨⟨h16,h17⟩,h⟩:=h
    refine Xc i10 ZFw sc3.size rfl rfl h16 h17 (by omega) (Z6 hC 1 (vI (a2.get i10)) rfl sc3 rfl (ZFm _ _ (show i10 < 8 by omega)) (Xx rfl rfl (dn ?_)))
    refine Zq rfl (fun hb13=>?_) (fun hb13=>?_)
    ·replace h:=ift h (ct hb13)
     refine sr (Zb (v:=vI (i10:Int)) rfl (Zr rfl rfl (Zc (v:=vI (Zwe.wrap ((i10:Int)+1))) rfl (dn (ZFf ?_)))))
     refine Jk (S:=Int×Int) _ (fun s10 e_ w_=>Z2 e_ [(1,u1_0),(3,vQ b2),(5,vQ b5),(6,vQ b8),(8,vI s10.2),(11,vI s10.1),(13,u1_0),(14,vI (a1.length:Int)),(15,vI (i10:Int))]∧Ctx Nox w0 w_ [blk b8 110 (ZE7 .i64 ZFe),blk b5 110 (ZE7 .i64 a2),blk b2 110 (ZE7 .i64 a0)] [ZBl TInts a1 [u1_0] fp1]) ?_ (s0:=(Zwe.wrap ((i10:Int)+1),s12)) ?_ h
     ·clear hC h
      rintro s10 e_ w13 nx11 K12 ⟨hS_,hC⟩ h hK11
      rw [ue hS_]
      refine ZE9 (sr (Zb (v:=vI s10.1) rfl (Zb (v:=u1_0) rfl (Zx hC 0 rfl ZFs rfl (Zo rfl rfl (dn ?_))))))
      refine Zq rfl (fun hb14=>?_) (fun hb14=>?_)
      ·replace h:=ift h (ct hb14)
       refine ZFc (Zd (ZE9 (ZFf ?_)))
       refine cwd 10 mixed [0,0,0,6,14,30,0,64,192,510,1023,2047] [3,4,7,8] [0,1,2,5,6,9] (fun hM11 hM10 w14 hB_=>?_)
       replace hC:=hC.grow hB_
       refine bM 0 (vI s10.2) rfl hM10 (Za 12 1) (bM 1 (u1_0) rfl hM10 (Za 12 3) (bM 2 (vI s10.1) rfl hM10 (Za 12 7) ?_))
       obtain ⟨⟨h18,h19⟩,h⟩:=h
       obtain ⟨Ad10,c11,hv11⟩:=Z3 (hC.getP 0 rfl) s10.1.toNat (show s10.1.toNat < a1.length by omega)
       refine bL 3 (.pointer (some (Ad10.add (s10.1.toNat * 1)))) rfl rfl hM11 (fun _ hB_=>by exact Yy (len:=a1.length) ZFs sc2.size (by exact tr rfl hv11) rfl h18 h19) (Za 12 15) (bL 4 (vI (a1.getD s10.1.toNat Zt0)) rfl rfl hM11 (fun _ hB_=>by exact J7 (vI (a1.getD s10.1.toNat Zt0)) (Yj ((hC.grow hB_).getP 0 rfl) hv11 s10.1.toNat (show s10.1.toNat < a1.length by omega)) sc2 rfl) (Za 12 31) (bF 5 (vI (Zul (a1.getD s10.1.toNat Zt0) 2)) rfl rfl hM10 (fun _=>by exact Zng rfl rfl (by decide)) (Za 12 63) (bM 6 (vI s10.1) rfl hM10 (Za 12 127) ?_)))
       obtain ⟨⟨h20,h21⟩,h⟩:=h
       refine bL 7 (.pointer (some ⟨b2,s10.1.toNat,none⟩)) rfl rfl hM11 (fun _ hB_=>by exact Jb s10.1.toNat ZFw sc3.size rfl rfl h20 h21 (by omega)) (Za 12 255) (bL 8 (vI (a0.get s10.1.toNat)) rfl rfl hM11 (fun _ hB_=>by exact Yc (hC.grow hB_) 2 (vI (a0.get s10.1.toNat)) rfl sc3 rfl (ZFm _ _ (show s10.1.toNat < 8 by omega))) (Za 12 511) (bF 9 (vI (Zwe.wrap ((Zul (a1.getD s10.1.toNat Zt0) 2) * (a0.get s10.1.toNat)))) rfl rfl hM10 (fun _=>by exact Zeb rfl rfl) (Za 12 1023) (Z0 10 (by decide) (by decide) (by kernel_rfl) (by kernel_rfl) rfl (Zr rfl rfl (Zc (v:=vI (Zwe.wrap (s10.2+(Zwe.wrap ((Zul (a1.getD s10.1.toNat Zt0) 2) * (a0.get s10.1.toNat)))))) rfl (done (Z1 (Zt (Zd (Zn (Zb (v:=vI s10.1) rfl (Zr rfl rfl (Zc (v:=vI (Zwe.wrap (s10.1+1))) rfl (done ?_))))))))))))))
       exact hK11 (Zwe.wrap (s10.1+1),Zwe.wrap (s10.2+(Zwe.wrap ((Zul (a1.getD s10.1.toNat Zt0) 2) * (a0.get s10.1.toNat))))) _ _ ⟨(slq rfl),hC⟩ h
      ·replace h:=Zl h (cf hb14)
       refine ZFn (Zm (Zm (Z5 ?_)))
       refine Zt (Zd (Zn (Zr rfl rfl (Zb (v:=vI (Zwe.wrap ((i10:Int)+1))) rfl (done ?_)))))
       exact hK10 s10.2 _ _ ⟨(sl ⟨rfl,rfl,rfl,rfl,rfl,rfl,rfl,(tr rfl (congrArg _ (Z9 hi10 hN10))),trivial⟩),hC⟩ h
     ·skip
      exact⟨(slq rfl),hC⟩
    ·replace h:=Zl h (cf hb13)
     refine ZFc (Zt (Zd (Zn (Zr rfl rfl (Zb (v:=vI (Zwe.wrap ((i10:Int)+1))) rfl (done ?_))))))
     exact hK10 s12 _ _ ⟨(sl ⟨rfl,rfl,rfl,rfl,rfl,rfl,rfl,(tr rfl (congrArg _ (Z9 hi10 hN10))),trivial⟩),hC⟩ h
 ·clear hC h
  rintro s12 e_ w15 K10 ⟨hS_,hC⟩ h
  rw [ue hS_]
  refine sr (Zo rfl rfl (dn (ZE9 (Ya rfl (decide_eq_false (by omega)) ?_))))
  refine ZFn (Zm (Zm (Z5 ?_)))
  refine Zd (ZE9 (sr (Zb (v:=vI 0) rfl (dn (ZFf ?_)))))
  refine Yp (S:=A8) _ _ (fun i11 s11 e_ w_=>Z2 e_ [(3,vQ b2),(5,vQ b5),(6,vQ b8),(8,vI s12),(58,vI (i11:Int))]∧Ctx Nox w0 w_ [blk b8 110 (ZE7 .i64 ZFe),blk b5 110 (ZE7 .i64 a2),blk b2 110 (ZE7 .i64 s11)] [ZBl TInts a1 [u1_0] fp1]) 8 ?_ ?_ (s0:=a0) ?_ h
  ·clear hC h
   rintro i11 s11 e_ w16 nx12 K11 hi11 ⟨hS_,hC⟩ h hK12
   rw [ue hS_]
   refine sr (Zo rfl rfl (dn (ZE9 (Z8 rfl (decide_eq_true (by omega)) (ZFc (Zd (ZE9 (ZFf (sr (Zb (v:=vI (i11:Int)) rfl (Zc (v:=vI (i11:Int)) rfl (dn ?_))))))))))))
   refine cwd 6 mixed [0,1,3,0,8,24,63,127,255] [1,2,4,5] [0,3] (fun hM12 hM13 w17 hB_=>?_)
   replace hC:=hC.grow hB_
   refine bM 0 (vI (i11:Int)) rfl hM13 (Za 9 1) (bL 1 (.pointer (some ⟨b2,i11,none⟩)) rfl rfl hM12 (fun _ hB_=>by exact Jb i11 ZFw sc3.size rfl rfl (ZFq _) (by omega) (by omega)) (Za 9 3) (bL 2 (vI (s11.get i11)) rfl rfl hM12 (fun _ hB_=>by exact Yc (hC.grow hB_) 2 (vI (s11.get i11)) rfl sc3 rfl (ZFm _ _ hi11)) (Za 9 7) (bM 3 (vI (i11:Int)) rfl hM13 (Za 9 15) (bL 4 (.pointer (some ⟨b5,i11,none⟩)) rfl rfl hM12 (fun _ hB_=>by exact Jb i11 ZFw sc3.size rfl rfl (ZFq _) (by omega) (by omega)) (Za 9 31) (bL 5 (vI (a2.get i11)) rfl rfl hM12 (fun _ hB_=>by exact Yc (hC.grow hB_) 1 (vI (a2.get i11)) rfl sc3 rfl (ZFm _ _ hi11)) (Za 9 63) (Z0 6 (by decide) (by decide) (by kernel_rfl) (by kernel_rfl) rfl (Zr rfl rfl (Xc i11 ZFw sc3.size rfl rfl (ZFq _) (by omega) (by omega) (Zu (v:=vI (Zwe.wrap ((s11.get i11)+(a2.get i11)))) hC 2 [vI (Zwe.wrap ((s11.get i11)+(a2.get i11)))] (ZE7 .i64 (s11.set i11 (Zwe.wrap ((s11.get i11)+(a2.get i11))))) rfl sc3.size rfl rfl rfl rfl rfl hi11 (ZF3 _ _ _ hi11) fun w18 hC=>done (Z1 (Zt (Zd (Zn (Zr rfl rfl (Zb (v:=vI (Zwe.wrap ((i11:Int)+1))) rfl (done ?_))))))))))))))))
   exact hK12 (s11.set i11 (Zwe.wrap ((s11.get i11)+(a2.get i11)))) _ _ ⟨(sl ⟨rfl,rfl,rfl,rfl,(tr rfl (congrArg _ (Z9 hi11 (by decide)))),trivial⟩),hC⟩ h
  ·clear hC h
   rintro s11 e_ w19 K11 ⟨hS_,hC⟩ h
   rw [ue hS_]
   refine sr (Zo rfl rfl (dn (ZE9 (Ya rfl (decide_eq_false (by omega)) ?_))))
   refine ZFn (Zm (Zm (Z5 ?_)))
   refine Zd (ZE9 (sr (Zb (v:=vI s12) rfl (Jj rfl rfl (by decide) (Jh rfl rfl (dn ?_))))))
   refine Zq rfl (fun hb15=>?_) (fun hb15=>?_)
   ·replace h:=ift h (ct hb15)
    refine sr (Yd hC 2 (ZE7 .i64 s11) rfl ag110 rfl rfl rfl (Zu (v:=.agg (ZE8 (ZE7 .i64 s11))) hC 0 (ZE7 .i64 s11) (ZE7 .i64 s11) rfl ag110.size rfl rfl rfl rfl rfl (ZFi rfl) rfl fun w20 hC=>Zc (v:=vI (-1)) rfl (dn ?_)))
    refine ZFh (Ze ?_)
    exact Xy rfl (X3 hC 0 rfl ag110 rfl rfl) (Zg rfl) ⟨s11,(-1),rfl,h,hC.below⟩ (.inl rfl)
   ·replace h:=Zl h (cf hb15)
    refine ZFc (Zd (sr (Yd hC 2 (ZE7 .i64 s11) rfl ag110 rfl rfl rfl (Zu (v:=.agg (ZE8 (ZE7 .i64 s11))) hC 0 (ZE7 .i64 s11) (ZE7 .i64 s11) rfl ag110.size rfl rfl rfl rfl rfl (ZFi rfl) rfl fun w21 hC=>Zc (v:=vI 1) rfl (dn (ZFh ?_))))))
    exact Xy rfl (X3 hC 0 rfl ag110 rfl rfl) (Zg rfl) ⟨s11,1,rfl,h,hC.below⟩ (.inl rfl)
  ·skip
   exact⟨(slq rfl),hC⟩
 ·skip
  exact⟨(slq rfl),hC⟩
def Zdi (a0:List (A8×Int)) (a1:A8) (a2:Int) (K:List (A8×Int)→Prop):Prop :=
 Zbp (Zwe.wrap (((Yw a0 a1).getD 0)+a2)) (fun r8=>(if r8≠0 then K (Yk a0 a1 r8) else K (Xr a0 a1)))
theorem Zk6 (a0:List (A8×Int)) (a1:A8) (a2:Int)  {K:List (A8×Int)→Prop} (h:Zdi a0 a1 a2 K) (w0:World) (q0:(mapS b0 a0).holds w0) :
  Calls ZFb 103 #[.map (some b0),.agg (ZE8 (ZE7 .i64 a1)),vI a2] w0 fun e w'=>∃ (m0:List (A8×Int)),
   e=.returned (.tuple #[])∧K m0∧(mapS b0 m0).holds w'∧BelB b0 w0 w':=by
 unfold Zdi at h
 refine cof Tryz.func103 rfl 20 Tryz.ntmps103 ?_
 have hC:=Ctx.start1 w0 b0 (it:=mapS b0 a0) rfl [] q0 (by simp) (by simp)
 refine sr (Yf (v:=.agg (ZE8 (ZE7 .i64 a1))) hC (ZE7 .i64 a1) rfl rfl fun b2 w4 hB_ hC=>dn (sr (Zb (v:=.map (some b0)) rfl (Yd hC 0 (ZE7 .i64 a1) rfl ag110 rfl rfl rfl (Zoa a1 0 (hC.getM 1 rfl) X5 ZF5 z2 rfl rfl (Zb (v:=vI a2) rfl (Zr rfl rfl (Zf [vI (Zwe.wrap (((Yw a0 a1).getD 0)+a2))] _ Tryz.func109 rfl rfl rfl (Zk5 (Zwe.wrap (((Yw a0 a1).getD 0)+a2)) h _) ?_))))))))
 rintro _ w7 ⟨r8,rfl,h,hB9⟩
 refine rt ?_
 replace hC:=hC.grow hB9
 refine Zc (v:=vI r8) rfl (dn (sr (Zb (v:=vI r8) rfl (Y7 rfl rfl (dn ?_)))))
 refine Zq rfl (fun hb10=>?_) (fun hb10=>?_)
 ·replace h:=ift h (ct hb10)
  refine Zn (Zb (v:=.map (some b0)) rfl (Yd hC 0 (ZE7 .i64 a1) rfl ag110 rfl rfl rfl (Zb (v:=vI r8) rfl ?_)))
  refine Zgg hC 1 a1 r8 rfl X5 ZF5 rfl rfl rfl (fun w10 hC=>?_) (.inl rfl)
  refine done ?_
  exact Zhv rfl  ⟨Yk a0 a1 r8,rfl,h,(hC.getM 1 rfl),hC.belB⟩ (.inr rfl)
 ·replace h:=Zl h (cf hb10)
  refine Zn (Zb (v:=.map (some b0)) rfl (Yd hC 0 (ZE7 .i64 a1) rfl ag110 rfl rfl rfl (Zn9 hC 1 a1 rfl X5 ZF5 rfl rfl rfl fun w11 hC=>done ?_)))
  exact Zhv rfl  ⟨Xr a0 a1,rfl,h,(hC.getM 1 rfl),hC.belB⟩ (.inr rfl)
def Zaw (a0:ZFd) (K:List (A8×Int)→Prop):Prop :=
 Yg (fun i10 (s10:(List (A8×Int))) nx10=>Zbq ((a0.terms.getD i10 Zt0).mono) (fun r10=>nx10 (Yk s10 r10 ((a0.terms.getD i10 Zt0).factor)))) (fun (s10:(List (A8×Int)))=>K s10) a0.terms.length 0 ([]:List (A8×Int))
theorem Zdj (a0:ZFd)  {K:List (A8×Int)→Prop} (h:Zaw a0 K) (w0:World) (q0:ZFv.rep a0 [u0_0] fp0 w0) :
  Calls ZFb 64 #[.agg #[u0_0]] w0 fun e w'=>∃ (r0:List (A8×Int)) (zb0:Nat),
   e=.returned (.map (some zb0))∧K r0∧(mapS zb0 r0).holds w'∧w0.heap.size≤zb0∧Bel w0 w':=by
 unfold Zaw at h
 refine cof Tryz.func64 rfl 22 Tryz.ntmps64 ?_
 have hC:=ZFu (X:=Nox) w0 [ZBl TForm a0 [u0_0] fp0] (al1 q0)
 have hp2:=(hC.getP 0 rfl)
 replace hC:=hC.derive 0 rfl (ZBl ZFa.ty.sl a0.terms [u0_0] fp0) (fun _=>(Yn hp2)) (fun _ hb_=>hb_)
 refine sr (Yf (v:=.agg #[u0_0]) hC [u0_0] rfl rfl fun b4 w6 hB_ hC=>Zc (v:=.map none) rfl (dn (sr (Zbk hC (kvA .i64) (vvI .i64) fun b7 w9 hB_ hC=>Zc (v:=.map (some b7)) rfl (dn (ZE9 (sr (Zz 0 ZFg rfl sc53.size rfl rfl (Z6 hC 1 (u0_0) rfl sc53 rfl rfl (Zx hC 0 rfl ZFj rfl (Zb (v:=vI 0) rfl (dn (ZFf ?_)))))))))))))
 have hN10:a0.terms.length≤9223372036854775807:=Y0 (hC.getP 0 rfl)
 refine Yp (S:=(List (A8×Int))) _ _ (fun i10 s10 e_ w_=>Z2 e_ [(3,.map (some b7)),(8,u0_0),(9,vI (a0.terms.length:Int)),(10,vI (i10:Int))]∧Ctx Nox w0 w_ [mapS b7 s10] [ZBl ZFa.ty.sl a0.terms [u0_0] fp0,ZBl TForm a0 [u0_0] fp0]) a0.terms.length ?_ ?_ (s0:=([]:List (A8×Int))) ?_ h
 ·clear hC h
  rintro i10 s10 e_ w10 nx10 K10 hi10 ⟨hS_,hC⟩ h hK10
  rw [ue hS_]
  refine sr (Zo rfl rfl (dn (ZE9 (Z8 rfl (decide_eq_true (by omega)) (ZFc (Zd (ZE9 (ZFf (sr ?_)))))))))
  obtain ⟨Ad10,c10,hv10⟩:=Z3 (hC.getP 0 rfl) i10 hi10
  refine Yu (len:=a0.terms.length) ZFj ag90.size (tr rfl hv10) rfl (ZFq _) (ZF8.2 hi10) (X9 (ZFk (a0.terms.getD i10 Zt0)) (Yj (hC.getP 0 rfl) hv10 i10 hi10) ag90 rfl rfl (Yb hC (ZFk (⟨ZFe,0⟩:Term)) z90 rfl fun b10 w11 hB_ hC=>Zu (v:=.agg (ZE8 (ZFk (a0.terms.getD i10 Zt0)))) hC 0 (ZFk (a0.terms.getD i10 Zt0)) (ZFk (a0.terms.getD i10 Zt0)) rfl ag90.size rfl rfl rfl rfl rfl (ZFi rfl) rfl fun w12 hC=>dn ?_))
  refine cwd 6 mixed [0,0,2,6,0,16,63] [2,5] [0,1,4] (fun hM11 hM10 w13 hB_=>?_)
  replace hC:=hC.grow hB_
  refine bM 0 (.map (some b7)) rfl hM10 (Za 7 1) (bF 1 (vQ b10) rfl rfl hM10 (fun _=>by exact Ye 0 ZFp rfl ag88.size rfl rfl) (Za 7 3) (bL 2 (.agg (ZE8 (ZE7 .u8 ((a0.terms.getD i10 Zt0).mono)))) rfl rfl hM11 (fun _ hB_=>by exact Yo (hC.grow hB_) 0 (ZE7 .u8 ((a0.terms.getD i10 Zt0).mono)) rfl ag88 rfl rfl rfl) (Za 7 7) (bF 4 (.pointer (some ⟨b10,8,none⟩)) rfl rfl hM10 (fun _=>by exact Ye 8 ZFp rfl sc2.size rfl rfl) (Za 7 23) (bL 5 (vI ((a0.terms.getD i10 Zt0).factor)) rfl rfl hM11 (fun _ hB_=>by exact Yc (hC.grow hB_) 0 (vI ((a0.terms.getD i10 Zt0).factor)) rfl sc2 rfl rfl) (Za 7 55) (aO 3 rfl (Zf [.agg (ZE8 (ZE7 .u8 ((a0.terms.getD i10 Zt0).mono)))] _ Tryz.func85 rfl rfl rfl (Zgp ((a0.terms.getD i10 Zt0).mono) h _) ?_))))))
  rintro _ w14 ⟨r10,rfl,h,hB10⟩
  refine rt ?_
  replace hC:=hC.grow hB10
  refine done (aK (by assumption) (Za 7 63) (Z0 6 (by decide) (by decide) (by kernel_rfl) (by kernel_rfl) rfl ?_))
  refine Zgg hC 1 r10 ((a0.terms.getD i10 Zt0).factor) rfl X5 ZF5 rfl rfl rfl (fun w15 hC=>?_) (.inl rfl)
  refine done (Z1 (Zt (Zd (Zn (Zr rfl rfl (Zb (v:=vI (Zwe.wrap ((i10:Int)+1))) rfl (done ?_)))))))
  exact hK10 (Yk s10 r10 ((a0.terms.getD i10 Zt0).factor)) _ _ ⟨(sl ⟨rfl,rfl,rfl,(tr rfl (congrArg _ (Z9 hi10 hN10))),trivial⟩),(hC.xM [1] rfl)⟩ h
 ·clear hC h
  rintro s10 e_ w16 K10 ⟨hS_,hC⟩ h
  rw [ue hS_]
  refine sr (Zo rfl rfl (dn (ZE9 (Ya rfl (decide_eq_false (by omega)) ?_))))
  refine ZFn (Zm (Zm (Z5 ?_)))
  refine Zd (sr (Zb (v:=.map (some b7)) rfl (Zc (v:=.map (some b7)) rfl (dn (ZFh ?_)))))
  exact Zk rfl (Zg rfl) ⟨s10,b7,rfl,h,(hC.getM 0 rfl),(Zei hC 0 rfl),hC.below⟩ (.inl rfl)
 ·skip
  exact⟨(slq rfl),(hC.xM [0] rfl)⟩
def Zgq (a0:A8) (a1:A8) (K:Int→Prop):Prop :=
 Yg (fun i10 (s10:Unit) nx10=>(if a0.get i10≠a1.get i10 then K (Zwe.wrap ((a1.get i10) - (a0.get i10))) else nx10 ())) (fun (s10:Unit)=>K 0) 8 0 ()
theorem Zk7 (a0:A8) (a1:A8)  {K:Int→Prop} (h:Zgq a0 a1 K) (w0:World)  :
  Calls ZFb 98 #[.agg (ZE8 (ZE7 .i64 a0)),.agg (ZE8 (ZE7 .i64 a1))] w0 fun e w'=>∃ (r0:Int),
   e=.returned (vI r0)∧K r0∧Bel w0 w':=by
 unfold Zgq at h
 refine cof Tryz.func98 rfl 24 Tryz.ntmps98 ?_
 have hC:=ZFu (X:=Nox) w0 [] (by simp)
 refine sr (Yf (v:=.agg (ZE8 (ZE7 .i64 a0))) hC (ZE7 .i64 a0) rfl rfl fun b1 w3 hB_ hC=>Yf (v:=.agg (ZE8 (ZE7 .i64 a1))) hC (ZE7 .i64 a1) rfl rfl fun b4 w6 hB_ hC=>Zc (v:=vI 0) rfl (dn (ZE9 (sr (Zb (v:=vI 0) rfl (dn (ZFf ?_)))))))
 refine Yp (S:=Unit) _ _ (fun i10 s10 e_ w_=>Z2 e_ [(2,vQ b1),(3,vQ b4),(6,vI (i10:Int))]∧Ctx Nox w0 w_ [blk b4 110 (ZE7 .i64 a1),blk b1 110 (ZE7 .i64 a0)] []) 8 ?_ ?_ (s0:=()) ?_ h
 ·clear hC h
  rintro i10 s10 e_ w10 nx10 K10 hi10 ⟨hS_,hC⟩ h hK10
  rw [ue hS_]
  refine sr (Zo rfl rfl (dn (ZE9 (Z8 rfl (decide_eq_true (by omega)) (ZFc (Zd (ZE9 (ZFf (sr (Zb (v:=vI (i10:Int)) rfl (Zc (v:=vI (i10:Int)) rfl (dn (ZE9 ?_)))))))))))))
  refine cwd 6 mixed [0,1,3,0,8,24,63] [1,2,4,5] [0,3] (fun hM10 hM12 w11 hB_=>?_)
  replace hC:=hC.grow hB_
  refine bM 0 (vI (i10:Int)) rfl hM12 (Za 7 1) (bL 1 (.pointer (some ⟨b1,i10,none⟩)) rfl rfl hM10 (fun _ hB_=>by exact Jb i10 ZFw sc3.size rfl rfl (ZFq _) (by omega) (by omega)) (Za 7 3) (bL 2 (vI (a0.get i10)) rfl rfl hM10 (fun _ hB_=>by exact Yc (hC.grow hB_) 1 (vI (a0.get i10)) rfl sc3 rfl (ZFm _ _ hi10)) (Za 7 7) (bM 3 (vI (i10:Int)) rfl hM12 (Za 7 15) (bL 4 (.pointer (some ⟨b4,i10,none⟩)) rfl rfl hM10 (fun _ hB_=>by exact Jb i10 ZFw sc3.size rfl rfl (ZFq _) (by omega) (by omega)) (Za 7 31) (bL 5 (vI (a1.get i10)) rfl rfl hM10 (fun _ hB_=>by exact Yc (hC.grow hB_) 0 (vI (a1.get i10)) rfl sc3 rfl (ZFm _ _ hi10)) (Za 7 63) (Z0 6 (by decide) (by decide) (by kernel_rfl) (by kernel_rfl) rfl (Y7 rfl rfl (done (Z1 (Zd ?_))))))))))
  refine Zq rfl (fun hb10=>?_) (fun hb10=>?_)
  ·replace h:=ift h (ct hb10)
   refine ZE9 ?_
   refine cwd 6 mixed [0,1,3,0,8,24,63,127] [1,2,4,5] [0,3] (fun hM11 hM13 w12 hB_=>?_)
   replace hC:=hC.grow hB_
   refine bM 0 (vI (i10:Int)) rfl hM13 (Za 8 1) (bL 1 (.pointer (some ⟨b4,i10,none⟩)) rfl rfl hM11 (fun _ hB_=>by exact Jb i10 ZFw sc3.size rfl rfl (ZFq _) (by omega) (by omega)) (Za 8 3) (bL 2 (vI (a1.get i10)) rfl rfl hM11 (fun _ hB_=>by exact Yc (hC.grow hB_) 0 (vI (a1.get i10)) rfl sc3 rfl (ZFm _ _ hi10)) (Za 8 7) (bM 3 (vI (i10:Int)) rfl hM13 (Za 8 15) (bL 4 (.pointer (some ⟨b1,i10,none⟩)) rfl rfl hM11 (fun _ hB_=>by exact Jb i10 ZFw sc3.size rfl rfl (ZFq _) (by omega) (by omega)) (Za 8 31) (bL 5 (vI (a0.get i10)) rfl rfl hM11 (fun _ hB_=>by exact Yc (hC.grow hB_) 1 (vI (a0.get i10)) rfl sc3 rfl (ZFm _ _ hi10)) (Za 8 63) (Z0 6 (by decide) (by decide) (by kernel_rfl) (by kernel_rfl) rfl (Zb2 rfl rfl (Zc (v:=vI (Zwe.wrap ((a1.get i10) - (a0.get i10)))) rfl (done (Z1 (Zd ?_)))))))))))
   refine ZFh (Zv (Ze (Ze (Zv (Ze ?_)))))
   exact Zk rfl (Zg rfl) ⟨Zwe.wrap ((a1.get i10) - (a0.get i10)),rfl,h,hC.below⟩ (.inl rfl)
  ·replace h:=Zl h (cf hb10)
   refine ZFc (Zt (Zd (Zn (Zr rfl rfl (Zb (v:=vI (Zwe.wrap ((i10:Int)+1))) rfl (done ?_))))))
   exact hK10 () _ _ ⟨(sl ⟨rfl,rfl,(tr rfl (congrArg _ (Z9 hi10 (by decide)))),trivial⟩),hC⟩ h
 ·clear hC h
  rintro s10 e_ w13 K10 ⟨hS_,hC⟩ h
  rw [ue hS_]
  refine sr (Zo rfl rfl (dn (ZE9 (Ya rfl (decide_eq_false (by omega)) ?_))))
  refine ZFn (Zm (Zm (Z5 ?_)))
  refine Zd (sr (Zc (v:=vI 0) rfl (dn (ZFh ?_))))
  exact Zk rfl (Zg rfl) ⟨0,rfl,h,hC.below⟩ (.inl rfl)
 ·skip
  exact⟨(slq rfl),hC⟩
theorem Zps:Cmp ZFb Tryz.sortPow_ren (EA .i64) OkP pcmp 98:=⟨Tryz.sortPow,⟨_,OkP.zero⟩,ag110,Zoi,⟨_,Tryz.func98,rfl,rfl⟩,fun a b ha hb w=>by
 refine(Zk7 a b (K:=fun r=>r=pcmp a b) (Zkp (K:=fun r=>r=pcmp a b) ha hb rfl) w).mono ?_
 rintro e w' ⟨r,rfl,rfl,hB⟩
 exact⟨rfl,hB⟩⟩
def Zev (a0:List (A8×Int)) (K:List A8→Prop):Prop :=
 Zaf (fun (q10:A8×Int) (s10:(List A8)) nx10=>(X4 (s10.length+1) 64∧nx10 (s10++[q10.1]))) (fun (s10:(List A8))=>Zkl OkP pcmp s10 (fun xs10=>K xs10)) a0.length a0 []
theorem Zpt (a0:List (A8×Int))  {K:List A8→Prop} (h:Zev a0 K) (w0:World) (q0:(mapS b0 a0).holds w0) :
  Calls ZFb 90 #[.map (some b0)] w0 fun e w'=>∃ (r0:List A8) (z0_0:Value) (fz0:List Nat),
   e=.returned (z0_0)∧K r0∧(ZFo (Tr.sl 110 ((EA .i64).tr)) r0 [z0_0] fz0).holds w'∧(∀ b,b∈fz0→w0.heap.size≤b)∧Bel w0 w':=by
 unfold Zev at h
 refine cof Tryz.func90 rfl 19 Tryz.ntmps90 ?_
 have hC:=ZFu (X:=Nox) w0 [mapS b0 a0] (al1 q0)
 refine sr (Zc (v:=.slice none 0 0) rfl (dn (sr (Ju (sz:=8) hC [] ((EA .i64).encs []) rfl (fun _=>Zpk  _) rfl (by decide) fun b2 w3 hB_ hC=>Zc (v:=.slice (some ⟨b2,0,none⟩) 0 0) rfl (dn (ZE9 (sr (Zb (v:=.map (some b0)) rfl (Zc2 hC 0 rfl ZF5 rfl fun r5 es6 ck7 w10 hB_ hn8 hbn9 hC=>dn (ZFf ?_))))))))))
 refine Zc6 (S:=(List A8)) _ _ (fun l10 s10 e_ w_=>∃ (v10:Value),∃ (la10:Option MapEntry),Z2 e_ [(3,v10),(7,vQ r5)]∧Ctx Nox w0 w_ [itI (kvA .i64) (vvI .i64) r5 b0 es6 ck7 la10 l10,own 110 8 v10 s10.length ((EA .i64).encs s10)] [Jw b0 es6 ck7,mapS b0 a0]) ?_ (l0:=a0) (s0:=[]) ?_ h
 ·clear hC h
  rintro l10 s10 e_ w11 nx10 K10 ⟨v10,la10,hS_,hC⟩ h hK10
  rw [ue hS_]
  refine sr ?_
  refine Zc3 hC 0 0 rfl rfl hn8 hbn9 rfl (fun hr10=>?_) (fun q10 l11 ent10 w12 hp10 hk10 hv10 hC=>?_)
  ·replace h:=h.1 hr10
   refine Y2 (v:=.bool false) rfl rfl (dn (ZE9 (Ya rfl rfl ?_)))
   refine ZFn (Zm (Zm (Z5 ?_)))
   refine Zd (sr (Zb (v:=v10) rfl (Zoh hC 1 Zps rfl rfl Tryz.func104 rfl rfl rfl rfl h fun xs10 w13 h hC=>dn (sr (Zb (v:=v10) rfl (Zc (v:=v10) rfl (dn (ZFh ?_))))))))
   exact Zk rfl (Zg rfl) ⟨xs10,v10,(ZF6 (Zum v10)),rfl,h,(Jq (hC.getM 1 rfl)),(Jo hC 1 rfl),hC.below⟩ (.inl rfl)
  ·replace h:=h.2 q10 l11 hp10
   refine Y2 (v:=.bool true) rfl rfl (dn (ZE9 (Z8 rfl rfl (ZFc (Zd (ZFf (sr (Zc4 hC 0 0 q10 rfl rfl hn8 rfl hk10 hv10 (Y2 (v:=.agg (ZE8 (ZE7 .i64 q10.1))) rfl rfl (Yb hC (ZE7 .i64 ZFe) J3 rfl fun b10 w14 hB_ hC=>Zu (v:=.agg (ZE8 (ZE7 .i64 q10.1))) hC 0 (ZE7 .i64 q10.1) (ZE7 .i64 q10.1) rfl ag110.size rfl rfl rfl rfl rfl (ZFi rfl) rfl fun w15 hC=>dn (Zn (Zb (v:=v10) rfl (Yd hC 0 (ZE7 .i64 q10.1) rfl ag110 rfl rfl rfl (Ju (sz:=8) hC [(0,.agg (ZE8 (ZE7 .i64 q10.1)))] ((EA .i64).encs [q10.1]) rfl (fun _=>Zpl q10.1 _) rfl (by decide) fun b11 w16 hB_ hC=>?_))))))))))))))
   obtain ⟨hm10,h⟩:=h
   refine Zb4 hC 3 Tryz.underlying128 Zpm rfl (by decide) (by decide) rfl (Zam (hC.getM 0 rfl)) (fun q hq=>ZF9 (E:=(EA .i64)) _ q hq) rfl rfl hm10 fun v11 w17 hC=>?_
   replace hC:=J8 hC 3 ((s10++[q10.1]).length) ((EA .i64).encs (s10++[q10.1])) rfl (by simp) (by first | (simp [ZFy]; done) | simp [ZFy,ZGa])
   refine Zc (v:=v11) rfl (done (Zt ?_))
   exact hK10 q10 l11 (s10++[q10.1]) _ _ hp10 ⟨v11,(some ent10),(slq rfl),(hC.xM [2,3] rfl)⟩ h
 ·skip
  exact⟨.slice (some ⟨b2,0,none⟩) 0 0,none,(slq rfl),hC⟩
end Go.Proofs.YtheenipahifleaaGreat
