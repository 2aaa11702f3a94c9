import Derived.Test.YtaagfepgbofmlaaGreatQ4
set_option linter.unusedSectionVars false
set_option linter.unusedSimpArgs false
set_option linter.unusedVariables false
open Go renaming wp_seq→ZMh,wp_skip→ZMl,wp_block→ZMn,wp_ret→ZMp,wp_exit→ZMv
open Go.Instr renaming buildSlice→ZW8
open Go.IntKind renaming i64→ZG5,u8→ZMt
open Go.Proofs.Tryz renaming underlying85→ZXe,prog→ZMk,underlying22→ZM0,underlying132→ZX9,func109→ZYb,func163→ZYe,func128→ZYf,underlying55→ZMo,func55→ZYg,func168→ZYh,underlying53→ZMr,func126→ZYi,func110→ZYj,underlying136→ZMz,underlying5→ZNh,underlying32→ZM1,func150→ZYk,func125→ZM7,func170→ZYm,func71→ZYn,underlying2→ZNn,underlying162→ZMw,func164→ZYp,func169→ZYq
open Go.Value renaming ownBlock→ZFi,int→ZO5
open Inhabited renaming default→ZEo
open Int renaming tdiv→ZW1,natCast_nonneg→ZMx,ofNat_lt→ZNf,tmod→ZFf,toNat_of_nonneg→ZO6
open List renaming mem_append→ZEv,replicate→ZEj,toArray→ZMf,length_eq_one_iff→ZNd,mem_cons→ZEk,not_mem_nil→ZGu,length_nil→ZYl,mem_append_left→ZFa
open Nat renaming lt_of_le_of_lt→ZO7,zero_le→ZGa,le_trans→ZEp,le_of_ble_eq_true→ZMq
open Option renaming toList→ZNg
open Vc renaming TInts→ZOz,ETerm→ZMi,TForm→ZM3,Form→ZMj
open Vc.A8 renaming enc→ZMe
open Vc.Ctx renaming start→ZM2
open Vc.Enc renaming encs_append→ZM9,encs_one'→ZNk,encs→ZSs,encs_len→ZO8
open Vc.Tr renaming sl→ZR9,item→ZMy,trep→ZYd
open Vc.Ty renaming item→ZMg,allItem→ZYa
set_option maxRecDepth 4000
set_option maxHeartbeats 4000000
namespace Go.Proofs.YtaagfepgbofmlaaGreat
open Go Go.RowKit Vc
variable {b0 bp0 b1 bp1 b2 bp2 b3 bp3 b4 bp4 b5 bp5 b6 bp6 b7 bp7 mb0:Nat} {u0_0 u0_1 u0_2 u0_3 u0_4 u0_5 u1_0 u1_1 u1_2 u1_3 u1_4 u1_5 u2_0 u2_1 u2_2 u2_3 u2_4 u2_5 u3_0 u3_1 u3_2 u3_3 u3_4 u3_5 u4_0 u4_1 u4_2 u4_3 u4_4 u4_5 u5_0 u5_1 u5_2 u5_3 u5_4 u5_5 u6_0 u6_1 u6_2 u6_3 u6_4 u6_5 u7_0 u7_1 u7_2 u7_3 u7_4 u7_5:Value} {fp0 fp1 fp2 fp3 fp4 fp5 fp6 fp7 fp0_0 fp0_1 fp0_2 fp0_3 fp0_4 fp0_5 fp1_0 fp1_1 fp1_2 fp1_3 fp1_4 fp1_5 F0:List Nat} {D0:List Lev}
theorem Zob (x0:A8) (w:World):(ZW8 132 1 #[(0,.agg (ZMf (ZMe .u8 x0)))]).run ZMk w=.ok (.slice (some ⟨w.heap.size,0,none⟩) 1 1) (w.alloc (.cells (ZMf ((EA .u8).encs [x0])) 136)):=by kernel_rfl
theorem Zoc:J3 ZMk 136 (.agg (ZMf (ZMe .u8 A8.zero))) 8 8:=by unfold J3; kernel_rfl
theorem Zr1  (w:World):(ZW8 132 0 #[]).run ZMk w=.ok (.slice (some ⟨w.heap.size,0,none⟩) 0 0) (w.alloc (.cells (ZMf ((EA .u8).encs [])) 136)):=by kernel_rfl
theorem ZAi:ZMk.eqGuardType ZMk.depth 136=false:=by kernel_rfl
theorem ZAj:KeyT ZMk 136 (kvA .u8):=Zmp ZMz ZNh sc5
theorem Zcf  (w:World):(ZW8 22 0 #[]).run ZMk w=.ok (.slice (some ⟨w.heap.size,0,none⟩) 0 0) (w.alloc (.cells (ZMf ((EI .i64).encs [])) 2)):=by kernel_rfl
theorem Zf3 (x0:Int) (w:World):(ZW8 22 1 #[(0,.int .i64 x0)]).run ZMk w=.ok (.slice (some ⟨w.heap.size,0,none⟩) 1 1) (w.alloc (.cells (ZMf ((EI .i64).encs [x0])) 2)):=by kernel_rfl
theorem Zod (x0:Int) (x1:Int) (w:World):(ZW8 22 2 #[(0,.int .i64 x0),(1,.int .i64 x1)]).run ZMk w=.ok (.slice (some ⟨w.heap.size,0,none⟩) 2 2) (w.alloc (.cells (ZMf ((EI .i64).encs [x0,x1])) 2)):=by kernel_rfl
theorem sc4:ScaT ZMk 4:=⟨⟨_,Tryz.underlying4,rfl⟩,by kernel_rfl⟩
theorem ZAk (x0:Value) (x1:Value) (hx0:Zei x0) (hx1:Zei x1) (w:World):(ZW8 85 2 #[(0,x0),(1,x1)]).run ZMk w=.ok (.slice (some ⟨w.heap.size,0,none⟩) 2 2) (w.alloc (.cells (ZMf [x0,x1]) 22)):=by obtain ⟨_,_,_,rfl⟩:=hx0; obtain ⟨_,_,_,rfl⟩:=hx1; kernel_rfl
theorem ZAl  (w:World):(ZW8 200 0 #[]).run ZMk w=.ok (.slice (some ⟨w.heap.size,0,none⟩) 0 0) (w.alloc (.cells (ZMf ((EI .i64).encs [])) 3)):=by kernel_rfl
theorem ZAm (x0:Int) (w:World):(ZW8 200 1 #[(0,.int .i64 x0)]).run ZMk w=.ok (.slice (some ⟨w.heap.size,0,none⟩) 1 1) (w.alloc (.cells (ZMf ((EI .i64).encs [x0])) 3)):=by kernel_rfl
theorem el3:J3 ZMk 3 (.int .i64 0) 1 8:=by unfold J3; kernel_rfl
theorem ZAn (x0:Nat) (x1:Nat) (w:World):(Instr.build 198 #[(0,.pointer (some ⟨x0,0,none⟩)),(1,.map (some x1))]).run ZMk w=.ok (.agg #[.pointer (some ⟨x0,0,none⟩),.map (some x1)]) w:=by kernel_rfl
theorem Zif:AggT ZMk 25 2:=⟨⟨_,Tryz.underlying25,rfl⟩,by kernel_rfl⟩
def Zd3 (a0:List Int) (a1:Int) (K:Bool→Prop):Prop :=
 ((0≤a1∧a1 < (a0.length:Int))∧K (decide (a0.getD a1.toNat ZEo≠0)))
theorem ZAo (a0:List Int) (a1:Int)  {K:Bool→Prop} (h:Zd3 a0 a1 K) (w0:World) (q0:ZOz.rep a0 [u0_0] fp0 w0) (qb1:(blk b1 3 [vI a1]).holds w0) :
  Calls ZMk 142 #[u0_0,vQ b1] w0 fun e w'=>∃ (r0:Bool),
   e=.returned (.bool r0)∧K r0∧Bel w0 w':=by
 unfold Zd3 at h
 refine cof Tryz.func142 rfl 9 Tryz.ntmps142 ?_
 have hC:=ZM2 (X:=Nox) w0 [ZMg TInts a0 [u0_0] fp0,blk b1 3 [vI a1]] (alc q0 (al1 qb1))
 refine sr (Zd (v:=.bool false) rfl (dn (sr (Za (v:=u0_0) rfl (Zck (vI a1) (hC.getP 1 rfl) sc3 rfl rfl ?_)))))
 obtain ⟨⟨h0_3,h1_4⟩,h⟩:=h
 obtain ⟨Ad5,c6,hv7⟩:=Zw (hC.getP 0 rfl) a1.toNat (show a1.toNat < a0.length by omega)
 refine Yn (len:=a0.length) ZM0 sc2.size (tr rfl hv7) rfl h0_3 h1_4 (Yp (vI (a0.getD a1.toNat ZEo)) (Yd (hC.getP 0 rfl) hv7 a1.toNat (show a1.toNat < a0.length by omega)) sc2 rfl (Y6 rfl rfl (Zd (v:=.bool (decide (a0.getD a1.toNat ZEo≠0))) rfl (dn (ZMp ?_)))))
 exact Zi rfl (Zg rfl) ⟨decide (a0.getD a1.toNat ZEo≠0),rfl,h,hC.below⟩ (.inl rfl)
def Zbv (a0:A8) (K:Int→Prop):Prop :=
 Z8 (fun i10 (s10:Int) nx10=>nx10 (ZG5.wrap (s10+(ZG5.wrap (a0.get i10))))) (fun (s10:Int)=>K s10) 8 0 0
theorem Zig (a0:A8)  {K:Int→Prop} (h:Zbv a0 K) (w0:World)  :
  Calls ZMk 168 #[.agg (ZMf (ZMe .u8 a0))] w0 fun e w'=>∃ (r0:Int),
   e=.returned (vI r0)∧K r0∧Bel w0 w':=by
 unfold Zbv at h
 refine cof ZYh rfl 16 Tryz.ntmps168 ?_
 have hC:=ZM2 (X:=Nox) w0 [] (by simp)
 refine sr (Yg (v:=.agg (ZMf (ZMe .u8 a0))) hC (ZMe .u8 a0) rfl rfl fun b1 w3 hB_ hC=>Zd (v:=vI 0) rfl (dn (sr (Zd (v:=vI 0) rfl (dn (ZMh (sr (Zd (v:=vI 0) rfl (dn (ZMn ?_))))))))))
 refine Yi (S:=Int) _ _ (fun i10 s10 e_ w_=>Zt e_ [(1,vQ b1),(3,vI s10),(4,vI (i10:Int))]∧Ctx Nox w0 w_ [blk b1 136 (ZMe .u8 a0)] []) 8 ?_ ?_ (s0:=0) ?_ h
 ·clear hC h
  rintro i10 s10 e_ w10 nx10 K10 hi10 ⟨hS_,hC⟩ h hK10
  rw [ue hS_]
  refine ZMh (sr (Za (v:=vI (i10:Int)) rfl (Zn rfl rfl (dn (Z5 rfl (decide_eq_true (by omega)) (ZMl (Ze (ZMh (ZMn (Zh (Za (v:=vI s10) rfl (Za (v:=vI (i10:Int)) rfl (Xs i10 ZMz sc5.size rfl rfl (ZMx _) (by omega) (by omega) (Yb hC 0 (.int .u8 (a0.get i10)) rfl sc5 rfl (A8.enc_get _ _ hi10) (Zgp ZNh ZNn rfl (Zq rfl rfl (Zd (v:=vI (ZG5.wrap (s10+(ZG5.wrap (a0.get i10))))) rfl (done (Zr (Ze (Zh (Za (v:=vI (i10:Int)) rfl (Zq rfl rfl (Zd (v:=vI (ZG5.wrap ((i10:Int)+1))) rfl (done ?_)))))))))))))))))))))))))
  exact hK10 (ZG5.wrap (s10+(ZG5.wrap (a0.get i10)))) _ _ ⟨(sl ⟨rfl,rfl,(tr rfl (congrArg _ (Z2 hi10 (by decide)))),trivial⟩),hC⟩ h
 ·clear hC h
  rintro s10 e_ w11 K10 ⟨hS_,hC⟩ h
  rw [ue hS_]
  refine ZMh (sr (Za (v:=vI 8) rfl (Zn rfl rfl (dn (Z1 rfl (decide_eq_false (by omega)) ?_)))))
  refine ZMv (Zj (Zj (Zx ?_)))
  refine Ze (sr (Za (v:=vI s10) rfl (Zd (v:=vI s10) rfl (dn (ZMp ?_)))))
  exact Zi rfl (Zg rfl) ⟨s10,rfl,h,hC.below⟩ (.inl rfl)
 ·skip
  exact⟨(slq rfl),hC⟩
def Zih (a0:ZMj) (K:Int→Prop):Prop :=
 Xt (fun (s10:Int×Int) nx10=>(if s10.2 < (a0.terms.length:Int) then((0≤s10.2∧s10.2 < (a0.terms.length:Int))∧Zbv ((a0.terms.getD s10.2.toNat ZEo).mono) (fun r10=>(if s10.2=0 then nx10 (r10,ZG5.wrap (s10.2+1)) else(if r10 < s10.1 then nx10 (r10,ZG5.wrap (s10.2+1)) else nx10 (s10.1,ZG5.wrap (s10.2+1)))))) else K s10.1)) (0,0)
theorem ZAp (a0:ZMj)  {K:Int→Prop} (h:Zih a0 K) (w0:World) (q0:ZM3.rep a0 [u0_0] fp0 w0) :
  Calls ZMk 122 #[.agg #[u0_0]] w0 fun e w'=>∃ (r0:Int),
   e=.returned (vI r0)∧K r0∧Bel w0 w':=by
 unfold Zih at h
 refine cof Tryz.func122 rfl 29 Tryz.ntmps122 ?_
 have hC:=ZM2 (X:=Nox) w0 [ZMg TForm a0 [u0_0] fp0] (al1 q0)
 have hp2:=(hC.getP 0 rfl)
 replace hC:=hC.derive 0 rfl (ZMg ZMi.ty.sl a0.terms [u0_0] fp0) (fun _=>(Xk hp2)) (fun _ hb_=>hb_)
 refine sr (Yg (v:=.agg #[u0_0]) hC [u0_0] rfl rfl fun b4 w6 hB_ hC=>Zd (v:=vI 0) rfl (dn (sr (Zd (v:=vI 0) rfl (dn (ZMh (sr (Zd (v:=vI 0) rfl (dn (ZMn ?_))))))))))
 refine Xz (S:=Int×Int) _ (fun s10 e_ w_=>Zt e_ [(1,vQ b4),(3,vI s10.1),(4,vI s10.2)]∧Ctx Nox w0 w_ [blk b4 55 [u0_0]] [ZMg ZMi.ty.sl a0.terms [u0_0] fp0,ZMg TForm a0 [u0_0] fp0]) ?_ (s0:=(0,0)) ?_ h
 ·clear hC h
  rintro s10 e_ w10 nx10 K10 ⟨hS_,hC⟩ h hK10
  rw [ue hS_]
  refine ZMh (sr (Za (v:=vI s10.2) rfl (Z0 0 ZMo rfl sc53.size rfl rfl (Yb hC 0 (u0_0) rfl sc53 rfl rfl (Zu hC 0 rfl ZMr rfl (Zn rfl rfl (dn ?_)))))))
  refine Zs rfl (fun hb11=>?_) (fun hb11=>?_)
  ·replace h:=ift h (ct hb11)
   refine ZMl (Ze (ZMh (ZMn (sr (Z0 0 ZMo rfl sc53.size rfl rfl (Yb hC 0 (u0_0) rfl sc53 rfl rfl (Za (v:=vI s10.2) rfl ?_)))))))
   obtain ⟨⟨h10,h11⟩,h⟩:=h
   obtain ⟨Ad10,c10,hv10⟩:=Zw (hC.getP 0 rfl) s10.2.toNat (show s10.2.toNat < a0.terms.length by omega)
   refine Yn (len:=a0.terms.length) ZMr ag162.size (tr rfl hv10) rfl h10 h11 (Zeb (s10.2.toNat * 9+0) ZMw rfl ag136.size rfl rfl (Jd (ZMe .u8 ((a0.terms.getD s10.2.toNat ZEo).mono)) (Jy (o:=0) (k:=8) (Yd (hC.getP 0 rfl) hv10 s10.2.toNat (show s10.2.toNat < a0.terms.length by omega)) rfl) ag136 rfl rfl (Zf [.agg (ZMf (ZMe .u8 ((a0.terms.getD s10.2.toNat ZEo).mono)))] _ ZYh rfl rfl rfl (Zig ((a0.terms.getD s10.2.toNat ZEo).mono) h _) ?_)))
   rintro _ w11 ⟨r10,rfl,h,hB10⟩
   refine rt ?_
   replace hC:=hC.grow hB10
   refine Zd (v:=vI r10) rfl (dn (sr (Za (v:=vI s10.2) rfl (Xx rfl rfl (Za (v:=.bool (decide (s10.2=0))) rfl ?_)))))
   refine Y7 (decide (s10.2=0)) (fun hb10=>?_) (fun hb10=>?_)
   ·replace h:=ift h (ct hb10)
    refine Zl (b:=true) 2 22 rfl (tr rfl (congrArg _ hb10)) (by decide) (Zl (b:=true) 2 22 rfl (tr rfl (congrArg _ hb10)) (by decide) (Zl (b:=true) 2 22 rfl (tr rfl (congrArg _ hb10)) (by decide) (Z4 (v:=.bool true) (b:=true) (tr rfl (congrArg _ hb10)) rfl (dn (Z5 rfl rfl (Zh (Za (v:=vI r10) rfl (Zd (v:=vI r10) rfl (done (Zr (Ze (Zh (Za (v:=vI s10.2) rfl (Zq rfl rfl (Zd (v:=vI (ZG5.wrap (s10.2+1))) rfl (done ?_))))))))))))))))
    exact hK10 (r10,ZG5.wrap (s10.2+1)) _ _ ⟨(slq rfl),hC⟩ h
   ·replace h:=Zk h (cf hb10)
    refine Zp 2 22 rfl rfl hb10 (Za (v:=vI r10) rfl (Zp 2 22 rfl rfl hb10 (Za (v:=vI s10.1) rfl (Zp 2 22 rfl rfl hb10 (Zn rfl rfl (Z4 (v:=.bool (decide (r10 < s10.1))) (b:=false) (tr rfl (congrArg _ hb10)) rfl (dn ?_)))))))
    refine Zs rfl (fun hb12=>?_) (fun hb12=>?_)
    ·replace h:=ift h (ct hb12)
     refine Zh (Za (v:=vI r10) rfl (Zd (v:=vI r10) rfl (done (Zr (Ze (Zh (Za (v:=vI s10.2) rfl (Zq rfl rfl (Zd (v:=vI (ZG5.wrap (s10.2+1))) rfl (done ?_))))))))))
     exact hK10 (r10,ZG5.wrap (s10.2+1)) _ _ ⟨(slq rfl),hC⟩ h
    ·replace h:=Zk h (cf hb12)
     refine ZMl (Zr (Ze (Zh (Za (v:=vI s10.2) rfl (Zq rfl rfl (Zd (v:=vI (ZG5.wrap (s10.2+1))) rfl (done ?_)))))))
     exact hK10 (s10.1,ZG5.wrap (s10.2+1)) _ _ ⟨(slq rfl),hC⟩ h
  ·replace h:=Zk h (cf hb11)
   refine ZMv (Zj (Zj (Zx ?_)))
   refine Ze (sr (Za (v:=vI s10.1) rfl (Zd (v:=vI s10.1) rfl (dn (ZMp ?_)))))
   exact Zi rfl (Zg rfl) ⟨s10.1,rfl,h,hC.below⟩ (.inl rfl)
 ·skip
  exact⟨(slq rfl),hC⟩
def Zii (a0:Alg) (K:Bool→Prop):Prop :=
 Xt (fun (s10:Int) nx10=>(if s10 < (a0.images.length:Int) then((0≤s10∧s10 < (a0.images.length:Int))∧Zih (a0.images.getD s10.toNat ZEo) (fun r10=>(if r10=1 then K false else nx10 (ZG5.wrap (s10+1))))) else K true)) 0
theorem ZAq (a0:Alg)  {K:Bool→Prop} (h:Zii a0 K) (w0:World) (q0:TAlg.rep a0 [u0_0,u0_1] fp0 w0) :
  Calls ZMk 70 #[.agg #[u0_0,u0_1]] w0 fun e w'=>∃ (r0:Bool),
   e=.returned (.bool r0)∧K r0∧Bel w0 w':=by
 unfold Zii at h
 refine cof Tryz.func70 rfl 18 Tryz.ntmps70 ?_
 have hC:=ZM2 (X:=Nox) w0 [ZMg TAlg a0 [u0_0,u0_1] fp0] (al1 q0)
 replace hC:=hC.dAlg 0 rfl
 refine sr (Yg (v:=.agg #[u0_0,u0_1]) hC [u0_0,u0_1] rfl rfl fun b4 w6 hB_ hC=>Zd (v:=.bool false) rfl (dn (ZMh (sr (Zd (v:=vI 0) rfl (dn (ZMn ?_)))))))
 refine Xz (S:=Int) _ (fun s10 e_ w_=>Zt e_ [(1,vQ b4),(3,vI s10)]∧Ctx Nox w0 w_ [blk b4 32 [u0_0,u0_1]] [ZMg ZM3.sl a0.images [u0_1] fp0,ZMg TInts a0.degrees [u0_0] fp0,ZMg TAlg a0 [u0_0,u0_1] fp0]) ?_ (s0:=0) ?_ h
 ·clear hC h
  rintro s10 e_ w10 nx10 K10 ⟨hS_,hC⟩ h hK10
  rw [ue hS_]
  refine ZMh (sr (Za (v:=vI s10) rfl (Z0 1 ZM1 rfl sc30.size rfl rfl (Yb hC 0 (u0_1) rfl sc30 rfl rfl (Zu hC 0 rfl Tryz.underlying30 rfl (Zn rfl rfl (dn ?_)))))))
  refine Zs rfl (fun hb10=>?_) (fun hb10=>?_)
  ·replace h:=ift h (ct hb10)
   refine ZMl (Ze (ZMh (ZMn (sr (Z0 1 ZM1 rfl sc30.size rfl rfl (Yb hC 0 (u0_1) rfl sc30 rfl rfl (Za (v:=vI s10) rfl ?_)))))))
   obtain ⟨⟨h10,h11⟩,h⟩:=h
   obtain ⟨Ad10,c10,hv10⟩:=Zw (hC.getP 0 rfl) s10.toNat (show s10.toNat < a0.images.length by omega)
   refine Yn (len:=a0.images.length) Tryz.underlying30 ag55.size (tr rfl hv10) rfl h10 h11 ?_
   obtain ⟨cs_,hl10,hc10,hr10⟩:=Xg (hC.getP 0 rfl) hv10 s10.toNat (show s10.toNat < a0.images.length by omega)
   obtain ⟨u10,rfl⟩:=ZNd.1 hl10
   clear hl10
   rw [Xd _ _ (show s10.toNat < a0.images.length by omega)] at hr10
   have hp10:=hr10
   replace hC:=hC.derive 0 rfl (ZMg ZMi.ty.sl ((a0.images.getD s10.toNat ZEo).terms) [u10] fp0) (fun _=>(Xk hp10)) (fun _ hb_=>hb_)
   refine Jd [u10] hc10 ag55 rfl rfl (Zf [.agg #[u10]] _ Tryz.func122 rfl rfl rfl (ZAp (a0.images.getD s10.toNat ZEo) h _ (Y3 (hC.getP 0 rfl))) ?_)
   rintro _ w11 ⟨r10,rfl,h,hB10⟩
   refine rt ?_
   replace hC:=hC.grow hB10
   refine Xx rfl rfl (dn ?_)
   refine Zs rfl (fun hb11=>?_) (fun hb11=>?_)
   ·replace h:=ift h (ct hb11)
    refine sr (Zd (v:=.bool false) rfl (dn ?_))
    refine ZMp (Ya (Zm (Zm (Ya (Zm ?_)))))
    exact Zi rfl (Zg rfl) ⟨false,rfl,h,hC.below⟩ (.inl rfl)
   ·replace h:=Zk h (cf hb11)
    refine ZMl (Zr (Ze (Zh (Za (v:=vI s10) rfl (Zq rfl rfl (Zd (v:=vI (ZG5.wrap (s10+1))) rfl (done ?_)))))))
    exact hK10 (ZG5.wrap (s10+1)) _ _ ⟨(slq rfl),(hC.sP [1,2,3] rfl)⟩ h
  ·replace h:=Zk h (cf hb10)
   refine ZMv (Zj (Zj (Zx ?_)))
   refine Ze (sr (Zd (v:=.bool true) rfl (dn (ZMp ?_))))
   exact Zi rfl (Zg rfl) ⟨true,rfl,h,hC.below⟩ (.inl rfl)
 ·skip
  exact⟨(slq rfl),hC⟩
def Zij (a0:Alg) (K:Int→Prop):Prop :=
 Zfn a0 (fun r10=>(if¬ (r10=true) then K 1 else Zii a0 (fun r11=>(if¬ (r11=true) then K 5 else K 0))))
theorem ZAr (a0:Alg)  {K:Int→Prop} (h:Zij a0 K) (w0:World) (q0:TAlg.rep a0 [u0_0,u0_1] fp0 w0) :
  Calls ZMk 58 #[.agg #[u0_0,u0_1]] w0 fun e w'=>∃ (r0:Int),
   e=.returned (vI r0)∧K r0∧Bel w0 w':=by
 unfold Zij at h
 refine cof Tryz.func58 rfl 11 Tryz.ntmps58 ?_
 have hC:=ZM2 (X:=Nox) w0 [ZMg TAlg a0 [u0_0,u0_1] fp0] (al1 q0)
 replace hC:=hC.dAlg 0 rfl
 refine sr (Yg (v:=.agg #[u0_0,u0_1]) hC [u0_0,u0_1] rfl rfl fun b4 w6 hB_ hC=>Zd (v:=vI 0) rfl (dn (ZMh (ZMn (sr (Yq hC 0 [u0_0,u0_1] rfl ag32 rfl rfl rfl (Zf [.agg #[u0_0,u0_1]] _ Tryz.func92 rfl rfl rfl (Zqk a0 h _ (Yk (hC.getP 1 rfl) (hC.getP 0 rfl))) ?_)))))))
 rintro _ w9 ⟨r10,rfl,h,hB10⟩
 refine rt ?_
 replace hC:=hC.grow hB10
 refine Xe rfl (Zd (v:=.bool (!r10)) rfl (dn ?_))
 refine Zs rfl (fun hb10=>?_) (fun hb10=>?_)
 ·replace h:=ift h (Y4 (Xi hb10))
  refine sr (Zd (v:=vI 1) rfl (dn ?_))
  refine ZMp (Ya (Zm ?_))
  exact Zi rfl (Zg rfl) ⟨1,rfl,h,hC.below⟩ (.inl rfl)
 ·replace h:=Zk h (not_not_intro ((Xj hb10)))
  refine sr (Yq hC 0 [u0_0,u0_1] rfl ag32 rfl rfl rfl (Zf [.agg #[u0_0,u0_1]] _ Tryz.func70 rfl rfl rfl (ZAq a0 h _ (Yk (hC.getP 1 rfl) (hC.getP 0 rfl))) ?_))
  rintro _ w10 ⟨r11,rfl,h,hB11⟩
  refine rt ?_
  replace hC:=hC.grow hB11
  refine Xe rfl (Zd (v:=.bool (!r11)) rfl (dn ?_))
  refine Zs rfl (fun hb11=>?_) (fun hb11=>?_)
  ·replace h:=ift h (Y4 (Xi hb11))
   refine sr (Zd (v:=vI 5) rfl (dn ?_))
   refine ZMp (Ya (Zm ?_))
   exact Zi rfl (Zg rfl) ⟨5,rfl,h,hC.below⟩ (.inl rfl)
  ·replace h:=Zk h (not_not_intro ((Xj hb11)))
   refine ZMl (Zr (Ze (sr (Zd (v:=vI 0) rfl (dn (ZMp ?_))))))
   exact Zi rfl (Zg rfl) ⟨0,rfl,h,hC.below⟩ (.inl rfl)
def f_spec_l01Fill (fu_:Nat) (a0:List Int) (a1:A8) (a2:Int) (a3:Int) (a4:List A8) (K:List A8→Prop):Prop :=
 match fu_ with
 | 0=>False
 | fu_+1=>(if a2=(a0.length:Int) then(if a3=0 then(Zy (a4.length+1) 8∧K (a4++[a1])) else K a4) else((0≤a2∧a2 < (a0.length:Int))∧((a0.getD a2.toNat ZEo)≠0∧((0≤a2∧a2 < (a0.length:Int))∧(if ZFf (a0.getD a2.toNat ZEo) 2≠0 then Xt (fun (s10:A8×(List A8)×Int) nx10=>(if s10.2.2≥0 then(if(s10.2.1.length:Int)≤400 then((0≤a2∧a2 < 8)∧((0≤a2∧a2 < (a0.length:Int))∧f_spec_l01Fill fu_ a0 (s10.1.set a2.toNat (ZMt.wrap s10.2.2)) (ZG5.wrap (a2+1)) (ZG5.wrap (a3 - (ZG5.wrap (s10.2.2 * (a0.getD a2.toNat ZEo))))) s10.2.1 (fun r10=>nx10 (s10.1.set a2.toNat (ZMt.wrap s10.2.2),r10,ZG5.wrap (s10.2.2 - 1))))) else K s10.2.1) else K s10.2.1)) (a1,a4,(if 20 < (if 1 < ZG5.wrap (ZW1 a3 (a0.getD a2.toNat ZEo)) then 1 else ZG5.wrap (ZW1 a3 (a0.getD a2.toNat ZEo))) then 20 else(if 1 < ZG5.wrap (ZW1 a3 (a0.getD a2.toNat ZEo)) then 1 else ZG5.wrap (ZW1 a3 (a0.getD a2.toNat ZEo))))) else Xt (fun (s11:A8×(List A8)×Int) nx11=>(if s11.2.2≥0 then(if(s11.2.1.length:Int)≤400 then((0≤a2∧a2 < 8)∧((0≤a2∧a2 < (a0.length:Int))∧f_spec_l01Fill fu_ a0 (s11.1.set a2.toNat (ZMt.wrap s11.2.2)) (ZG5.wrap (a2+1)) (ZG5.wrap (a3 - (ZG5.wrap (s11.2.2 * (a0.getD a2.toNat ZEo))))) s11.2.1 (fun r11=>nx11 (s11.1.set a2.toNat (ZMt.wrap s11.2.2),r11,ZG5.wrap (s11.2.2 - 1))))) else K s11.2.1) else K s11.2.1)) (a1,a4,(if 20 < ZG5.wrap (ZW1 a3 (a0.getD a2.toNat ZEo)) then 20 else ZG5.wrap (ZW1 a3 (a0.getD a2.toNat ZEo)))))))))
theorem ZAs (fu_:Nat):∀ (a0:List Int) (a1:A8) (a2:Int) (a3:Int) (a4:List A8) {u4_0:Value} {u0_0:Value} {fp0:List Nat} {K:List A8→Prop} (h:f_spec_l01Fill fu_ a0 a1 a2 a3 a4 K) (w0:World) (q0:ZOz.rep a0 [u0_0] fp0 w0) (qo4:(own 136 8 u4_0 a4.length ((EA .u8).encs a4)).holds w0) (do0:∀ b,b∈fp0→b∉ZNg (ZFi u4_0)),
  Calls ZMk 150 #[u0_0,.agg (ZMf (ZMe .u8 a1)),vI a2,vI a3,u4_0] w0 fun e w'=>∃ (r0:List A8) (z0_0:Value),
   e=.returned (z0_0)∧K r0∧(own 136 8 z0_0 r0.length ((EA .u8).encs r0)).holds w'∧(∀ b,b∈ZNg (ZFi z0_0)→b∈ZNg (ZFi u4_0)∨w0.heap.size≤b)∧BelO (ZNg (ZFi u4_0)) w0 w':=by
 induction fu_ with
 | zero =>
  intro a0 a1 a2 a3 a4 u4_0 u0_0 fp0 K h w0 q0 qo4 do0
  exact False.elim h
 | succ fu_ ih_ =>
  intro a0 a1 a2 a3 a4 u4_0 u0_0 fp0 K h w0 q0 qo4 do0
  rw [f_spec_l01Fill.eq_2] at h
  refine cof ZYk rfl 68 Tryz.ntmps150 ?_
  have hC:=Ctx.startL w0 (ZNg (ZFi u4_0)) [own 136 8 u4_0 a4.length ((EA .u8).encs a4)] [ZMg TInts a0 [u0_0] fp0] (by simp only [ZEk,ZGu,or_false,forall_eq_or_imp,forall_eq]; exact qo4) (by simp only [ZEk,ZGu,or_false,forall_eq_or_imp,forall_eq]; exact q0) (by simp only [ZEk,ZGu,or_false,forall_eq_or_imp,forall_eq]; exact(fun b_ hb_=>hb_)) (List.pairwise_singleton _ _) (by simp only [ZEk,ZGu,or_false,forall_eq_or_imp,forall_eq]; exact do0)
  refine sr (Yg (v:=.agg (ZMf (ZMe .u8 a1))) hC (ZMe .u8 a1) rfl rfl fun b3 w5 hB_ hC=>Zd (v:=.slice none 0 0) rfl (dn (ZMh (sr (Za (v:=vI a2) rfl (Za (v:=u0_0) rfl (Zu hC 0 rfl ZM0 rfl (Xx rfl rfl (dn ?_)))))))))
  refine Zs rfl (fun hb9=>?_) (fun hb9=>?_)
  ·replace h:=ift h (ct hb9)
   refine ZMh (sr (Za (v:=vI a3) rfl (Xx rfl rfl (dn ?_))))
   refine Zs rfl (fun hb12=>?_) (fun hb12=>?_)
   ·replace h:=ift h (ct hb12)
    refine sr (Za (v:=u4_0) rfl (Yq hC 0 (ZMe .u8 a1) rfl ag136 rfl rfl rfl (Ye (sz:=8) hC [(0,.agg (ZMf (ZMe .u8 a1)))] ((EA .u8).encs [a1]) rfl (fun _=>Zob a1 _) rfl (by decide) fun b10 w10 hB_ hC=>?_)))
    obtain ⟨hm10,h⟩:=h
    refine Ja hC 2 ZX9 Zoc rfl (by decide) (by decide) rfl (Jx (hC.getM 0 rfl)) (fun q hq=>ZNk (E:=(EA .u8)) _ q hq) rfl rfl hm10 fun v12 w11 hC=>?_
    replace hC:=Yy hC 2 ((a4++[a1]).length) ((EA .u8).encs (a4++[a1])) rfl (by simp) (by first | (simp [ZM9]; done) | simp [ZM9,ZSs])
    refine Zd (v:=v12) rfl (dn ?_)
    refine ZMp (Zm (Zm ?_))
    exact Zi rfl (Zg rfl) ⟨a4++[a1],v12,rfl,h,(hC.getM 2 rfl),(fun b_ hb_=>(hC.mfk 2 rfl b_ hb_).symm),hC.belO⟩ (.inl rfl)
   ·replace h:=Zk h (cf hb12)
    refine ZMl (Ze (sr (Za (v:=u4_0) rfl (Zd (v:=u4_0) rfl (dn ?_)))))
    refine ZMp (Zm ?_)
    exact Zi rfl (Zg rfl) ⟨a4,u4_0,rfl,h,(hC.getM 1 rfl),(fun b_ hb_=>(hC.mfk 1 rfl b_ hb_).symm),hC.belO⟩ (.inl rfl)
  ·replace h:=Zk h (cf hb9)
   refine ZMl (Ze (sr (Za (v:=vI a3) rfl (Za (v:=u0_0) rfl (Za (v:=vI a2) rfl ?_)))))
   obtain ⟨⟨h10,h11⟩,h⟩:=h
   obtain ⟨Ad12,c10,hv10⟩:=Zw (hC.getP 0 rfl) a2.toNat (show a2.toNat < a0.length by omega)
   refine Yn (len:=a0.length) ZM0 sc2.size (tr rfl hv10) rfl h10 h11 (Yp (vI (a0.getD a2.toNat ZEo)) (Yd (hC.getP 0 rfl) hv10 a2.toNat (show a2.toNat < a0.length by omega)) sc2 rfl ?_)
   obtain ⟨h12,h⟩:=h
   refine Ze8 rfl rfl h12 (Zd (v:=vI (ZG5.wrap (ZW1 a3 (a0.getD a2.toNat ZEo)))) rfl (dn (ZMh (sr (Za (v:=u0_0) rfl (Za (v:=vI a2) rfl ?_))))))
   obtain ⟨⟨h13,h14⟩,h⟩:=h
   obtain ⟨Ad13,c11,hv11⟩:=Zw (hC.getP 0 rfl) a2.toNat (show a2.toNat < a0.length by omega)
   refine Yn (len:=a0.length) ZM0 sc2.size (tr rfl hv11) rfl h13 h14 (Yp (vI (a0.getD a2.toNat ZEo)) (Yd (hC.getP 0 rfl) hv11 a2.toNat (show a2.toNat < a0.length by omega)) sc2 rfl (X8 rfl rfl (by decide) (Y6 rfl rfl (dn ?_))))
   refine Zs rfl (fun hb13=>?_) (fun hb13=>?_)
   ·replace h:=ift h (ct hb13)
    refine Zh (Za (v:=vI (ZG5.wrap (ZW1 a3 (a0.getD a2.toNat ZEo)))) rfl (Zic rfl rfl (Zd (v:=vI (if 1 < ZG5.wrap (ZW1 a3 (a0.getD a2.toNat ZEo)) then 1 else ZG5.wrap (ZW1 a3 (a0.getD a2.toNat ZEo)))) rfl (dn (ZMh (sr (Za (v:=vI (if 1 < ZG5.wrap (ZW1 a3 (a0.getD a2.toNat ZEo)) then 1 else ZG5.wrap (ZW1 a3 (a0.getD a2.toNat ZEo)))) rfl (Zic rfl rfl (Zd (v:=vI (if 20 < (if 1 < ZG5.wrap (ZW1 a3 (a0.getD a2.toNat ZEo)) then 1 else ZG5.wrap (ZW1 a3 (a0.getD a2.toNat ZEo))) then 20 else(if 1 < ZG5.wrap (ZW1 a3 (a0.getD a2.toNat ZEo)) then 1 else ZG5.wrap (ZW1 a3 (a0.getD a2.toNat ZEo))))) rfl (dn (ZMn ?_)))))))))))
    refine Xz (S:=A8×(List A8)×Int) _ (fun s10 e_ w_=>∃ (v10:Value),Zt e_ [(0,u0_0),(2,vI a2),(3,vI a3),(4,v10),(6,vQ b3),(12,vI s10.2.2)]∧Ctx (fun c_=>c_∈ZNg (ZFi u4_0)) w0 w_ [blk b3 136 (ZMe .u8 s10.1),own 136 8 v10 s10.2.1.length ((EA .u8).encs s10.2.1)] [ZMg TInts a0 [u0_0] fp0]) ?_ (s0:=(a1,a4,(if 20 < (if 1 < ZG5.wrap (ZW1 a3 (a0.getD a2.toNat ZEo)) then 1 else ZG5.wrap (ZW1 a3 (a0.getD a2.toNat ZEo))) then 20 else(if 1 < ZG5.wrap (ZW1 a3 (a0.getD a2.toNat ZEo)) then 1 else ZG5.wrap (ZW1 a3 (a0.getD a2.toNat ZEo)))))) ?_ h
    ·clear hC h
     rintro s10 e_ w12 nx10 K10 ⟨v10,hS_,hC⟩ h hK10
     rw [ue hS_]
     refine ZMh (sr (Za (v:=vI s10.2.2) rfl (J7 rfl rfl (Za (v:=.bool (decide (s10.2.2≥0))) rfl ?_))))
     refine Y7 (decide (s10.2.2≥0)) (fun hb10=>?_) (fun hb10=>?_)
     ·replace h:=ift h (ct hb10)
      refine Zp 2 42 rfl rfl hb10 (Za (v:=v10) rfl (Zp 2 42 rfl rfl hb10 (Zac hC 1 rfl ZX9 rfl (Zp 2 42 rfl rfl hb10 (Zb7 rfl rfl (Z4 (v:=.bool (decide ((s10.2.1.length:Int)≤400))) (b:=true) (tr rfl (congrArg _ hb10)) rfl (dn ?_)))))))
      refine Zs rfl (fun hb14=>?_) (fun hb14=>?_)
      ·replace h:=ift h (ct hb14)
       refine ZMl (Ze (ZMh (ZMn (sr (Za (v:=vI a2) rfl (Za (v:=vI s10.2.2) rfl (Zgp ZNn ZNh rfl ?_)))))))
       obtain ⟨⟨h15,h16⟩,h⟩:=h
       refine Xs a2.toNat ZMz sc5.size rfl rfl h15 h16 (by omega) (Z3 (v:=.int .u8 (ZMt.wrap s10.2.2)) hC 0 [.int .u8 (ZMt.wrap s10.2.2)] (ZMe .u8 (s10.1.set a2.toNat (ZMt.wrap s10.2.2))) rfl sc5.size rfl rfl rfl rfl rfl (show a2.toNat < 8 by omega) (A8.enc_set _ _ _ (show a2.toNat < 8 by omega)) fun w13 hC=>dn ?_)
       refine cwd 13 Yo [0,0,0,4,0,0,0,0,192,448,992,2032,0,8191,16383] [1,8,9] [0,2,3,4,5,6,7,10,11,12] (fun hM12 hM10 w14 hB_=>?_)
       replace hC:=hC.grow hB_
       refine bM 0 (u0_0) rfl hM10 (Zc 15 1) (bL 1 (.agg (ZMf (ZMe .u8 (s10.1.set a2.toNat (ZMt.wrap s10.2.2))))) rfl rfl hM12 (fun _ hB_=>by exact Xa (hC.grow hB_) 0 (ZMe .u8 (s10.1.set a2.toNat (ZMt.wrap s10.2.2))) rfl ag136 rfl rfl rfl) (Zc 15 3) (bM 2 (vI a2) rfl hM10 (Zc 15 7) (bF 3 (vI (ZG5.wrap (a2+1))) rfl rfl hM10 (fun _=>by exact Zb6 rfl rfl) (Zc 15 15) (bM 4 (vI a3) rfl hM10 (Zc 15 31) (bM 5 (vI s10.2.2) rfl hM10 (Zc 15 63) (bM 6 (u0_0) rfl hM10 (Zc 15 127) (bM 7 (vI a2) rfl hM10 (Zc 15 255) ?_)))))))
       obtain ⟨⟨h17,h18⟩,h⟩:=h
       obtain ⟨Ad10,c12,hv12⟩:=Zw (hC.getP 0 rfl) a2.toNat (show a2.toNat < a0.length by omega)
       refine bL 8 (.pointer (some (Ad10.add (a2.toNat * 1)))) rfl rfl hM12 (fun _ hB_=>by exact Y2 (len:=a0.length) ZM0 sc2.size (by exact tr rfl hv12) rfl h17 h18) (Zc 15 511) (bL 9 (vI (a0.getD a2.toNat ZEo)) rfl rfl hM12 (fun _ hB_=>by exact Xn (vI (a0.getD a2.toNat ZEo)) (Yd ((hC.grow hB_).getP 0 rfl) hv12 a2.toNat (show a2.toNat < a0.length by omega)) sc2 rfl) (Zc 15 1023) (bF 10 (vI (ZG5.wrap (s10.2.2 * (a0.getD a2.toNat ZEo)))) rfl rfl hM10 (fun _=>by exact Zc1 rfl rfl) (Zc 15 2047) (bF 11 (vI (ZG5.wrap (a3 - (ZG5.wrap (s10.2.2 * (a0.getD a2.toNat ZEo)))))) rfl rfl hM10 (fun _=>by exact Zc0 rfl rfl) (Zc 15 4095) (bM 12 (v10) rfl hM10 (Zc 15 8191) (Z6 13 (by decide) (by decide) (by kernel_rfl) (by kernel_rfl) rfl (Zf [u0_0,.agg (ZMf (ZMe .u8 (s10.1.set a2.toNat (ZMt.wrap s10.2.2)))),vI (ZG5.wrap (a2+1)),vI (ZG5.wrap (a3 - (ZG5.wrap (s10.2.2 * (a0.getD a2.toNat ZEo))))),v10] _ ZYk rfl rfl rfl (ih_ a0 (s10.1.set a2.toNat (ZMt.wrap s10.2.2)) (ZG5.wrap (a2+1)) (ZG5.wrap (a3 - (ZG5.wrap (s10.2.2 * (a0.getD a2.toNat ZEo))))) s10.2.1 h _ (hC.getP 0 rfl) (hC.getM 1 rfl) (fun b_ hb_ hb2_=>hC.pdk 0 1 rfl rfl b_ hb_ hb2_)) ?_))))))
       rintro _ w15 ⟨r10,v13,rfl,h,hr10,hf10,hB10⟩
       refine rt ?_
       replace hC:=hC.turnO 1 rfl hB10 hr10 hf10
       refine Zd (v:=v13) rfl (done (Z7 (Zr (Ze (Zh (Za (v:=vI s10.2.2) rfl (X3 rfl rfl (Zd (v:=vI (ZG5.wrap (s10.2.2 - 1))) rfl (done ?_)))))))))
       exact hK10 (s10.1.set a2.toNat (ZMt.wrap s10.2.2),r10,ZG5.wrap (s10.2.2 - 1)) _ _ ⟨v13,(slq rfl),hC⟩ h
      ·replace h:=Zk h (cf hb14)
       refine ZMv (Zj (Zj (Zx ?_)))
       refine Ze (sr (Za (v:=v10) rfl (Zd (v:=v10) rfl (dn (ZMp ?_)))))
       exact Zi rfl (Zg rfl) ⟨s10.2.1,v10,rfl,h,(hC.getM 1 rfl),(fun b_ hb_=>(hC.mfk 1 rfl b_ hb_).symm),hC.belO⟩ (.inl rfl)
     ·replace h:=Zk h (cf hb10)
      refine Zl (b:=false) 2 42 rfl (tr rfl (congrArg _ hb10)) (by decide) (Zl (b:=false) 2 42 rfl (tr rfl (congrArg _ hb10)) (by decide) (Zl (b:=false) 2 42 rfl (tr rfl (congrArg _ hb10)) (by decide) (Z4 (v:=.bool false) (b:=false) (tr rfl (congrArg _ hb10)) rfl (dn (Z1 rfl rfl ?_)))))
      refine ZMv (Zj (Zj (Zx ?_)))
      refine Ze (sr (Za (v:=v10) rfl (Zd (v:=v10) rfl (dn (ZMp ?_)))))
      exact Zi rfl (Zg rfl) ⟨s10.2.1,v10,rfl,h,(hC.getM 1 rfl),(fun b_ hb_=>(hC.mfk 1 rfl b_ hb_).symm),hC.belO⟩ (.inl rfl)
    ·skip
     exact⟨u4_0,(slq rfl),hC⟩
   ·replace h:=Zk h (cf hb13)
    refine ZMl (Ze (ZMh (sr (Za (v:=vI (ZG5.wrap (ZW1 a3 (a0.getD a2.toNat ZEo)))) rfl (Zic rfl rfl (Zd (v:=vI (if 20 < ZG5.wrap (ZW1 a3 (a0.getD a2.toNat ZEo)) then 20 else ZG5.wrap (ZW1 a3 (a0.getD a2.toNat ZEo)))) rfl (dn (ZMn ?_))))))))
    refine Xz (S:=A8×(List A8)×Int) _ (fun s11 e_ w_=>∃ (v11:Value),Zt e_ [(0,u0_0),(2,vI a2),(3,vI a3),(4,v11),(6,vQ b3),(12,vI s11.2.2)]∧Ctx (fun c_=>c_∈ZNg (ZFi u4_0)) w0 w_ [blk b3 136 (ZMe .u8 s11.1),own 136 8 v11 s11.2.1.length ((EA .u8).encs s11.2.1)] [ZMg TInts a0 [u0_0] fp0]) ?_ (s0:=(a1,a4,(if 20 < ZG5.wrap (ZW1 a3 (a0.getD a2.toNat ZEo)) then 20 else ZG5.wrap (ZW1 a3 (a0.getD a2.toNat ZEo))))) ?_ h
    ·clear hC h
     rintro s11 e_ w16 nx11 K11 ⟨v11,hS_,hC⟩ h hK11
     rw [ue hS_]
     refine ZMh (sr (Za (v:=vI s11.2.2) rfl (J7 rfl rfl (Za (v:=.bool (decide (s11.2.2≥0))) rfl ?_))))
     refine Y7 (decide (s11.2.2≥0)) (fun hb11=>?_) (fun hb11=>?_)
     ·replace h:=ift h (ct hb11)
      refine Zp 2 42 rfl rfl hb11 (Za (v:=v11) rfl (Zp 2 42 rfl rfl hb11 (Zac hC 1 rfl ZX9 rfl (Zp 2 42 rfl rfl hb11 (Zb7 rfl rfl (Z4 (v:=.bool (decide ((s11.2.1.length:Int)≤400))) (b:=true) (tr rfl (congrArg _ hb11)) rfl (dn ?_)))))))
      refine Zs rfl (fun hb15=>?_) (fun hb15=>?_)
      ·replace h:=ift h (ct hb15)
       refine ZMl (Ze (ZMh (ZMn (sr (Za (v:=vI a2) rfl (Za (v:=vI s11.2.2) rfl (Zgp ZNn ZNh rfl ?_)))))))
       obtain ⟨⟨h19,h20⟩,h⟩:=h
       refine Xs a2.toNat ZMz sc5.size rfl rfl h19 h20 (by omega) (Z3 (v:=.int .u8 (ZMt.wrap s11.2.2)) hC 0 [.int .u8 (ZMt.wrap s11.2.2)] (ZMe .u8 (s11.1.set a2.toNat (ZMt.wrap s11.2.2))) rfl sc5.size rfl rfl rfl rfl rfl (show a2.toNat < 8 by omega) (A8.enc_set _ _ _ (show a2.toNat < 8 by omega)) fun w17 hC=>dn ?_)
       refine cwd 13 Yo [0,0,0,4,0,0,0,0,192,448,992,2032,0,8191,16383] [1,8,9] [0,2,3,4,5,6,7,10,11,12] (fun hM13 hM11 w18 hB_=>?_)
       replace hC:=hC.grow hB_
       refine bM 0 (u0_0) rfl hM11 (Zc 15 1) (bL 1 (.agg (ZMf (ZMe .u8 (s11.1.set a2.toNat (ZMt.wrap s11.2.2))))) rfl rfl hM13 (fun _ hB_=>by exact Xa (hC.grow hB_) 0 (ZMe .u8 (s11.1.set a2.toNat (ZMt.wrap s11.2.2))) rfl ag136 rfl rfl rfl) (Zc 15 3) (bM 2 (vI a2) rfl hM11 (Zc 15 7) (bF 3 (vI (ZG5.wrap (a2+1))) rfl rfl hM11 (fun _=>by exact Zb6 rfl rfl) (Zc 15 15) (bM 4 (vI a3) rfl hM11 (Zc 15 31) (bM 5 (vI s11.2.2) rfl hM11 (Zc 15 63) (bM 6 (u0_0) rfl hM11 (Zc 15 127) (bM 7 (vI a2) rfl hM11 (Zc 15 255) ?_)))))))
       obtain ⟨⟨h21,h22⟩,h⟩:=h
       obtain ⟨Ad11,c13,hv13⟩:=Zw (hC.getP 0 rfl) a2.toNat (show a2.toNat < a0.length by omega)
       refine bL 8 (.pointer (some (Ad11.add (a2.toNat * 1)))) rfl rfl hM13 (fun _ hB_=>by exact Y2 (len:=a0.length) ZM0 sc2.size (by exact tr rfl hv13) rfl h21 h22) (Zc 15 511) (bL 9 (vI (a0.getD a2.toNat ZEo)) rfl rfl hM13 (fun _ hB_=>by exact Xn (vI (a0.getD a2.toNat ZEo)) (Yd ((hC.grow hB_).getP 0 rfl) hv13 a2.toNat (show a2.toNat < a0.length by omega)) sc2 rfl) (Zc 15 1023) (bF 10 (vI (ZG5.wrap (s11.2.2 * (a0.getD a2.toNat ZEo)))) rfl rfl hM11 (fun _=>by exact Zc1 rfl rfl) (Zc 15 2047) (bF 11 (vI (ZG5.wrap (a3 - (ZG5.wrap (s11.2.2 * (a0.getD a2.toNat ZEo)))))) rfl rfl hM11 (fun _=>by exact Zc0 rfl rfl) (Zc 15 4095) (bM 12 (v11) rfl hM11 (Zc 15 8191) (Z6 13 (by decide) (by decide) (by kernel_rfl) (by kernel_rfl) rfl (Zf [u0_0,.agg (ZMf (ZMe .u8 (s11.1.set a2.toNat (ZMt.wrap s11.2.2)))),vI (ZG5.wrap (a2+1)),vI (ZG5.wrap (a3 - (ZG5.wrap (s11.2.2 * (a0.getD a2.toNat ZEo))))),v11] _ ZYk rfl rfl rfl (ih_ a0 (s11.1.set a2.toNat (ZMt.wrap s11.2.2)) (ZG5.wrap (a2+1)) (ZG5.wrap (a3 - (ZG5.wrap (s11.2.2 * (a0.getD a2.toNat ZEo))))) s11.2.1 h _ (hC.getP 0 rfl) (hC.getM 1 rfl) (fun b_ hb_ hb2_=>hC.pdk 0 1 rfl rfl b_ hb_ hb2_)) ?_))))))
       rintro _ w19 ⟨r11,v14,rfl,h,hr11,hf11,hB11⟩
       refine rt ?_
       replace hC:=hC.turnO 1 rfl hB11 hr11 hf11
       refine Zd (v:=v14) rfl (done (Z7 (Zr (Ze (Zh (Za (v:=vI s11.2.2) rfl (X3 rfl rfl (Zd (v:=vI (ZG5.wrap (s11.2.2 - 1))) rfl (done ?_)))))))))
       exact hK11 (s11.1.set a2.toNat (ZMt.wrap s11.2.2),r11,ZG5.wrap (s11.2.2 - 1)) _ _ ⟨v14,(slq rfl),hC⟩ h
      ·replace h:=Zk h (cf hb15)
       refine ZMv (Zj (Zj (Zx ?_)))
       refine Ze (sr (Za (v:=v11) rfl (Zd (v:=v11) rfl (dn (ZMp ?_)))))
       exact Zi rfl (Zg rfl) ⟨s11.2.1,v11,rfl,h,(hC.getM 1 rfl),(fun b_ hb_=>(hC.mfk 1 rfl b_ hb_).symm),hC.belO⟩ (.inl rfl)
     ·replace h:=Zk h (cf hb11)
      refine Zl (b:=false) 2 42 rfl (tr rfl (congrArg _ hb11)) (by decide) (Zl (b:=false) 2 42 rfl (tr rfl (congrArg _ hb11)) (by decide) (Zl (b:=false) 2 42 rfl (tr rfl (congrArg _ hb11)) (by decide) (Z4 (v:=.bool false) (b:=false) (tr rfl (congrArg _ hb11)) rfl (dn (Z1 rfl rfl ?_)))))
      refine ZMv (Zj (Zj (Zx ?_)))
      refine Ze (sr (Za (v:=v11) rfl (Zd (v:=v11) rfl (dn (ZMp ?_)))))
      exact Zi rfl (Zg rfl) ⟨s11.2.1,v11,rfl,h,(hC.getM 1 rfl),(fun b_ hb_=>(hC.mfk 1 rfl b_ hb_).symm),hC.belO⟩ (.inl rfl)
    ·skip
     exact⟨u4_0,(slq rfl),hC⟩
def Zf4 (a0:List Int) (a1:Int) (K:List A8→Prop):Prop :=
 f_spec_l01Fill 9 a0 A8.zero 0 a1 [] (fun r6=>K r6)
theorem Zr2 (a0:List Int) (a1:Int)  {K:List A8→Prop} (h:Zf4 a0 a1 K) (w0:World) (q0:ZOz.rep a0 [u0_0] fp0 w0) :
  Calls ZMk 94 #[u0_0,vI a1] w0 fun e w'=>∃ (r0:List A8) (z0_0:Value) (fz0:List Nat),
   e=.returned (z0_0)∧K r0∧(ZMy (ZR9 136 ((EA .u8).tr)) r0 [z0_0] fz0).holds w'∧(∀ b,b∈fz0→w0.heap.size≤b)∧Bel w0 w':=by
 unfold Zf4 at h
 refine cof Tryz.func94 rfl 9 Tryz.ntmps94 ?_
 have hC:=ZM2 (X:=Nox) w0 [ZMg TInts a0 [u0_0] fp0] (al1 q0)
 refine sr (Zd (v:=.slice none 0 0) rfl (dn (sr (Za (v:=u0_0) rfl (J2 [] rfl (Zm3   _) (Za (v:=vI a1) rfl ?_))))))
 replace hC:=hC.pushNil 136 8
 refine Zf [u0_0,.agg (ZMf (ZMe .u8 A8.zero)),vI 0,vI a1,.slice none 0 0] _ ZYk rfl rfl rfl (ZAs 9 a0 A8.zero 0 a1 [] h _ (hC.getP 0 rfl) (hC.getM 0 rfl) (fun b_ hb_ hb2_=>hC.pdk 0 0 rfl rfl b_ hb_ hb2_)) ?_
 rintro _ w5 ⟨r6,v7,rfl,h,hr8,hf9,hB10⟩
 refine rt ?_
 replace hC:=hC.turnO 0 rfl hB10 hr8 hf9
 refine Zd (v:=v7) rfl (dn (ZMp ?_))
 exact Zi rfl (Zg rfl) ⟨r6,v7,(ZNg (ZFi v7)),rfl,h,(Xf (hC.getM 0 rfl)),(Y8 hC 0 rfl),hC.below⟩ (.inl rfl)
def Zik (a0:Alg) (a1:Int) (a2:Int) (K:Bool→Prop):Prop :=
 Xt (fun (s10:Int) nx10=>(if s10≤a2 then Zf4 a0.degrees s10 (fun r10=>(if(r10.length:Int) > 120 then K false else nx10 (ZG5.wrap (s10+1)))) else K true)) (if a1 < 0 then 0 else a1)
theorem ZAt (a0:Alg) (a1:Int) (a2:Int)  {K:Bool→Prop} (h:Zik a0 a1 a2 K) (w0:World) (q0:TAlg.rep a0 [u0_0,u0_1] fp0 w0) :
  Calls ZMk 108 #[.agg #[u0_0,u0_1],vI a1,vI a2] w0 fun e w'=>∃ (r0:Bool),
   e=.returned (.bool r0)∧K r0∧Bel w0 w':=by
 unfold Zik at h
 refine cof Tryz.func108 rfl 21 Tryz.ntmps108 ?_
 have hC:=ZM2 (X:=Nox) w0 [ZMg TAlg a0 [u0_0,u0_1] fp0] (al1 q0)
 replace hC:=hC.dAlg 0 rfl
 refine sr (Yg (v:=.agg #[u0_0,u0_1]) hC [u0_0,u0_1] rfl rfl fun b4 w6 hB_ hC=>Zd (v:=.bool false) rfl (dn (ZMh (sr (Za (v:=vI a1) rfl (Zn1 rfl rfl (Zd (v:=vI (if a1 < 0 then 0 else a1)) rfl (dn (ZMn ?_)))))))))
 refine Xz (S:=Int) _ (fun s10 e_ w_=>Zt e_ [(2,vI a2),(3,vQ b4),(7,vI s10)]∧Ctx Nox w0 w_ [blk b4 32 [u0_0,u0_1]] [ZMg ZM3.sl a0.images [u0_1] fp0,ZMg TInts a0.degrees [u0_0] fp0,ZMg TAlg a0 [u0_0,u0_1] fp0]) ?_ (s0:=(if a1 < 0 then 0 else a1)) ?_ h
 ·clear hC h
  rintro s10 e_ w10 nx10 K10 ⟨hS_,hC⟩ h hK10
  rw [ue hS_]
  refine ZMh (sr (Za (v:=vI s10) rfl (Za (v:=vI a2) rfl (Zb7 rfl rfl (dn ?_)))))
  refine Zs rfl (fun hb10=>?_) (fun hb10=>?_)
  ·replace h:=ift h (ct hb10)
   refine ZMl (Ze (ZMh (ZMn (sr (Z0 0 ZM1 rfl sc22.size rfl rfl (Yb hC 0 (u0_0) rfl sc22 rfl rfl (Za (v:=vI s10) rfl (Zf [u0_0,vI s10] _ Tryz.func94 rfl rfl rfl (Zr2 a0.degrees s10 h _ (hC.getP 1 rfl)) ?_))))))))
   rintro _ w11 ⟨r10,u10,f10,rfl,h,hr10,hf10,hB10⟩
   refine rt ?_
   replace hC:=hC.push hB10 (ZMy (ZR9 136 ((EA .u8).tr)) r10 [u10] f10) hr10 hf10
   obtain ⟨ho10,hf11⟩:=Yv (hC.getM 0 rfl).1
   subst hf11
   replace hC:=hC.recast (c:=own 136 8 u10 r10.length ((EA .u8).encs r10)) (fun _ h_=>h_) (fun _=>ho10)
   refine Zac hC 0 rfl ZX9 rfl (Jh rfl rfl (dn ?_))
   refine Zs rfl (fun hb11=>?_) (fun hb11=>?_)
   ·replace h:=ift h (ct hb11)
    refine sr (Zd (v:=.bool false) rfl (dn ?_))
    refine ZMp (Ya (Zm (Zm (Ya (Zm ?_)))))
    exact Zi rfl (Zg rfl) ⟨false,rfl,h,hC.below⟩ (.inl rfl)
   ·replace h:=Zk h (cf hb11)
    refine ZMl (Zr (Ze (Zh (Za (v:=vI s10) rfl (Zq rfl rfl (Zd (v:=vI (ZG5.wrap (s10+1))) rfl (done ?_)))))))
    exact hK10 (ZG5.wrap (s10+1)) _ _ ⟨(slq rfl),(hC.xM [1] rfl)⟩ h
  ·replace h:=Zk h (cf hb10)
   refine ZMv (Zj (Zj (Zx ?_)))
   refine Ze (sr (Zd (v:=.bool true) rfl (dn (ZMp ?_))))
   exact Zi rfl (Zg rfl) ⟨true,rfl,h,hC.below⟩ (.inl rfl)
 ·skip
  exact⟨(slq rfl),hC⟩
def Zil (a0:Alg) (a1:Int) (K:Int→Prop):Prop :=
 Zfn a0 (fun r10=>(if¬ (r10=true) then K 1 else Zdr a1 0 20 (fun r11=>(if¬ (r11=true) then K 2 else Zik a0 (ZG5.wrap (a1 - 1)) (ZG5.wrap (a1+1)) (fun r12=>(if¬ (r12=true) then K 3 else K 0))))))
theorem ZAu (a0:Alg) (a1:Int)  {K:Int→Prop} (h:Zil a0 a1 K) (w0:World) (q0:TAlg.rep a0 [u0_0,u0_1] fp0 w0) :
  Calls ZMk 60 #[.agg #[u0_0,u0_1],vI a1] w0 fun e w'=>∃ (r0:Int),
   e=.returned (vI r0)∧K r0∧Bel w0 w':=by
 unfold Zil at h
 refine cof Tryz.func60 rfl 21 Tryz.ntmps60 ?_
 have hC:=ZM2 (X:=Nox) w0 [ZMg TAlg a0 [u0_0,u0_1] fp0] (al1 q0)
 replace hC:=hC.dAlg 0 rfl
 refine sr (Yg (v:=.agg #[u0_0,u0_1]) hC [u0_0,u0_1] rfl rfl fun b4 w6 hB_ hC=>Zd (v:=vI 0) rfl (dn (ZMh (ZMn (sr (Yq hC 0 [u0_0,u0_1] rfl ag32 rfl rfl rfl (Zf [.agg #[u0_0,u0_1]] _ Tryz.func92 rfl rfl rfl (Zqk a0 h _ (Yk (hC.getP 1 rfl) (hC.getP 0 rfl))) ?_)))))))
 rintro _ w9 ⟨r10,rfl,h,hB10⟩
 refine rt ?_
 replace hC:=hC.grow hB10
 refine Xe rfl (Zd (v:=.bool (!r10)) rfl (dn ?_))
 refine Zs rfl (fun hb10=>?_) (fun hb10=>?_)
 ·replace h:=ift h (Y4 (Xi hb10))
  refine sr (Zd (v:=vI 1) rfl (dn ?_))
  refine ZMp (Ya (Zm ?_))
  exact Zi rfl (Zg rfl) ⟨1,rfl,h,hC.below⟩ (.inl rfl)
 ·replace h:=Zk h (not_not_intro ((Xj hb10)))
  refine sr (Za (v:=vI a1) rfl (Zf [vI a1,vI 0,vI 20] _ Tryz.func59 rfl rfl rfl (Zj9 a1 0 20 h _) ?_))
  rintro _ w10 ⟨r11,rfl,h,hB11⟩
  refine rt ?_
  replace hC:=hC.grow hB11
  refine Xe rfl (Zd (v:=.bool (!r11)) rfl (dn ?_))
  refine Zs rfl (fun hb11=>?_) (fun hb11=>?_)
  ·replace h:=ift h (Y4 (Xi hb11))
   refine sr (Zd (v:=vI 2) rfl (dn ?_))
   refine ZMp (Ya (Zm ?_))
   exact Zi rfl (Zg rfl) ⟨2,rfl,h,hC.below⟩ (.inl rfl)
  ·replace h:=Zk h (not_not_intro ((Xj hb11)))
   refine sr (Yq hC 0 [u0_0,u0_1] rfl ag32 rfl rfl rfl (Za (v:=vI a1) rfl (X3 rfl rfl (Za (v:=vI a1) rfl (Zq rfl rfl (Zf [.agg #[u0_0,u0_1],vI (ZG5.wrap (a1 - 1)),vI (ZG5.wrap (a1+1))] _ Tryz.func108 rfl rfl rfl (ZAt a0 (ZG5.wrap (a1 - 1)) (ZG5.wrap (a1+1)) h _ (Yk (hC.getP 1 rfl) (hC.getP 0 rfl))) ?_))))))
   rintro _ w11 ⟨r12,rfl,h,hB12⟩
   refine rt ?_
   replace hC:=hC.grow hB12
   refine Xe rfl (Zd (v:=.bool (!r12)) rfl (dn ?_))
   refine Zs rfl (fun hb12=>?_) (fun hb12=>?_)
   ·replace h:=ift h (Y4 (Xi hb12))
    refine sr (Zd (v:=vI 3) rfl (dn ?_))
    refine ZMp (Ya (Zm ?_))
    exact Zi rfl (Zg rfl) ⟨3,rfl,h,hC.below⟩ (.inl rfl)
   ·replace h:=Zk h (not_not_intro ((Xj hb12)))
    refine ZMl (Zr (Ze (sr (Zd (v:=vI 0) rfl (dn (ZMp ?_))))))
    exact Zi rfl (Zg rfl) ⟨0,rfl,h,hC.below⟩ (.inl rfl)
def Zbe (a0:List Int) (K:Int→Prop):Prop :=
 Z8 (fun i10 (s10:Unit) nx10=>(if a0.getD i10 ZEo≠0 then K (i10:Int) else nx10 ())) (fun (s10:Unit)=>K (-1)) a0.length 0 ()
theorem Zla (a0:List Int)  {K:Int→Prop} (h:Zbe a0 K) (w0:World) (q0:ZOz.rep a0 [u0_0] fp0 w0) :
  Calls ZMk 126 #[u0_0] w0 fun e w'=>∃ (r0:Int),
   e=.returned (vI r0)∧K r0∧Bel w0 w':=by
 unfold Zbe at h
 refine cof ZYi rfl 16 Tryz.ntmps126 ?_
 have hC:=ZM2 (X:=Nox) w0 [ZMg TInts a0 [u0_0] fp0] (al1 q0)
 refine sr (Zd (v:=vI 0) rfl (dn (ZMh (sr (Zd (v:=vI 0) rfl (dn (ZMn ?_)))))))
 have hN10:a0.length≤9223372036854775807:=Yw (hC.getP 0 rfl)
 refine Yi (S:=Unit) _ _ (fun i10 s10 e_ w_=>Zt e_ [(0,u0_0),(3,vI (i10:Int))]∧Ctx Nox w0 w_ [] [ZMg TInts a0 [u0_0] fp0]) a0.length ?_ ?_ (s0:=()) ?_ h
 ·clear hC h
  rintro i10 s10 e_ w10 nx10 K10 hi10 ⟨hS_,hC⟩ h hK10
  rw [ue hS_]
  refine ZMh (sr (Za (v:=vI (i10:Int)) rfl (Za (v:=u0_0) rfl (Zu hC 0 rfl ZM0 rfl (Zn rfl rfl (dn (Z5 rfl (decide_eq_true (by omega)) (ZMl (Ze (ZMh (ZMn (sr (Za (v:=u0_0) rfl (Za (v:=vI (i10:Int)) rfl ?_))))))))))))))
  obtain ⟨Ad10,c10,hv10⟩:=Zw (hC.getP 0 rfl) i10 hi10
  refine Yn (len:=a0.length) ZM0 sc2.size (tr rfl hv10) rfl (ZMx _) (ZNf.2 hi10) (Yp (vI (a0.getD i10 ZEo)) (Yd (hC.getP 0 rfl) hv10 i10 hi10) sc2 rfl (Y6 rfl rfl (dn ?_)))
  refine Zs rfl (fun hb10=>?_) (fun hb10=>?_)
  ·replace h:=ift h (ct hb10)
   refine sr (Za (v:=vI (i10:Int)) rfl (Zd (v:=vI (i10:Int)) rfl (dn ?_)))
   refine ZMp (Ya (Zm (Zm (Ya (Zm ?_)))))
   exact Zi rfl (Zg rfl) ⟨(i10:Int),rfl,h,hC.below⟩ (.inl rfl)
  ·replace h:=Zk h (cf hb10)
   refine ZMl (Zr (Ze (Zh (Za (v:=vI (i10:Int)) rfl (Zq rfl rfl (Zd (v:=vI (ZG5.wrap ((i10:Int)+1))) rfl (done ?_)))))))
   exact hK10 () _ _ ⟨(sl ⟨rfl,(tr rfl (congrArg _ (Z2 hi10 hN10))),trivial⟩),hC⟩ h
 ·clear hC h
  rintro s10 e_ w11 K10 ⟨hS_,hC⟩ h
  rw [ue hS_]
  refine ZMh (sr (Za (v:=vI (a0.length:Int)) rfl (Za (v:=u0_0) rfl (Zu hC 0 rfl ZM0 rfl (Zn rfl rfl (dn (Z1 rfl (decide_eq_false (by omega)) ?_)))))))
  refine ZMv (Zj (Zj (Zx ?_)))
  refine Ze (sr (Zd (v:=vI (-1)) rfl (dn (ZMp ?_))))
  exact Zi rfl (Zg rfl) ⟨(-1),rfl,h,hC.below⟩ (.inl rfl)
 ·skip
  exact⟨(slq rfl),hC⟩
def Jl (a0:List Int) (a1:List Int) (a2:Int) (K:List Int→Prop):Prop :=
 ((0≤(a0.length:Int)∧(a0.length:Int) * 8≤281474976710656)∧Z8 (fun i10 (s10:(List Int)) nx10=>((0≤(i10:Int)∧(i10:Int) < (a1.length:Int))∧Je (ZG5.wrap ((a0.getD i10 ZEo) - (ZG5.wrap (a2 * (a1.getD i10 ZEo))))) (fun r10=>((0≤(i10:Int)∧(i10:Int) < (s10.length:Int))∧nx10 (s10.set i10 r10))))) (fun (s10:(List Int))=>K s10) a0.length 0 (ZEj ((a0.length:Int).toNat) (0:Int)))
theorem Zez (a0:List Int) (a1:List Int) (a2:Int)  {K:List Int→Prop} (h:Jl a0 a1 a2 K) (w0:World) (q0:ZOz.rep a0 [u0_0] fp0 w0) (q1:ZOz.rep a1 [u1_0] fp1 w0) :
  Calls ZMk 163 #[u0_0,u1_0,vI a2] w0 fun e w'=>∃ (r0:List Int) (z0_0:Value) (fz0:List Nat),
   e=.returned (z0_0)∧K r0∧(ZMy (ZR9 2 (eI.tr)) r0 [z0_0] fz0).holds w'∧(∀ b,b∈fz0→w0.heap.size≤b)∧Bel w0 w':=by
 unfold Jl at h
 refine cof ZYe rfl 34 Tryz.ntmps163 ?_
 have hC:=ZM2 (X:=Nox) w0 [ZMg TInts a0 [u0_0] fp0,ZMg TInts a1 [u1_0] fp1] (alc q0 (al1 q1))
 refine sr (Zd (v:=.slice none 0 0) rfl (dn (sr (Za (v:=u0_0) rfl (Zu hC 0 rfl ZM0 rfl ?_)))))
 obtain ⟨hm8,h⟩:=h
 refine Zb8 (sz:=1) hC (eI.encs (ZEj ((a0.length:Int).toNat) (0:Int))) ZM0 el2 (tr rfl (congrArg (ZO5 .i64) (ZO6 hm8.1).symm)) (tr rfl (congrArg (ZO5 .i64) (ZO6 hm8.1).symm)) (by omega) (by omega) (Zbk (E:=eI) _ _) fun v6 w7 hB_ hC=>?_
 replace hC:=Yy hC 0 ((ZEj ((a0.length:Int).toNat) (0:Int)).length) (eI.encs (ZEj ((a0.length:Int).toNat) (0:Int))) rfl (by simp) rfl
 refine Zd (v:=v6) rfl (dn (ZMh (sr (Zd (v:=vI 0) rfl (dn (ZMn ?_))))))
 have hN10:a0.length≤9223372036854775807:=Yw (hC.getP 0 rfl)
 refine Yi (S:=(List Int)) _ _ (fun i10 s10 e_ w_=>∃ (v10:Value),Zt e_ [(0,u0_0),(1,u1_0),(2,vI a2),(7,v10),(8,vI (i10:Int))]∧Ctx Nox w0 w_ [own 2 1 v10 s10.length (eI.encs s10)] [ZMg TInts a0 [u0_0] fp0,ZMg TInts a1 [u1_0] fp1]) a0.length ?_ ?_ (s0:=(ZEj ((a0.length:Int).toNat) (0:Int))) ?_ h
 ·clear hC h
  rintro i10 s10 e_ w10 nx10 K10 hi10 ⟨v10,hS_,hC⟩ h hK10
  rw [ue hS_]
  refine ZMh (sr (Za (v:=vI (i10:Int)) rfl (Za (v:=u0_0) rfl (Zu hC 0 rfl ZM0 rfl (Zn rfl rfl (dn (Z5 rfl (decide_eq_true (by omega)) (ZMl (Ze (ZMh (ZMn ?_)))))))))))
  refine cwd 14 Yo [0,0,0,0,12,28,0,0,0,384,896,1984,4092,8188,16383,32767] [4,5,9,10] [0,1,2,3,6,7,8,11,12] (fun hM11 hM10 w11 hB_=>?_)
  replace hC:=hC.grow hB_
  refine bM 0 (v10) rfl hM10 (Zc 16 1) (bM 1 (vI (i10:Int)) rfl hM10 (Zc 16 3) (bM 2 (u0_0) rfl hM10 (Zc 16 7) (bM 3 (vI (i10:Int)) rfl hM10 (Zc 16 15) ?_)))
  obtain ⟨Ad10,c10,hv10⟩:=Zw (hC.getP 0 rfl) i10 hi10
  refine bL 4 (.pointer (some (Ad10.add (i10 * 1)))) rfl rfl hM11 (fun _ hB_=>by exact Y2 (len:=a0.length) ZM0 sc2.size (by exact tr rfl hv10) rfl (ZMx _) (ZNf.2 hi10)) (Zc 16 31) (bL 5 (vI (a0.getD i10 ZEo)) rfl rfl hM11 (fun _ hB_=>by exact Xn (vI (a0.getD i10 ZEo)) (Yd ((hC.grow hB_).getP 0 rfl) hv10 i10 hi10) sc2 rfl) (Zc 16 63) (bM 6 (vI a2) rfl hM10 (Zc 16 127) (bM 7 (u1_0) rfl hM10 (Zc 16 255) (bM 8 (vI (i10:Int)) rfl hM10 (Zc 16 511) ?_))))
  obtain ⟨⟨h10,h11⟩,h⟩:=h
  obtain ⟨Ad11,c11,hv11⟩:=Zw (hC.getP 1 rfl) i10 (show i10 < a1.length by omega)
  refine bL 9 (.pointer (some (Ad11.add (i10 * 1)))) rfl rfl hM11 (fun _ hB_=>by exact Y2 (len:=a1.length) ZM0 sc2.size (by exact tr rfl hv11) rfl h10 h11) (Zc 16 1023) (bL 10 (vI (a1.getD i10 ZEo)) rfl rfl hM11 (fun _ hB_=>by exact Xn (vI (a1.getD i10 ZEo)) (Yd ((hC.grow hB_).getP 1 rfl) hv11 i10 (show i10 < a1.length by omega)) sc2 rfl) (Zc 16 2047) (bF 11 (vI (ZG5.wrap (a2 * (a1.getD i10 ZEo)))) rfl rfl hM10 (fun _=>by exact Zc1 rfl rfl) (Zc 16 4095) (bF 12 (vI (ZG5.wrap ((a0.getD i10 ZEo) - (ZG5.wrap (a2 * (a1.getD i10 ZEo)))))) rfl rfl hM10 (fun _=>by exact Zc0 rfl rfl) (Zc 16 8191) (aO 13 rfl (Zf [vI (ZG5.wrap ((a0.getD i10 ZEo) - (ZG5.wrap (a2 * (a1.getD i10 ZEo)))))] _ ZM7 rfl rfl rfl (Zbr (ZG5.wrap ((a0.getD i10 ZEo) - (ZG5.wrap (a2 * (a1.getD i10 ZEo))))) h _) ?_)))))
  rintro _ w12 ⟨r10,rfl,h,hB10⟩
  refine rt ?_
  replace hC:=hC.grow hB10
  refine done (aK (by assumption) (Zc 16 16383) (Z6 14 (by decide) (by decide) (by kernel_rfl) (by kernel_rfl) rfl ?_))
  obtain ⟨⟨h12,h13⟩,h⟩:=h
  obtain ⟨Ad12,c12,hv12⟩:=Xo (hC.getM 0 rfl) (ZO7 (ZGa _) (show i10 < s10.length by omega))
  refine Xv (i10 * 1) ZM0 sc2.size (tr rfl hv12) rfl h12 h13 rfl (Za8 (v:=vI r10) hC 0 [vI r10] (eI.encs (s10.set i10 r10)) rfl hv12 sc2.size rfl rfl rfl rfl rfl (by rw [ZO8]; exact J4 (sz:=1) (show i10 < s10.length by omega)) (Zbj _ _ _ (show i10 < s10.length by omega)) fun w13 hC=>?_)
  replace hC:=Yy hC 0 ((s10.set i10 r10).length) (eI.encs (s10.set i10 r10)) rfl (by simp) rfl
  refine done (Z7 (Zr (Ze (Zh (Za (v:=vI (i10:Int)) rfl (Zq rfl rfl (Zd (v:=vI (ZG5.wrap ((i10:Int)+1))) rfl (done ?_))))))))
  exact hK10 (s10.set i10 r10) _ _ ⟨v10,(sl ⟨rfl,rfl,rfl,rfl,(tr rfl (congrArg _ (Z2 hi10 hN10))),trivial⟩),hC⟩ h
 ·clear hC h
  rintro s10 e_ w14 K10 ⟨v10,hS_,hC⟩ h
  rw [ue hS_]
  refine ZMh (sr (Za (v:=vI (a0.length:Int)) rfl (Za (v:=u0_0) rfl (Zu hC 0 rfl ZM0 rfl (Zn rfl rfl (dn (Z1 rfl (decide_eq_false (by omega)) ?_)))))))
  refine ZMv (Zj (Zj (Zx ?_)))
  refine Ze (sr (Za (v:=v10) rfl (Zd (v:=v10) rfl (dn (ZMp ?_)))))
  exact Zi rfl (Zg rfl) ⟨s10,v10,(ZNg (ZFi v10)),rfl,h,(Xf (hC.getM 0 rfl)),(Y8 hC 0 rfl),hC.below⟩ (.inl rfl)
 ·skip
  exact⟨v6,(slq rfl),hC⟩
def Zim (a0:List Int) (a1:List (List Int)) (K:List Int→Prop):Prop :=
 Z8 (fun i10 (s10:(List Int)) nx10=>Zbe (a1.getD i10 ZEo) (fun r10=>((0≤r10∧r10 < (s10.length:Int))∧(if s10.getD r10.toNat ZEo≠0 then((0≤r10∧r10 < (s10.length:Int))∧Jl s10 (a1.getD i10 ZEo) (s10.getD r10.toNat ZEo) (fun r11=>nx10 r11)) else nx10 s10)))) (fun (s10:(List Int))=>K s10) a1.length 0 a0
theorem ZAv (a0:List Int) (a1:List (List Int))  {K:List Int→Prop} (h:Zim a0 a1 K) (w0:World) (q0:ZOz.rep a0 [u0_0] fp0 w0) (q1:(ZOz.sl).rep a1 [u1_0] fp1 w0) :
  Calls ZMk 127 #[u0_0,u1_0] w0 fun e w'=>∃ (r0:List Int) (z0_0:Value) (fz0:List Nat),
   e=.returned (z0_0)∧K r0∧ZOz.rep r0 [z0_0] fz0 w'∧(∀ b,b∈fz0→w0.heap.size≤b∨b∈(fp0++(fp1)))∧Bel w0 w':=by
 unfold Zim at h
 refine cof Tryz.func127 rfl 34 Tryz.ntmps127 ?_
 have hC:=ZM2 (X:=Nox) w0 [ZMg TInts a0 [u0_0] fp0,ZMg (ZOz.sl) a1 [u1_0] fp1] (alc q0 (al1 q1))
 refine sr (Zd (v:=.slice none 0 0) rfl (dn (ZMh (sr (Zd (v:=vI 0) rfl (dn (ZMn ?_)))))))
 have hN10:a1.length≤9223372036854775807:=Yw (hC.getP 1 rfl)
 refine Yi (S:=(List Int)) _ _ (fun i10 s10 e_ w_=>∃ (v10:Value),∃ (f10:List Nat),Zt e_ [(0,v10),(1,u1_0),(5,vI (i10:Int))]∧(∀ b,b∈f10→w0.heap.size≤b∨b∈(fp0++(fp1)))∧Ctx Nox w0 w_ [] [ZMg TInts s10 [v10] f10,ZMg TInts a0 [u0_0] fp0,ZMg (ZOz.sl) a1 [u1_0] fp1]) a1.length ?_ ?_ (s0:=a0) ?_ h
 ·clear hC h
  rintro i10 s10 e_ w10 nx10 K10 hi10 ⟨v10,f10,hS_,hq10,hC⟩ h hK10
  rw [ue hS_]
  refine ZMh (sr (Za (v:=vI (i10:Int)) rfl (Za (v:=u1_0) rfl (Zu hC 2 rfl ZXe rfl (Zn rfl rfl (dn (Z5 rfl (decide_eq_true (by omega)) (ZMl (Ze (ZMh (ZMn (sr (Za (v:=u1_0) rfl (Za (v:=vI (i10:Int)) rfl ?_))))))))))))))
  obtain ⟨Ad12,c10,hv10⟩:=Zw (hC.getP 2 rfl) i10 hi10
  refine Yn (len:=a1.length) ZXe sc22.size (tr rfl hv10) rfl (ZMx _) (ZNf.2 hi10) ?_
  obtain ⟨cs_,hl10,hc10,hr10⟩:=Xg (hC.getP 2 rfl) hv10 i10 hi10
  obtain ⟨u12,rfl⟩:=ZNd.1 hl10
  clear hl10
  rw [Xd _ _ hi10] at hr10
  replace hC:=hC.derive 2 rfl (ZMg TInts (a1.getD i10 ZEo) [u12] fp1) (fun _=>hr10) (fun _ hb_=>hb_)
  refine Yp (u12) hc10 sc22 rfl (Zf [u12] _ ZYi rfl rfl rfl (Zla (a1.getD i10 ZEo) h _ (hC.getP 0 rfl)) ?_)
  rintro _ w11 ⟨r10,rfl,h,hB10⟩
  refine rt ?_
  replace hC:=hC.grow hB10
  refine Zd (v:=vI r10) rfl (dn (sr (Za (v:=v10) rfl (Za (v:=vI r10) rfl ?_))))
  obtain ⟨⟨h10,h11⟩,h⟩:=h
  obtain ⟨Ad13,c11,hv11⟩:=Zw (hC.getP 1 rfl) r10.toNat (show r10.toNat < s10.length by omega)
  refine Yn (len:=s10.length) ZM0 sc2.size (tr rfl hv11) rfl h10 h11 (Yp (vI (s10.getD r10.toNat ZEo)) (Yd (hC.getP 1 rfl) hv11 r10.toNat (show r10.toNat < s10.length by omega)) sc2 rfl (Y6 rfl rfl (dn ?_)))
  refine Zs rfl (fun hb10=>?_) (fun hb10=>?_)
  ·replace h:=ift h (ct hb10)
   refine cwd 9 Yo [0,0,0,6,14,0,0,96,224,511,1023] [3,4,7,8] [0,1,2,5,6] (fun hM11 hM10 w12 hB_=>?_)
   replace hC:=hC.grow hB_
   refine bM 0 (v10) rfl hM10 (Zc 11 1) (bM 1 (u1_0) rfl hM10 (Zc 11 3) (bM 2 (vI (i10:Int)) rfl hM10 (Zc 11 7) ?_))
   obtain ⟨Ad10,c12,hv12⟩:=Zw (hC.getP 3 rfl) i10 hi10
   refine bL 3 (.pointer (some (Ad10.add (i10 * 1)))) rfl rfl hM11 (fun _ hB_=>by exact Y2 (len:=a1.length) ZXe sc22.size (by exact tr rfl hv12) rfl (ZMx _) (ZNf.2 hi10)) (Zc 11 15) ?_
   obtain ⟨cs_,hl11,hc11,hr11⟩:=Xg (hC.getP 3 rfl) hv12 i10 hi10
   obtain ⟨u11,rfl⟩:=ZNd.1 hl11
   clear hl11
   rw [Xd _ _ hi10] at hr11
   replace hC:=hC.derive 3 rfl (ZMg TInts (a1.getD i10 ZEo) [u11] fp1) (fun _=>hr11) (fun _ hb_=>hb_)
   refine bL 4 (u11) rfl rfl hM11 (fun _ hB_=>by exact Xn (u11) (Zay hB_ hc11) sc22 rfl) (Zc 11 31) (bM 5 (v10) rfl hM10 (Zc 11 63) (bM 6 (vI r10) rfl hM10 (Zc 11 127) ?_))
   obtain ⟨⟨h12,h13⟩,h⟩:=h
   obtain ⟨Ad11,c13,hv13⟩:=Zw (hC.getP 2 rfl) r10.toNat (show r10.toNat < s10.length by omega)
   refine bL 7 (.pointer (some (Ad11.add (r10.toNat * 1)))) rfl rfl hM11 (fun _ hB_=>by exact Y2 (len:=s10.length) ZM0 sc2.size (by exact tr rfl hv13) rfl h12 h13) (Zc 11 255) (bL 8 (vI (s10.getD r10.toNat ZEo)) rfl rfl hM11 (fun _ hB_=>by exact Xn (vI (s10.getD r10.toNat ZEo)) (Yd ((hC.grow hB_).getP 2 rfl) hv13 r10.toNat (show r10.toNat < s10.length by omega)) sc2 rfl) (Zc 11 511) (Z6 9 (by decide) (by decide) (by kernel_rfl) (by kernel_rfl) rfl (Zf [v10,u11,vI (s10.getD r10.toNat ZEo)] _ ZYe rfl rfl rfl (Zez s10 (a1.getD i10 ZEo) (s10.getD r10.toNat ZEo) h _ (hC.getP 2 rfl) (hC.getP 0 rfl)) ?_)))
   rintro _ w13 ⟨r11,u10,f11,rfl,h,hr12,hf10,hB11⟩
   refine rt ?_
   replace hC:=hC.push hB11 (ZMy (ZR9 2 (eI.tr)) r11 [u10] f11) hr12 hf10
   obtain ⟨ho10,hf11⟩:=Yv (hC.getM 0 rfl).1
   subst hf11
   replace hC:=hC.recast (c:=own 2 1 u10 r11.length (eI.encs r11)) (fun _ h_=>h_) (fun _=>ho10)
   refine Zd (v:=u10) rfl (done (Z7 (Zr (Ze (Zh (Za (v:=vI (i10:Int)) rfl (Zq rfl rfl (Zd (v:=vI (ZG5.wrap ((i10:Int)+1))) rfl (done ?_)))))))))
   have hs10:=Y8 hC 0 rfl
   replace hC:=hC.thaw 0 rfl (ZMg TInts r11 [u10] (ZNg (ZFi u10))) Ym (fun _ hb_=>hb_)
   exact hK10 r11 _ _ ⟨u10,(ZNg (ZFi u10)),(sl ⟨rfl,rfl,(tr rfl (congrArg _ (Z2 hi10 hN10))),trivial⟩),(fun b hb=>.inl (hs10 b hb)),(hC.sP [0,4,5] rfl)⟩ h
  ·replace h:=Zk h (cf hb10)
   refine ZMl (Zr (Ze (Zh (Za (v:=vI (i10:Int)) rfl (Zq rfl rfl (Zd (v:=vI (ZG5.wrap ((i10:Int)+1))) rfl (done ?_)))))))
   exact hK10 s10 _ _ ⟨v10,f10,(sl ⟨rfl,rfl,(tr rfl (congrArg _ (Z2 hi10 hN10))),trivial⟩),hq10,(hC.sP [1,2,3] rfl)⟩ h
 ·clear hC h
  rintro s10 e_ w14 K10 ⟨v10,f10,hS_,hq10,hC⟩ h
  rw [ue hS_]
  refine ZMh (sr (Za (v:=vI (a1.length:Int)) rfl (Za (v:=u1_0) rfl (Zu hC 2 rfl ZXe rfl (Zn rfl rfl (dn (Z1 rfl (decide_eq_false (by omega)) ?_)))))))
  refine ZMv (Zj (Zj (Zx ?_)))
  refine Ze (sr (Za (v:=v10) rfl (Zd (v:=v10) rfl (dn (ZMp ?_)))))
  exact Zi rfl (Zg rfl) ⟨s10,v10,f10,rfl,h,(hC.getP 0 rfl),(fun b hb=>hq10 b hb),hC.below⟩ (.inl rfl)
 ·skip
  exact⟨u0_0,fp0,(slq rfl),(fun b hb=>.inr (ZFa _ hb)),(hC.sP [0,0,1] rfl)⟩
def Ze0 (a0:Int) (K:Int→Prop):Prop :=
 Xt (fun (s6:Int×Int×Int) next7=>(if s6.2.2 > 0 then(if ZFf s6.2.2 2=1 then next7 (ZFf (ZG5.wrap (s6.1 * s6.2.1)) 10007,ZFf (ZG5.wrap (s6.2.1 * s6.2.1)) 10007,ZG5.wrap (ZW1 s6.2.2 2)) else next7 (s6.1,ZFf (ZG5.wrap (s6.2.1 * s6.2.1)) 10007,ZG5.wrap (ZW1 s6.2.2 2))) else K s6.1)) (1,a0,10005)
theorem Zr3 (a0:Int)  {K:Int→Prop} (h:Ze0 a0 K) (w0:World)  :
  Calls ZMk 164 #[vI a0] w0 fun e w'=>∃ (r0:Int),
   e=.returned (vI r0)∧K r0∧Bel w0 w':=by
 unfold Ze0 at h
 refine cof ZYp rfl 23 Tryz.ntmps164 ?_
 have hC:=ZM2 (X:=Nox) w0 [] (by simp)
 refine sr (Zd (v:=vI 0) rfl (dn (sr (Za (v:=vI a0) rfl (Zd (v:=vI 1) rfl (Zd (v:=vI a0) rfl (dn (ZMh (sr (Zd (v:=vI 10005) rfl (dn (ZMn ?_))))))))))))
 refine Xz (S:=Int×Int×Int) _ (fun s6 e_ w_=>Zt e_ [(3,vI s6.1),(4,vI s6.2.1),(5,vI s6.2.2)]∧Ctx Nox w0 w_ [] []) ?_ (s0:=(1,a0,10005)) ?_ h
 ·clear hC h
  rintro s6 e_ w10 next7 K8 ⟨hS_,hC⟩ h hK9
  rw [ue hS_]
  refine ZMh (sr (Za (v:=vI s6.2.2) rfl (Jh rfl rfl (dn ?_))))
  refine Zs rfl (fun hb10=>?_) (fun hb10=>?_)
  ·replace h:=ift h (ct hb10)
   refine ZMl (Ze (ZMh (ZMn (ZMh (sr (Za (v:=vI s6.2.2) rfl (X8 rfl rfl (by decide) (Xx rfl rfl (dn ?_)))))))))
   refine Zs rfl (fun hb11=>?_) (fun hb11=>?_)
   ·replace h:=ift h (ct hb11)
    refine Zh (Za (v:=vI s6.1) rfl (Za (v:=vI s6.2.1) rfl (Zan rfl rfl (X8 rfl rfl (by decide) (Zd (v:=vI (ZFf (ZG5.wrap (s6.1 * s6.2.1)) 10007)) rfl (dn (Zh (Za (v:=vI s6.2.1) rfl (Za (v:=vI s6.2.1) rfl (Zan rfl rfl (X8 rfl rfl (by decide) (Zd (v:=vI (ZFf (ZG5.wrap (s6.2.1 * s6.2.1)) 10007)) rfl (done (Zr (Ze (Zh (Za (v:=vI s6.2.2) rfl (Ze8 rfl rfl (by decide) (Zd (v:=vI (ZG5.wrap (ZW1 s6.2.2 2))) rfl (done ?_))))))))))))))))))))
    exact hK9 (ZFf (ZG5.wrap (s6.1 * s6.2.1)) 10007,ZFf (ZG5.wrap (s6.2.1 * s6.2.1)) 10007,ZG5.wrap (ZW1 s6.2.2 2)) _ _ ⟨(slq rfl),hC⟩ h
   ·replace h:=Zk h (cf hb11)
    refine ZMl (Ze (Zh (Za (v:=vI s6.2.1) rfl (Za (v:=vI s6.2.1) rfl (Zan rfl rfl (X8 rfl rfl (by decide) (Zd (v:=vI (ZFf (ZG5.wrap (s6.2.1 * s6.2.1)) 10007)) rfl (done (Zr (Ze (Zh (Za (v:=vI s6.2.2) rfl (Ze8 rfl rfl (by decide) (Zd (v:=vI (ZG5.wrap (ZW1 s6.2.2 2))) rfl (done ?_)))))))))))))))
    exact hK9 (s6.1,ZFf (ZG5.wrap (s6.2.1 * s6.2.1)) 10007,ZG5.wrap (ZW1 s6.2.2 2)) _ _ ⟨(slq rfl),hC⟩ h
  ·replace h:=Zk h (cf hb10)
   refine ZMv (Zj (Zj (Zx ?_)))
   refine Ze (sr (Za (v:=vI s6.1) rfl (Zd (v:=vI s6.1) rfl (dn (ZMp ?_)))))
   exact Zi rfl (Zg rfl) ⟨s6.1,rfl,h,hC.below⟩ (.inl rfl)
 ·skip
  exact⟨(slq rfl),hC⟩
def Zin (a0:List (List Int)) (a1:List Int) (K:List (List Int)→Prop):Prop :=
 Zim a1 a0 (fun r6=>Zbe r6 (fun r10=>(if r10 < 0 then K a0 else((0≤r10∧r10 < (r6.length:Int))∧(((0≤(r6.length:Int)∧(r6.length:Int) * 8≤281474976710656)∧Ze0 (r6.getD r10.toNat ZEo) (fun r20=>Je (ZG5.wrap (0 - r20)) (fun r21=>Jl (ZEj ((r6.length:Int).toNat) (0:Int)) r6 r21 (fun r15=>Z8 (fun i10 (s10:(List (List Int))×Bool) nx10=>(if¬ (s10.2=true) then Zbe (a0.getD i10 ZEo) (fun r18=>(if r18 > r10 then(Zy (s10.1.length+1) 24∧((0≤r10∧r10 < ((a0.getD i10 ZEo).length:Int))∧Jl (a0.getD i10 ZEo) r15 ((a0.getD i10 ZEo).getD r10.toNat ZEo) (fun r12=>(Zy ((s10.1++[r15]).length+1) 24∧nx10 ((s10.1++[r15])++[r12],true))))) else((0≤r10∧r10 < ((a0.getD i10 ZEo).length:Int))∧Jl (a0.getD i10 ZEo) r15 ((a0.getD i10 ZEo).getD r10.toNat ZEo) (fun r13=>(Zy (s10.1.length+1) 24∧nx10 (s10.1++[r13],s10.2)))))) else((0≤r10∧r10 < ((a0.getD i10 ZEo).length:Int))∧Jl (a0.getD i10 ZEo) r15 ((a0.getD i10 ZEo).getD r10.toNat ZEo) (fun r14=>(Zy (s10.1.length+1) 24∧nx10 (s10.1++[r14],s10.2)))))) (fun (s10:(List (List Int))×Bool)=>(if¬ (s10.2=true) then(Zy (s10.1.length+1) 24∧K (s10.1++[r15])) else K s10.1)) a0.length 0 ([],false)))))∧Ze0 (r6.getD r10.toNat ZEo) (fun r19=>(((0≤(r6.length:Int)∧(r6.length:Int) * 8≤281474976710656)∧Je (ZG5.wrap (0 - r19)) (fun r22=>Jl (ZEj ((r6.length:Int).toNat) (0:Int)) r6 r22 (fun r16=>Z8 (fun i10 (s10:(List (List Int))×Bool) nx10=>(if¬ (s10.2=true) then Zbe (a0.getD i10 ZEo) (fun r18=>(if r18 > r10 then(Zy (s10.1.length+1) 24∧((0≤r10∧r10 < ((a0.getD i10 ZEo).length:Int))∧Jl (a0.getD i10 ZEo) r16 ((a0.getD i10 ZEo).getD r10.toNat ZEo) (fun r12=>(Zy ((s10.1++[r16]).length+1) 24∧nx10 ((s10.1++[r16])++[r12],true))))) else((0≤r10∧r10 < ((a0.getD i10 ZEo).length:Int))∧Jl (a0.getD i10 ZEo) r16 ((a0.getD i10 ZEo).getD r10.toNat ZEo) (fun r13=>(Zy (s10.1.length+1) 24∧nx10 (s10.1++[r13],s10.2)))))) else((0≤r10∧r10 < ((a0.getD i10 ZEo).length:Int))∧Jl (a0.getD i10 ZEo) r16 ((a0.getD i10 ZEo).getD r10.toNat ZEo) (fun r14=>(Zy (s10.1.length+1) 24∧nx10 (s10.1++[r14],s10.2)))))) (fun (s10:(List (List Int))×Bool)=>(if¬ (s10.2=true) then(Zy (s10.1.length+1) 24∧K (s10.1++[r16])) else K s10.1)) a0.length 0 ([],false))))∧Je (ZG5.wrap (0 - r19)) (fun r23=>((0≤(r6.length:Int)∧(r6.length:Int) * 8≤281474976710656)∧Jl (ZEj ((r6.length:Int).toNat) (0:Int)) r6 r23 (fun r17=>Z8 (fun i10 (s10:(List (List Int))×Bool) nx10=>(if¬ (s10.2=true) then Zbe (a0.getD i10 ZEo) (fun r18=>(if r18 > r10 then(Zy (s10.1.length+1) 24∧((0≤r10∧r10 < ((a0.getD i10 ZEo).length:Int))∧Jl (a0.getD i10 ZEo) r17 ((a0.getD i10 ZEo).getD r10.toNat ZEo) (fun r12=>(Zy ((s10.1++[r17]).length+1) 24∧nx10 ((s10.1++[r17])++[r12],true))))) else((0≤r10∧r10 < ((a0.getD i10 ZEo).length:Int))∧Jl (a0.getD i10 ZEo) r17 ((a0.getD i10 ZEo).getD r10.toNat ZEo) (fun r13=>(Zy (s10.1.length+1) 24∧nx10 (s10.1++[r13],s10.2)))))) else((0≤r10∧r10 < ((a0.getD i10 ZEo).length:Int))∧Jl (a0.getD i10 ZEo) r17 ((a0.getD i10 ZEo).getD r10.toNat ZEo) (fun r14=>(Zy (s10.1.length+1) 24∧nx10 (s10.1++[r14],s10.2)))))) (fun (s10:(List (List Int))×Bool)=>(if¬ (s10.2=true) then(Zy (s10.1.length+1) 24∧K (s10.1++[r17])) else K s10.1)) a0.length 0 ([],false)))))))))))
theorem ZAw (a0:List (List Int)) (a1:List Int)  {K:List (List Int)→Prop} (h:Zin a0 a1 K) (w0:World) (q0:(ZOz.sl).rep a0 [u0_0] fp0 w0) (q1:ZOz.rep a1 [u1_0] fp1 w0) :
  Calls ZMk 106 #[u0_0,u1_0] w0 fun e w'=>∃ (r0:List (List Int)) (z0_0:Value) (fz0:List Nat),
   e=.returned (z0_0)∧K r0∧(ZOz.sl).rep r0 [z0_0] fz0 w'∧(∀ b,b∈fz0→w0.heap.size≤b∨b∈(fp0++(fp1)))∧Bel w0 w':=by
 unfold Zin at h
 refine cof Tryz.func106 rfl 74 Tryz.ntmps106 ?_
 have hC:=ZM2 (X:=Nox) w0 [ZMg (ZOz.sl) a0 [u0_0] fp0,ZMg TInts a1 [u1_0] fp1] (alc q0 (al1 q1))
 refine sr (Zd (v:=.slice none 0 0) rfl (dn (sr (Za (v:=u1_0) rfl (Za (v:=u0_0) rfl (Zf [u1_0,u0_0] _ Tryz.func127 rfl rfl rfl (ZAv a1 a0 h _ (hC.getP 1 rfl) (hC.getP 0 rfl)) ?_))))))
 rintro _ w5 ⟨r6,u7,f8,rfl,h,hr9,hf10,hB10⟩
 refine rt ?_
 have hs26:∀ b,b∈f8→w0.heap.size≤b∨b∈(fp0++(fp1)):=(fun b hb=>(hf10 b hb).elim (fun h_=>.inl (ZEp hC.size h_)) (fun hb=>(ZEv.1 hb).elim (fun hb=>.inr (List.mem_append_right _ hb)) (fun hb=>.inr (ZFa _ hb))))
 replace hC:=hC.pushR hB10 (ZMg TInts r6 [u7] f8) hr9 (fun b hb=>(hf10 b hb).elim .inl (fun hb=>.inr ((ZEv.1 hb).elim (fun hb=>⟨_,mg 1 rfl,hb⟩) (fun hb=>⟨_,mg 0 rfl,hb⟩))))
 refine Zd (v:=u7) rfl (dn (sr (Za (v:=u7) rfl (Zf [u7] _ ZYi rfl rfl rfl (Zla r6 h _ (hC.getP 0 rfl)) ?_))))
 rintro _ w10 ⟨r10,rfl,h,hB11⟩
 refine rt ?_
 replace hC:=hC.grow hB11
 refine Zd (v:=vI r10) rfl (dn (ZMh (sr (Za (v:=vI r10) rfl (Zn rfl rfl (dn ?_))))))
 refine Zs rfl (fun hb11=>?_) (fun hb11=>?_)
 ·replace h:=ift h (ct hb11)
  refine sr (Za (v:=u0_0) rfl (Zd (v:=u0_0) rfl (dn ?_)))
  refine ZMp (Zm ?_)
  exact Zi rfl (Zg rfl) ⟨a0,u0_0,fp0,rfl,h,(hC.getP 1 rfl),(fun b hb=>.inr (ZFa _ hb)),hC.below⟩ (.inl rfl)
 ·replace h:=Zk h (cf hb11)
  refine ZMl (Ze (ZMh ?_))
  refine cwd 11 Yo [0,1,3,0,0,0,48,112,240,496,1008,2047,4095] [1,6,7] [0,3,4,5,9] (fun hM17 hM13 w11 hB_=>?_)
  replace hC:=hC.grow hB_
  refine bM 0 (u7) rfl hM13 (Zc 13 1) (bL 1 (vI (r6.length:Int)) rfl rfl hM17 (fun _ hB_=>by exact Zj7 (hC.grow hB_) 0 rfl ZM0 rfl) (Zc 13 3) (bM 3 (u7) rfl hM13 (Zc 13 11) (bM 4 (u7) rfl hM13 (Zc 13 27) (bM 5 (vI r10) rfl hM13 (Zc 13 59) ?_))))
  obtain ⟨⟨h10,h11⟩,h⟩:=h
  obtain ⟨Ad10,c10,hv10⟩:=Zw (hC.getP 0 rfl) r10.toNat (show r10.toNat < r6.length by omega)
  refine bL 6 (.pointer (some (Ad10.add (r10.toNat * 1)))) rfl rfl hM17 (fun _ hB_=>by exact Y2 (len:=r6.length) ZM0 sc2.size (by exact tr rfl hv10) rfl h10 h11) (Zc 13 123) (bL 7 (vI (r6.getD r10.toNat ZEo)) rfl rfl hM17 (fun _ hB_=>by exact Xn (vI (r6.getD r10.toNat ZEo)) (Yd ((hC.grow hB_).getP 0 rfl) hv10 r10.toNat (show r10.toNat < r6.length by omega)) sc2 rfl) (Zc 13 251) ?_)
  refine Zdn (fun e_ w_=>∃ (u10:Value),∃ (r11:List Int),Zt e_ [(0,u0_0),(1,u10),(5,vI r10)]∧Ctx Nox w0 w_ [own 2 1 u10 r11.length (eI.encs r11)] [ZMg (ZOz.sl) a0 [u0_0] fp0,ZMg TInts a1 [u1_0] fp1]∧(Z8 (fun i10 (s10:(List (List Int))×Bool) nx10=>(if¬ (s10.2=true) then Zbe (a0.getD i10 ZEo) (fun r18=>(if r18 > r10 then(Zy (s10.1.length+1) 24∧((0≤r10∧r10 < ((a0.getD i10 ZEo).length:Int))∧Jl (a0.getD i10 ZEo) r11 ((a0.getD i10 ZEo).getD r10.toNat ZEo) (fun r12=>(Zy ((s10.1++[r11]).length+1) 24∧nx10 ((s10.1++[r11])++[r12],true))))) else((0≤r10∧r10 < ((a0.getD i10 ZEo).length:Int))∧Jl (a0.getD i10 ZEo) r11 ((a0.getD i10 ZEo).getD r10.toNat ZEo) (fun r13=>(Zy (s10.1.length+1) 24∧nx10 (s10.1++[r13],s10.2)))))) else((0≤r10∧r10 < ((a0.getD i10 ZEo).length:Int))∧Jl (a0.getD i10 ZEo) r11 ((a0.getD i10 ZEo).getD r10.toNat ZEo) (fun r14=>(Zy (s10.1.length+1) 24∧nx10 (s10.1++[r14],s10.2)))))) (fun (s10:(List (List Int))×Bool)=>(if¬ (s10.2=true) then(Zy (s10.1.length+1) 24∧K (s10.1++[r11])) else K s10.1)) a0.length 0 ([],false))) ?_ ?_
  ·clear hC h
   rintro e_ w12 ⟨u10,r11,hS_,hC,h⟩
   rw [ue hS_]
   refine Ze (sr (Ye (sz:=1) hC [] [] rfl (fun _=>Zak _) rfl (by decide) fun b15 w13 hB_ hC=>?_))
   replace hC:=hC.pushE (ZYa TInts [] [] []) (Zn0 _ _) rfl
   refine Zd (v:=.slice (some ⟨b15,0,none⟩) 0 0) rfl (Zd (v:=.bool false) rfl (dn (ZMh (sr (Zd (v:=vI 0) rfl (dn (ZMn ?_)))))))
   have hs10:=Y8 hC 1 rfl
   replace hC:=hC.thaw 1 rfl (ZMg TInts r11 [u10] (ZNg (ZFi u10))) Ym (fun _ hb_=>hb_)
   have hN10:a0.length≤9223372036854775807:=Yw (hC.getP 2 rfl)
   refine Yi (S:=(List (List Int))×Bool) _ _ (fun i10 s10 e_ w_=>∃ (v10:Value),∃ (cs10:List Value),∃ (f10:List Nat),Zt e_ [(0,u0_0),(1,u10),(5,vI r10),(6,v10),(7,.bool s10.2),(8,vI (i10:Int))]∧(∀ b,b∈f10→w0.heap.size≤b∨b∈(fp0++(fp1)))∧Ctx Nox w0 w_ [own 22 1 v10 s10.1.length cs10] [ZYa TInts s10.1 cs10 f10,ZMg TInts r11 [u10] (ZNg (ZFi u10)),ZMg (ZOz.sl) a0 [u0_0] fp0,ZMg TInts a1 [u1_0] fp1]) a0.length ?_ ?_ (s0:=([],false)) ?_ h
   ·clear hC h
    rintro i10 s10 e_ w14 nx10 K10 hi10 ⟨v10,cs10,f10,hS_,hq10,hC⟩ h hK10
    rw [ue hS_]
    refine ZMh (sr (Za (v:=vI (i10:Int)) rfl (Za (v:=u0_0) rfl (Zu hC 2 rfl ZXe rfl (Zn rfl rfl (dn (Z5 rfl (decide_eq_true (by omega)) (ZMl (Ze (ZMh (ZMn (ZMh (sr (Za (v:=.bool s10.2) rfl (Xe rfl (Za (v:=.bool (!s10.2)) rfl ?_))))))))))))))))
    refine Y7 (!s10.2) (fun hb10=>?_) (fun hb10=>?_)
    ·replace h:=ift h (Y4 (Xi hb10))
     refine Zp 2 38 rfl rfl hb10 (Za (v:=u0_0) rfl (Zp 2 38 rfl rfl hb10 (Za (v:=vI (i10:Int)) rfl (Zp 2 38 rfl rfl hb10 ?_))))
     obtain ⟨Ad20,c11,hv11⟩:=Zw (hC.getP 2 rfl) i10 hi10
     refine Yn (len:=a0.length) ZXe sc22.size (tr rfl hv11) rfl (ZMx _) (ZNf.2 hi10) (Zp 2 38 rfl rfl hb10 ?_)
     obtain ⟨cs_,hl10,hc10,hr10⟩:=Xg (hC.getP 2 rfl) hv11 i10 hi10
     obtain ⟨u20,rfl⟩:=ZNd.1 hl10
     clear hl10
     rw [Xd _ _ hi10] at hr10
     replace hC:=hC.derive 2 rfl (ZMg TInts (a0.getD i10 ZEo) [u20] fp0) (fun _=>hr10) (fun _ hb_=>hb_)
     refine Yp (u20) hc10 sc22 rfl (Zp 2 38 rfl rfl hb10 (Zf [u20] _ ZYi rfl rfl rfl (Zla (a0.getD i10 ZEo) h _ (hC.getP 0 rfl)) ?_))
     rintro _ w15 ⟨r18,rfl,h,hB12⟩
     refine rt ?_
     replace hC:=hC.grow hB12
     refine Zp 2 38 rfl rfl hb10 (Za (v:=vI r10) rfl (Zp 2 38 rfl rfl hb10 (Jh rfl rfl (Z4 (v:=.bool (decide (r18 > r10))) (b:=true) (tr rfl (congrArg _ hb10)) rfl (dn ?_)))))
     refine Zs rfl (fun hb12=>?_) (fun hb12=>?_)
     ·replace h:=ift h (ct hb12)
      refine sr (Za (v:=v10) rfl (Za (v:=u10) rfl (Ye (sz:=1) hC [(0,u10)] [u10] rfl (fun _=>Zae u10 (Zco (hC.getP 2 rfl)) _) rfl (by decide) fun b10 w16 hB_ hC=>?_)))
      have hf11:=Y8 hC 0 rfl
      replace hC:=hC.thaw 0 rfl (own 22 1 (.slice (some ⟨b10,0,none⟩) 1 1) 1 [u10]) id (fun _ hb_=>hb_)
      replace hC:=hC.joinP 0 3 rfl rfl (ZMg (ZOz.sl) [r11] [.slice (some ⟨b10,0,none⟩) 1 1] ((ZNg (ZFi (.slice (some ⟨b10,0,none⟩) 1 1)))++(ZNg (ZFi u10)))) (fun a_ b_=>Za2 a_ (Zdy b_)) (fun c_ hc_=>ZEv.1 hc_)
      have hs11:∀ b,b∈((ZNg (ZFi (.slice (some ⟨b10,0,none⟩) 1 1)))++(ZNg (ZFi u10)))→w0.heap.size≤b:=(fun b hb=>(ZEv.1 hb).elim (fun hb=>hf11 b hb) (fun hb=>hs10 b hb))
      obtain ⟨cs11,hd10,ha10⟩:=Zeu (hC.getP 0 rfl)
      replace hC:=hC.derive 0 rfl (ZYa TInts [r11] cs11 ((ZNg (ZFi (.slice (some ⟨b10,0,none⟩) 1 1)))++(ZNg (ZFi u10)))) (fun _=>ha10) (fun _ h_=>h_)
      obtain ⟨hm13,h⟩:=h
      refine Ja hC 0 ZXe Jz rfl (by decide) (by decide) rfl hd10 (fun q_ hq_=>ha10.2.2.1 q_ hq_) rfl rfl hm13 fun v12 w17 hC=>?_
      replace hC:=Yy hC 0 ((s10.1++[r11]).length) (cs10++cs11) rfl (by simp) (by simp)
      have hs12:∀ b,b∈(f10++((ZNg (ZFi (.slice (some ⟨b10,0,none⟩) 1 1)))++(ZNg (ZFi u10))))→w0.heap.size≤b∨b∈(fp0++(fp1)):=(fun b hb=>(ZEv.1 hb).elim (fun hb=>hq10 b hb) (fun hb=>.inl (hs11 b hb)))
      replace hC:=hC.joinP 4 0 rfl rfl (ZYa TInts (s10.1++[r11]) (cs10++cs11) (f10++((ZNg (ZFi (.slice (some ⟨b10,0,none⟩) 1 1)))++(ZNg (ZFi u10))))) (fun a_ b_=>Zev a_ b_) (fun c_ hc_=>ZEv.1 hc_)
      refine Zd (v:=v12) rfl (dn (Zh (Zd (v:=.bool true) rfl (dn ?_))))
      refine cwd 15 Yo [0,0,0,6,14,0,0,0,192,448,0,1984,4032,8190,16382,32767,65535] [3,4,8,9,11,12] [0,1,2,5,6,7,10] (fun hM14 hM10 w18 hB_=>?_)
      replace hC:=hC.grow hB_
      refine bM 0 (v12) rfl hM10 (Zc 17 1) (bM 1 (u0_0) rfl hM10 (Zc 17 3) (bM 2 (vI (i10:Int)) rfl hM10 (Zc 17 7) ?_))
      obtain ⟨Ad11,c12,hv12⟩:=Zw (hC.getP 7 rfl) i10 hi10
      refine bL 3 (.pointer (some (Ad11.add (i10 * 1)))) rfl rfl hM14 (fun _ hB_=>by exact Y2 (len:=a0.length) ZXe sc22.size (by exact tr rfl hv12) rfl (ZMx _) (ZNf.2 hi10)) (Zc 17 15) ?_
      obtain ⟨cs_,hl11,hc11,hr11⟩:=Xg (hC.getP 7 rfl) hv12 i10 hi10
      obtain ⟨u14,rfl⟩:=ZNd.1 hl11
      clear hl11
      rw [Xd _ _ hi10] at hr11
      replace hC:=hC.derive 7 rfl (ZMg TInts (a0.getD i10 ZEo) [u14] fp0) (fun _=>hr11) (fun _ hb_=>hb_)
      refine bL 4 (u14) rfl rfl hM14 (fun _ hB_=>by exact Xn (u14) (Zay hB_ hc11) sc22 rfl) (Zc 17 31) (bM 5 (u10) rfl hM10 (Zc 17 63) (bM 6 (u0_0) rfl hM10 (Zc 17 127) (bM 7 (vI (i10:Int)) rfl hM10 (Zc 17 255) ?_)))
      obtain ⟨Ad12,c13,hv13⟩:=Zw (hC.getP 8 rfl) i10 hi10
      refine bL 8 (.pointer (some (Ad12.add (i10 * 1)))) rfl rfl hM14 (fun _ hB_=>by exact Y2 (len:=a0.length) ZXe sc22.size (by exact tr rfl hv13) rfl (ZMx _) (ZNf.2 hi10)) (Zc 17 511) ?_
      obtain ⟨cs_,hl12,hc12,hr12⟩:=Xg (hC.getP 8 rfl) hv13 i10 hi10
      obtain ⟨u21,rfl⟩:=ZNd.1 hl12
      clear hl12
      rw [Xd _ _ hi10] at hr12
      replace hC:=hC.derive 8 rfl (ZMg TInts (a0.getD i10 ZEo) [u21] fp0) (fun _=>hr12) (fun _ hb_=>hb_)
      refine bL 9 (u21) rfl rfl hM14 (fun _ hB_=>by exact Xn (u21) (Zay hB_ hc12) sc22 rfl) (Zc 17 1023) (bM 10 (vI r10) rfl hM10 (Zc 17 2047) ?_)
      obtain ⟨⟨h12,h13⟩,h⟩:=h
      obtain ⟨Ad13,c14,hv14⟩:=Zw (hC.getP 0 rfl) r10.toNat (show r10.toNat < (a0.getD i10 ZEo).length by omega)
      refine bL 11 (.pointer (some (Ad13.add (r10.toNat * 1)))) rfl rfl hM14 (fun _ hB_=>by exact Y2 (len:=(a0.getD i10 ZEo).length) ZM0 sc2.size (by exact tr rfl hv14) rfl h12 h13) (Zc 17 4095) (bL 12 (vI ((a0.getD i10 ZEo).getD r10.toNat ZEo)) rfl rfl hM14 (fun _ hB_=>by exact Xn (vI ((a0.getD i10 ZEo).getD r10.toNat ZEo)) (Yd ((hC.grow hB_).getP 0 rfl) hv14 r10.toNat (show r10.toNat < (a0.getD i10 ZEo).length by omega)) sc2 rfl) (Zc 17 8191) (aO 13 rfl (Zf [u14,u10,vI ((a0.getD i10 ZEo).getD r10.toNat ZEo)] _ ZYe rfl rfl rfl (Zez (a0.getD i10 ZEo) r11 ((a0.getD i10 ZEo).getD r10.toNat ZEo) h _ (hC.getP 1 rfl) (hC.getP 8 rfl)) ?_)))
      rintro _ w19 ⟨r12,u11,f11,rfl,h,hr17,hf12,hB13⟩
      refine rt ?_
      replace hC:=hC.push hB13 (ZMy (ZR9 2 (eI.tr)) r12 [u11] f11) hr17 hf12
      obtain ⟨ho10,hf13⟩:=Yv (hC.getM 0 rfl).1
      subst hf13
      replace hC:=hC.recast (c:=own 2 1 u11 r12.length (eI.encs r12)) (fun _ h_=>h_) (fun _=>ho10)
      refine done (aK (by assumption) (Zc 17 16383) (aO 14 rfl ?_))
      have hs13:=Y8 hC 0 rfl
      replace hC:=hC.thaw 0 rfl (ZMg TInts r12 [u11] (ZNg (ZFi u11))) Ym (fun _ hb_=>hb_)
      refine Ye (sz:=1) hC [(0,u11)] [u11] rfl (fun _=>Zae u11 (Zco (hC.getP 0 rfl)) _) rfl (by decide) fun b12 w20 hB_ hC=>?_
      have hf14:=Y8 hC 0 rfl
      replace hC:=hC.thaw 0 rfl (own 22 1 (.slice (some ⟨b12,0,none⟩) 1 1) 1 [u11]) id (fun _ hb_=>hb_)
      replace hC:=hC.joinP 0 1 rfl rfl (ZMg (ZOz.sl) [r12] [.slice (some ⟨b12,0,none⟩) 1 1] ((ZNg (ZFi (.slice (some ⟨b12,0,none⟩) 1 1)))++(ZNg (ZFi u11)))) (fun a_ b_=>Za2 a_ (Zdy b_)) (fun c_ hc_=>ZEv.1 hc_)
      have hs14:∀ b,b∈((ZNg (ZFi (.slice (some ⟨b12,0,none⟩) 1 1)))++(ZNg (ZFi u11)))→w0.heap.size≤b:=(fun b hb=>(ZEv.1 hb).elim (fun hb=>hf14 b hb) (fun hb=>hs13 b hb))
      refine done (aK (by assumption) (Zc 17 32767) (Z6 15 (by decide) (by decide) (by kernel_rfl) (by kernel_rfl) rfl ?_))
      obtain ⟨cs12,hd11,ha11⟩:=Zeu (hC.getP 0 rfl)
      replace hC:=hC.derive 0 rfl (ZYa TInts [r12] cs12 ((ZNg (ZFi (.slice (some ⟨b12,0,none⟩) 1 1)))++(ZNg (ZFi u11)))) (fun _=>ha11) (fun _ h_=>h_)
      obtain ⟨hm14,h⟩:=h
      refine Ja hC 0 ZXe Jz rfl (by decide) (by decide) rfl hd11 (fun q_ hq_=>ha11.2.2.1 q_ hq_) rfl rfl hm14 fun v13 w21 hC=>?_
      replace hC:=Yy hC 0 (((s10.1++[r11])++[r12]).length) ((cs10++cs11)++cs12) rfl (by simp) (by simp)
      have hs15:∀ b,b∈((f10++((ZNg (ZFi (.slice (some ⟨b10,0,none⟩) 1 1)))++(ZNg (ZFi u10))))++((ZNg (ZFi (.slice (some ⟨b12,0,none⟩) 1 1)))++(ZNg (ZFi u11))))→w0.heap.size≤b∨b∈(fp0++(fp1)):=(fun b hb=>(ZEv.1 hb).elim (fun hb=>hs12 b hb) (fun hb=>.inl (hs14 b hb)))
      replace hC:=hC.joinP 6 0 rfl rfl (ZYa TInts ((s10.1++[r11])++[r12]) ((cs10++cs11)++cs12) ((f10++((ZNg (ZFi (.slice (some ⟨b10,0,none⟩) 1 1)))++(ZNg (ZFi u10))))++((ZNg (ZFi (.slice (some ⟨b12,0,none⟩) 1 1)))++(ZNg (ZFi u11))))) (fun a_ b_=>Zev a_ b_) (fun c_ hc_=>ZEv.1 hc_)
      refine Zd (v:=v13) rfl (done (Z7 (Zr (Ze (Zh (Za (v:=vI (i10:Int)) rfl (Zq rfl rfl (Zd (v:=vI (ZG5.wrap ((i10:Int)+1))) rfl (done ?_)))))))))
      exact hK10 ((s10.1++[r11])++[r12],true) _ _ ⟨v13,(cs10++cs11)++cs12,((f10++((ZNg (ZFi (.slice (some ⟨b10,0,none⟩) 1 1)))++(ZNg (ZFi u10))))++((ZNg (ZFi (.slice (some ⟨b12,0,none⟩) 1 1)))++(ZNg (ZFi u11)))),(sl ⟨rfl,rfl,rfl,rfl,rfl,(tr rfl (congrArg _ (Z2 hi10 hN10))),trivial⟩),hs15,(hC.sP [0,13,14,15] rfl)⟩ h
     ·replace h:=Zk h (cf hb12)
      refine ZMl (Ze ?_)
      refine cwd 15 Yo [0,0,0,6,14,0,0,0,192,448,0,1984,4032,8190,16382,32767,65535] [3,4,8,9,11,12] [0,1,2,5,6,7,10] (fun hM15 hM11 w22 hB_=>?_)
      replace hC:=hC.grow hB_
      refine bM 0 (v10) rfl hM11 (Zc 17 1) (bM 1 (u0_0) rfl hM11 (Zc 17 3) (bM 2 (vI (i10:Int)) rfl hM11 (Zc 17 7) ?_))
      obtain ⟨Ad14,c15,hv15⟩:=Zw (hC.getP 3 rfl) i10 hi10
      refine bL 3 (.pointer (some (Ad14.add (i10 * 1)))) rfl rfl hM15 (fun _ hB_=>by exact Y2 (len:=a0.length) ZXe sc22.size (by exact tr rfl hv15) rfl (ZMx _) (ZNf.2 hi10)) (Zc 17 15) ?_
      obtain ⟨cs_,hl13,hc13,hr13⟩:=Xg (hC.getP 3 rfl) hv15 i10 hi10
      obtain ⟨u15,rfl⟩:=ZNd.1 hl13
      clear hl13
      rw [Xd _ _ hi10] at hr13
      replace hC:=hC.derive 3 rfl (ZMg TInts (a0.getD i10 ZEo) [u15] fp0) (fun _=>hr13) (fun _ hb_=>hb_)
      refine bL 4 (u15) rfl rfl hM15 (fun _ hB_=>by exact Xn (u15) (Zay hB_ hc13) sc22 rfl) (Zc 17 31) (bM 5 (u10) rfl hM11 (Zc 17 63) (bM 6 (u0_0) rfl hM11 (Zc 17 127) (bM 7 (vI (i10:Int)) rfl hM11 (Zc 17 255) ?_)))
      obtain ⟨Ad15,c16,hv16⟩:=Zw (hC.getP 4 rfl) i10 hi10
      refine bL 8 (.pointer (some (Ad15.add (i10 * 1)))) rfl rfl hM15 (fun _ hB_=>by exact Y2 (len:=a0.length) ZXe sc22.size (by exact tr rfl hv16) rfl (ZMx _) (ZNf.2 hi10)) (Zc 17 511) ?_
      obtain ⟨cs_,hl14,hc14,hr14⟩:=Xg (hC.getP 4 rfl) hv16 i10 hi10
      obtain ⟨u22,rfl⟩:=ZNd.1 hl14
      clear hl14
      rw [Xd _ _ hi10] at hr14
      replace hC:=hC.derive 4 rfl (ZMg TInts (a0.getD i10 ZEo) [u22] fp0) (fun _=>hr14) (fun _ hb_=>hb_)
      refine bL 9 (u22) rfl rfl hM15 (fun _ hB_=>by exact Xn (u22) (Zay hB_ hc14) sc22 rfl) (Zc 17 1023) (bM 10 (vI r10) rfl hM11 (Zc 17 2047) ?_)
      obtain ⟨⟨h14,h15⟩,h⟩:=h
      obtain ⟨Ad16,c17,hv17⟩:=Zw (hC.getP 0 rfl) r10.toNat (show r10.toNat < (a0.getD i10 ZEo).length by omega)
      refine bL 11 (.pointer (some (Ad16.add (r10.toNat * 1)))) rfl rfl hM15 (fun _ hB_=>by exact Y2 (len:=(a0.getD i10 ZEo).length) ZM0 sc2.size (by exact tr rfl hv17) rfl h14 h15) (Zc 17 4095) (bL 12 (vI ((a0.getD i10 ZEo).getD r10.toNat ZEo)) rfl rfl hM15 (fun _ hB_=>by exact Xn (vI ((a0.getD i10 ZEo).getD r10.toNat ZEo)) (Yd ((hC.grow hB_).getP 0 rfl) hv17 r10.toNat (show r10.toNat < (a0.getD i10 ZEo).length by omega)) sc2 rfl) (Zc 17 8191) (aO 13 rfl (Zf [u15,u10,vI ((a0.getD i10 ZEo).getD r10.toNat ZEo)] _ ZYe rfl rfl rfl (Zez (a0.getD i10 ZEo) r11 ((a0.getD i10 ZEo).getD r10.toNat ZEo) h _ (hC.getP 1 rfl) (hC.getP 4 rfl)) ?_)))
      rintro _ w23 ⟨r13,u12,f12,rfl,h,hr18,hf15,hB14⟩
      refine rt ?_
      replace hC:=hC.push hB14 (ZMy (ZR9 2 (eI.tr)) r13 [u12] f12) hr18 hf15
      obtain ⟨ho11,hf16⟩:=Yv (hC.getM 0 rfl).1
      subst hf16
      replace hC:=hC.recast (c:=own 2 1 u12 r13.length (eI.encs r13)) (fun _ h_=>h_) (fun _=>ho11)
      refine done (aK (by assumption) (Zc 17 16383) (aO 14 rfl ?_))
      have hs16:=Y8 hC 0 rfl
      replace hC:=hC.thaw 0 rfl (ZMg TInts r13 [u12] (ZNg (ZFi u12))) Ym (fun _ hb_=>hb_)
      refine Ye (sz:=1) hC [(0,u12)] [u12] rfl (fun _=>Zae u12 (Zco (hC.getP 0 rfl)) _) rfl (by decide) fun b13 w24 hB_ hC=>?_
      have hf17:=Y8 hC 0 rfl
      replace hC:=hC.thaw 0 rfl (own 22 1 (.slice (some ⟨b13,0,none⟩) 1 1) 1 [u12]) id (fun _ hb_=>hb_)
      replace hC:=hC.joinP 0 1 rfl rfl (ZMg (ZOz.sl) [r13] [.slice (some ⟨b13,0,none⟩) 1 1] ((ZNg (ZFi (.slice (some ⟨b13,0,none⟩) 1 1)))++(ZNg (ZFi u12)))) (fun a_ b_=>Za2 a_ (Zdy b_)) (fun c_ hc_=>ZEv.1 hc_)
      have hs17:∀ b,b∈((ZNg (ZFi (.slice (some ⟨b13,0,none⟩) 1 1)))++(ZNg (ZFi u12)))→w0.heap.size≤b:=(fun b hb=>(ZEv.1 hb).elim (fun hb=>hf17 b hb) (fun hb=>hs16 b hb))
      refine done (aK (by assumption) (Zc 17 32767) (Z6 15 (by decide) (by decide) (by kernel_rfl) (by kernel_rfl) rfl ?_))
      obtain ⟨cs13,hd12,ha12⟩:=Zeu (hC.getP 0 rfl)
      replace hC:=hC.derive 0 rfl (ZYa TInts [r13] cs13 ((ZNg (ZFi (.slice (some ⟨b13,0,none⟩) 1 1)))++(ZNg (ZFi u12)))) (fun _=>ha12) (fun _ h_=>h_)
      obtain ⟨hm15,h⟩:=h
      refine Ja hC 0 ZXe Jz rfl (by decide) (by decide) rfl hd12 (fun q_ hq_=>ha12.2.2.1 q_ hq_) rfl rfl hm15 fun v14 w25 hC=>?_
      replace hC:=Yy hC 0 ((s10.1++[r13]).length) (cs10++cs13) rfl (by simp) (by simp)
      have hs18:∀ b,b∈(f10++((ZNg (ZFi (.slice (some ⟨b13,0,none⟩) 1 1)))++(ZNg (ZFi u12))))→w0.heap.size≤b∨b∈(fp0++(fp1)):=(fun b hb=>(ZEv.1 hb).elim (fun hb=>hq10 b hb) (fun hb=>.inl (hs17 b hb)))
      replace hC:=hC.joinP 7 0 rfl rfl (ZYa TInts (s10.1++[r13]) (cs10++cs13) (f10++((ZNg (ZFi (.slice (some ⟨b13,0,none⟩) 1 1)))++(ZNg (ZFi u12))))) (fun a_ b_=>Zev a_ b_) (fun c_ hc_=>ZEv.1 hc_)
      refine Zd (v:=v14) rfl (done (Z7 (Zr (Ze (Zh (Za (v:=vI (i10:Int)) rfl (Zq rfl rfl (Zd (v:=vI (ZG5.wrap ((i10:Int)+1))) rfl (done ?_)))))))))
      exact hK10 (s10.1++[r13],s10.2) _ _ ⟨v14,cs10++cs13,(f10++((ZNg (ZFi (.slice (some ⟨b13,0,none⟩) 1 1)))++(ZNg (ZFi u12)))),(sl ⟨rfl,rfl,rfl,rfl,rfl,(tr rfl (congrArg _ (Z2 hi10 hN10))),trivial⟩),hs18,(hC.sP [0,9,10,11] rfl)⟩ h
    ·replace h:=Zk h (not_not_intro ((Xj hb10)))
     refine Zl (b:=false) 2 38 rfl (tr rfl (congrArg _ hb10)) (by decide) (Zl (b:=false) 2 38 rfl (tr rfl (congrArg _ hb10)) (by decide) (Zl (b:=false) 2 38 rfl (tr rfl (congrArg _ hb10)) (by decide) (Zl (b:=false) 2 38 rfl (tr rfl (congrArg _ hb10)) (by decide) (Zl (b:=false) 2 38 rfl (tr rfl (congrArg _ hb10)) (by decide) (Zl (b:=false) 2 38 rfl (tr rfl (congrArg _ hb10)) (by decide) (Zl (b:=false) 2 38 rfl (tr rfl (congrArg _ hb10)) (by decide) (Z4 (v:=.bool false) (b:=false) (tr rfl (congrArg _ hb10)) rfl (dn (Z1 rfl rfl (ZMl (Ze ?_)))))))))))
     refine cwd 15 Yo [0,0,0,6,14,0,0,0,192,448,0,1984,4032,8190,16382,32767,65535] [3,4,8,9,11,12] [0,1,2,5,6,7,10] (fun hM16 hM12 w26 hB_=>?_)
     replace hC:=hC.grow hB_
     refine bM 0 (v10) rfl hM12 (Zc 17 1) (bM 1 (u0_0) rfl hM12 (Zc 17 3) (bM 2 (vI (i10:Int)) rfl hM12 (Zc 17 7) ?_))
     obtain ⟨Ad17,c18,hv18⟩:=Zw (hC.getP 2 rfl) i10 hi10
     refine bL 3 (.pointer (some (Ad17.add (i10 * 1)))) rfl rfl hM16 (fun _ hB_=>by exact Y2 (len:=a0.length) ZXe sc22.size (by exact tr rfl hv18) rfl (ZMx _) (ZNf.2 hi10)) (Zc 17 15) ?_
     obtain ⟨cs_,hl15,hc15,hr15⟩:=Xg (hC.getP 2 rfl) hv18 i10 hi10
     obtain ⟨u16,rfl⟩:=ZNd.1 hl15
     clear hl15
     rw [Xd _ _ hi10] at hr15
     replace hC:=hC.derive 2 rfl (ZMg TInts (a0.getD i10 ZEo) [u16] fp0) (fun _=>hr15) (fun _ hb_=>hb_)
     refine bL 4 (u16) rfl rfl hM16 (fun _ hB_=>by exact Xn (u16) (Zay hB_ hc15) sc22 rfl) (Zc 17 31) (bM 5 (u10) rfl hM12 (Zc 17 63) (bM 6 (u0_0) rfl hM12 (Zc 17 127) (bM 7 (vI (i10:Int)) rfl hM12 (Zc 17 255) ?_)))
     obtain ⟨Ad18,c19,hv19⟩:=Zw (hC.getP 3 rfl) i10 hi10
     refine bL 8 (.pointer (some (Ad18.add (i10 * 1)))) rfl rfl hM16 (fun _ hB_=>by exact Y2 (len:=a0.length) ZXe sc22.size (by exact tr rfl hv19) rfl (ZMx _) (ZNf.2 hi10)) (Zc 17 511) ?_
     obtain ⟨cs_,hl16,hc16,hr16⟩:=Xg (hC.getP 3 rfl) hv19 i10 hi10
     obtain ⟨u23,rfl⟩:=ZNd.1 hl16
     clear hl16
     rw [Xd _ _ hi10] at hr16
     replace hC:=hC.derive 3 rfl (ZMg TInts (a0.getD i10 ZEo) [u23] fp0) (fun _=>hr16) (fun _ hb_=>hb_)
     refine bL 9 (u23) rfl rfl hM16 (fun _ hB_=>by exact Xn (u23) (Zay hB_ hc16) sc22 rfl) (Zc 17 1023) (bM 10 (vI r10) rfl hM12 (Zc 17 2047) ?_)
     obtain ⟨⟨h16,h17⟩,h⟩:=h
     obtain ⟨Ad19,c20,hv20⟩:=Zw (hC.getP 0 rfl) r10.toNat (show r10.toNat < (a0.getD i10 ZEo).length by omega)
     refine bL 11 (.pointer (some (Ad19.add (r10.toNat * 1)))) rfl rfl hM16 (fun _ hB_=>by exact Y2 (len:=(a0.getD i10 ZEo).length) ZM0 sc2.size (by exact tr rfl hv20) rfl h16 h17) (Zc 17 4095) (bL 12 (vI ((a0.getD i10 ZEo).getD r10.toNat ZEo)) rfl rfl hM16 (fun _ hB_=>by exact Xn (vI ((a0.getD i10 ZEo).getD r10.toNat ZEo)) (Yd ((hC.grow hB_).getP 0 rfl) hv20 r10.toNat (show r10.toNat < (a0.getD i10 ZEo).length by omega)) sc2 rfl) (Zc 17 8191) (aO 13 rfl (Zf [u16,u10,vI ((a0.getD i10 ZEo).getD r10.toNat ZEo)] _ ZYe rfl rfl rfl (Zez (a0.getD i10 ZEo) r11 ((a0.getD i10 ZEo).getD r10.toNat ZEo) h _ (hC.getP 1 rfl) (hC.getP 3 rfl)) ?_)))
     rintro _ w27 ⟨r14,u13,f13,rfl,h,hr19,hf18,hB15⟩
     refine rt ?_
     replace hC:=hC.push hB15 (ZMy (ZR9 2 (eI.tr)) r14 [u13] f13) hr19 hf18
     obtain ⟨ho12,hf19⟩:=Yv (hC.getM 0 rfl).1
     subst hf19
     replace hC:=hC.recast (c:=own 2 1 u13 r14.length (eI.encs r14)) (fun _ h_=>h_) (fun _=>ho12)
     refine done (aK (by assumption) (Zc 17 16383) (aO 14 rfl ?_))
     have hs19:=Y8 hC 0 rfl
     replace hC:=hC.thaw 0 rfl (ZMg TInts r14 [u13] (ZNg (ZFi u13))) Ym (fun _ hb_=>hb_)
     refine Ye (sz:=1) hC [(0,u13)] [u13] rfl (fun _=>Zae u13 (Zco (hC.getP 0 rfl)) _) rfl (by decide) fun b14 w28 hB_ hC=>?_
     have hf20:=Y8 hC 0 rfl
     replace hC:=hC.thaw 0 rfl (own 22 1 (.slice (some ⟨b14,0,none⟩) 1 1) 1 [u13]) id (fun _ hb_=>hb_)
     replace hC:=hC.joinP 0 1 rfl rfl (ZMg (ZOz.sl) [r14] [.slice (some ⟨b14,0,none⟩) 1 1] ((ZNg (ZFi (.slice (some ⟨b14,0,none⟩) 1 1)))++(ZNg (ZFi u13)))) (fun a_ b_=>Za2 a_ (Zdy b_)) (fun c_ hc_=>ZEv.1 hc_)
     have hs20:∀ b,b∈((ZNg (ZFi (.slice (some ⟨b14,0,none⟩) 1 1)))++(ZNg (ZFi u13)))→w0.heap.size≤b:=(fun b hb=>(ZEv.1 hb).elim (fun hb=>hf20 b hb) (fun hb=>hs19 b hb))
     refine done (aK (by assumption) (Zc 17 32767) (Z6 15 (by decide) (by decide) (by kernel_rfl) (by kernel_rfl) rfl ?_))
     obtain ⟨cs14,hd13,ha13⟩:=Zeu (hC.getP 0 rfl)
     replace hC:=hC.derive 0 rfl (ZYa TInts [r14] cs14 ((ZNg (ZFi (.slice (some ⟨b14,0,none⟩) 1 1)))++(ZNg (ZFi u13)))) (fun _=>ha13) (fun _ h_=>h_)
     obtain ⟨hm16,h⟩:=h
     refine Ja hC 0 ZXe Jz rfl (by decide) (by decide) rfl hd13 (fun q_ hq_=>ha13.2.2.1 q_ hq_) rfl rfl hm16 fun v15 w29 hC=>?_
     replace hC:=Yy hC 0 ((s10.1++[r14]).length) (cs10++cs14) rfl (by simp) (by simp)
     have hs21:∀ b,b∈(f10++((ZNg (ZFi (.slice (some ⟨b14,0,none⟩) 1 1)))++(ZNg (ZFi u13))))→w0.heap.size≤b∨b∈(fp0++(fp1)):=(fun b hb=>(ZEv.1 hb).elim (fun hb=>hq10 b hb) (fun hb=>.inl (hs20 b hb)))
     replace hC:=hC.joinP 6 0 rfl rfl (ZYa TInts (s10.1++[r14]) (cs10++cs14) (f10++((ZNg (ZFi (.slice (some ⟨b14,0,none⟩) 1 1)))++(ZNg (ZFi u13))))) (fun a_ b_=>Zev a_ b_) (fun c_ hc_=>ZEv.1 hc_)
     refine Zd (v:=v15) rfl (done (Z7 (Zr (Ze (Zh (Za (v:=vI (i10:Int)) rfl (Zq rfl rfl (Zd (v:=vI (ZG5.wrap ((i10:Int)+1))) rfl (done ?_)))))))))
     exact hK10 (s10.1++[r14],s10.2) _ _ ⟨v15,cs10++cs14,(f10++((ZNg (ZFi (.slice (some ⟨b14,0,none⟩) 1 1)))++(ZNg (ZFi u13)))),(sl ⟨rfl,rfl,rfl,rfl,rfl,(tr rfl (congrArg _ (Z2 hi10 hN10))),trivial⟩),hs21,(hC.sP [0,8,9,10] rfl)⟩ h
   ·clear hC h
    rintro s10 e_ w30 K10 ⟨v10,cs10,f10,hS_,hq10,hC⟩ h
    rw [ue hS_]
    refine ZMh (sr (Za (v:=vI (a0.length:Int)) rfl (Za (v:=u0_0) rfl (Zu hC 2 rfl ZXe rfl (Zn rfl rfl (dn (Z1 rfl (decide_eq_false (by omega)) ?_)))))))
    refine ZMv (Zj (Zj (Zx ?_)))
    refine Ze (ZMh (sr (Za (v:=.bool s10.2) rfl (Xe rfl (dn ?_)))))
    refine Zs rfl (fun hb13=>?_) (fun hb13=>?_)
    ·replace h:=ift h (Y4 (Xi hb13))
     refine Zh (Za (v:=v10) rfl (Za (v:=u10) rfl (Ye (sz:=1) hC [(0,u10)] [u10] rfl (fun _=>Zae u10 (Zco (hC.getP 1 rfl)) _) rfl (by decide) fun b11 w31 hB_ hC=>?_)))
     have hf21:=Y8 hC 0 rfl
     replace hC:=hC.thaw 0 rfl (own 22 1 (.slice (some ⟨b11,0,none⟩) 1 1) 1 [u10]) id (fun _ hb_=>hb_)
     replace hC:=hC.joinP 0 2 rfl rfl (ZMg (ZOz.sl) [r11] [.slice (some ⟨b11,0,none⟩) 1 1] ((ZNg (ZFi (.slice (some ⟨b11,0,none⟩) 1 1)))++(ZNg (ZFi u10)))) (fun a_ b_=>Za2 a_ (Zdy b_)) (fun c_ hc_=>ZEv.1 hc_)
     have hs22:∀ b,b∈((ZNg (ZFi (.slice (some ⟨b11,0,none⟩) 1 1)))++(ZNg (ZFi u10)))→w0.heap.size≤b:=(fun b hb=>(ZEv.1 hb).elim (fun hb=>hf21 b hb) (fun hb=>hs10 b hb))
     obtain ⟨cs15,hd14,ha14⟩:=Zeu (hC.getP 0 rfl)
     replace hC:=hC.derive 0 rfl (ZYa TInts [r11] cs15 ((ZNg (ZFi (.slice (some ⟨b11,0,none⟩) 1 1)))++(ZNg (ZFi u10)))) (fun _=>ha14) (fun _ h_=>h_)
     obtain ⟨hm17,h⟩:=h
     refine Ja hC 0 ZXe Jz rfl (by decide) (by decide) rfl hd14 (fun q_ hq_=>ha14.2.2.1 q_ hq_) rfl rfl hm17 fun v11 w32 hC=>?_
     replace hC:=Yy hC 0 ((s10.1++[r11]).length) (cs10++cs15) rfl (by simp) (by simp)
     have hs23:∀ b,b∈(f10++((ZNg (ZFi (.slice (some ⟨b11,0,none⟩) 1 1)))++(ZNg (ZFi u10))))→w0.heap.size≤b∨b∈(fp0++(fp1)):=(fun b hb=>(ZEv.1 hb).elim (fun hb=>hq10 b hb) (fun hb=>.inl (hs22 b hb)))
     replace hC:=hC.joinP 3 0 rfl rfl (ZYa TInts (s10.1++[r11]) (cs10++cs15) (f10++((ZNg (ZFi (.slice (some ⟨b11,0,none⟩) 1 1)))++(ZNg (ZFi u10))))) (fun a_ b_=>Zev a_ b_) (fun c_ hc_=>ZEv.1 hc_)
     refine Zd (v:=v11) rfl (dn (sr (Za (v:=v11) rfl (Zd (v:=v11) rfl (dn (ZMp ?_))))))
     have hf22:=Y8 hC 0 rfl
     replace hC:=hC.thaw 0 rfl (own 22 1 v11 ((s10.1++[r11]).length) (cs10++cs15)) id (fun _ hb_=>hb_)
     replace hC:=hC.joinP 0 1 rfl rfl (ZMg (ZOz.sl) (s10.1++[r11]) [v11] ((ZNg (ZFi v11))++(f10++((ZNg (ZFi (.slice (some ⟨b11,0,none⟩) 1 1)))++(ZNg (ZFi u10)))))) (fun a_ b_=>Za2 a_ b_) (fun c_ hc_=>ZEv.1 hc_)
     have hs24:∀ b,b∈((ZNg (ZFi v11))++(f10++((ZNg (ZFi (.slice (some ⟨b11,0,none⟩) 1 1)))++(ZNg (ZFi u10)))))→w0.heap.size≤b∨b∈(fp0++(fp1)):=(fun b hb=>(ZEv.1 hb).elim (fun hb=>.inl (hf22 b hb)) (fun hb=>hs23 b hb))
     exact Zi rfl (Zg rfl) ⟨s10.1++[r11],v11,((ZNg (ZFi v11))++(f10++((ZNg (ZFi (.slice (some ⟨b11,0,none⟩) 1 1)))++(ZNg (ZFi u10))))),rfl,h,(hC.getP 0 rfl),(fun b hb=>hs24 b hb),hC.below⟩ (.inl rfl)
    ·replace h:=Zk h (not_not_intro ((Xj hb13)))
     refine ZMl (Ze (sr (Za (v:=v10) rfl (Zd (v:=v10) rfl (dn (ZMp ?_))))))
     have hf23:=Y8 hC 0 rfl
     replace hC:=hC.thaw 0 rfl (own 22 1 v10 s10.1.length cs10) id (fun _ hb_=>hb_)
     replace hC:=hC.joinP 0 1 rfl rfl (ZMg (ZOz.sl) s10.1 [v10] ((ZNg (ZFi v10))++f10)) (fun a_ b_=>Za2 a_ b_) (fun c_ hc_=>ZEv.1 hc_)
     have hs25:∀ b,b∈((ZNg (ZFi v10))++f10)→w0.heap.size≤b∨b∈(fp0++(fp1)):=(fun b hb=>(ZEv.1 hb).elim (fun hb=>.inl (hf23 b hb)) (fun hb=>hq10 b hb))
     exact Zi rfl (Zg rfl) ⟨s10.1,v10,((ZNg (ZFi v10))++f10),rfl,h,(hC.getP 0 rfl),(fun b hb=>hs25 b hb),hC.below⟩ (.inl rfl)
   ·skip
    exact⟨.slice (some ⟨b15,0,none⟩) 0 0,[],[],(slq rfl),(fun b hb=>.inl ((fun b hb=>absurd hb (by simp)) b hb)),(hC.sP [1,0,2,3] rfl)⟩
  refine Ju 2 8 rfl rfl (by kernel_rfl) ?_ ?_
  ·skip
   replace h:=h.1
   obtain ⟨hm10,h⟩:=h
   refine Zb8 (sz:=1) hC (eI.encs (ZEj ((r6.length:Int).toNat) (0:Int))) ZM0 el2 (tr rfl (congrArg (ZO5 .i64) (ZO6 hm10.1).symm)) (tr rfl (congrArg (ZO5 .i64) (ZO6 hm10.1).symm)) (by omega) (by omega) (Zbk (E:=eI) _ _) fun v16 w33 hB_ hC=>?_
   replace hC:=Yy hC 0 ((ZEj ((r6.length:Int).toNat) (0:Int)).length) (eI.encs (ZEj ((r6.length:Int).toNat) (0:Int))) rfl (by simp) rfl
   refine done (aK (by assumption) (Zc 13 255) (aO 8 rfl (Zf [vI (r6.getD r10.toNat ZEo)] _ ZYp rfl rfl rfl (Zr3 (r6.getD r10.toNat ZEo) h _) ?_)))
   rintro _ w34 ⟨r20,rfl,h,hB16⟩
   refine rt ?_
   replace hC:=hC.grow hB16
   refine done (aK (by assumption) (Zc 13 511) (bF 9 (vI (ZG5.wrap (0 - r20))) rfl rfl hM13 (fun _=>by exact Zpk rfl) (Zc 13 1023) (aO 10 rfl (Zf [vI (ZG5.wrap (0 - r20))] _ ZM7 rfl rfl rfl (Zbr (ZG5.wrap (0 - r20)) h _) ?_))))
   rintro _ w35 ⟨r21,rfl,h,hB17⟩
   refine rt ?_
   replace hC:=hC.grow hB17
   refine done (aK (by assumption) (Zc 13 2047) (Z6 11 (by decide) (by decide) (by kernel_rfl) (by kernel_rfl) rfl (Zf [v16,u7,vI r21] _ ZYe rfl rfl rfl (Zez (ZEj ((r6.length:Int).toNat) (0:Int)) r6 r21 h _ (Ym (hC.getM 0 rfl)) (hC.getP 0 rfl)) ?_)))
   rintro _ w36 ⟨r15,u17,f14,rfl,h,hr20,hf24,hB18⟩
   refine rt ?_
   replace hC:=hC.push hB18 (ZMy (ZR9 2 (eI.tr)) r15 [u17] f14) hr20 hf24
   obtain ⟨ho13,hf25⟩:=Yv (hC.getM 0 rfl).1
   subst hf25
   replace hC:=hC.recast (c:=own 2 1 u17 r15.length (eI.encs r15)) (fun _ h_=>h_) (fun _=>ho13)
   refine Zd (v:=u17) rfl (done (Z7 ?_))
   exact⟨rfl,_,rfl,⟨u17,r15,(slq rfl),((hC.xM [0] rfl).sP [1,2] rfl),h⟩⟩
  ·skip
   replace h:=h.2
   refine Zf [vI (r6.getD r10.toNat ZEo)] _ ZYp rfl rfl rfl (Zr3 (r6.getD r10.toNat ZEo) h _) ?_
   rintro _ w37 ⟨r19,rfl,h,hB19⟩
   refine rt ?_
   replace hC:=hC.grow hB19
   refine done (aK (by assumption) (Zc 13 507) (bF 9 (vI (ZG5.wrap (0 - r19))) rfl rfl hM13 (fun _=>by exact Zpk rfl) (Zc 13 1019) ?_))
   refine Ju 2 10 rfl rfl (by kernel_rfl) ?_ ?_
   ·skip
    replace h:=h.1
    obtain ⟨hm11,h⟩:=h
    refine Zb8 (sz:=1) hC (eI.encs (ZEj ((r6.length:Int).toNat) (0:Int))) ZM0 el2 (tr rfl (congrArg (ZO5 .i64) (ZO6 hm11.1).symm)) (tr rfl (congrArg (ZO5 .i64) (ZO6 hm11.1).symm)) (by omega) (by omega) (Zbk (E:=eI) _ _) fun v17 w38 hB_ hC=>?_
    replace hC:=Yy hC 0 ((ZEj ((r6.length:Int).toNat) (0:Int)).length) (eI.encs (ZEj ((r6.length:Int).toNat) (0:Int))) rfl (by simp) rfl
    refine done (aK (by assumption) (Zc 13 1023) (aO 10 rfl (Zf [vI (ZG5.wrap (0 - r19))] _ ZM7 rfl rfl rfl (Zbr (ZG5.wrap (0 - r19)) h _) ?_)))
    rintro _ w39 ⟨r22,rfl,h,hB20⟩
    refine rt ?_
    replace hC:=hC.grow hB20
    refine done (aK (by assumption) (Zc 13 2047) (Z6 11 (by decide) (by decide) (by kernel_rfl) (by kernel_rfl) rfl (Zf [v17,u7,vI r22] _ ZYe rfl rfl rfl (Zez (ZEj ((r6.length:Int).toNat) (0:Int)) r6 r22 h _ (Ym (hC.getM 0 rfl)) (hC.getP 0 rfl)) ?_)))
    rintro _ w40 ⟨r16,u18,f15,rfl,h,hr21,hf26,hB21⟩
    refine rt ?_
    replace hC:=hC.push hB21 (ZMy (ZR9 2 (eI.tr)) r16 [u18] f15) hr21 hf26
    obtain ⟨ho14,hf27⟩:=Yv (hC.getM 0 rfl).1
    subst hf27
    replace hC:=hC.recast (c:=own 2 1 u18 r16.length (eI.encs r16)) (fun _ h_=>h_) (fun _=>ho14)
    refine Zd (v:=u18) rfl (done (Z7 ?_))
    exact⟨rfl,_,rfl,⟨u18,r16,(slq rfl),((hC.xM [0] rfl).sP [1,2] rfl),h⟩⟩
   ·skip
    replace h:=h.2
    refine Zf [vI (ZG5.wrap (0 - r19))] _ ZM7 rfl rfl rfl (Zbr (ZG5.wrap (0 - r19)) h _) ?_
    rintro _ w41 ⟨r23,rfl,h,hB22⟩
    refine rt ?_
    replace hC:=hC.grow hB22
    refine done (aK (by assumption) (Zc 13 2043) (aO 2 rfl ?_))
    obtain ⟨hm12,h⟩:=h
    refine Zb8 (sz:=1) hC (eI.encs (ZEj ((r6.length:Int).toNat) (0:Int))) ZM0 el2 (tr rfl (congrArg (ZO5 .i64) (ZO6 hm12.1).symm)) (tr rfl (congrArg (ZO5 .i64) (ZO6 hm12.1).symm)) (by omega) (by omega) (Zbk (E:=eI) _ _) fun v18 w42 hB_ hC=>?_
    replace hC:=Yy hC 0 ((ZEj ((r6.length:Int).toNat) (0:Int)).length) (eI.encs (ZEj ((r6.length:Int).toNat) (0:Int))) rfl (by simp) rfl
    refine done (aK (by assumption) (Zc 13 2047) (Z6 11 (by decide) (by decide) (by kernel_rfl) (by kernel_rfl) rfl (Zf [v18,u7,vI r23] _ ZYe rfl rfl rfl (Zez (ZEj ((r6.length:Int).toNat) (0:Int)) r6 r23 h _ (Ym (hC.getM 0 rfl)) (hC.getP 0 rfl)) ?_)))
    rintro _ w43 ⟨r17,u19,f16,rfl,h,hr22,hf28,hB23⟩
    refine rt ?_
    replace hC:=hC.push hB23 (ZMy (ZR9 2 (eI.tr)) r17 [u19] f16) hr22 hf28
    obtain ⟨ho15,hf29⟩:=Yv (hC.getM 0 rfl).1
    subst hf29
    replace hC:=hC.recast (c:=own 2 1 u19 r17.length (eI.encs r17)) (fun _ h_=>h_) (fun _=>ho15)
    refine Zd (v:=u19) rfl (done (Z7 ?_))
    exact⟨rfl,_,rfl,⟨u19,r17,(slq rfl),((hC.xM [0] rfl).sP [1,2] rfl),h⟩⟩
def Zbw (a0:List (List Int)) (K:List (List Int)→Prop):Prop :=
 Z8 (fun i10 (s10:(List (List Int))) nx10=>Zin s10 (a0.getD i10 ZEo) (fun r10=>nx10 r10)) (fun (s10:(List (List Int)))=>K s10) a0.length 0 []
theorem Zf5 (a0:List (List Int))  {K:List (List Int)→Prop} (h:Zbw a0 K) (w0:World) (q0:(ZOz.sl).rep a0 [u0_0] fp0 w0) :
  Calls ZMk 55 #[u0_0] w0 fun e w'=>∃ (r0:List (List Int)) (z0_0:Value) (fz0:List Nat),
   e=.returned (z0_0)∧K r0∧(ZOz.sl).rep r0 [z0_0] fz0 w'∧(∀ b,b∈fz0→w0.heap.size≤b∨b∈(fp0))∧Bel w0 w':=by
 unfold Zbw at h
 refine cof ZYg rfl 19 Tryz.ntmps55 ?_
 have hC:=ZM2 (X:=Nox) w0 [ZMg (ZOz.sl) a0 [u0_0] fp0] (al1 q0)
 refine sr (Zd (v:=.slice none 0 0) rfl (dn (sr (Ye (sz:=1) hC [] [] rfl (fun _=>Zak _) rfl (by decide) fun b2 w3 hB_ hC=>?_))))
 replace hC:=hC.pushM0 (Z9 (ZR9 2 (eI.tr)) ([]:List (List Int)) [] []) (Jb _ _) rfl
 replace hC:=hC.gather (c:=ZMy (ZR9 22 (ZR9 2 (eI.tr))) [] [.slice (some ⟨b2,0,none⟩) 0 0] ((ZNg (ZFi (.slice (some ⟨b2,0,none⟩) 0 0)))++([]:List (List Nat)).flatten)) (fun x_ hx_=>(ZEv.1 hx_).symm) (fun h1_ h2_ hd_=>X1 h2_ h1_ (fun b_ hb_ hb2_=>hd_ b_ hb2_ hb_))
 refine Zd (v:=.slice (some ⟨b2,0,none⟩) 0 0) rfl (dn (ZMh (sr (Zd (v:=vI 0) rfl (dn (ZMn ?_))))))
 have hs5:=Zai hC 0 rfl
 replace hC:=hC.thaw 0 rfl (ZMg (ZOz.sl) [] [.slice (some ⟨b2,0,none⟩) 0 0] ((ZNg (ZFi (.slice (some ⟨b2,0,none⟩) 0 0)))++([]:List (List Nat)).flatten)) (fun h_=>ZYd _ h_.1) (fun _ hb_=>hb_)
 have hN10:a0.length≤9223372036854775807:=Yw (hC.getP 1 rfl)
 refine Yi (S:=(List (List Int))) _ _ (fun i10 s10 e_ w_=>∃ (v10:Value),∃ (f10:List Nat),Zt e_ [(0,u0_0),(3,v10),(4,vI (i10:Int))]∧(∀ b,b∈f10→w0.heap.size≤b∨b∈(fp0))∧Ctx Nox w0 w_ [] [ZMg (ZOz.sl) s10 [v10] f10,ZMg (ZOz.sl) a0 [u0_0] fp0]) a0.length ?_ ?_ (s0:=[]) ?_ h
 ·clear hC h
  rintro i10 s10 e_ w10 nx10 K10 hi10 ⟨v10,f10,hS_,hq10,hC⟩ h hK10
  rw [ue hS_]
  refine ZMh (sr (Za (v:=vI (i10:Int)) rfl (Za (v:=u0_0) rfl (Zu hC 1 rfl ZXe rfl (Zn rfl rfl (dn (Z5 rfl (decide_eq_true (by omega)) (ZMl (Ze (ZMh (ZMn (Zh (Za (v:=v10) rfl (Za (v:=u0_0) rfl (Za (v:=vI (i10:Int)) rfl ?_)))))))))))))))
  obtain ⟨Ad10,c10,hv10⟩:=Zw (hC.getP 1 rfl) i10 hi10
  refine Yn (len:=a0.length) ZXe sc22.size (tr rfl hv10) rfl (ZMx _) (ZNf.2 hi10) ?_
  obtain ⟨cs_,hl10,hc10,hr10⟩:=Xg (hC.getP 1 rfl) hv10 i10 hi10
  obtain ⟨u10,rfl⟩:=ZNd.1 hl10
  clear hl10
  rw [Xd _ _ hi10] at hr10
  replace hC:=hC.derive 1 rfl (ZMg TInts (a0.getD i10 ZEo) [u10] fp0) (fun _=>hr10) (fun _ hb_=>hb_)
  refine Yp (u10) hc10 sc22 rfl (Zf [v10,u10] _ Tryz.func106 rfl rfl rfl (ZAw s10 (a0.getD i10 ZEo) h _ (hC.getP 1 rfl) (hC.getP 0 rfl)) ?_)
  rintro _ w11 ⟨r10,u11,f11,rfl,h,hr11,hf10,hB10⟩
  refine rt ?_
  have hs10:∀ b,b∈f11→w0.heap.size≤b∨b∈(fp0):=(fun b hb=>(hf10 b hb).elim (fun h_=>.inl (ZEp hC.size h_)) (fun hb=>(ZEv.1 hb).elim (fun hb=>hq10 b hb) (fun hb=>.inr hb)))
  replace hC:=hC.pushR hB10 (ZMg (ZOz.sl) r10 [u11] f11) hr11 (fun b hb=>(hf10 b hb).elim .inl (fun hb=>.inr ((ZEv.1 hb).elim (fun hb=>⟨_,mg 1 rfl,hb⟩) (fun hb=>⟨_,mg 0 rfl,hb⟩))))
  refine Zd (v:=u11) rfl (done (Zr (Ze (Zh (Za (v:=vI (i10:Int)) rfl (Zq rfl rfl (Zd (v:=vI (ZG5.wrap ((i10:Int)+1))) rfl (done ?_))))))))
  exact hK10 r10 _ _ ⟨u11,f11,(sl ⟨rfl,rfl,(tr rfl (congrArg _ (Z2 hi10 hN10))),trivial⟩),hs10,(hC.sP [0,3] rfl)⟩ h
 ·clear hC h
  rintro s10 e_ w12 K10 ⟨v10,f10,hS_,hq10,hC⟩ h
  rw [ue hS_]
  refine ZMh (sr (Za (v:=vI (a0.length:Int)) rfl (Za (v:=u0_0) rfl (Zu hC 1 rfl ZXe rfl (Zn rfl rfl (dn (Z1 rfl (decide_eq_false (by omega)) ?_)))))))
  refine ZMv (Zj (Zj (Zx ?_)))
  refine Ze (sr (Za (v:=v10) rfl (Zd (v:=v10) rfl (dn (ZMp ?_)))))
  exact Zi rfl (Zg rfl) ⟨s10,v10,f10,rfl,h,(hC.getP 0 rfl),(fun b hb=>hq10 b hb),hC.below⟩ (.inl rfl)
 ·skip
  exact⟨.slice (some ⟨b2,0,none⟩) 0 0,((ZNg (ZFi (.slice (some ⟨b2,0,none⟩) 0 0)))++([]:List (List Nat)).flatten),(slq rfl),(fun b hb=>.inl (hs5 b hb)),hC⟩
def Zbx (a0:Alg) (a1:Int) (a2:Int) (K:List A8→Prop):Prop :=
 (if a2≥0 then Zf4 a0.degrees a2 (fun r10=>Z8 (fun i10 (s10:(List A8)) nx10=>Zbv (r10.getD i10 ZEo) (fun r11=>(if r11≥a1 then(Zy (s10.length+1) 8∧nx10 (s10++[r10.getD i10 ZEo])) else nx10 s10))) (fun (s10:(List A8))=>K s10) r10.length 0 []) else Z8 (fun i11 (s11:(List A8)) nx11=>Zbv ([].getD i11 ZEo) (fun r12=>(if r12≥a1 then(Zy (s11.length+1) 8∧nx11 (s11++[[].getD i11 ZEo])) else nx11 s11))) (fun (s11:(List A8))=>K s11) (([]:List A8).length) 0 [])
theorem Zcg (a0:Alg) (a1:Int) (a2:Int)  {K:List A8→Prop} (h:Zbx a0 a1 a2 K) (w0:World) (q0:TAlg.rep a0 [u0_0,u0_1] fp0 w0) :
  Calls ZMk 109 #[.agg #[u0_0,u0_1],vI a1,vI a2] w0 fun e w'=>∃ (r0:List A8) (z0_0:Value) (fz0:List Nat),
   e=.returned (z0_0)∧K r0∧(ZMy (ZR9 136 ((EA .u8).tr)) r0 [z0_0] fz0).holds w'∧(∀ b,b∈fz0→w0.heap.size≤b)∧Bel w0 w':=by
 unfold Zbx at h
 refine cof ZYb rfl 39 Tryz.ntmps109 ?_
 have hC:=ZM2 (X:=Nox) w0 [ZMg TAlg a0 [u0_0,u0_1] fp0] (al1 q0)
 replace hC:=hC.dAlg 0 rfl
 refine sr (Yg (v:=.agg #[u0_0,u0_1]) hC [u0_0,u0_1] rfl rfl fun b4 w6 hB_ hC=>Zd (v:=.slice none 0 0) rfl (dn (sr (Ye (sz:=8) hC [] ((EA .u8).encs []) rfl (fun _=>Zr1  _) rfl (by decide) fun b7 w8 hB_ hC=>Ye (sz:=8) hC [] ((EA .u8).encs []) rfl (fun _=>Zr1  _) rfl (by decide) fun b10 w10 hB_ hC=>Zd (v:=.slice (some ⟨b7,0,none⟩) 0 0) rfl (Zd (v:=.slice (some ⟨b10,0,none⟩) 0 0) rfl (dn (ZMh (sr (Za (v:=vI a2) rfl (J7 rfl rfl (dn ?_)))))))))))
 refine Zs rfl (fun hb10=>?_) (fun hb10=>?_)
 ·replace h:=ift h (ct hb10)
  refine Zh (Z0 0 ZM1 rfl sc22.size rfl rfl (Yb hC 2 (u0_0) rfl sc22 rfl rfl (Za (v:=vI a2) rfl (Zf [u0_0,vI a2] _ Tryz.func94 rfl rfl rfl (Zr2 a0.degrees a2 h _ (hC.getP 1 rfl)) ?_))))
  rintro _ w11 ⟨r10,u10,f10,rfl,h,hr10,hf10,hB10⟩
  refine rt ?_
  replace hC:=hC.push hB10 (ZMy (ZR9 136 ((EA .u8).tr)) r10 [u10] f10) hr10 hf10
  obtain ⟨ho10,hf11⟩:=Yv (hC.getM 0 rfl).1
  subst hf11
  replace hC:=hC.recast (c:=own 136 8 u10 r10.length ((EA .u8).encs r10)) (fun _ h_=>h_) (fun _=>ho10)
  refine Zd (v:=u10) rfl (dn (ZMh (sr (Zd (v:=vI 0) rfl (dn (ZMn ?_))))))
  have hN10:r10.length≤9223372036854775807:=Zdl (hC.getM 0 rfl)
  refine Yi (S:=(List A8)) _ _ (fun i10 s10 e_ w_=>∃ (v10:Value),Zt e_ [(1,vI a1),(7,u10),(8,v10),(9,vI (i10:Int))]∧Ctx Nox w0 w_ [own 136 8 u10 r10.length ((EA .u8).encs r10),own 136 8 v10 s10.length ((EA .u8).encs s10)] [ZMg ZM3.sl a0.images [u0_1] fp0,ZMg TInts a0.degrees [u0_0] fp0,ZMg TAlg a0 [u0_0,u0_1] fp0]) r10.length ?_ ?_ (s0:=[]) ?_ h
  ·clear hC h
   rintro i10 s10 e_ w12 nx10 K10 hi10 ⟨v10,hS_,hC⟩ h hK10
   rw [ue hS_]
   refine ZMh (sr (Za (v:=vI (i10:Int)) rfl (Za (v:=u10) rfl (Zac hC 0 rfl ZX9 rfl (Zn rfl rfl (dn (Z5 rfl (decide_eq_true (by first | omega | (simp only [ZYl] at *; omega))) (ZMl (Ze (ZMh (ZMn (sr (Za (v:=u10) rfl (Za (v:=vI (i10:Int)) rfl ?_))))))))))))))
   obtain ⟨Ad10,c10,hv10⟩:=Xo (hC.getM 0 rfl) (ZO7 (ZGa _) hi10)
   refine Xv (i10 * 8) ZX9 ag136.size (tr rfl hv10) rfl (ZMx _) (ZNf.2 hi10) rfl (Jd (ZMe .u8 (r10.getD i10 ZEo)) (Zah (hC.getM 0 rfl) hv10 i10 hi10) ag136 rfl rfl (Zf [.agg (ZMf (ZMe .u8 (r10.getD i10 ZEo)))] _ ZYh rfl rfl rfl (Zig (r10.getD i10 ZEo) h _) ?_))
   rintro _ w13 ⟨r11,rfl,h,hB11⟩
   refine rt ?_
   replace hC:=hC.grow hB11
   refine Za (v:=vI a1) rfl (J7 rfl rfl (dn ?_))
   refine Zs rfl (fun hb11=>?_) (fun hb11=>?_)
   ·replace h:=ift h (ct hb11)
    refine Zh (Za (v:=v10) rfl (Za (v:=u10) rfl (Za (v:=vI (i10:Int)) rfl ?_)))
    obtain ⟨Ad11,c11,hv11⟩:=Xo (hC.getM 0 rfl) (ZO7 (ZGa _) hi10)
    refine Xv (i10 * 8) ZX9 ag136.size (tr rfl hv11) rfl (ZMx _) (ZNf.2 hi10) rfl (Jd (ZMe .u8 (r10.getD i10 ZEo)) (Zah (hC.getM 0 rfl) hv11 i10 hi10) ag136 rfl rfl (Ye (sz:=8) hC [(0,.agg (ZMf (ZMe .u8 (r10.getD i10 ZEo))))] ((EA .u8).encs [r10.getD i10 ZEo]) rfl (fun _=>Zob (r10.getD i10 ZEo) _) rfl (by decide) fun b11 w14 hB_ hC=>?_))
    obtain ⟨hm10,h⟩:=h
    refine Ja hC 2 ZX9 Zoc rfl (by decide) (by decide) rfl (Jx (hC.getM 0 rfl)) (fun q hq=>ZNk (E:=(EA .u8)) _ q hq) rfl rfl hm10 fun v12 w15 hC=>?_
    replace hC:=Yy hC 2 ((s10++[r10.getD i10 ZEo]).length) ((EA .u8).encs (s10++[r10.getD i10 ZEo])) rfl (by simp) (by first | (simp [ZM9]; done) | simp [ZM9,ZSs])
    refine Zd (v:=v12) rfl (done (Zr (Ze (Zh (Za (v:=vI (i10:Int)) rfl (Zq rfl rfl (Zd (v:=vI (ZG5.wrap ((i10:Int)+1))) rfl (done ?_))))))))
    exact hK10 (s10++[r10.getD i10 ZEo]) _ _ ⟨v12,(sl ⟨rfl,rfl,rfl,(tr rfl (congrArg _ (Z2 hi10 hN10))),trivial⟩),(hC.xM [1,2] rfl)⟩ h
   ·replace h:=Zk h (cf hb11)
    refine ZMl (Zr (Ze (Zh (Za (v:=vI (i10:Int)) rfl (Zq rfl rfl (Zd (v:=vI (ZG5.wrap ((i10:Int)+1))) rfl (done ?_)))))))
    exact hK10 s10 _ _ ⟨v10,(sl ⟨rfl,rfl,rfl,(tr rfl (congrArg _ (Z2 hi10 hN10))),trivial⟩),hC⟩ h
  ·clear hC h
   rintro s10 e_ w16 K10 ⟨v10,hS_,hC⟩ h
   rw [ue hS_]
   refine ZMh (sr (Za (v:=vI (r10.length:Int)) rfl (Za (v:=u10) rfl (Zac hC 0 rfl ZX9 rfl (Zn rfl rfl (dn (Z1 rfl (decide_eq_false (by first | omega | (simp only [ZYl] at *; omega))) ?_)))))))
   refine ZMv (Zj (Zj (Zx ?_)))
   refine Ze (sr (Za (v:=v10) rfl (Zd (v:=v10) rfl (dn (ZMp ?_)))))
   exact Zi rfl (Zg rfl) ⟨s10,v10,(ZNg (ZFi v10)),rfl,h,(Xf (hC.getM 1 rfl)),(Y8 hC 1 rfl),hC.below⟩ (.inl rfl)
  ·skip
   exact⟨.slice (some ⟨b10,0,none⟩) 0 0,(slq rfl),(hC.xM [0,1] rfl)⟩
 ·replace h:=Zk h (cf hb10)
  refine ZMl (Ze (ZMh (sr (Zd (v:=vI 0) rfl (dn (ZMn ?_))))))
  have hN11:([]:List A8).length≤9223372036854775807:=Zdl (hC.getM 1 rfl)
  refine Yi (S:=(List A8)) _ _ (fun i11 s11 e_ w_=>∃ (v11:Value),Zt e_ [(1,vI a1),(7,.slice (some ⟨b7,0,none⟩) 0 0),(8,v11),(9,vI (i11:Int))]∧Ctx Nox w0 w_ [own 136 8 v11 s11.length ((EA .u8).encs s11),own 136 8 (.slice (some ⟨b7,0,none⟩) 0 0) 0 ((EA .u8).encs [])] [ZMg ZM3.sl a0.images [u0_1] fp0,ZMg TInts a0.degrees [u0_0] fp0,ZMg TAlg a0 [u0_0,u0_1] fp0]) (([]:List A8).length) ?_ ?_ (s0:=[]) ?_ h
  ·clear hC h
   rintro i11 s11 e_ w17 nx11 K11 hi11 ⟨v11,hS_,hC⟩ h hK11
   rw [ue hS_]
   refine ZMh (sr (Za (v:=vI (i11:Int)) rfl (Za (v:=.slice (some ⟨b7,0,none⟩) 0 0) rfl (Zac hC 1 rfl ZX9 rfl (Zn rfl rfl (dn (Z5 rfl (decide_eq_true (by first | omega | (simp only [ZYl] at *; omega))) (ZMl (Ze (ZMh (ZMn (sr (Za (v:=.slice (some ⟨b7,0,none⟩) 0 0) rfl (Za (v:=vI (i11:Int)) rfl ?_))))))))))))))
   obtain ⟨Ad12,c12,hv12⟩:=Xo (hC.getM 1 rfl) (ZO7 (ZGa _) hi11)
   refine Xv (i11 * 8) ZX9 ag136.size (tr rfl hv12) rfl (ZMx _) (ZNf.2 hi11) rfl (Jd (ZMe .u8 ([].getD i11 ZEo)) (Zah (hC.getM 1 rfl) hv12 i11 hi11) ag136 rfl rfl (Zf [.agg (ZMf (ZMe .u8 ([].getD i11 ZEo)))] _ ZYh rfl rfl rfl (Zig ([].getD i11 ZEo) h _) ?_))
   rintro _ w18 ⟨r12,rfl,h,hB12⟩
   refine rt ?_
   replace hC:=hC.grow hB12
   refine Za (v:=vI a1) rfl (J7 rfl rfl (dn ?_))
   refine Zs rfl (fun hb12=>?_) (fun hb12=>?_)
   ·replace h:=ift h (ct hb12)
    refine Zh (Za (v:=v11) rfl (Za (v:=.slice (some ⟨b7,0,none⟩) 0 0) rfl (Za (v:=vI (i11:Int)) rfl ?_)))
    obtain ⟨Ad13,c13,hv13⟩:=Xo (hC.getM 1 rfl) (ZO7 (ZGa _) hi11)
    refine Xv (i11 * 8) ZX9 ag136.size (tr rfl hv13) rfl (ZMx _) (ZNf.2 hi11) rfl (Jd (ZMe .u8 ([].getD i11 ZEo)) (Zah (hC.getM 1 rfl) hv13 i11 hi11) ag136 rfl rfl (Ye (sz:=8) hC [(0,.agg (ZMf (ZMe .u8 ([].getD i11 ZEo))))] ((EA .u8).encs [[].getD i11 ZEo]) rfl (fun _=>Zob ([].getD i11 ZEo) _) rfl (by decide) fun b12 w19 hB_ hC=>?_))
    obtain ⟨hm11,h⟩:=h
    refine Ja hC 1 ZX9 Zoc rfl (by decide) (by decide) rfl (Jx (hC.getM 0 rfl)) (fun q hq=>ZNk (E:=(EA .u8)) _ q hq) rfl rfl hm11 fun v13 w20 hC=>?_
    replace hC:=Yy hC 1 ((s11++[[].getD i11 ZEo]).length) ((EA .u8).encs (s11++[[].getD i11 ZEo])) rfl (by simp) (by first | (simp [ZM9]; done) | simp [ZM9,ZSs])
    refine Zd (v:=v13) rfl (done (Zr (Ze (Zh (Za (v:=vI (i11:Int)) rfl (Zq rfl rfl (Zd (v:=vI (ZG5.wrap ((i11:Int)+1))) rfl (done ?_))))))))
    exact hK11 (s11++[[].getD i11 ZEo]) _ _ ⟨v13,(sl ⟨rfl,rfl,rfl,(tr rfl (congrArg _ (Z2 hi11 hN11))),trivial⟩),(hC.xM [1,2] rfl)⟩ h
   ·replace h:=Zk h (cf hb12)
    refine ZMl (Zr (Ze (Zh (Za (v:=vI (i11:Int)) rfl (Zq rfl rfl (Zd (v:=vI (ZG5.wrap ((i11:Int)+1))) rfl (done ?_)))))))
    exact hK11 s11 _ _ ⟨v11,(sl ⟨rfl,rfl,rfl,(tr rfl (congrArg _ (Z2 hi11 hN11))),trivial⟩),hC⟩ h
  ·clear hC h
   rintro s11 e_ w21 K11 ⟨v11,hS_,hC⟩ h
   rw [ue hS_]
   refine ZMh (sr (Za (v:=vI (([]:List A8).length:Int)) rfl (Za (v:=.slice (some ⟨b7,0,none⟩) 0 0) rfl (Zac hC 1 rfl ZX9 rfl (Zn rfl rfl (dn (Z1 rfl (decide_eq_false (by first | omega | (simp only [ZYl] at *; omega))) ?_)))))))
   refine ZMv (Zj (Zj (Zx ?_)))
   refine Ze (sr (Za (v:=v11) rfl (Zd (v:=v11) rfl (dn (ZMp ?_)))))
   exact Zi rfl (Zg rfl) ⟨s11,v11,(ZNg (ZFi v11)),rfl,h,(Xf (hC.getM 0 rfl)),(Y8 hC 0 rfl),hC.below⟩ (.inl rfl)
  ·skip
   exact⟨.slice (some ⟨b10,0,none⟩) 0 0,(slq rfl),(hC.xM [0,1] rfl)⟩
def Zby (a0:ZMj) (a1:List A8) (K:List Int→Prop):Prop :=
 ((0≤(a1.length:Int)∧(a1.length:Int) * 8≤281474976710656)∧Xt (fun (s10:(List Int)×Int×Int) nx10=>(if s10.2.2 < (a1.length:Int) then(if s10.2.1 < (a0.terms.length:Int) then((0≤s10.2.1∧s10.2.1 < (a0.terms.length:Int))∧((0≤s10.2.2∧s10.2.2 < (a1.length:Int))∧(if(a0.terms.getD s10.2.1.toNat ZEo).mono=a1.getD s10.2.2.toNat ZEo then((0≤s10.2.1∧s10.2.1 < (a0.terms.length:Int))∧((0≤s10.2.2∧s10.2.2 < (s10.1.length:Int))∧nx10 (s10.1.set s10.2.2.toNat ((a0.terms.getD s10.2.1.toNat ZEo).factor),ZG5.wrap (s10.2.1+1),ZG5.wrap (s10.2.2+1)))) else nx10 (s10.1,s10.2.1,ZG5.wrap (s10.2.2+1))))) else K s10.1) else K s10.1)) (ZEj ((a1.length:Int).toNat) (0:Int),0,0))
theorem Ze1 (a0:ZMj) (a1:List A8)  {K:List Int→Prop} (h:Zby a0 a1 K) (w0:World) (q0:ZM3.rep a0 [u0_0] fp0 w0) (q1:((EA .u8).ty.sl).rep a1 [u1_0] fp1 w0) :
  Calls ZMk 128 #[.agg #[u0_0],u1_0] w0 fun e w'=>∃ (r0:List Int) (z0_0:Value) (fz0:List Nat),
   e=.returned (z0_0)∧K r0∧(ZMy (ZR9 2 (eI.tr)) r0 [z0_0] fz0).holds w'∧(∀ b,b∈fz0→w0.heap.size≤b)∧Bel w0 w':=by
 unfold Zby at h
 refine cof ZYf rfl 47 Tryz.ntmps128 ?_
 have hC:=ZM2 (X:=Nox) w0 [ZMg TForm a0 [u0_0] fp0,ZMg ((EA .u8).ty.sl) a1 [u1_0] fp1] (alc q0 (al1 q1))
 have hp3:=(hC.getP 0 rfl)
 replace hC:=hC.derive 0 rfl (ZMg ZMi.ty.sl a0.terms [u0_0] fp0) (fun _=>(Xk hp3)) (fun _ hb_=>hb_)
 refine sr (Yg (v:=.agg #[u0_0]) hC [u0_0] rfl rfl fun b5 w7 hB_ hC=>Zd (v:=.slice none 0 0) rfl (dn (sr (Za (v:=u1_0) rfl (Zu hC 2 rfl ZX9 rfl ?_)))))
 obtain ⟨hm10,h⟩:=h
 refine Zb8 (sz:=1) hC (eI.encs (ZEj ((a1.length:Int).toNat) (0:Int))) ZM0 el2 (tr rfl (congrArg (ZO5 .i64) (ZO6 hm10.1).symm)) (tr rfl (congrArg (ZO5 .i64) (ZO6 hm10.1).symm)) (by omega) (by omega) (Zbk (E:=eI) _ _) fun v11 w10 hB_ hC=>?_
 replace hC:=Yy hC 0 ((ZEj ((a1.length:Int).toNat) (0:Int)).length) (eI.encs (ZEj ((a1.length:Int).toNat) (0:Int))) rfl (by simp) rfl
 refine Zd (v:=v11) rfl (Zd (v:=vI 0) rfl (dn (ZMh (sr (Zd (v:=vI 0) rfl (dn (ZMn ?_)))))))
 refine Xz (S:=(List Int)×Int×Int) _ (fun s10 e_ w_=>∃ (v10:Value),Zt e_ [(1,u1_0),(2,vQ b5),(5,v10),(6,vI s10.2.1),(7,vI s10.2.2)]∧Ctx Nox w0 w_ [own 2 1 v10 s10.1.length (eI.encs s10.1),blk b5 55 [u0_0]] [ZMg ZMi.ty.sl a0.terms [u0_0] fp0,ZMg TForm a0 [u0_0] fp0,ZMg ((EA .u8).ty.sl) a1 [u1_0] fp1]) ?_ (s0:=(ZEj ((a1.length:Int).toNat) (0:Int),0,0)) ?_ h
 ·clear hC h
  rintro s10 e_ w11 nx10 K10 ⟨v10,hS_,hC⟩ h hK10
  rw [ue hS_]
  refine ZMh (sr (Za (v:=vI s10.2.2) rfl (Za (v:=u1_0) rfl (Zu hC 2 rfl ZX9 rfl (Zn rfl rfl (Za (v:=.bool (decide (s10.2.2 < (a1.length:Int)))) rfl ?_))))))
  refine Y7 (decide (s10.2.2 < (a1.length:Int))) (fun hb10=>?_) (fun hb10=>?_)
  ·replace h:=ift h (ct hb10)
   refine Zp 4 15 rfl rfl hb10 (Za (v:=vI s10.2.1) rfl (Zp 4 15 rfl rfl hb10 (Z0 0 ZMo rfl sc53.size rfl rfl (Zp 4 15 rfl rfl hb10 (Yb hC 1 (u0_0) rfl sc53 rfl rfl (Zp 4 15 rfl rfl hb10 (Zu hC 0 rfl ZMr rfl (Zp 4 15 rfl rfl hb10 (Zn rfl rfl (Z4 (v:=.bool (decide (s10.2.1 < (a0.terms.length:Int)))) (b:=true) (tr rfl (congrArg _ hb10)) rfl (dn ?_)))))))))))
   refine Zs rfl (fun hb11=>?_) (fun hb11=>?_)
   ·replace h:=ift h (ct hb11)
    refine ZMl (Ze (ZMh (ZMn (ZMh ?_))))
    refine cwd 10 Yo [0,1,0,7,15,31,0,0,192,448,1023] [1,3,5,8,9] [0,2,4,6,7] (fun hM10 hM11 w12 hB_=>?_)
    replace hC:=hC.grow hB_
    refine bF 0 (vQ b5) rfl rfl hM11 (fun _=>by exact Yt 0 ZMo rfl sc53.size rfl rfl) (Zc 11 1) (bL 1 (u0_0) rfl rfl hM10 (fun _ hB_=>by exact Yh (hC.grow hB_) 1 (u0_0) rfl sc53 rfl rfl) (Zc 11 3) (bM 2 (vI s10.2.1) rfl hM11 (Zc 11 7) ?_))
    obtain ⟨⟨h10,h11⟩,h⟩:=h
    obtain ⟨Ad10,c10,hv10⟩:=Zw (hC.getP 0 rfl) s10.2.1.toNat (show s10.2.1.toNat < a0.terms.length by omega)
    refine bL 3 (.pointer (some (Ad10.add (s10.2.1.toNat * 9)))) rfl rfl hM10 (fun _ hB_=>by exact Y2 (len:=a0.terms.length) ZMr ag162.size (by exact tr rfl hv10) rfl h10 h11) (Zc 11 15) (bF 4 (.pointer (some (Ad10.add (s10.2.1.toNat * 9+0)))) rfl rfl hM11 (fun _=>by exact Za1 (s10.2.1.toNat * 9+0) ZMw rfl ag136.size rfl rfl) (Zc 11 31) (bL 5 (.agg (ZMf (ZMe .u8 ((a0.terms.getD s10.2.1.toNat ZEo).mono)))) rfl rfl hM10 (fun _ hB_=>by exact Jm (ZMe .u8 ((a0.terms.getD s10.2.1.toNat ZEo).mono)) (Jy (o:=0) (k:=8) (Yd ((hC.grow hB_).getP 0 rfl) hv10 s10.2.1.toNat (show s10.2.1.toNat < a0.terms.length by omega)) rfl) ag136 rfl rfl) (Zc 11 63) (bM 6 (u1_0) rfl hM11 (Zc 11 127) (bM 7 (vI s10.2.2) rfl hM11 (Zc 11 255) ?_))))
    obtain ⟨⟨h12,h13⟩,h⟩:=h
    obtain ⟨Ad11,c11,hv11⟩:=Zw (hC.getP 2 rfl) s10.2.2.toNat (show s10.2.2.toNat < a1.length by omega)
    refine bL 8 (.pointer (some (Ad11.add (s10.2.2.toNat * 8)))) rfl rfl hM10 (fun _ hB_=>by exact Y2 (len:=a1.length) ZX9 ag136.size (by exact tr rfl hv11) rfl h12 h13) (Zc 11 511) (bL 9 (.agg (ZMf (ZMe .u8 (a1.getD s10.2.2.toNat ZEo)))) rfl rfl hM10 (fun _ hB_=>by exact Jm (ZMe .u8 (a1.getD s10.2.2.toNat ZEo)) (Yd ((hC.grow hB_).getP 2 rfl) hv11 s10.2.2.toNat (show s10.2.2.toNat < a1.length by omega)) ag136 rfl rfl) (Zc 11 1023) (Z6 10 (by decide) (by decide) (by kernel_rfl) (by kernel_rfl) rfl (Zy9 ZAj ZAi rfl rfl (done (Z7 (Ze ?_))))))
    refine Zs rfl (fun hb12=>?_) (fun hb12=>?_)
    ·replace h:=ift h (ct hb12)
     refine sr (Za (v:=v10) rfl (Za (v:=vI s10.2.2) rfl (Z0 0 ZMo rfl sc53.size rfl rfl (Yb hC 1 (u0_0) rfl sc53 rfl rfl (Za (v:=vI s10.2.1) rfl ?_)))))
     obtain ⟨⟨h14,h15⟩,h⟩:=h
     obtain ⟨Ad12,c12,hv12⟩:=Zw (hC.getP 0 rfl) s10.2.1.toNat (show s10.2.1.toNat < a0.terms.length by omega)
     refine Yn (len:=a0.terms.length) ZMr ag162.size (tr rfl hv12) rfl h14 h15 (Zeb (s10.2.1.toNat * 9+8) ZMw rfl sc2.size rfl rfl (Yp (vI ((a0.terms.getD s10.2.1.toNat ZEo).factor)) (Jy (o:=8) (k:=1) (Yd (hC.getP 0 rfl) hv12 s10.2.1.toNat (show s10.2.1.toNat < a0.terms.length by omega)) rfl) sc2 rfl ?_))
     obtain ⟨⟨h16,h17⟩,h⟩:=h
     obtain ⟨Ad13,c13,hv13⟩:=Xo (hC.getM 0 rfl) (ZO7 (ZGa _) (show s10.2.2.toNat < s10.1.length by omega))
     refine Xv (s10.2.2.toNat * 1) ZM0 sc2.size (tr rfl hv13) rfl h16 h17 rfl (Za8 (v:=vI ((a0.terms.getD s10.2.1.toNat ZEo).factor)) hC 0 [vI ((a0.terms.getD s10.2.1.toNat ZEo).factor)] (eI.encs (s10.1.set s10.2.2.toNat ((a0.terms.getD s10.2.1.toNat ZEo).factor))) rfl hv13 sc2.size rfl rfl rfl rfl rfl (by rw [ZO8]; exact J4 (sz:=1) (show s10.2.2.toNat < s10.1.length by omega)) (Zbj _ _ _ (show s10.2.2.toNat < s10.1.length by omega)) fun w13 hC=>?_)
     replace hC:=Yy hC 0 ((s10.1.set s10.2.2.toNat ((a0.terms.getD s10.2.1.toNat ZEo).factor)).length) (eI.encs (s10.1.set s10.2.2.toNat ((a0.terms.getD s10.2.1.toNat ZEo).factor))) rfl (by simp) rfl
     refine dn (Zh (Za (v:=vI s10.2.1) rfl (Zq rfl rfl (Zd (v:=vI (ZG5.wrap (s10.2.1+1))) rfl (done (Zr (Ze (Zh (Za (v:=vI s10.2.2) rfl (Zq rfl rfl (Zd (v:=vI (ZG5.wrap (s10.2.2+1))) rfl (done ?_))))))))))))
     exact hK10 (s10.1.set s10.2.2.toNat ((a0.terms.getD s10.2.1.toNat ZEo).factor),ZG5.wrap (s10.2.1+1),ZG5.wrap (s10.2.2+1)) _ _ ⟨v10,(slq rfl),hC⟩ h
    ·replace h:=Zk h (cf hb12)
     refine ZMl (Zr (Ze (Zh (Za (v:=vI s10.2.2) rfl (Zq rfl rfl (Zd (v:=vI (ZG5.wrap (s10.2.2+1))) rfl (done ?_)))))))
     exact hK10 (s10.1,s10.2.1,ZG5.wrap (s10.2.2+1)) _ _ ⟨v10,(slq rfl),hC⟩ h
   ·replace h:=Zk h (cf hb11)
    refine ZMv (Zj (Zj (Zx ?_)))
    refine Ze (sr (Za (v:=v10) rfl (Zd (v:=v10) rfl (dn (ZMp ?_)))))
    exact Zi rfl (Zg rfl) ⟨s10.1,v10,(ZNg (ZFi v10)),rfl,h,(Xf (hC.getM 0 rfl)),(Y8 hC 0 rfl),hC.below⟩ (.inl rfl)
  ·replace h:=Zk h (cf hb10)
   refine Zl (b:=false) 4 15 rfl (tr rfl (congrArg _ hb10)) (by decide) (Zl (b:=false) 4 15 rfl (tr rfl (congrArg _ hb10)) (by decide) (Zl (b:=false) 4 15 rfl (tr rfl (congrArg _ hb10)) (by decide) (Zl (b:=false) 4 15 rfl (tr rfl (congrArg _ hb10)) (by decide) (Zl (b:=false) 4 15 rfl (tr rfl (congrArg _ hb10)) (by decide) (Z4 (v:=.bool false) (b:=false) (tr rfl (congrArg _ hb10)) rfl (dn (Z1 rfl rfl ?_)))))))
   refine ZMv (Zj (Zj (Zx ?_)))
   refine Ze (sr (Za (v:=v10) rfl (Zd (v:=v10) rfl (dn (ZMp ?_)))))
   exact Zi rfl (Zg rfl) ⟨s10.1,v10,(ZNg (ZFi v10)),rfl,h,(Xf (hC.getM 0 rfl)),(Y8 hC 0 rfl),hC.below⟩ (.inl rfl)
 ·skip
  exact⟨v11,(slq rfl),hC⟩
def Zf6 (a0:List (List Int)) (a1:Int) (K:List (List Int)→Prop):Prop :=
 Z8 (fun i10 (s11:(List (List Int))) nx11=>(Zy (0+(a0.getD i10 ZEo).length) 8∧((0≤(a0.length:Int)∧Zy ((a0.getD i10 ZEo).length+((a0.length:Int).toNat)) 8)∧((0≤ZG5.wrap (a1+(i10:Int))∧ZG5.wrap (a1+(i10:Int)) < (((a0.getD i10 ZEo)++ZEj ((a0.length:Int).toNat) (0:Int)).length:Int))∧(Zy (s11.length+1) 24∧nx11 (s11++[((a0.getD i10 ZEo)++ZEj ((a0.length:Int).toNat) (0:Int)).set ((ZG5.wrap (a1+(i10:Int))).toNat) 1])))))) (fun (s11:(List (List Int)))=>Zbw s11 (fun r10=>Z8 (fun i11 (s10:(List (List Int))) nx10=>Zbe (r10.getD i11 ZEo) (fun r12=>(if r12≥a1 then((0≤a1∧a1≤((r10.getD i11 ZEo).length:Int))∧(Zy (0+((r10.getD i11 ZEo).drop a1.toNat).length) 8∧(Zy (s10.length+1) 24∧nx10 (s10++[(r10.getD i11 ZEo).drop a1.toNat])))) else nx10 s10))) (fun (s10:(List (List Int)))=>Zbw s10 (fun r11=>K r11)) r10.length 0 [])) a0.length 0 []
theorem Zr4 (a0:List (List Int)) (a1:Int)  {K:List (List Int)→Prop} (h:Zf6 a0 a1 K) (w0:World) (q0:(ZOz.sl).rep a0 [u0_0] fp0 w0) :
  Calls ZMk 169 #[u0_0,vI a1] w0 fun e w'=>∃ (r0:List (List Int)) (z0_0:Value) (fz0:List Nat),
   e=.returned (z0_0)∧K r0∧(ZOz.sl).rep r0 [z0_0] fz0 w'∧(∀ b,b∈fz0→w0.heap.size≤b)∧Bel w0 w':=by
 unfold Zf6 at h
 refine cof ZYq rfl 65 Tryz.ntmps169 ?_
 have hC:=ZM2 (X:=Nox) w0 [ZMg (ZOz.sl) a0 [u0_0] fp0] (al1 q0)
 refine sr (Zd (v:=.slice none 0 0) rfl (dn (sr (Za (v:=u0_0) rfl (Zu hC 0 rfl ZXe rfl (Zd (v:=vI (a0.length:Int)) rfl (dn (sr (Ye (sz:=1) hC [] [] rfl (fun _=>Zak _) rfl (by decide) fun b5 w6 hB_ hC=>?_)))))))))
 replace hC:=hC.pushM0 (Z9 (ZR9 2 (eI.tr)) ([]:List (List Int)) [] []) (Jb _ _) rfl
 replace hC:=hC.gather (c:=ZMy (ZR9 22 (ZR9 2 (eI.tr))) [] [.slice (some ⟨b5,0,none⟩) 0 0] ((ZNg (ZFi (.slice (some ⟨b5,0,none⟩) 0 0)))++([]:List (List Nat)).flatten)) (fun x_ hx_=>(ZEv.1 hx_).symm) (fun h1_ h2_ hd_=>X1 h2_ h1_ (fun b_ hb_ hb2_=>hd_ b_ hb2_ hb_))
 refine Zd (v:=.slice (some ⟨b5,0,none⟩) 0 0) rfl (dn (ZMh (sr (Zd (v:=vI 0) rfl (dn (ZMn ?_))))))
 have hN11:a0.length≤9223372036854775807:=Yw (hC.getP 0 rfl)
 refine Yi (S:=(List (List Int))) _ _ (fun i10 s11 e_ w_=>∃ (v13:Value),∃ (f11:List Nat),Zt e_ [(0,u0_0),(1,vI a1),(5,vI (a0.length:Int)),(6,v13),(7,vI (i10:Int))]∧Ctx Nox w0 w_ [ZMy (ZR9 22 (ZR9 2 (eI.tr))) s11 [v13] f11] [ZMg (ZOz.sl) a0 [u0_0] fp0]) a0.length ?_ ?_ (s0:=[]) ?_ h
 ·clear hC h
  rintro i10 s11 e_ w10 nx11 K10 hi11 ⟨v13,f11,hS_,hC⟩ h hK11
  rw [ue hS_]
  refine ZMh (sr (Za (v:=vI (i10:Int)) rfl (Za (v:=vI (a0.length:Int)) rfl (Zn rfl rfl (dn (Z5 rfl (decide_eq_true (by omega)) (ZMl (Ze (ZMh (ZMn (sr (Ye (sz:=1) hC [] (eI.encs []) rfl (fun _=>Zcf  _) rfl (by decide) fun b13 w11 hB_ hC=>Za (v:=u0_0) rfl (Za (v:=vI (i10:Int)) rfl ?_)))))))))))))
  obtain ⟨Ad11,c11,hv10⟩:=Zw (hC.getP 0 rfl) i10 hi11
  refine Yn (len:=a0.length) ZXe sc22.size (tr rfl hv10) rfl (ZMx _) (ZNf.2 hi11) ?_
  obtain ⟨cs_,hl10,hc10,hr10⟩:=Xg (hC.getP 0 rfl) hv10 i10 hi11
  obtain ⟨u13,rfl⟩:=ZNd.1 hl10
  clear hl10
  rw [Xd _ _ hi11] at hr10
  replace hC:=hC.derive 0 rfl (ZMg TInts (a0.getD i10 ZEo) [u13] fp0) (fun _=>hr10) (fun _ hb_=>hb_)
  refine Yp (u13) hc10 sc22 rfl ?_
  obtain ⟨hm11,h⟩:=h
  refine Ja hC 0 ZM0 el2 rfl (by decide) (by decide) rfl (Zjy (hC.getP 0 rfl)) (fun q hq=>ZNk (E:=eI) _ q hq) rfl rfl hm11 fun v16 w12 hC=>?_
  replace hC:=Yy hC 0 ((a0.getD i10 ZEo).length) (eI.encs (a0.getD i10 ZEo)) rfl (by simp) (by first | (simp [ZM9]; done) | simp [ZM9,ZSs])
  refine Za (v:=vI (a0.length:Int)) rfl ?_
  obtain ⟨hm10,h⟩:=h
  refine Zrf hC 0 ZM0 Tryz.underlying3 el2 rfl rfl (by decide) rfl rfl (tr rfl (congrArg (ZO5 .i64) (ZO6 hm10.1).symm)) hm10.2 fun v10 w13 hC=>?_
  replace hC:=Yy hC 0 (((a0.getD i10 ZEo)++ZEj ((a0.length:Int).toNat) (0:Int)).length) (eI.encs ((a0.getD i10 ZEo)++ZEj ((a0.length:Int).toNat) (0:Int))) rfl (by simp) (Zri _ (a0.getD i10 ZEo) _)
  refine Zd (v:=v10) rfl (dn (sr (Za (v:=v10) rfl (Za (v:=vI a1) rfl (Za (v:=vI (i10:Int)) rfl (Zq rfl rfl ?_))))))
  obtain ⟨⟨h11,h12⟩,h⟩:=h
  obtain ⟨Ad12,c12,hv11⟩:=Xo (hC.getM 0 rfl) (ZO7 (ZGa _) (show (ZG5.wrap (a1+(i10:Int))).toNat < ((a0.getD i10 ZEo)++ZEj ((a0.length:Int).toNat) (0:Int)).length by omega))
  refine Xv ((ZG5.wrap (a1+(i10:Int))).toNat * 1) ZM0 sc2.size (tr rfl hv11) rfl h11 h12 rfl (Za8 (v:=vI 1) hC 0 [vI 1] (eI.encs (((a0.getD i10 ZEo)++ZEj ((a0.length:Int).toNat) (0:Int)).set ((ZG5.wrap (a1+(i10:Int))).toNat) 1)) rfl hv11 sc2.size rfl rfl rfl rfl rfl (by rw [ZO8]; exact J4 (sz:=1) (show (ZG5.wrap (a1+(i10:Int))).toNat < ((a0.getD i10 ZEo)++ZEj ((a0.length:Int).toNat) (0:Int)).length by omega)) (Zbj _ _ _ (show (ZG5.wrap (a1+(i10:Int))).toNat < ((a0.getD i10 ZEo)++ZEj ((a0.length:Int).toNat) (0:Int)).length by omega)) fun w14 hC=>?_)
  replace hC:=Yy hC 0 ((((a0.getD i10 ZEo)++ZEj ((a0.length:Int).toNat) (0:Int)).set ((ZG5.wrap (a1+(i10:Int))).toNat) 1).length) (eI.encs (((a0.getD i10 ZEo)++ZEj ((a0.length:Int).toNat) (0:Int)).set ((ZG5.wrap (a1+(i10:Int))).toNat) 1)) rfl (by simp) rfl
  refine dn (Zh (Za (v:=v13) rfl (Za (v:=v10) rfl (Ye (sz:=1) hC [(0,v10)] [v10] rfl (fun _=>Zae v10 (Zbc (hC.getM 0 rfl)) _) rfl (by decide) fun b10 w15 hB_ hC=>?_))))
  replace hC:=hC.pushM0 (Z9 (ZR9 2 (eI.tr)) [] [] []) (Jb _ _) rfl
  replace hC:=hC.sM [2,0,1,3] (M':=[own 2 1 v10 ((((a0.getD i10 ZEo)++ZEj ((a0.length:Int).toNat) (0:Int)).set ((ZG5.wrap (a1+(i10:Int))).toNat) 1).length) (eI.encs (((a0.getD i10 ZEo)++ZEj ((a0.length:Int).toNat) (0:Int)).set ((ZG5.wrap (a1+(i10:Int))).toNat) 1)),Z9 (ZR9 2 (eI.tr)) [] [] [],own 22 1 (.slice (some ⟨b10,0,none⟩) 1 1) 1 [v10],ZMy (ZR9 22 (ZR9 2 (eI.tr))) s11 [v13] f11]) (by decide) rfl
  replace hC:=hC.gather (c:=Z9 (ZR9 2 (eI.tr)) [((a0.getD i10 ZEo)++ZEj ((a0.length:Int).toNat) (0:Int)).set ((ZG5.wrap (a1+(i10:Int))).toNat) 1] [v10] [(ZNg (ZFi v10))]) (fun x_ hx_=>Zbo hx_) (fun h1_ h2_ hd_=>Zbb (c:=[v10]) (id (Xf h1_)) h2_ hd_)
  replace hC:=hC.sM [1,0,2] (M':=[own 22 1 (.slice (some ⟨b10,0,none⟩) 1 1) 1 [v10],Z9 (ZR9 2 (eI.tr)) [((a0.getD i10 ZEo)++ZEj ((a0.length:Int).toNat) (0:Int)).set ((ZG5.wrap (a1+(i10:Int))).toNat) 1] [v10] [(ZNg (ZFi v10))],ZMy (ZR9 22 (ZR9 2 (eI.tr))) s11 [v13] f11]) (by decide) rfl
  replace hC:=hC.gather (c:=ZMy (ZR9 22 (ZR9 2 (eI.tr))) [((a0.getD i10 ZEo)++ZEj ((a0.length:Int).toNat) (0:Int)).set ((ZG5.wrap (a1+(i10:Int))).toNat) 1] [.slice (some ⟨b10,0,none⟩) 1 1] ((ZNg (ZFi (.slice (some ⟨b10,0,none⟩) 1 1)))++([(ZNg (ZFi v10))]:List (List Nat)).flatten)) (fun x_ hx_=>ZEv.1 hx_) (fun h1_ h2_ hd_=>X1 h1_ h2_ hd_)
  replace hC:=hC.sM [1,0] (M':=[ZMy (ZR9 22 (ZR9 2 (eI.tr))) s11 [v13] f11,ZMy (ZR9 22 (ZR9 2 (eI.tr))) [((a0.getD i10 ZEo)++ZEj ((a0.length:Int).toNat) (0:Int)).set ((ZG5.wrap (a1+(i10:Int))).toNat) 1] [.slice (some ⟨b10,0,none⟩) 1 1] ((ZNg (ZFi (.slice (some ⟨b10,0,none⟩) 1 1)))++([(ZNg (ZFi v10))]:List (List Nat)).flatten)]) (by decide) rfl
  obtain ⟨hm12,h⟩:=h
  refine Za4 hC ZXe Jz rfl (by decide) (by decide) rfl rfl hm12 fun v14 f14 w16 hC=>Zd (v:=v14) rfl (done (Zr (Ze (Zh (Za (v:=vI (i10:Int)) rfl (Zq rfl rfl (Zd (v:=vI (ZG5.wrap ((i10:Int)+1))) rfl (done ?_))))))))
  exact hK11 (s11++[((a0.getD i10 ZEo)++ZEj ((a0.length:Int).toNat) (0:Int)).set ((ZG5.wrap (a1+(i10:Int))).toNat) 1]) _ _ ⟨v14,f14,(sl ⟨rfl,rfl,rfl,rfl,(tr rfl (congrArg _ (Z2 hi11 hN11))),trivial⟩),(hC.sP [1] rfl)⟩ h
 ·clear hC h
  rintro s11 e_ w17 K10 ⟨v13,f11,hS_,hC⟩ h
  rw [ue hS_]
  refine ZMh (sr (Za (v:=vI (a0.length:Int)) rfl (Za (v:=vI (a0.length:Int)) rfl (Zn rfl rfl (dn (Z1 rfl (decide_eq_false (by omega)) ?_))))))
  refine ZMv (Zj (Zj (Zx ?_)))
  refine Ze (sr (Za (v:=v13) rfl ?_))
  have hs10:=Zai hC 0 rfl
  replace hC:=hC.thaw 0 rfl (ZMg (ZOz.sl) s11 [v13] f11) (fun h_=>ZYd _ h_.1) (fun _ hb_=>hb_)
  refine Zf [v13] _ ZYg rfl rfl rfl (Zf5 s11 h _ (hC.getP 0 rfl)) ?_
  rintro _ w18 ⟨r10,u10,f12,rfl,h,hr13,hf10,hB10⟩
  refine rt ?_
  have hs13:∀ b,b∈f12→w0.heap.size≤b:=(fun b hb=>(hf10 b hb).elim (fun h_=>ZEp hC.size h_) (fun hb=>hs10 b hb))
  replace hC:=hC.pushR hB10 (ZMg (ZOz.sl) r10 [u10] f12) hr13 (fun b hb=>(hf10 b hb).elim .inl (fun hb=>.inr (⟨_,mg 0 rfl,hb⟩)))
  refine Zd (v:=u10) rfl (dn (sr (Ye (sz:=1) hC [] [] rfl (fun _=>Zak _) rfl (by decide) fun b12 w19 hB_ hC=>?_)))
  replace hC:=hC.pushM0 (Z9 (ZR9 2 (eI.tr)) ([]:List (List Int)) [] []) (Jb _ _) rfl
  replace hC:=hC.gather (c:=ZMy (ZR9 22 (ZR9 2 (eI.tr))) [] [.slice (some ⟨b12,0,none⟩) 0 0] ((ZNg (ZFi (.slice (some ⟨b12,0,none⟩) 0 0)))++([]:List (List Nat)).flatten)) (fun x_ hx_=>(ZEv.1 hx_).symm) (fun h1_ h2_ hd_=>X1 h2_ h1_ (fun b_ hb_ hb2_=>hd_ b_ hb2_ hb_))
  refine Zd (v:=.slice (some ⟨b12,0,none⟩) 0 0) rfl (dn (ZMh (sr (Zd (v:=vI 0) rfl (dn (ZMn ?_))))))
  have hN10:r10.length≤9223372036854775807:=Yw (hC.getP 0 rfl)
  refine Yi (S:=(List (List Int))) _ _ (fun i11 s10 e_ w_=>∃ (v12:Value),∃ (f10:List Nat),Zt e_ [(1,vI a1),(6,u10),(9,v12),(10,vI (i11:Int))]∧Ctx Nox w0 w_ [ZMy (ZR9 22 (ZR9 2 (eI.tr))) s10 [v12] f10] [ZMg (ZOz.sl) r10 [u10] f12,ZMg (ZOz.sl) a0 [u0_0] fp0]) r10.length ?_ ?_ (s0:=[]) ?_ h
  ·clear hC h
   rintro i11 s10 e_ w20 nx10 K11 hi10 ⟨v12,f10,hS_,hC⟩ h hK10
   rw [ue hS_]
   refine ZMh (sr (Za (v:=vI (i11:Int)) rfl (Za (v:=u10) rfl (Zu hC 0 rfl ZXe rfl (Zn rfl rfl (dn (Z5 rfl (decide_eq_true (by omega)) (ZMl (Ze (ZMh (ZMn (sr (Za (v:=u10) rfl (Za (v:=vI (i11:Int)) rfl ?_))))))))))))))
   obtain ⟨Ad13,c13,hv12⟩:=Zw (hC.getP 0 rfl) i11 hi10
   refine Yn (len:=r10.length) ZXe sc22.size (tr rfl hv12) rfl (ZMx _) (ZNf.2 hi10) ?_
   obtain ⟨cs_,hl11,hc11,hr11⟩:=Xg (hC.getP 0 rfl) hv12 i11 hi10
   obtain ⟨u11,rfl⟩:=ZNd.1 hl11
   clear hl11
   rw [Xd _ _ hi10] at hr11
   replace hC:=hC.derive 0 rfl (ZMg TInts (r10.getD i11 ZEo) [u11] f12) (fun _=>hr11) (fun _ hb_=>hb_)
   refine Yp (u11) hc11 sc22 rfl (Zf [u11] _ ZYi rfl rfl rfl (Zla (r10.getD i11 ZEo) h _ (hC.getP 0 rfl)) ?_)
   rintro _ w21 ⟨r12,rfl,h,hB11⟩
   refine rt ?_
   replace hC:=hC.grow hB11
   refine Za (v:=vI a1) rfl (J7 rfl rfl (dn ?_))
   refine Zs rfl (fun hb10=>?_) (fun hb10=>?_)
   ·replace h:=ift h (ct hb10)
    refine Zh (Za (v:=v12) rfl (Ye (sz:=1) hC [] (eI.encs []) rfl (fun _=>Zcf  _) rfl (by decide) fun b14 w22 hB_ hC=>Za (v:=u10) rfl (Za (v:=vI (i11:Int)) rfl ?_)))
    obtain ⟨Ad14,c14,hv13⟩:=Zw (hC.getP 1 rfl) i11 hi10
    refine Yn (len:=r10.length) ZXe sc22.size (tr rfl hv13) rfl (ZMx _) (ZNf.2 hi10) ?_
    obtain ⟨cs_,hl12,hc12,hr12⟩:=Xg (hC.getP 1 rfl) hv13 i11 hi10
    obtain ⟨u14,rfl⟩:=ZNd.1 hl12
    clear hl12
    rw [Xd _ _ hi10] at hr12
    replace hC:=hC.derive 1 rfl (ZMg TInts (r10.getD i11 ZEo) [u14] f12) (fun _=>hr12) (fun _ hb_=>hb_)
    refine Yp (u14) hc12 sc22 rfl (Za (v:=vI a1) rfl ?_)
    obtain ⟨h10,h⟩:=h
    obtain ⟨Ad10,c10,hv14,hcap10⟩:=Zn6 (hC.getP 0 rfl)
    refine Zn7 ZM0 sc2.size (tr rfl hv14) rfl h10.1 h10.2 ?_
    replace hC:=hC.derive 0 rfl (ZMg TInts ((r10.getD i11 ZEo).drop a1.toNat) [(sliced Ad10 a1.toNat ((r10.getD i11 ZEo).length) c10 1)] f12) (fun h_=>Zn5 h_ hv14 (show _≤_ by omega) hcap10) (fun _ h_=>h_)
    obtain ⟨hm13,h⟩:=h
    refine Ja hC 0 ZM0 el2 rfl (by decide) (by decide) rfl (Zjy (hC.getP 0 rfl)) (fun q hq=>ZNk (E:=eI) _ q hq) rfl rfl hm13 fun v11 w23 hC=>?_
    replace hC:=Yy hC 0 (((r10.getD i11 ZEo).drop a1.toNat).length) (eI.encs ((r10.getD i11 ZEo).drop a1.toNat)) rfl (by simp) (by first | (simp [ZM9]; done) | simp [ZM9,ZSs])
    refine Ye (sz:=1) hC [(0,v11)] [v11] rfl (fun _=>Zae v11 (Zbc (hC.getM 0 rfl)) _) rfl (by decide) fun b11 w24 hB_ hC=>?_
    replace hC:=hC.pushM0 (Z9 (ZR9 2 (eI.tr)) [] [] []) (Jb _ _) rfl
    replace hC:=hC.sM [2,0,1,3] (M':=[own 2 1 v11 (((r10.getD i11 ZEo).drop a1.toNat).length) (eI.encs ((r10.getD i11 ZEo).drop a1.toNat)),Z9 (ZR9 2 (eI.tr)) [] [] [],own 22 1 (.slice (some ⟨b11,0,none⟩) 1 1) 1 [v11],ZMy (ZR9 22 (ZR9 2 (eI.tr))) s10 [v12] f10]) (by decide) rfl
    replace hC:=hC.gather (c:=Z9 (ZR9 2 (eI.tr)) [(r10.getD i11 ZEo).drop a1.toNat] [v11] [(ZNg (ZFi v11))]) (fun x_ hx_=>Zbo hx_) (fun h1_ h2_ hd_=>Zbb (c:=[v11]) (id (Xf h1_)) h2_ hd_)
    replace hC:=hC.sM [1,0,2] (M':=[own 22 1 (.slice (some ⟨b11,0,none⟩) 1 1) 1 [v11],Z9 (ZR9 2 (eI.tr)) [(r10.getD i11 ZEo).drop a1.toNat] [v11] [(ZNg (ZFi v11))],ZMy (ZR9 22 (ZR9 2 (eI.tr))) s10 [v12] f10]) (by decide) rfl
    replace hC:=hC.gather (c:=ZMy (ZR9 22 (ZR9 2 (eI.tr))) [(r10.getD i11 ZEo).drop a1.toNat] [.slice (some ⟨b11,0,none⟩) 1 1] ((ZNg (ZFi (.slice (some ⟨b11,0,none⟩) 1 1)))++([(ZNg (ZFi v11))]:List (List Nat)).flatten)) (fun x_ hx_=>ZEv.1 hx_) (fun h1_ h2_ hd_=>X1 h1_ h2_ hd_)
    replace hC:=hC.sM [1,0] (M':=[ZMy (ZR9 22 (ZR9 2 (eI.tr))) s10 [v12] f10,ZMy (ZR9 22 (ZR9 2 (eI.tr))) [(r10.getD i11 ZEo).drop a1.toNat] [.slice (some ⟨b11,0,none⟩) 1 1] ((ZNg (ZFi (.slice (some ⟨b11,0,none⟩) 1 1)))++([(ZNg (ZFi v11))]:List (List Nat)).flatten)]) (by decide) rfl
    obtain ⟨hm14,h⟩:=h
    refine Za4 hC ZXe Jz rfl (by decide) (by decide) rfl rfl hm14 fun v15 f15 w25 hC=>Zd (v:=v15) rfl (done (Zr (Ze (Zh (Za (v:=vI (i11:Int)) rfl (Zq rfl rfl (Zd (v:=vI (ZG5.wrap ((i11:Int)+1))) rfl (done ?_))))))))
    exact hK10 (s10++[(r10.getD i11 ZEo).drop a1.toNat]) _ _ ⟨v15,f15,(sl ⟨rfl,rfl,rfl,(tr rfl (congrArg _ (Z2 hi10 hN10))),trivial⟩),(hC.sP [3,4] rfl)⟩ h
   ·replace h:=Zk h (cf hb10)
    refine ZMl (Zr (Ze (Zh (Za (v:=vI (i11:Int)) rfl (Zq rfl rfl (Zd (v:=vI (ZG5.wrap ((i11:Int)+1))) rfl (done ?_)))))))
    exact hK10 s10 _ _ ⟨v12,f10,(sl ⟨rfl,rfl,rfl,(tr rfl (congrArg _ (Z2 hi10 hN10))),trivial⟩),(hC.sP [1,2] rfl)⟩ h
  ·clear hC h
   rintro s10 e_ w26 K11 ⟨v12,f10,hS_,hC⟩ h
   rw [ue hS_]
   refine ZMh (sr (Za (v:=vI (r10.length:Int)) rfl (Za (v:=u10) rfl (Zu hC 0 rfl ZXe rfl (Zn rfl rfl (dn (Z1 rfl (decide_eq_false (by omega)) ?_)))))))
   refine ZMv (Zj (Zj (Zx ?_)))
   refine Ze (sr (Za (v:=v12) rfl ?_))
   have hs11:=Zai hC 0 rfl
   replace hC:=hC.thaw 0 rfl (ZMg (ZOz.sl) s10 [v12] f10) (fun h_=>ZYd _ h_.1) (fun _ hb_=>hb_)
   refine Zf [v12] _ ZYg rfl rfl rfl (Zf5 s10 h _ (hC.getP 0 rfl)) ?_
   rintro _ w27 ⟨r11,u12,f13,rfl,h,hr14,hf11,hB12⟩
   refine rt ?_
   have hs12:∀ b,b∈f13→w0.heap.size≤b:=(fun b hb=>(hf11 b hb).elim (fun h_=>ZEp hC.size h_) (fun hb=>hs11 b hb))
   replace hC:=hC.pushR hB12 (ZMg (ZOz.sl) r11 [u12] f13) hr14 (fun b hb=>(hf11 b hb).elim .inl (fun hb=>.inr (⟨_,mg 0 rfl,hb⟩)))
   refine Zd (v:=u12) rfl (dn (ZMp ?_))
   exact Zi rfl (Zg rfl) ⟨r11,u12,f13,rfl,h,(hC.getP 0 rfl),(fun b hb=>hs12 b hb),hC.below⟩ (.inl rfl)
  ·skip
   exact⟨.slice (some ⟨b12,0,none⟩) 0 0,((ZNg (ZFi (.slice (some ⟨b12,0,none⟩) 0 0)))++([]:List (List Nat)).flatten),(slq rfl),(hC.sP [0,2] rfl)⟩
 ·skip
  exact⟨.slice (some ⟨b5,0,none⟩) 0 0,((ZNg (ZFi (.slice (some ⟨b5,0,none⟩) 0 0)))++([]:List (List Nat)).flatten),(slq rfl),hC⟩
def Zcw (a0:List Int) (a1:List A8) (K:ZMj→Prop):Prop :=
 Z8 (fun i10 (s10:(List Term)) nx10=>((0≤(i10:Int)∧(i10:Int) < (a0.length:Int))∧(if a0.getD i10 ZEo≠0 then((0≤(i10:Int)∧(i10:Int) < (a0.length:Int))∧(Zy (s10.length+1) 16∧nx10 (s10++[(⟨a1.getD i10 ZEo,a0.getD i10 ZEo⟩:Term)]))) else nx10 s10))) (fun (s10:(List Term))=>K (⟨s10⟩:ZMj)) a1.length 0 []
theorem Zoe (a0:List Int) (a1:List A8)  {K:ZMj→Prop} (h:Zcw a0 a1 K) (w0:World) (q0:ZOz.rep a0 [u0_0] fp0 w0) (q1:((EA .u8).ty.sl).rep a1 [u1_0] fp1 w0) :
  Calls ZMk 170 #[u0_0,u1_0] w0 fun e w'=>∃ (r0:ZMj) (z0_0:Value) (fz0:List Nat),
   e=.returned (.agg #[z0_0])∧K r0∧(ZMy (Yj 162) r0 [z0_0] fz0).holds w'∧(∀ b,b∈fz0→w0.heap.size≤b)∧Bel w0 w':=by
 unfold Zcw at h
 refine cof ZYm rfl 34 Tryz.ntmps170 ?_
 have hC:=ZM2 (X:=Nox) w0 [ZMg TInts a0 [u0_0] fp0,ZMg ((EA .u8).ty.sl) a1 [u1_0] fp1] (alc q0 (al1 q1))
 refine sr (Ys hC [.slice none 0 0] z55 rfl fun b3 w5 hB_ hC=>dn (sr (J2 [] rfl (Zfj   _) (Ys hC [.slice none 0 0] z55 rfl fun b6 w8 hB_ hC=>Z3 (v:=.agg #[.slice none 0 0]) hC 0 [.slice none 0 0] [.slice none 0 0] rfl ag55.size rfl rfl rfl rfl rfl (ZMq rfl) rfl fun w9 hC=>dn (ZMh (sr (Zd (v:=vI 0) rfl (dn (ZMn ?_)))))))))
 have hN10:a1.length≤9223372036854775807:=Yw (hC.getP 1 rfl)
 refine Yi (S:=(List Term)) _ _ (fun i10 s10 e_ w_=>∃ (v10:Value),Zt e_ [(0,u0_0),(1,u1_0),(4,vQ b3),(5,vQ b6),(6,vI (i10:Int))]∧Ctx Nox w0 w_ [own 162 9 v10 s10.length (ZMi.encs s10),blk b6 55 [v10],blk b3 55 [.slice none 0 0]] [ZMg TInts a0 [u0_0] fp0,ZMg ((EA .u8).ty.sl) a1 [u1_0] fp1]) a1.length ?_ ?_ (s0:=[]) ?_ h
 ·clear hC h
  rintro i10 s10 e_ w10 nx10 K10 hi10 ⟨v10,hS_,hC⟩ h hK10
  rw [ue hS_]
  refine ZMh (sr (Za (v:=vI (i10:Int)) rfl (Za (v:=u1_0) rfl (Zu hC 1 rfl ZX9 rfl (Zn rfl rfl (dn (Z5 rfl (decide_eq_true (by omega)) (ZMl (Ze (ZMh (ZMn (sr (Za (v:=u0_0) rfl (Za (v:=vI (i10:Int)) rfl ?_))))))))))))))
  obtain ⟨⟨h10,h11⟩,h⟩:=h
  obtain ⟨Ad12,c10,hv10⟩:=Zw (hC.getP 0 rfl) i10 (show i10 < a0.length by omega)
  refine Yn (len:=a0.length) ZM0 sc2.size (tr rfl hv10) rfl h10 h11 (Yp (vI (a0.getD i10 ZEo)) (Yd (hC.getP 0 rfl) hv10 i10 (show i10 < a0.length by omega)) sc2 rfl (Y6 rfl rfl (dn ?_)))
  refine Zs rfl (fun hb10=>?_) (fun hb10=>?_)
  ·replace h:=ift h (ct hb10)
   refine cwd 12 Yo [0,1,0,0,12,28,0,0,192,448,1020,2044,4095,8191,16383] [1,4,5,8,9,10] [0,2,3,6,7] (fun hM10 hM11 w11 hB_=>?_)
   replace hC:=hC.grow hB_
   refine bF 0 (vQ b6) rfl rfl hM11 (fun _=>by exact Yt 0 ZMo rfl sc53.size rfl rfl) (Zc 15 1) (bL 1 (v10) rfl rfl hM10 (fun _ hB_=>by exact Yh (hC.grow hB_) 1 (v10) rfl sc53 rfl rfl) (Zc 15 3) (bM 2 (u1_0) rfl hM11 (Zc 15 7) (bM 3 (vI (i10:Int)) rfl hM11 (Zc 15 15) ?_)))
   obtain ⟨Ad10,c11,hv11⟩:=Zw (hC.getP 1 rfl) i10 hi10
   refine bL 4 (.pointer (some (Ad10.add (i10 * 8)))) rfl rfl hM10 (fun _ hB_=>by exact Y2 (len:=a1.length) ZX9 ag136.size (by exact tr rfl hv11) rfl (ZMx _) (ZNf.2 hi10)) (Zc 15 31) (bL 5 (.agg (ZMf (ZMe .u8 (a1.getD i10 ZEo)))) rfl rfl hM10 (fun _ hB_=>by exact Jm (ZMe .u8 (a1.getD i10 ZEo)) (Yd ((hC.grow hB_).getP 1 rfl) hv11 i10 hi10) ag136 rfl rfl) (Zc 15 63) (bM 6 (u0_0) rfl hM11 (Zc 15 127) (bM 7 (vI (i10:Int)) rfl hM11 (Zc 15 255) ?_)))
   obtain ⟨⟨h12,h13⟩,h⟩:=h
   obtain ⟨Ad11,c12,hv12⟩:=Zw (hC.getP 0 rfl) i10 (show i10 < a0.length by omega)
   refine bL 8 (.pointer (some (Ad11.add (i10 * 1)))) rfl rfl hM10 (fun _ hB_=>by exact Y2 (len:=a0.length) ZM0 sc2.size (by exact tr rfl hv12) rfl h12 h13) (Zc 15 511) (bL 9 (vI (a0.getD i10 ZEo)) rfl rfl hM10 (fun _ hB_=>by exact Xn (vI (a0.getD i10 ZEo)) (Yd ((hC.grow hB_).getP 0 rfl) hv12 i10 (show i10 < a0.length by omega)) sc2 rfl) (Zc 15 1023) (bL 10 (.agg (ZMf (Term.enc (⟨a1.getD i10 ZEo,a0.getD i10 ZEo⟩:Term)))) rfl rfl hM10 (fun _ hB_=>by exact Zjl [(0,.agg (ZMf (ZMe .u8 (a1.getD i10 ZEo)))),(1,vI (a0.getD i10 ZEo))] rfl (Zg3 (a1.getD i10 ZEo) (a0.getD i10 ZEo)  _)) (Zc 15 2047) (aO 11 rfl (Ye (sz:=9) hC [(0,.agg (ZMf (Term.enc (⟨a1.getD i10 ZEo,a0.getD i10 ZEo⟩:Term))))] (ZMi.encs [(⟨a1.getD i10 ZEo,a0.getD i10 ZEo⟩:Term)]) rfl (fun _=>Zfk (⟨a1.getD i10 ZEo,a0.getD i10 ZEo⟩:Term) _) rfl (by decide) fun b10 w12 hB_ hC=>done (aK (by assumption) (Zc 15 4095) (Z6 12 (by decide) (by decide) (by kernel_rfl) (by kernel_rfl) rfl ?_))))))
   obtain ⟨hm10,h⟩:=h
   refine Ja hC 1 ZMr Zfl rfl (by decide) (by decide) rfl (Jx (hC.getM 0 rfl)) (fun q hq=>ZNk (E:=ETerm) _ q hq) rfl rfl hm10 fun v11 w13 hC=>?_
   replace hC:=Yy hC 1 ((s10++[(⟨a1.getD i10 ZEo,a0.getD i10 ZEo⟩:Term)]).length) (ZMi.encs (s10++[(⟨a1.getD i10 ZEo,a0.getD i10 ZEo⟩:Term)])) rfl (by simp) (by first | (simp [ZM9]; done) | simp [ZM9,ZSs])
   refine Z0 0 ZMo rfl sc53.size rfl rfl (Z3 (v:=v11) hC 2 [v11] [v11] rfl sc53.size rfl rfl (Zb9 (hC.getM 1 rfl)) rfl (Xp (X4 (hC.getM 1 rfl)) rfl) (ZMq rfl) rfl fun w14 hC=>done (Z7 (Zr (Ze (Zh (Za (v:=vI (i10:Int)) rfl (Zq rfl rfl (Zd (v:=vI (ZG5.wrap ((i10:Int)+1))) rfl (done ?_)))))))))
   exact hK10 (s10++[(⟨a1.getD i10 ZEo,a0.getD i10 ZEo⟩:Term)]) _ _ ⟨v11,(sl ⟨rfl,rfl,rfl,rfl,(tr rfl (congrArg _ (Z2 hi10 hN10))),trivial⟩),(hC.xM [1,2,3] rfl)⟩ h
  ·replace h:=Zk h (cf hb10)
   refine ZMl (Zr (Ze (Zh (Za (v:=vI (i10:Int)) rfl (Zq rfl rfl (Zd (v:=vI (ZG5.wrap ((i10:Int)+1))) rfl (done ?_)))))))
   exact hK10 s10 _ _ ⟨v10,(sl ⟨rfl,rfl,rfl,rfl,(tr rfl (congrArg _ (Z2 hi10 hN10))),trivial⟩),hC⟩ h
 ·clear hC h
  rintro s10 e_ w15 K10 ⟨v10,hS_,hC⟩ h
  rw [ue hS_]
  refine ZMh (sr (Za (v:=vI (a1.length:Int)) rfl (Za (v:=u1_0) rfl (Zu hC 1 rfl ZX9 rfl (Zn rfl rfl (dn (Z1 rfl (decide_eq_false (by omega)) ?_)))))))
  refine ZMv (Zj (Zj (Zx ?_)))
  refine Ze (sr (Yq hC 1 [v10] rfl ag55 rfl rfl rfl (Z3 (v:=.agg #[v10]) hC 2 [v10] [v10] rfl ag55.size rfl rfl rfl rfl (Xp (X4 (hC.getM 0 rfl)) rfl) (ZMq rfl) rfl fun w16 hC=>dn (ZMp ?_))))
  exact Zi rfl (J8 hC 2 rfl ag55 rfl rfl) ⟨(⟨s10⟩:ZMj),v10,(ZNg (ZFi v10)),rfl,h,(Zcn (Xf (hC.getM 0 rfl))),(Y8 hC 0 rfl),hC.below⟩ (.inl rfl)
 ·skip
  replace hC:=hC.pushNil 162 9
  exact⟨.slice none 0 0,(slq rfl),hC⟩
def Zdg (a0:Alg) (a1:Int) (a2:Int) (a3:Int) (K:List (List Int)→Prop):Prop :=
 Zbx a0 a2 a3 (fun r10=>Zbx a0 0 a3 (fun r11=>Zbx a0 0 (ZG5.wrap (a3+1)) (fun r12=>Z8 (fun i11 (s10:(List (List Int))) nx11=>Zad (r10.getD i11 ZEo) 1 (fun r21=>Zc7 (⟨a0.degrees,a0.images⟩:Alg) r21 (fun r22=>Zby r22 r12 (fun r20=>Z8 (fun i10 (s11:(List Int)) nx10=>Zbv (r12.getD i10 ZEo) (fun r25=>(if r25 < ZG5.wrap (a2+a1) then((0≤(i10:Int)∧(i10:Int) < (r20.length:Int))∧(Zy (s11.length+1) 8∧nx10 (s11++[r20.getD i10 ZEo]))) else nx10 s11))) (fun (s11:(List Int))=>(Zy (s10.length+1) 24∧nx11 (s10++[s11]))) r12.length 0 [])))) (fun (s10:(List (List Int)))=>(if(s10.length:Int) > 0 then((0≤(0:Int)∧(0:Int) < (s10.length:Int))∧Zf6 s10 ((s10.getD 0 ZEo).length:Int) (fun r18=>Z8 (fun i12 (s12:(List (List Int))) nx12=>Zcw (r18.getD i12 ZEo) r10 (fun r14=>Zby r14 r11 (fun r15=>(Zy (s12.length+1) 24∧nx12 (s12++[r15]))))) (fun (s12:(List (List Int)))=>K s12) r18.length 0 [])) else Zf6 s10 0 (fun r19=>Z8 (fun i13 (s13:(List (List Int))) nx13=>Zcw (r19.getD i13 ZEo) r10 (fun r16=>Zby r16 r11 (fun r17=>(Zy (s13.length+1) 24∧nx13 (s13++[r17]))))) (fun (s13:(List (List Int)))=>K s13) r19.length 0 []))) r10.length 0 [])))
theorem Zlb (a0:Alg) (a1:Int) (a2:Int) (a3:Int)  {K:List (List Int)→Prop} (h:Zdg a0 a1 a2 a3 K) (w0:World) (q0:TAlg.rep a0 [u0_0,u0_1] fp0 w0) :
  Calls ZMk 110 #[.agg #[u0_0,u0_1],vI a1,vI a2,vI a3] w0 fun e w'=>∃ (r0:List (List Int)) (z0_0:Value) (fz0:List Nat),
   e=.returned (z0_0)∧K r0∧(ZMy (ZR9 22 (ZR9 2 (eI.tr))) r0 [z0_0] fz0).holds w'∧(∀ b,b∈fz0→w0.heap.size≤b)∧Bel w0 w':=by
 unfold Zdg at h
 refine cof ZYj rfl 104 Tryz.ntmps110 ?_
 have hC:=ZM2 (X:=Nox) w0 [ZMg TAlg a0 [u0_0,u0_1] fp0] (al1 q0)
 replace hC:=hC.dAlg 0 rfl
 refine sr (Yg (v:=.agg #[u0_0,u0_1]) hC [u0_0,u0_1] rfl rfl fun b4 w6 hB_ hC=>Zd (v:=.slice none 0 0) rfl (dn (ZMh ?_)))
 refine cwd 10 Yo [0,0,0,7,0,0,63,0,0,256,1023,2047,4095,8191] [0,4,7] [1,2,5,8,9] (fun hM8 hM9 w7 hB_=>?_)
 replace hC:=hC.grow hB_
 refine bL 0 (.agg #[u0_0,u0_1]) rfl rfl hM8 (fun _ hB_=>by exact Xa (hC.grow hB_) 0 [u0_0,u0_1] rfl ag32 rfl rfl rfl) (Zc 14 1) (bM 1 (vI a2) rfl hM9 (Zc 14 3) (bM 2 (vI a3) rfl hM9 (Zc 14 7) (bL 4 (.agg #[u0_0,u0_1]) rfl rfl hM8 (fun _ hB_=>by exact Xa (hC.grow hB_) 0 [u0_0,u0_1] rfl ag32 rfl rfl rfl) (Zc 14 23) (bM 5 (vI a3) rfl hM9 (Zc 14 55) (bL 7 (.agg #[u0_0,u0_1]) rfl rfl hM8 (fun _ hB_=>by exact Xa (hC.grow hB_) 0 [u0_0,u0_1] rfl ag32 rfl rfl rfl) (Zc 14 183) (bM 8 (vI a3) rfl hM9 (Zc 14 439) (bF 9 (vI (ZG5.wrap (a3+1))) rfl rfl hM9 (fun _=>by exact Zb6 rfl rfl) (Zc 14 951) (aO 3 rfl (Zf [.agg #[u0_0,u0_1],vI a2,vI a3] _ ZYb rfl rfl rfl (Zcg a0 a2 a3 h _ (Yk (hC.getP 1 rfl) (hC.getP 0 rfl))) ?_)))))))))
 rintro _ w10 ⟨r10,u10,f15,rfl,h,hr13,hf12,hB10⟩
 refine rt ?_
 replace hC:=hC.push hB10 (ZMy (ZR9 136 ((EA .u8).tr)) r10 [u10] f15) hr13 hf12
 obtain ⟨ho10,hf13⟩:=Yv (hC.getM 0 rfl).1
 subst hf13
 replace hC:=hC.recast (c:=own 136 8 u10 r10.length ((EA .u8).encs r10)) (fun _ h_=>h_) (fun _=>ho10)
 refine done (aK (by assumption) (Zc 14 959) (aO 6 rfl (Zf [.agg #[u0_0,u0_1],vI 0,vI a3] _ ZYb rfl rfl rfl (Zcg a0 0 a3 h _ (Yk (hC.getP 1 rfl) (hC.getP 0 rfl))) ?_)))
 rintro _ w11 ⟨r11,u11,f16,rfl,h,hr14,hf14,hB11⟩
 refine rt ?_
 replace hC:=hC.push hB11 (ZMy (ZR9 136 ((EA .u8).tr)) r11 [u11] f16) hr14 hf14
 obtain ⟨ho11,hf15⟩:=Yv (hC.getM 0 rfl).1
 subst hf15
 replace hC:=hC.recast (c:=own 136 8 u11 r11.length ((EA .u8).encs r11)) (fun _ h_=>h_) (fun _=>ho11)
 refine done (aK (by assumption) (Zc 14 1023) (Z6 10 (by decide) (by decide) (by kernel_rfl) (by kernel_rfl) rfl (Zf [.agg #[u0_0,u0_1],vI 0,vI (ZG5.wrap (a3+1))] _ ZYb rfl rfl rfl (Zcg a0 0 (ZG5.wrap (a3+1)) h _ (Yk (hC.getP 1 rfl) (hC.getP 0 rfl))) ?_)))
 rintro _ w12 ⟨r12,u12,f17,rfl,h,hr15,hf16,hB12⟩
 refine rt ?_
 replace hC:=hC.push hB12 (ZMy (ZR9 136 ((EA .u8).tr)) r12 [u12] f17) hr15 hf16
 obtain ⟨ho12,hf17⟩:=Yv (hC.getM 0 rfl).1
 subst hf17
 replace hC:=hC.recast (c:=own 136 8 u12 r12.length ((EA .u8).encs r12)) (fun _ h_=>h_) (fun _=>ho12)
 refine Zd (v:=u10) rfl (Zd (v:=u11) rfl (Zd (v:=u12) rfl (done (Z7 (Ze (sr (Ye (sz:=1) hC [] [] rfl (fun _=>Zak _) rfl (by decide) fun b13 w13 hB_ hC=>?_)))))))
 replace hC:=hC.pushM0 (Z9 (ZR9 2 (eI.tr)) ([]:List (List Int)) [] []) (Jb _ _) rfl
 replace hC:=hC.gather (c:=ZMy (ZR9 22 (ZR9 2 (eI.tr))) [] [.slice (some ⟨b13,0,none⟩) 0 0] ((ZNg (ZFi (.slice (some ⟨b13,0,none⟩) 0 0)))++([]:List (List Nat)).flatten)) (fun x_ hx_=>(ZEv.1 hx_).symm) (fun h1_ h2_ hd_=>X1 h2_ h1_ (fun b_ hb_ hb2_=>hd_ b_ hb2_ hb_))
 refine Zd (v:=.slice (some ⟨b13,0,none⟩) 0 0) rfl (dn (ZMh (sr (Zd (v:=vI 0) rfl (dn (ZMn ?_))))))
 have hN11:r10.length≤9223372036854775807:=Zdl (hC.getM 3 rfl)
 refine Yi (S:=(List (List Int))) _ _ (fun i11 s10 e_ w_=>∃ (v11:Value),∃ (f10:List Nat),Zt e_ [(1,vI a1),(2,vI a2),(4,vQ b4),(9,u10),(10,u11),(11,u12),(12,v11),(13,vI (i11:Int))]∧Ctx Nox w0 w_ [ZMy (ZR9 22 (ZR9 2 (eI.tr))) s10 [v11] f10,own 136 8 u12 r12.length ((EA .u8).encs r12),own 136 8 u11 r11.length ((EA .u8).encs r11),own 136 8 u10 r10.length ((EA .u8).encs r10),blk b4 32 [u0_0,u0_1]] [ZMg ZM3.sl a0.images [u0_1] fp0,ZMg TInts a0.degrees [u0_0] fp0,ZMg TAlg a0 [u0_0,u0_1] fp0]) r10.length ?_ ?_ (s0:=[]) ?_ h
 ·clear hC h
  rintro i11 s10 e_ w14 nx11 K10 hi13 ⟨v11,f10,hS_,hC⟩ h hK11
  rw [ue hS_]
  refine ZMh (sr (Za (v:=vI (i11:Int)) rfl (Za (v:=u10) rfl (Zac hC 3 rfl ZX9 rfl (Zn rfl rfl (dn (Z5 rfl (decide_eq_true (by omega)) (ZMl (Ze (ZMh (ZMn (ZMh ?_))))))))))))
  refine cwd 10 Yo [0,0,0,0,12,28,60,126,0,510,1023,2047] [1,4,5] [2,3,8] (fun hM10 hM11 w15 hB_=>?_)
  replace hC:=hC.grow hB_
  refine bL 1 (.agg #[u0_0,u0_1]) rfl rfl hM10 (fun _ hB_=>by exact Xa (hC.grow hB_) 4 [u0_0,u0_1] rfl ag32 rfl rfl rfl) (Zc 12 2) (bM 2 (u10) rfl hM11 (Zc 12 6) (bM 3 (vI (i11:Int)) rfl hM11 (Zc 12 14) ?_))
  obtain ⟨Ad10,c10,hv10⟩:=Xo (hC.getM 3 rfl) (ZO7 (ZGa _) hi13)
  refine bL 4 (.pointer (some ⟨Ad10,i11 * 8,none⟩)) rfl rfl hM10 (fun _ hB_=>by exact Zbn (i11 * 8) ZX9 ag136.size (by exact tr rfl hv10) rfl (ZMx _) (ZNf.2 hi13) rfl) (Zc 12 30) (bL 5 (.agg (ZMf (ZMe .u8 (r10.getD i11 ZEo)))) rfl rfl hM10 (fun _ hB_=>by exact Jm (ZMe .u8 (r10.getD i11 ZEo)) (Zah ((hC.grow hB_).getM 3 rfl) hv10 i11 hi13) ag136 rfl rfl) (Zc 12 62) (bM 8 (u12) rfl hM11 (Zc 12 318) ?_))
  refine Zdn (fun e_ w_=>∃ (u15:Value),∃ (r13:List Int),∃ (b16:Nat),Zt e_ [(1,vI a1),(2,vI a2),(4,vQ b4),(9,u10),(10,u11),(11,u12),(12,v11),(13,vI (i11:Int)),(14,.slice (some ⟨b16,0,none⟩) 0 0),(15,u15)]∧Ctx Nox w0 w_ [own 2 1 u15 r13.length (eI.encs r13),own 2 1 (.slice (some ⟨b16,0,none⟩) 0 0) 0 (eI.encs []),ZMy (ZR9 22 (ZR9 2 (eI.tr))) s10 [v11] f10,own 136 8 u12 r12.length ((EA .u8).encs r12),own 136 8 u11 r11.length ((EA .u8).encs r11),own 136 8 u10 r10.length ((EA .u8).encs r10),blk b4 32 [u0_0,u0_1]] [ZMg ZM3.sl a0.images [u0_1] fp0,ZMg TInts a0.degrees [u0_0] fp0,ZMg TAlg a0 [u0_0,u0_1] fp0]∧(Z8 (fun i10 (s11:(List Int)) nx10=>Zbv (r12.getD i10 ZEo) (fun r25=>(if r25 < ZG5.wrap (a2+a1) then((0≤(i10:Int)∧(i10:Int) < (r13.length:Int))∧(Zy (s11.length+1) 8∧nx10 (s11++[r13.getD i10 ZEo]))) else nx10 s11))) (fun (s11:(List Int))=>(Zy (s10.length+1) 24∧nx11 (s10++[s11]))) r12.length 0 [])) ?_ ?_
  ·clear hC h
   rintro e_ w16 ⟨u15,r13,b16,hS_,hC,h⟩
   rw [ue hS_]
   refine Ze (ZMh (sr (Zd (v:=vI 0) rfl (dn (ZMn ?_)))))
   have hN10:r12.length≤9223372036854775807:=Zdl (hC.getM 3 rfl)
   refine Yi (S:=(List Int)) _ _ (fun i10 s11 e_ w_=>∃ (v10:Value),Zt e_ [(1,vI a1),(2,vI a2),(4,vQ b4),(9,u10),(10,u11),(11,u12),(12,v11),(13,vI (i11:Int)),(14,v10),(15,u15),(16,vI (i10:Int))]∧Ctx Nox w0 w_ [own 2 1 u15 r13.length (eI.encs r13),own 2 1 v10 s11.length (eI.encs s11),ZMy (ZR9 22 (ZR9 2 (eI.tr))) s10 [v11] f10,own 136 8 u12 r12.length ((EA .u8).encs r12),own 136 8 u11 r11.length ((EA .u8).encs r11),own 136 8 u10 r10.length ((EA .u8).encs r10),blk b4 32 [u0_0,u0_1]] [ZMg ZM3.sl a0.images [u0_1] fp0,ZMg TInts a0.degrees [u0_0] fp0,ZMg TAlg a0 [u0_0,u0_1] fp0]) r12.length ?_ ?_ (s0:=[]) ?_ h
   ·clear hC h
    rintro i10 s11 e_ w17 nx10 K11 hi10 ⟨v10,hS_,hC⟩ h hK10
    rw [ue hS_]
    refine ZMh (sr (Za (v:=vI (i10:Int)) rfl (Za (v:=u12) rfl (Zac hC 3 rfl ZX9 rfl (Zn rfl rfl (dn (Z5 rfl (decide_eq_true (by omega)) (ZMl (Ze (ZMh (ZMn (sr (Za (v:=u12) rfl (Za (v:=vI (i10:Int)) rfl ?_))))))))))))))
    obtain ⟨Ad11,c11,hv11⟩:=Xo (hC.getM 3 rfl) (ZO7 (ZGa _) hi10)
    refine Xv (i10 * 8) ZX9 ag136.size (tr rfl hv11) rfl (ZMx _) (ZNf.2 hi10) rfl (Jd (ZMe .u8 (r12.getD i10 ZEo)) (Zah (hC.getM 3 rfl) hv11 i10 hi10) ag136 rfl rfl (Zf [.agg (ZMf (ZMe .u8 (r12.getD i10 ZEo)))] _ ZYh rfl rfl rfl (Zig (r12.getD i10 ZEo) h _) ?_))
    rintro _ w18 ⟨r25,rfl,h,hB13⟩
    refine rt ?_
    replace hC:=hC.grow hB13
    refine Za (v:=vI a2) rfl (Za (v:=vI a1) rfl (Zq rfl rfl (Zn rfl rfl (dn ?_))))
    refine Zs rfl (fun hb10=>?_) (fun hb10=>?_)
    ·replace h:=ift h (ct hb10)
     refine Zh (Za (v:=v10) rfl (Za (v:=u15) rfl (Za (v:=vI (i10:Int)) rfl ?_)))
     obtain ⟨⟨h10,h11⟩,h⟩:=h
     obtain ⟨Ad12,c12,hv12⟩:=Xo (hC.getM 0 rfl) (ZO7 (ZGa _) (show i10 < r13.length by omega))
     refine Xv (i10 * 1) ZM0 sc2.size (tr rfl hv12) rfl h10 h11 rfl (Yp (vI (r13.getD i10 ZEo)) (Zah (hC.getM 0 rfl) hv12 i10 (show i10 < r13.length by omega)) sc2 rfl (Ye (sz:=1) hC [(0,vI (r13.getD i10 ZEo))] (eI.encs [r13.getD i10 ZEo]) rfl (fun _=>Zf3 (r13.getD i10 ZEo) _) rfl (by decide) fun b21 w19 hB_ hC=>?_))
     obtain ⟨hm10,h⟩:=h
     refine Ja hC 2 ZM0 el2 rfl (by decide) (by decide) rfl (Jx (hC.getM 0 rfl)) (fun q hq=>ZNk (E:=eI) _ q hq) rfl rfl hm10 fun v14 w20 hC=>?_
     replace hC:=Yy hC 2 ((s11++[r13.getD i10 ZEo]).length) (eI.encs (s11++[r13.getD i10 ZEo])) rfl (by simp) (by first | (simp [ZM9]; done) | simp [ZM9,ZSs])
     refine Zd (v:=v14) rfl (done (Zr (Ze (Zh (Za (v:=vI (i10:Int)) rfl (Zq rfl rfl (Zd (v:=vI (ZG5.wrap ((i10:Int)+1))) rfl (done ?_))))))))
     exact hK10 (s11++[r13.getD i10 ZEo]) _ _ ⟨v14,(sl ⟨rfl,rfl,rfl,rfl,rfl,rfl,rfl,rfl,rfl,rfl,(tr rfl (congrArg _ (Z2 hi10 hN10))),trivial⟩),(hC.xM [1,2,3,4,5,6,7] rfl)⟩ h
    ·replace h:=Zk h (cf hb10)
     refine ZMl (Zr (Ze (Zh (Za (v:=vI (i10:Int)) rfl (Zq rfl rfl (Zd (v:=vI (ZG5.wrap ((i10:Int)+1))) rfl (done ?_)))))))
     exact hK10 s11 _ _ ⟨v10,(sl ⟨rfl,rfl,rfl,rfl,rfl,rfl,rfl,rfl,rfl,rfl,(tr rfl (congrArg _ (Z2 hi10 hN10))),trivial⟩),hC⟩ h
   ·clear hC h
    rintro s11 e_ w21 K11 ⟨v10,hS_,hC⟩ h
    rw [ue hS_]
    refine ZMh (sr (Za (v:=vI (r12.length:Int)) rfl (Za (v:=u12) rfl (Zac hC 3 rfl ZX9 rfl (Zn rfl rfl (dn (Z1 rfl (decide_eq_false (by omega)) ?_)))))))
    refine ZMv (Zj (Zj (Zx ?_)))
    refine Ze (Zh (Za (v:=v11) rfl (Za (v:=v10) rfl (Ye (sz:=1) hC [(0,v10)] [v10] rfl (fun _=>Zae v10 (Zbc (hC.getM 1 rfl)) _) rfl (by decide) fun b10 w22 hB_ hC=>?_))))
    replace hC:=hC.pushM0 (Z9 (ZR9 2 (eI.tr)) [] [] []) (Jb _ _) rfl
    replace hC:=hC.sM [3,0,1,2,4,5,6,7,8] (M':=[own 2 1 v10 s11.length (eI.encs s11),Z9 (ZR9 2 (eI.tr)) [] [] [],own 22 1 (.slice (some ⟨b10,0,none⟩) 1 1) 1 [v10],own 2 1 u15 r13.length (eI.encs r13),ZMy (ZR9 22 (ZR9 2 (eI.tr))) s10 [v11] f10,own 136 8 u12 r12.length ((EA .u8).encs r12),own 136 8 u11 r11.length ((EA .u8).encs r11),own 136 8 u10 r10.length ((EA .u8).encs r10),blk b4 32 [u0_0,u0_1]]) (by decide) rfl
    replace hC:=hC.gather (c:=Z9 (ZR9 2 (eI.tr)) [s11] [v10] [(ZNg (ZFi v10))]) (fun x_ hx_=>Zbo hx_) (fun h1_ h2_ hd_=>Zbb (c:=[v10]) (id (Xf h1_)) h2_ hd_)
    replace hC:=hC.sM [1,0,2,3,4,5,6,7] (M':=[own 22 1 (.slice (some ⟨b10,0,none⟩) 1 1) 1 [v10],Z9 (ZR9 2 (eI.tr)) [s11] [v10] [(ZNg (ZFi v10))],own 2 1 u15 r13.length (eI.encs r13),ZMy (ZR9 22 (ZR9 2 (eI.tr))) s10 [v11] f10,own 136 8 u12 r12.length ((EA .u8).encs r12),own 136 8 u11 r11.length ((EA .u8).encs r11),own 136 8 u10 r10.length ((EA .u8).encs r10),blk b4 32 [u0_0,u0_1]]) (by decide) rfl
    replace hC:=hC.gather (c:=ZMy (ZR9 22 (ZR9 2 (eI.tr))) [s11] [.slice (some ⟨b10,0,none⟩) 1 1] ((ZNg (ZFi (.slice (some ⟨b10,0,none⟩) 1 1)))++([(ZNg (ZFi v10))]:List (List Nat)).flatten)) (fun x_ hx_=>ZEv.1 hx_) (fun h1_ h2_ hd_=>X1 h1_ h2_ hd_)
    replace hC:=hC.sM [2,0,1,3,4,5,6] (M':=[ZMy (ZR9 22 (ZR9 2 (eI.tr))) s10 [v11] f10,ZMy (ZR9 22 (ZR9 2 (eI.tr))) [s11] [.slice (some ⟨b10,0,none⟩) 1 1] ((ZNg (ZFi (.slice (some ⟨b10,0,none⟩) 1 1)))++([(ZNg (ZFi v10))]:List (List Nat)).flatten),own 2 1 u15 r13.length (eI.encs r13),own 136 8 u12 r12.length ((EA .u8).encs r12),own 136 8 u11 r11.length ((EA .u8).encs r11),own 136 8 u10 r10.length ((EA .u8).encs r10),blk b4 32 [u0_0,u0_1]]) (by decide) rfl
    obtain ⟨hm11,h⟩:=h
    refine Za4 hC ZXe Jz rfl (by decide) (by decide) rfl rfl hm11 fun v15 f18 w23 hC=>Zd (v:=v15) rfl (done (Zr (Ze (Zh (Za (v:=vI (i11:Int)) rfl (Zq rfl rfl (Zd (v:=vI (ZG5.wrap ((i11:Int)+1))) rfl (done ?_))))))))
    exact hK11 (s10++[s11]) _ _ ⟨v15,f18,(sl ⟨rfl,rfl,rfl,rfl,rfl,rfl,rfl,(tr rfl (congrArg _ (Z2 hi13 hN11))),trivial⟩),(hC.xM [0,2,3,4,5] rfl)⟩ h
   ·skip
    exact⟨.slice (some ⟨b16,0,none⟩) 0 0,(slq rfl),hC⟩
  refine Ju 0 6 rfl rfl (by kernel_rfl) ?_ ?_
  ·skip
   refine Ye (sz:=1) hC [] (eI.encs []) rfl (fun _=>Zcf  _) rfl (by decide) fun b17 w24 hB_ hC=>done (aK (by assumption) (Zc 12 319) (aO 6 rfl (Zf [.agg (ZMf (ZMe .u8 (r10.getD i11 ZEo))),vI 1] _ Tryz.func95 rfl rfl rfl (Zds (r10.getD i11 ZEo) 1 h _) ?_)))
   rintro _ w25 ⟨r21,u26,f19,rfl,h,hr16,hf18,hB14⟩
   refine rt ?_
   replace hC:=hC.push hB14 (ZMy (Yj 162) r21 [u26] f19) hr16 hf18
   obtain ⟨ho13,hf19⟩:=X6 (hC.getM 0 rfl)
   subst hf19
   replace hC:=hC.recast (c:=own 162 9 u26 r21.terms.length (ZMi.encs r21.terms)) (fun _ h_=>h_) (fun _=>ho13)
   refine done (aK (by assumption) (Zc 12 383) (aO 7 rfl (Zf [.agg #[u0_0,u0_1],.agg #[u26]] _ ZYn rfl rfl rfl (Zhb (⟨a0.degrees,a0.images⟩:Alg) r21 h _ (Yk (hC.getP 1 rfl) (hC.getP 0 rfl)) (Y3 (Ym (hC.getM 0 rfl)))) ?_)))
   rintro _ w26 ⟨r22,u27,f20,rfl,h,hr17,hf20,hB15⟩
   refine rt ?_
   replace hC:=hC.push hB15 (ZMy (Yj 162) r22 [u27] f20) hr17 hf20
   obtain ⟨ho14,hf21⟩:=X6 (hC.getM 0 rfl)
   subst hf21
   replace hC:=hC.recast (c:=own 162 9 u27 r22.terms.length (ZMi.encs r22.terms)) (fun _ h_=>h_) (fun _=>ho14)
   refine done (aK (by assumption) (Zc 12 511) (aO 9 rfl (Zf [.agg #[u27],u12] _ ZYf rfl rfl rfl (Ze1 r22 r12 h _ (Y3 (Ym (hC.getM 0 rfl))) (Ym (hC.getM 4 rfl))) ?_)))
   rintro _ w27 ⟨r20,u20,f21,rfl,h,hr18,hf22,hB16⟩
   refine rt ?_
   replace hC:=hC.push hB16 (ZMy (ZR9 2 (eI.tr)) r20 [u20] f21) hr18 hf22
   obtain ⟨ho15,hf23⟩:=Yv (hC.getM 0 rfl).1
   subst hf23
   replace hC:=hC.recast (c:=own 2 1 u20 r20.length (eI.encs r20)) (fun _ h_=>h_) (fun _=>ho15)
   refine done (aK (by assumption) (Zc 12 1023) (Z6 10 (by decide) (by decide) (by kernel_rfl) (by kernel_rfl) rfl (Zd (v:=.slice (some ⟨b17,0,none⟩) 0 0) rfl (Zd (v:=u20) rfl (done (Z7 ?_))))))
   exact⟨rfl,_,rfl,⟨u20,r20,b17,(slq rfl),(hC.xM [0,3,4,5,6,7,8] rfl),h⟩⟩
  ·skip
   refine Zf [.agg (ZMf (ZMe .u8 (r10.getD i11 ZEo))),vI 1] _ Tryz.func95 rfl rfl rfl (Zds (r10.getD i11 ZEo) 1 h _) ?_
   rintro _ w28 ⟨r23,u21,f22,rfl,h,hr19,hf24,hB17⟩
   refine rt ?_
   replace hC:=hC.push hB17 (ZMy (Yj 162) r23 [u21] f22) hr19 hf24
   obtain ⟨ho16,hf25⟩:=X6 (hC.getM 0 rfl)
   subst hf25
   replace hC:=hC.recast (c:=own 162 9 u21 r23.terms.length (ZMi.encs r23.terms)) (fun _ h_=>h_) (fun _=>ho16)
   refine done (aK (by assumption) (Zc 12 382) ?_)
   refine Ju 0 7 rfl rfl (by kernel_rfl) ?_ ?_
   ·skip
    refine Ye (sz:=1) hC [] (eI.encs []) rfl (fun _=>Zcf  _) rfl (by decide) fun b18 w29 hB_ hC=>done (aK (by assumption) (Zc 12 383) (aO 7 rfl (Zf [.agg #[u0_0,u0_1],.agg #[u21]] _ ZYn rfl rfl rfl (Zhb (⟨a0.degrees,a0.images⟩:Alg) r23 h _ (Yk (hC.getP 1 rfl) (hC.getP 0 rfl)) (Y3 (Ym (hC.getM 1 rfl)))) ?_)))
    rintro _ w30 ⟨r26,u28,f23,rfl,h,hr20,hf26,hB18⟩
    refine rt ?_
    replace hC:=hC.push hB18 (ZMy (Yj 162) r26 [u28] f23) hr20 hf26
    obtain ⟨ho17,hf27⟩:=X6 (hC.getM 0 rfl)
    subst hf27
    replace hC:=hC.recast (c:=own 162 9 u28 r26.terms.length (ZMi.encs r26.terms)) (fun _ h_=>h_) (fun _=>ho17)
    refine done (aK (by assumption) (Zc 12 511) (aO 9 rfl (Zf [.agg #[u28],u12] _ ZYf rfl rfl rfl (Ze1 r26 r12 h _ (Y3 (Ym (hC.getM 0 rfl))) (Ym (hC.getM 4 rfl))) ?_)))
    rintro _ w31 ⟨r27,u22,f24,rfl,h,hr21,hf28,hB19⟩
    refine rt ?_
    replace hC:=hC.push hB19 (ZMy (ZR9 2 (eI.tr)) r27 [u22] f24) hr21 hf28
    obtain ⟨ho18,hf29⟩:=Yv (hC.getM 0 rfl).1
    subst hf29
    replace hC:=hC.recast (c:=own 2 1 u22 r27.length (eI.encs r27)) (fun _ h_=>h_) (fun _=>ho18)
    refine done (aK (by assumption) (Zc 12 1023) (Z6 10 (by decide) (by decide) (by kernel_rfl) (by kernel_rfl) rfl (Zd (v:=.slice (some ⟨b18,0,none⟩) 0 0) rfl (Zd (v:=u22) rfl (done (Z7 ?_))))))
    exact⟨rfl,_,rfl,⟨u22,r27,b18,(slq rfl),(hC.xM [0,2,4,5,6,7,8] rfl),h⟩⟩
   ·skip
    refine Zf [.agg #[u0_0,u0_1],.agg #[u21]] _ ZYn rfl rfl rfl (Zhb (⟨a0.degrees,a0.images⟩:Alg) r23 h _ (Yk (hC.getP 1 rfl) (hC.getP 0 rfl)) (Y3 (Ym (hC.getM 0 rfl)))) ?_
    rintro _ w32 ⟨r24,u23,f25,rfl,h,hr22,hf30,hB20⟩
    refine rt ?_
    replace hC:=hC.push hB20 (ZMy (Yj 162) r24 [u23] f25) hr22 hf30
    obtain ⟨ho19,hf31⟩:=X6 (hC.getM 0 rfl)
    subst hf31
    replace hC:=hC.recast (c:=own 162 9 u23 r24.terms.length (ZMi.encs r24.terms)) (fun _ h_=>h_) (fun _=>ho19)
    refine done (aK (by assumption) (Zc 12 510) ?_)
    refine Ju 0 9 rfl rfl (by kernel_rfl) ?_ ?_
    ·skip
     refine Ye (sz:=1) hC [] (eI.encs []) rfl (fun _=>Zcf  _) rfl (by decide) fun b19 w33 hB_ hC=>done (aK (by assumption) (Zc 12 511) (aO 9 rfl (Zf [.agg #[u23],u12] _ ZYf rfl rfl rfl (Ze1 r24 r12 h _ (Y3 (Ym (hC.getM 1 rfl))) (Ym (hC.getM 4 rfl))) ?_)))
     rintro _ w34 ⟨r28,u24,f26,rfl,h,hr23,hf32,hB21⟩
     refine rt ?_
     replace hC:=hC.push hB21 (ZMy (ZR9 2 (eI.tr)) r28 [u24] f26) hr23 hf32
     obtain ⟨ho20,hf33⟩:=Yv (hC.getM 0 rfl).1
     subst hf33
     replace hC:=hC.recast (c:=own 2 1 u24 r28.length (eI.encs r28)) (fun _ h_=>h_) (fun _=>ho20)
     refine done (aK (by assumption) (Zc 12 1023) (Z6 10 (by decide) (by decide) (by kernel_rfl) (by kernel_rfl) rfl (Zd (v:=.slice (some ⟨b19,0,none⟩) 0 0) rfl (Zd (v:=u24) rfl (done (Z7 ?_))))))
     exact⟨rfl,_,rfl,⟨u24,r28,b19,(slq rfl),(hC.xM [0,1,4,5,6,7,8] rfl),h⟩⟩
    ·skip
     refine Zf [.agg #[u23],u12] _ ZYf rfl rfl rfl (Ze1 r24 r12 h _ (Y3 (Ym (hC.getM 0 rfl))) (Ym (hC.getM 3 rfl))) ?_
     rintro _ w35 ⟨r29,u25,f27,rfl,h,hr24,hf34,hB22⟩
     refine rt ?_
     replace hC:=hC.push hB22 (ZMy (ZR9 2 (eI.tr)) r29 [u25] f27) hr24 hf34
     obtain ⟨ho21,hf35⟩:=Yv (hC.getM 0 rfl).1
     subst hf35
     replace hC:=hC.recast (c:=own 2 1 u25 r29.length (eI.encs r29)) (fun _ h_=>h_) (fun _=>ho21)
     refine done (aK (by assumption) (Zc 12 1022) (aO 0 rfl (Ye (sz:=1) hC [] (eI.encs []) rfl (fun _=>Zcf  _) rfl (by decide) fun b20 w36 hB_ hC=>done (aK (by assumption) (Zc 12 1023) (Z6 10 (by decide) (by decide) (by kernel_rfl) (by kernel_rfl) rfl (Zd (v:=.slice (some ⟨b20,0,none⟩) 0 0) rfl (Zd (v:=u25) rfl (done (Z7 ?_)))))))))
     exact⟨rfl,_,rfl,⟨u25,r29,b20,(slq rfl),(hC.xM [1,0,4,5,6,7,8] rfl),h⟩⟩
 ·clear hC h
  rintro s10 e_ w37 K10 ⟨v11,f10,hS_,hC⟩ h
  rw [ue hS_]
  refine ZMh (sr (Za (v:=vI (r10.length:Int)) rfl (Za (v:=u10) rfl (Zac hC 3 rfl ZX9 rfl (Zn rfl rfl (dn (Z1 rfl (decide_eq_false (by omega)) ?_)))))))
  refine ZMv (Zj (Zj (Zx ?_)))
  refine Ze (sr (Zd (v:=vI 0) rfl (dn (ZMh (sr (Za (v:=v11) rfl (Zdq hC 0 rfl ZXe rfl (Jh rfl rfl (dn ?_)))))))))
  refine Zs rfl (fun hb11=>?_) (fun hb11=>?_)
  ·replace h:=ift h (ct hb11)
   refine Zh (Za (v:=v11) rfl ?_)
   have hs10:=Zai hC 0 rfl
   replace hC:=hC.thaw 0 rfl (ZMg (ZOz.sl) s10 [v11] f10) (fun h_=>ZYd _ h_.1) (fun _ hb_=>hb_)
   obtain ⟨⟨h12,h13⟩,h⟩:=h
   obtain ⟨Ad13,c13,hv13⟩:=Zw (hC.getP 0 rfl) 0 (show 0 < s10.length by omega)
   refine Yn (len:=s10.length) ZXe sc22.size (tr rfl hv13) rfl h12 h13 ?_
   obtain ⟨cs_,hl10,hc10,hr10⟩:=Xg (hC.getP 0 rfl) hv13 0 (show 0 < s10.length by omega)
   obtain ⟨u31,rfl⟩:=ZNd.1 hl10
   clear hl10
   rw [Xd _ _ (show 0 < s10.length by omega)] at hr10
   replace hC:=hC.derive 0 rfl (ZMg TInts (s10.getD 0 ZEo) [u31] f10) (fun _=>hr10) (fun _ hb_=>hb_)
   refine Yp (u31) hc10 sc22 rfl (Zu hC 0 rfl ZM0 rfl (Zd (v:=vI ((s10.getD 0 ZEo).length:Int)) rfl (dn (sr (Za (v:=v11) rfl (Za (v:=vI ((s10.getD 0 ZEo).length:Int)) rfl (Zf [v11,vI ((s10.getD 0 ZEo).length:Int)] _ ZYq rfl rfl rfl (Zr4 s10 ((s10.getD 0 ZEo).length:Int) h _ (hC.getP 1 rfl)) ?_)))))))
   rintro _ w38 ⟨r18,u16,f13,rfl,h,hr25,hf10,hB23⟩
   refine rt ?_
   have hs11:=Zmn hC.size hf10
   replace hC:=hC.pushR hB23 (ZMg (ZOz.sl) r18 [u16] f13) hr25 (fun b hb=>.inl (hf10 b hb))
   refine Ye (sz:=1) hC [] [] rfl (fun _=>Zak _) rfl (by decide) fun b14 w39 hB_ hC=>?_
   replace hC:=hC.pushM0 (Z9 (ZR9 2 (eI.tr)) ([]:List (List Int)) [] []) (Jb _ _) rfl
   replace hC:=hC.gather (c:=ZMy (ZR9 22 (ZR9 2 (eI.tr))) [] [.slice (some ⟨b14,0,none⟩) 0 0] ((ZNg (ZFi (.slice (some ⟨b14,0,none⟩) 0 0)))++([]:List (List Nat)).flatten)) (fun x_ hx_=>(ZEv.1 hx_).symm) (fun h1_ h2_ hd_=>X1 h2_ h1_ (fun b_ hb_ hb2_=>hd_ b_ hb2_ hb_))
   refine Zd (v:=u16) rfl (Zd (v:=.slice (some ⟨b14,0,none⟩) 0 0) rfl (dn (ZMh (sr (Zd (v:=vI 0) rfl (dn (ZMn ?_)))))))
   have hN12:r18.length≤9223372036854775807:=Yw (hC.getP 0 rfl)
   refine Yi (S:=(List (List Int))) _ _ (fun i12 s12 e_ w_=>∃ (v12:Value),∃ (f11:List Nat),Zt e_ [(9,u10),(10,u11),(18,u16),(19,v12),(20,vI (i12:Int))]∧Ctx Nox w0 w_ [ZMy (ZR9 22 (ZR9 2 (eI.tr))) s12 [v12] f11,own 136 8 u11 r11.length ((EA .u8).encs r11),own 136 8 u10 r10.length ((EA .u8).encs r10)] [ZMg (ZOz.sl) r18 [u16] f13,ZMg ZM3.sl a0.images [u0_1] fp0,ZMg TInts a0.degrees [u0_0] fp0,ZMg TAlg a0 [u0_0,u0_1] fp0]) r18.length ?_ ?_ (s0:=[]) ?_ h
   ·clear hC h
    rintro i12 s12 e_ w40 nx12 K12 hi11 ⟨v12,f11,hS_,hC⟩ h hK12
    rw [ue hS_]
    refine ZMh (sr (Za (v:=vI (i12:Int)) rfl (Za (v:=u16) rfl (Zu hC 0 rfl ZXe rfl (Zn rfl rfl (dn (Z5 rfl (decide_eq_true (by omega)) (ZMl (Ze (ZMh (ZMn (Zh (Za (v:=v12) rfl (Za (v:=u16) rfl (Za (v:=vI (i12:Int)) rfl ?_)))))))))))))))
    obtain ⟨Ad14,c14,hv14⟩:=Zw (hC.getP 0 rfl) i12 hi11
    refine Yn (len:=r18.length) ZXe sc22.size (tr rfl hv14) rfl (ZMx _) (ZNf.2 hi11) ?_
    obtain ⟨cs_,hl11,hc11,hr11⟩:=Xg (hC.getP 0 rfl) hv14 i12 hi11
    obtain ⟨u29,rfl⟩:=ZNd.1 hl11
    clear hl11
    rw [Xd _ _ hi11] at hr11
    replace hC:=hC.derive 0 rfl (ZMg TInts (r18.getD i12 ZEo) [u29] f13) (fun _=>hr11) (fun _ hb_=>hb_)
    refine Yp (u29) hc11 sc22 rfl (Za (v:=u10) rfl (Zf [u29,u10] _ ZYm rfl rfl rfl (Zoe (r18.getD i12 ZEo) r10 h _ (hC.getP 0 rfl) (Ym (hC.getM 2 rfl))) ?_))
    rintro _ w41 ⟨r14,u18,f28,rfl,h,hr26,hf36,hB24⟩
    refine rt ?_
    replace hC:=hC.push hB24 (ZMy (Yj 162) r14 [u18] f28) hr26 hf36
    obtain ⟨ho22,hf37⟩:=X6 (hC.getM 0 rfl)
    subst hf37
    replace hC:=hC.recast (c:=own 162 9 u18 r14.terms.length (ZMi.encs r14.terms)) (fun _ h_=>h_) (fun _=>ho22)
    refine Za (v:=u11) rfl (Zf [.agg #[u18],u11] _ ZYf rfl rfl rfl (Ze1 r14 r11 h _ (Y3 (Ym (hC.getM 0 rfl))) (Ym (hC.getM 2 rfl))) ?_)
    rintro _ w42 ⟨r15,u13,f29,rfl,h,hr27,hf38,hB25⟩
    refine rt ?_
    replace hC:=hC.push hB25 (ZMy (ZR9 2 (eI.tr)) r15 [u13] f29) hr27 hf38
    obtain ⟨ho23,hf39⟩:=Yv (hC.getM 0 rfl).1
    subst hf39
    replace hC:=hC.recast (c:=own 2 1 u13 r15.length (eI.encs r15)) (fun _ h_=>h_) (fun _=>ho23)
    refine Ye (sz:=1) hC [(0,u13)] [u13] rfl (fun _=>Zae u13 (Zbc (hC.getM 0 rfl)) _) rfl (by decide) fun b11 w43 hB_ hC=>?_
    replace hC:=hC.pushM0 (Z9 (ZR9 2 (eI.tr)) [] [] []) (Jb _ _) rfl
    replace hC:=hC.sM [2,0,1,3,4,5,6] (M':=[own 2 1 u13 r15.length (eI.encs r15),Z9 (ZR9 2 (eI.tr)) [] [] [],own 22 1 (.slice (some ⟨b11,0,none⟩) 1 1) 1 [u13],own 162 9 u18 r14.terms.length (ZMi.encs r14.terms),ZMy (ZR9 22 (ZR9 2 (eI.tr))) s12 [v12] f11,own 136 8 u11 r11.length ((EA .u8).encs r11),own 136 8 u10 r10.length ((EA .u8).encs r10)]) (by decide) rfl
    replace hC:=hC.gather (c:=Z9 (ZR9 2 (eI.tr)) [r15] [u13] [(ZNg (ZFi u13))]) (fun x_ hx_=>Zbo hx_) (fun h1_ h2_ hd_=>Zbb (c:=[u13]) (id (Xf h1_)) h2_ hd_)
    replace hC:=hC.sM [1,0,2,3,4,5] (M':=[own 22 1 (.slice (some ⟨b11,0,none⟩) 1 1) 1 [u13],Z9 (ZR9 2 (eI.tr)) [r15] [u13] [(ZNg (ZFi u13))],own 162 9 u18 r14.terms.length (ZMi.encs r14.terms),ZMy (ZR9 22 (ZR9 2 (eI.tr))) s12 [v12] f11,own 136 8 u11 r11.length ((EA .u8).encs r11),own 136 8 u10 r10.length ((EA .u8).encs r10)]) (by decide) rfl
    replace hC:=hC.gather (c:=ZMy (ZR9 22 (ZR9 2 (eI.tr))) [r15] [.slice (some ⟨b11,0,none⟩) 1 1] ((ZNg (ZFi (.slice (some ⟨b11,0,none⟩) 1 1)))++([(ZNg (ZFi u13))]:List (List Nat)).flatten)) (fun x_ hx_=>ZEv.1 hx_) (fun h1_ h2_ hd_=>X1 h1_ h2_ hd_)
    replace hC:=hC.sM [2,0,1,3,4] (M':=[ZMy (ZR9 22 (ZR9 2 (eI.tr))) s12 [v12] f11,ZMy (ZR9 22 (ZR9 2 (eI.tr))) [r15] [.slice (some ⟨b11,0,none⟩) 1 1] ((ZNg (ZFi (.slice (some ⟨b11,0,none⟩) 1 1)))++([(ZNg (ZFi u13))]:List (List Nat)).flatten),own 162 9 u18 r14.terms.length (ZMi.encs r14.terms),own 136 8 u11 r11.length ((EA .u8).encs r11),own 136 8 u10 r10.length ((EA .u8).encs r10)]) (by decide) rfl
    obtain ⟨hm12,h⟩:=h
    refine Za4 hC ZXe Jz rfl (by decide) (by decide) rfl rfl hm12 fun v16 f30 w44 hC=>Zd (v:=v16) rfl (done (Zr (Ze (Zh (Za (v:=vI (i12:Int)) rfl (Zq rfl rfl (Zd (v:=vI (ZG5.wrap ((i12:Int)+1))) rfl (done ?_))))))))
    exact hK12 (s12++[r15]) _ _ ⟨v16,f30,(sl ⟨rfl,rfl,rfl,rfl,(tr rfl (congrArg _ (Z2 hi11 hN12))),trivial⟩),((hC.xM [0,2,3] rfl).sP [1,2,3,4] rfl)⟩ h
   ·clear hC h
    rintro s12 e_ w45 K12 ⟨v12,f11,hS_,hC⟩ h
    rw [ue hS_]
    refine ZMh (sr (Za (v:=vI (r18.length:Int)) rfl (Za (v:=u16) rfl (Zu hC 0 rfl ZXe rfl (Zn rfl rfl (dn (Z1 rfl (decide_eq_false (by omega)) ?_)))))))
    refine ZMv (Zj (Zj (Zx ?_)))
    refine Ze (sr (Za (v:=v12) rfl (Zd (v:=v12) rfl (dn (ZMp ?_)))))
    exact Zi rfl (Zg rfl) ⟨s12,v12,f11,rfl,h,(hC.getM 0 rfl),(Zai hC 0 rfl),hC.below⟩ (.inl rfl)
   ·skip
    exact⟨.slice (some ⟨b14,0,none⟩) 0 0,((ZNg (ZFi (.slice (some ⟨b14,0,none⟩) 0 0)))++([]:List (List Nat)).flatten),(slq rfl),((hC.xM [0,2,3] rfl).sP [0,3,4,5] rfl)⟩
  ·replace h:=Zk h (cf hb11)
   refine ZMl (Ze (sr (Za (v:=v11) rfl (Za (v:=vI 0) rfl (Zf [v11,vI 0] _ ZYq rfl rfl rfl (Zr4 s10 0 h _ (ZYd _ (hC.getM 0 rfl).1)) ?_)))))
   rintro _ w46 ⟨r19,u17,f14,rfl,h,hr28,hf11,hB26⟩
   refine rt ?_
   have hs12:=Zmn hC.size hf11
   replace hC:=hC.pushR hB26 (ZMg (ZOz.sl) r19 [u17] f14) hr28 (fun b hb=>.inl (hf11 b hb))
   refine Ye (sz:=1) hC [] [] rfl (fun _=>Zak _) rfl (by decide) fun b15 w47 hB_ hC=>?_
   replace hC:=hC.pushM0 (Z9 (ZR9 2 (eI.tr)) ([]:List (List Int)) [] []) (Jb _ _) rfl
   replace hC:=hC.gather (c:=ZMy (ZR9 22 (ZR9 2 (eI.tr))) [] [.slice (some ⟨b15,0,none⟩) 0 0] ((ZNg (ZFi (.slice (some ⟨b15,0,none⟩) 0 0)))++([]:List (List Nat)).flatten)) (fun x_ hx_=>(ZEv.1 hx_).symm) (fun h1_ h2_ hd_=>X1 h2_ h1_ (fun b_ hb_ hb2_=>hd_ b_ hb2_ hb_))
   refine Zd (v:=u17) rfl (Zd (v:=.slice (some ⟨b15,0,none⟩) 0 0) rfl (dn (ZMh (sr (Zd (v:=vI 0) rfl (dn (ZMn ?_)))))))
   have hN13:r19.length≤9223372036854775807:=Yw (hC.getP 0 rfl)
   refine Yi (S:=(List (List Int))) _ _ (fun i13 s13 e_ w_=>∃ (v13:Value),∃ (f12:List Nat),Zt e_ [(9,u10),(10,u11),(18,u17),(19,v13),(20,vI (i13:Int))]∧Ctx Nox w0 w_ [ZMy (ZR9 22 (ZR9 2 (eI.tr))) s13 [v13] f12,own 136 8 u11 r11.length ((EA .u8).encs r11),own 136 8 u10 r10.length ((EA .u8).encs r10)] [ZMg (ZOz.sl) r19 [u17] f14,ZMg ZM3.sl a0.images [u0_1] fp0,ZMg TInts a0.degrees [u0_0] fp0,ZMg TAlg a0 [u0_0,u0_1] fp0]) r19.length ?_ ?_ (s0:=[]) ?_ h
   ·clear hC h
    rintro i13 s13 e_ w48 nx13 K13 hi12 ⟨v13,f12,hS_,hC⟩ h hK13
    rw [ue hS_]
    refine ZMh (sr (Za (v:=vI (i13:Int)) rfl (Za (v:=u17) rfl (Zu hC 0 rfl ZXe rfl (Zn rfl rfl (dn (Z5 rfl (decide_eq_true (by omega)) (ZMl (Ze (ZMh (ZMn (Zh (Za (v:=v13) rfl (Za (v:=u17) rfl (Za (v:=vI (i13:Int)) rfl ?_)))))))))))))))
    obtain ⟨Ad15,c15,hv15⟩:=Zw (hC.getP 0 rfl) i13 hi12
    refine Yn (len:=r19.length) ZXe sc22.size (tr rfl hv15) rfl (ZMx _) (ZNf.2 hi12) ?_
    obtain ⟨cs_,hl12,hc12,hr12⟩:=Xg (hC.getP 0 rfl) hv15 i13 hi12
    obtain ⟨u30,rfl⟩:=ZNd.1 hl12
    clear hl12
    rw [Xd _ _ hi12] at hr12
    replace hC:=hC.derive 0 rfl (ZMg TInts (r19.getD i13 ZEo) [u30] f14) (fun _=>hr12) (fun _ hb_=>hb_)
    refine Yp (u30) hc12 sc22 rfl (Za (v:=u10) rfl (Zf [u30,u10] _ ZYm rfl rfl rfl (Zoe (r19.getD i13 ZEo) r10 h _ (hC.getP 0 rfl) (Ym (hC.getM 2 rfl))) ?_))
    rintro _ w49 ⟨r16,u19,f31,rfl,h,hr29,hf40,hB27⟩
    refine rt ?_
    replace hC:=hC.push hB27 (ZMy (Yj 162) r16 [u19] f31) hr29 hf40
    obtain ⟨ho24,hf41⟩:=X6 (hC.getM 0 rfl)
    subst hf41
    replace hC:=hC.recast (c:=own 162 9 u19 r16.terms.length (ZMi.encs r16.terms)) (fun _ h_=>h_) (fun _=>ho24)
    refine Za (v:=u11) rfl (Zf [.agg #[u19],u11] _ ZYf rfl rfl rfl (Ze1 r16 r11 h _ (Y3 (Ym (hC.getM 0 rfl))) (Ym (hC.getM 2 rfl))) ?_)
    rintro _ w50 ⟨r17,u14,f32,rfl,h,hr30,hf42,hB28⟩
    refine rt ?_
    replace hC:=hC.push hB28 (ZMy (ZR9 2 (eI.tr)) r17 [u14] f32) hr30 hf42
    obtain ⟨ho25,hf43⟩:=Yv (hC.getM 0 rfl).1
    subst hf43
    replace hC:=hC.recast (c:=own 2 1 u14 r17.length (eI.encs r17)) (fun _ h_=>h_) (fun _=>ho25)
    refine Ye (sz:=1) hC [(0,u14)] [u14] rfl (fun _=>Zae u14 (Zbc (hC.getM 0 rfl)) _) rfl (by decide) fun b12 w51 hB_ hC=>?_
    replace hC:=hC.pushM0 (Z9 (ZR9 2 (eI.tr)) [] [] []) (Jb _ _) rfl
    replace hC:=hC.sM [2,0,1,3,4,5,6] (M':=[own 2 1 u14 r17.length (eI.encs r17),Z9 (ZR9 2 (eI.tr)) [] [] [],own 22 1 (.slice (some ⟨b12,0,none⟩) 1 1) 1 [u14],own 162 9 u19 r16.terms.length (ZMi.encs r16.terms),ZMy (ZR9 22 (ZR9 2 (eI.tr))) s13 [v13] f12,own 136 8 u11 r11.length ((EA .u8).encs r11),own 136 8 u10 r10.length ((EA .u8).encs r10)]) (by decide) rfl
    replace hC:=hC.gather (c:=Z9 (ZR9 2 (eI.tr)) [r17] [u14] [(ZNg (ZFi u14))]) (fun x_ hx_=>Zbo hx_) (fun h1_ h2_ hd_=>Zbb (c:=[u14]) (id (Xf h1_)) h2_ hd_)
    replace hC:=hC.sM [1,0,2,3,4,5] (M':=[own 22 1 (.slice (some ⟨b12,0,none⟩) 1 1) 1 [u14],Z9 (ZR9 2 (eI.tr)) [r17] [u14] [(ZNg (ZFi u14))],own 162 9 u19 r16.terms.length (ZMi.encs r16.terms),ZMy (ZR9 22 (ZR9 2 (eI.tr))) s13 [v13] f12,own 136 8 u11 r11.length ((EA .u8).encs r11),own 136 8 u10 r10.length ((EA .u8).encs r10)]) (by decide) rfl
    replace hC:=hC.gather (c:=ZMy (ZR9 22 (ZR9 2 (eI.tr))) [r17] [.slice (some ⟨b12,0,none⟩) 1 1] ((ZNg (ZFi (.slice (some ⟨b12,0,none⟩) 1 1)))++([(ZNg (ZFi u14))]:List (List Nat)).flatten)) (fun x_ hx_=>ZEv.1 hx_) (fun h1_ h2_ hd_=>X1 h1_ h2_ hd_)
    replace hC:=hC.sM [2,0,1,3,4] (M':=[ZMy (ZR9 22 (ZR9 2 (eI.tr))) s13 [v13] f12,ZMy (ZR9 22 (ZR9 2 (eI.tr))) [r17] [.slice (some ⟨b12,0,none⟩) 1 1] ((ZNg (ZFi (.slice (some ⟨b12,0,none⟩) 1 1)))++([(ZNg (ZFi u14))]:List (List Nat)).flatten),own 162 9 u19 r16.terms.length (ZMi.encs r16.terms),own 136 8 u11 r11.length ((EA .u8).encs r11),own 136 8 u10 r10.length ((EA .u8).encs r10)]) (by decide) rfl
    obtain ⟨hm13,h⟩:=h
    refine Za4 hC ZXe Jz rfl (by decide) (by decide) rfl rfl hm13 fun v17 f33 w52 hC=>Zd (v:=v17) rfl (done (Zr (Ze (Zh (Za (v:=vI (i13:Int)) rfl (Zq rfl rfl (Zd (v:=vI (ZG5.wrap ((i13:Int)+1))) rfl (done ?_))))))))
    exact hK13 (s13++[r17]) _ _ ⟨v17,f33,(sl ⟨rfl,rfl,rfl,rfl,(tr rfl (congrArg _ (Z2 hi12 hN13))),trivial⟩),((hC.xM [0,2,3] rfl).sP [1,2,3,4] rfl)⟩ h
   ·clear hC h
    rintro s13 e_ w53 K13 ⟨v13,f12,hS_,hC⟩ h
    rw [ue hS_]
    refine ZMh (sr (Za (v:=vI (r19.length:Int)) rfl (Za (v:=u17) rfl (Zu hC 0 rfl ZXe rfl (Zn rfl rfl (dn (Z1 rfl (decide_eq_false (by omega)) ?_)))))))
    refine ZMv (Zj (Zj (Zx ?_)))
    refine Ze (sr (Za (v:=v13) rfl (Zd (v:=v13) rfl (dn (ZMp ?_)))))
    exact Zi rfl (Zg rfl) ⟨s13,v13,f12,rfl,h,(hC.getM 0 rfl),(Zai hC 0 rfl),hC.below⟩ (.inl rfl)
   ·skip
    exact⟨.slice (some ⟨b15,0,none⟩) 0 0,((ZNg (ZFi (.slice (some ⟨b15,0,none⟩) 0 0)))++([]:List (List Nat)).flatten),(slq rfl),(hC.xM [0,3,4] rfl)⟩
 ·skip
  exact⟨.slice (some ⟨b13,0,none⟩) 0 0,((ZNg (ZFi (.slice (some ⟨b13,0,none⟩) 0 0)))++([]:List (List Nat)).flatten),(slq rfl),hC⟩
def Zio (a0:Alg) (a1:List (List Int)) (a2:Int) (K:List (List Int)→Prop):Prop :=
 Zbx a0 0 a2 (fun r15=>Zbx a0 0 (ZG5.wrap (a2+1)) (fun r16=>Z8 (fun i10 (s10:(List (List Int))) nx10=>Zcw (a1.getD i10 ZEo) r15 (fun r10=>Zc7 (⟨a0.degrees,a0.images⟩:Alg) r10 (fun r11=>Zby r11 r16 (fun r12=>(Zy (s10.length+1) 24∧nx10 (s10++[r12])))))) (fun (s10:(List (List Int)))=>K s10) a1.length 0 []))
theorem ZAx (a0:Alg) (a1:List (List Int)) (a2:Int)  {K:List (List Int)→Prop} (h:Zio a0 a1 a2 K) (w0:World) (q0:TAlg.rep a0 [u0_0,u0_1] fp0 w0) (q1:(ZOz.sl).rep a1 [u1_0] fp1 w0) :
  Calls ZMk 111 #[.agg #[u0_0,u0_1],u1_0,vI a2] w0 fun e w'=>∃ (r0:List (List Int)) (z0_0:Value) (fz0:List Nat),
   e=.returned (z0_0)∧K r0∧(ZMy (ZR9 22 (ZR9 2 (eI.tr))) r0 [z0_0] fz0).holds w'∧(∀ b,b∈fz0→w0.heap.size≤b)∧Bel w0 w':=by
 unfold Zio at h
 refine cof Tryz.func111 rfl 39 Tryz.ntmps111 ?_
 have hC:=ZM2 (X:=Nox) w0 [ZMg TAlg a0 [u0_0,u0_1] fp0,ZMg (ZOz.sl) a1 [u1_0] fp1] (alc q0 (al1 q1))
 replace hC:=hC.dAlg 0 rfl
 refine sr (Yg (v:=.agg #[u0_0,u0_1]) hC [u0_0,u0_1] rfl rfl fun b5 w7 hB_ hC=>Zd (v:=.slice none 0 0) rfl (dn (ZMh ?_)))
 refine cwd 10 Yo [0,0,3,0,0,16,63,0,127,383,1023] [0,3] [1,4,5,8,9] (fun hM9 hM10 w8 hB_=>?_)
 replace hC:=hC.grow hB_
 refine bL 0 (.agg #[u0_0,u0_1]) rfl rfl hM9 (fun _ hB_=>by exact Xa (hC.grow hB_) 0 [u0_0,u0_1] rfl ag32 rfl rfl rfl) (Zc 11 1) (bM 1 (vI a2) rfl hM10 (Zc 11 3) (bL 3 (.agg #[u0_0,u0_1]) rfl rfl hM9 (fun _ hB_=>by exact Xa (hC.grow hB_) 0 [u0_0,u0_1] rfl ag32 rfl rfl rfl) (Zc 11 11) (bM 4 (vI a2) rfl hM10 (Zc 11 27) (bF 5 (vI (ZG5.wrap (a2+1))) rfl rfl hM10 (fun _=>by exact Zb6 rfl rfl) (Zc 11 59) ?_))))
 refine Zdn (fun e_ w_=>∃ (b10:Nat),∃ (u11:Value),∃ (r13:List A8),∃ (u12:Value),∃ (r14:List A8),Zt e_ [(1,u1_0),(3,vQ b5),(7,u12),(8,u11),(9,.slice (some ⟨b10,0,none⟩) 0 0)]∧Ctx Nox w0 w_ [ZMy (ZR9 22 (ZR9 2 (eI.tr))) [] [.slice (some ⟨b10,0,none⟩) 0 0] ((ZNg (ZFi (.slice (some ⟨b10,0,none⟩) 0 0)))++([]:List (List Nat)).flatten),own 136 8 u11 r13.length ((EA .u8).encs r13),own 136 8 u12 r14.length ((EA .u8).encs r14),blk b5 32 [u0_0,u0_1]] [ZMg ZM3.sl a0.images [u0_1] fp0,ZMg TInts a0.degrees [u0_0] fp0,ZMg TAlg a0 [u0_0,u0_1] fp0,ZMg (ZOz.sl) a1 [u1_0] fp1]∧(Z8 (fun i10 (s10:(List (List Int))) nx10=>Zcw (a1.getD i10 ZEo) r14 (fun r10=>Zc7 (⟨a0.degrees,a0.images⟩:Alg) r10 (fun r11=>Zby r11 r13 (fun r12=>(Zy (s10.length+1) 24∧nx10 (s10++[r12])))))) (fun (s10:(List (List Int)))=>K s10) a1.length 0 [])) ?_ ?_
 ·clear hC h
  rintro e_ w10 ⟨b10,u11,r13,u12,r14,hS_,hC,h⟩
  rw [ue hS_]
  refine Ze (ZMh (sr (Zd (v:=vI 0) rfl (dn (ZMn ?_)))))
  have hN10:a1.length≤9223372036854775807:=Yw (hC.getP 3 rfl)
  refine Yi (S:=(List (List Int))) _ _ (fun i10 s10 e_ w_=>∃ (v10:Value),∃ (f10:List Nat),Zt e_ [(1,u1_0),(3,vQ b5),(7,u12),(8,u11),(9,v10),(10,vI (i10:Int))]∧Ctx Nox w0 w_ [ZMy (ZR9 22 (ZR9 2 (eI.tr))) s10 [v10] f10,own 136 8 u11 r13.length ((EA .u8).encs r13),own 136 8 u12 r14.length ((EA .u8).encs r14),blk b5 32 [u0_0,u0_1]] [ZMg ZM3.sl a0.images [u0_1] fp0,ZMg TInts a0.degrees [u0_0] fp0,ZMg TAlg a0 [u0_0,u0_1] fp0,ZMg (ZOz.sl) a1 [u1_0] fp1]) a1.length ?_ ?_ (s0:=[]) ?_ h
  ·clear hC h
   rintro i10 s10 e_ w11 nx10 K10 hi10 ⟨v10,f10,hS_,hC⟩ h hK10
   rw [ue hS_]
   refine ZMh (sr (Za (v:=vI (i10:Int)) rfl (Za (v:=u1_0) rfl (Zu hC 3 rfl ZXe rfl (Zn rfl rfl (dn (Z5 rfl (decide_eq_true (by omega)) (ZMl (Ze (ZMh (ZMn ?_)))))))))))
   refine cwd 12 Yo [0,0,0,0,12,28,0,124,254,0,1022,2046,4095,8191] [1,4,5] [0,2,3,6,9] (fun hM12 hM11 w12 hB_=>?_)
   replace hC:=hC.grow hB_
   refine bM 0 (v10) rfl hM11 (Zc 14 1) (bL 1 (.agg #[u0_0,u0_1]) rfl rfl hM12 (fun _ hB_=>by exact Xa (hC.grow hB_) 3 [u0_0,u0_1] rfl ag32 rfl rfl rfl) (Zc 14 3) (bM 2 (u1_0) rfl hM11 (Zc 14 7) (bM 3 (vI (i10:Int)) rfl hM11 (Zc 14 15) ?_)))
   obtain ⟨Ad10,c10,hv10⟩:=Zw (hC.getP 3 rfl) i10 hi10
   refine bL 4 (.pointer (some (Ad10.add (i10 * 1)))) rfl rfl hM12 (fun _ hB_=>by exact Y2 (len:=a1.length) ZXe sc22.size (by exact tr rfl hv10) rfl (ZMx _) (ZNf.2 hi10)) (Zc 14 31) ?_
   obtain ⟨cs_,hl10,hc10,hr10⟩:=Xg (hC.getP 3 rfl) hv10 i10 hi10
   obtain ⟨u16,rfl⟩:=ZNd.1 hl10
   clear hl10
   rw [Xd _ _ hi10] at hr10
   replace hC:=hC.derive 3 rfl (ZMg TInts (a1.getD i10 ZEo) [u16] fp1) (fun _=>hr10) (fun _ hb_=>hb_)
   refine bL 5 (u16) rfl rfl hM12 (fun _ hB_=>by exact Xn (u16) (Zay hB_ hc10) sc22 rfl) (Zc 14 63) (bM 6 (u12) rfl hM11 (Zc 14 127) (bM 9 (u11) rfl hM11 (Zc 14 639) (aO 7 rfl (Zf [u16,u12] _ ZYm rfl rfl rfl (Zoe (a1.getD i10 ZEo) r14 h _ (hC.getP 0 rfl) (Ym (hC.getM 2 rfl))) ?_))))
   rintro _ w13 ⟨r10,u13,f11,rfl,h,hr11,hf10,hB10⟩
   refine rt ?_
   replace hC:=hC.push hB10 (ZMy (Yj 162) r10 [u13] f11) hr11 hf10
   obtain ⟨ho10,hf11⟩:=X6 (hC.getM 0 rfl)
   subst hf11
   replace hC:=hC.recast (c:=own 162 9 u13 r10.terms.length (ZMi.encs r10.terms)) (fun _ h_=>h_) (fun _=>ho10)
   refine done (aK (by assumption) (Zc 14 767) (aO 8 rfl (Zf [.agg #[u0_0,u0_1],.agg #[u13]] _ ZYn rfl rfl rfl (Zhb (⟨a0.degrees,a0.images⟩:Alg) r10 h _ (Yk (hC.getP 2 rfl) (hC.getP 1 rfl)) (Y3 (Ym (hC.getM 0 rfl)))) ?_)))
   rintro _ w14 ⟨r11,u14,f12,rfl,h,hr12,hf12,hB11⟩
   refine rt ?_
   replace hC:=hC.push hB11 (ZMy (Yj 162) r11 [u14] f12) hr12 hf12
   obtain ⟨ho11,hf13⟩:=X6 (hC.getM 0 rfl)
   subst hf13
   replace hC:=hC.recast (c:=own 162 9 u14 r11.terms.length (ZMi.encs r11.terms)) (fun _ h_=>h_) (fun _=>ho11)
   refine done (aK (by assumption) (Zc 14 1023) (aO 10 rfl (Zf [.agg #[u14],u11] _ ZYf rfl rfl rfl (Ze1 r11 r13 h _ (Y3 (Ym (hC.getM 0 rfl))) (Ym (hC.getM 3 rfl))) ?_)))
   rintro _ w15 ⟨r12,u10,f13,rfl,h,hr13,hf14,hB12⟩
   refine rt ?_
   replace hC:=hC.push hB12 (ZMy (ZR9 2 (eI.tr)) r12 [u10] f13) hr13 hf14
   obtain ⟨ho12,hf15⟩:=Yv (hC.getM 0 rfl).1
   subst hf15
   replace hC:=hC.recast (c:=own 2 1 u10 r12.length (eI.encs r12)) (fun _ h_=>h_) (fun _=>ho12)
   refine done (aK (by assumption) (Zc 14 2047) (aO 11 rfl (Ye (sz:=1) hC [(0,u10)] [u10] rfl (fun _=>Zae u10 (Zbc (hC.getM 0 rfl)) _) rfl (by decide) fun b11 w16 hB_ hC=>?_)))
   replace hC:=hC.pushM0 (Z9 (ZR9 2 (eI.tr)) [] [] []) (Jb _ _) rfl
   replace hC:=hC.sM [2,0,1,3,4,5,6,7,8] (M':=[own 2 1 u10 r12.length (eI.encs r12),Z9 (ZR9 2 (eI.tr)) [] [] [],own 22 1 (.slice (some ⟨b11,0,none⟩) 1 1) 1 [u10],own 162 9 u14 r11.terms.length (ZMi.encs r11.terms),own 162 9 u13 r10.terms.length (ZMi.encs r10.terms),ZMy (ZR9 22 (ZR9 2 (eI.tr))) s10 [v10] f10,own 136 8 u11 r13.length ((EA .u8).encs r13),own 136 8 u12 r14.length ((EA .u8).encs r14),blk b5 32 [u0_0,u0_1]]) (by decide) rfl
   replace hC:=hC.gather (c:=Z9 (ZR9 2 (eI.tr)) [r12] [u10] [(ZNg (ZFi u10))]) (fun x_ hx_=>Zbo hx_) (fun h1_ h2_ hd_=>Zbb (c:=[u10]) (id (Xf h1_)) h2_ hd_)
   replace hC:=hC.sM [1,0,2,3,4,5,6,7] (M':=[own 22 1 (.slice (some ⟨b11,0,none⟩) 1 1) 1 [u10],Z9 (ZR9 2 (eI.tr)) [r12] [u10] [(ZNg (ZFi u10))],own 162 9 u14 r11.terms.length (ZMi.encs r11.terms),own 162 9 u13 r10.terms.length (ZMi.encs r10.terms),ZMy (ZR9 22 (ZR9 2 (eI.tr))) s10 [v10] f10,own 136 8 u11 r13.length ((EA .u8).encs r13),own 136 8 u12 r14.length ((EA .u8).encs r14),blk b5 32 [u0_0,u0_1]]) (by decide) rfl
   replace hC:=hC.gather (c:=ZMy (ZR9 22 (ZR9 2 (eI.tr))) [r12] [.slice (some ⟨b11,0,none⟩) 1 1] ((ZNg (ZFi (.slice (some ⟨b11,0,none⟩) 1 1)))++([(ZNg (ZFi u10))]:List (List Nat)).flatten)) (fun x_ hx_=>ZEv.1 hx_) (fun h1_ h2_ hd_=>X1 h1_ h2_ hd_)
   refine done (aK (by assumption) (Zc 14 4095) (Z6 12 (by decide) (by decide) (by kernel_rfl) (by kernel_rfl) rfl ?_))
   replace hC:=hC.sM [3,0,1,2,4,5,6] (M':=[ZMy (ZR9 22 (ZR9 2 (eI.tr))) s10 [v10] f10,ZMy (ZR9 22 (ZR9 2 (eI.tr))) [r12] [.slice (some ⟨b11,0,none⟩) 1 1] ((ZNg (ZFi (.slice (some ⟨b11,0,none⟩) 1 1)))++([(ZNg (ZFi u10))]:List (List Nat)).flatten),own 162 9 u14 r11.terms.length (ZMi.encs r11.terms),own 162 9 u13 r10.terms.length (ZMi.encs r10.terms),own 136 8 u11 r13.length ((EA .u8).encs r13),own 136 8 u12 r14.length ((EA .u8).encs r14),blk b5 32 [u0_0,u0_1]]) (by decide) rfl
   obtain ⟨hm10,h⟩:=h
   refine Za4 hC ZXe Jz rfl (by decide) (by decide) rfl rfl hm10 fun v11 f14 w17 hC=>Zd (v:=v11) rfl (done (Z7 (Zr (Ze (Zh (Za (v:=vI (i10:Int)) rfl (Zq rfl rfl (Zd (v:=vI (ZG5.wrap ((i10:Int)+1))) rfl (done ?_)))))))))
   exact hK10 (s10++[r12]) _ _ ⟨v11,f14,(sl ⟨rfl,rfl,rfl,rfl,rfl,(tr rfl (congrArg _ (Z2 hi10 hN10))),trivial⟩),((hC.xM [0,3,4,5] rfl).sP [1,2,3,4] rfl)⟩ h
  ·clear hC h
   rintro s10 e_ w18 K10 ⟨v10,f10,hS_,hC⟩ h
   rw [ue hS_]
   refine ZMh (sr (Za (v:=vI (a1.length:Int)) rfl (Za (v:=u1_0) rfl (Zu hC 3 rfl ZXe rfl (Zn rfl rfl (dn (Z1 rfl (decide_eq_false (by omega)) ?_)))))))
   refine ZMv (Zj (Zj (Zx ?_)))
   refine Ze (sr (Za (v:=v10) rfl (Zd (v:=v10) rfl (dn (ZMp ?_)))))
   exact Zi rfl (Zg rfl) ⟨s10,v10,f10,rfl,h,(hC.getM 0 rfl),(Zai hC 0 rfl),hC.below⟩ (.inl rfl)
  ·skip
   exact⟨.slice (some ⟨b10,0,none⟩) 0 0,((ZNg (ZFi (.slice (some ⟨b10,0,none⟩) 0 0)))++([]:List (List Nat)).flatten),(slq rfl),hC⟩
 refine Ju 2 7 rfl rfl (by kernel_rfl) ?_ ?_
 ·skip
  refine Zf [.agg #[u0_0,u0_1],vI 0,vI a2] _ ZYb rfl rfl rfl (Zcg a0 0 a2 h _ (Yk (hC.getP 1 rfl) (hC.getP 0 rfl))) ?_
  rintro _ w19 ⟨r15,u15,f15,rfl,h,hr14,hf16,hB13⟩
  refine rt ?_
  replace hC:=hC.push hB13 (ZMy (ZR9 136 ((EA .u8).tr)) r15 [u15] f15) hr14 hf16
  obtain ⟨ho13,hf17⟩:=Yv (hC.getM 0 rfl).1
  subst hf17
  replace hC:=hC.recast (c:=own 136 8 u15 r15.length ((EA .u8).encs r15)) (fun _ h_=>h_) (fun _=>ho13)
  refine done (aK (by assumption) (Zc 11 63) ?_)
  refine Ju 6 7 rfl rfl (by kernel_rfl) ?_ ?_
  ·skip
   refine Zf [.agg #[u0_0,u0_1],vI 0,vI (ZG5.wrap (a2+1))] _ ZYb rfl rfl rfl (Zcg a0 0 (ZG5.wrap (a2+1)) h _ (Yk (hC.getP 1 rfl) (hC.getP 0 rfl))) ?_
   rintro _ w20 ⟨r16,u17,f16,rfl,h,hr15,hf18,hB14⟩
   refine rt ?_
   replace hC:=hC.push hB14 (ZMy (ZR9 136 ((EA .u8).tr)) r16 [u17] f16) hr15 hf18
   obtain ⟨ho14,hf19⟩:=Yv (hC.getM 0 rfl).1
   subst hf19
   replace hC:=hC.recast (c:=own 136 8 u17 r16.length ((EA .u8).encs r16)) (fun _ h_=>h_) (fun _=>ho14)
   refine done (aK (by assumption) (Zc 11 127) (bA 8 (u15) rfl hM10 (Zc 11 383) (bA 9 (u17) rfl hM10 (Zc 11 895) (aO 7 rfl (Ye (sz:=1) hC [] [] rfl (fun _=>Zak _) rfl (by decide) fun b12 w21 hB_ hC=>?_)))))
   replace hC:=hC.pushM0 (Z9 (ZR9 2 (eI.tr)) ([]:List (List Int)) [] []) (Jb _ _) rfl
   replace hC:=hC.gather (c:=ZMy (ZR9 22 (ZR9 2 (eI.tr))) [] [.slice (some ⟨b12,0,none⟩) 0 0] ((ZNg (ZFi (.slice (some ⟨b12,0,none⟩) 0 0)))++([]:List (List Nat)).flatten)) (fun x_ hx_=>(ZEv.1 hx_).symm) (fun h1_ h2_ hd_=>X1 h2_ h1_ (fun b_ hb_ hb2_=>hd_ b_ hb2_ hb_))
   refine done (aK (by assumption) (Zc 11 1023) (Z6 10 (by decide) (by decide) (by kernel_rfl) (by kernel_rfl) rfl (Zd (v:=.slice (some ⟨b12,0,none⟩) 0 0) rfl (done (Z7 ?_)))))
   exact⟨rfl,_,rfl,⟨b12,u17,r16,u15,r15,(slq rfl),hC,h⟩⟩
  ·skip
   refine Ye (sz:=1) hC [] [] rfl (fun _=>Zak _) rfl (by decide) fun b13 w22 hB_ hC=>?_
   replace hC:=hC.pushM0 (Z9 (ZR9 2 (eI.tr)) ([]:List (List Int)) [] []) (Jb _ _) rfl
   replace hC:=hC.gather (c:=ZMy (ZR9 22 (ZR9 2 (eI.tr))) [] [.slice (some ⟨b13,0,none⟩) 0 0] ((ZNg (ZFi (.slice (some ⟨b13,0,none⟩) 0 0)))++([]:List (List Nat)).flatten)) (fun x_ hx_=>(ZEv.1 hx_).symm) (fun h1_ h2_ hd_=>X1 h2_ h1_ (fun b_ hb_ hb2_=>hd_ b_ hb2_ hb_))
   refine done (aK (by assumption) (Zc 11 191) (aO 6 rfl (Zf [.agg #[u0_0,u0_1],vI 0,vI (ZG5.wrap (a2+1))] _ ZYb rfl rfl rfl (Zcg a0 0 (ZG5.wrap (a2+1)) h _ (Yk (hC.getP 1 rfl) (hC.getP 0 rfl))) ?_)))
   rintro _ w23 ⟨r17,u18,f17,rfl,h,hr16,hf20,hB15⟩
   refine rt ?_
   replace hC:=hC.push hB15 (ZMy (ZR9 136 ((EA .u8).tr)) r17 [u18] f17) hr16 hf20
   obtain ⟨ho15,hf21⟩:=Yv (hC.getM 0 rfl).1
   subst hf21
   replace hC:=hC.recast (c:=own 136 8 u18 r17.length ((EA .u8).encs r17)) (fun _ h_=>h_) (fun _=>ho15)
   refine done (aK (by assumption) (Zc 11 255) (bA 8 (u15) rfl hM10 (Zc 11 511) (bA 9 (u18) rfl hM10 (Zc 11 1023) (Z6 10 (by decide) (by decide) (by kernel_rfl) (by kernel_rfl) rfl (Zd (v:=.slice (some ⟨b13,0,none⟩) 0 0) rfl (done (Z7 ?_)))))))
   exact⟨rfl,_,rfl,⟨b13,u18,r17,u15,r15,(slq rfl),(hC.xM [1,0,2,3] rfl),h⟩⟩
 ·skip
  refine Ye (sz:=1) hC [] [] rfl (fun _=>Zak _) rfl (by decide) fun b14 w24 hB_ hC=>?_
  replace hC:=hC.pushM0 (Z9 (ZR9 2 (eI.tr)) ([]:List (List Int)) [] []) (Jb _ _) rfl
  replace hC:=hC.gather (c:=ZMy (ZR9 22 (ZR9 2 (eI.tr))) [] [.slice (some ⟨b14,0,none⟩) 0 0] ((ZNg (ZFi (.slice (some ⟨b14,0,none⟩) 0 0)))++([]:List (List Nat)).flatten)) (fun x_ hx_=>(ZEv.1 hx_).symm) (fun h1_ h2_ hd_=>X1 h2_ h1_ (fun b_ hb_ hb2_=>hd_ b_ hb2_ hb_))
  refine done (aK (by assumption) (Zc 11 187) (aO 2 rfl (Zf [.agg #[u0_0,u0_1],vI 0,vI a2] _ ZYb rfl rfl rfl (Zcg a0 0 a2 h _ (Yk (hC.getP 1 rfl) (hC.getP 0 rfl))) ?_)))
  rintro _ w25 ⟨r18,u19,f18,rfl,h,hr17,hf22,hB16⟩
  refine rt ?_
  replace hC:=hC.push hB16 (ZMy (ZR9 136 ((EA .u8).tr)) r18 [u19] f18) hr17 hf22
  obtain ⟨ho16,hf23⟩:=Yv (hC.getM 0 rfl).1
  subst hf23
  replace hC:=hC.recast (c:=own 136 8 u19 r18.length ((EA .u8).encs r18)) (fun _ h_=>h_) (fun _=>ho16)
  refine done (aK (by assumption) (Zc 11 191) (aO 6 rfl (Zf [.agg #[u0_0,u0_1],vI 0,vI (ZG5.wrap (a2+1))] _ ZYb rfl rfl rfl (Zcg a0 0 (ZG5.wrap (a2+1)) h _ (Yk (hC.getP 1 rfl) (hC.getP 0 rfl))) ?_)))
  rintro _ w26 ⟨r19,u20,f19,rfl,h,hr18,hf24,hB17⟩
  refine rt ?_
  replace hC:=hC.push hB17 (ZMy (ZR9 136 ((EA .u8).tr)) r19 [u20] f19) hr18 hf24
  obtain ⟨ho17,hf25⟩:=Yv (hC.getM 0 rfl).1
  subst hf25
  replace hC:=hC.recast (c:=own 136 8 u20 r19.length ((EA .u8).encs r19)) (fun _ h_=>h_) (fun _=>ho17)
  refine done (aK (by assumption) (Zc 11 255) (bA 8 (u19) rfl hM10 (Zc 11 511) (bA 9 (u20) rfl hM10 (Zc 11 1023) (Z6 10 (by decide) (by decide) (by kernel_rfl) (by kernel_rfl) rfl (Zd (v:=.slice (some ⟨b14,0,none⟩) 0 0) rfl (done (Z7 ?_)))))))
  exact⟨rfl,_,rfl,⟨b14,u20,r19,u19,r18,(slq rfl),(hC.xM [2,0,1,3] rfl),h⟩⟩
def Zip (a0:Alg) (a1:Int) (a2:Int) (a3:Int) (K:Int→Prop):Prop :=
 (if a1=0 then Zbx a0 a2 a3 (fun r11=>Zbx a0 (ZG5.wrap (a2+1)) a3 (fun r12=>K (ZG5.wrap ((r11.length:Int) - (r12.length:Int))))) else Zdg a0 (ZG5.wrap (a1 - 1)) (ZG5.wrap (a2+1)) a3 (fun r10=>(if a3 > 0 then Zdg a0 (ZG5.wrap (a1 - 1)) (ZG5.wrap ((ZG5.wrap (a2 - a1))+1)) (ZG5.wrap (a3 - 1)) (fun r14=>Zio a0 r14 (ZG5.wrap (a3 - 1)) (fun r13=>(Zy (r10.length+r13.length) 24∧Zdg a0 a1 a2 a3 (fun r15=>Zbw r15 (fun r16=>Zbw (r10++r13) (fun r17=>K (ZG5.wrap ((r16.length:Int) - (r17.length:Int))))))))) else Zdg a0 a1 a2 a3 (fun r18=>Zbw r18 (fun r19=>Zbw r10 (fun r20=>K (ZG5.wrap ((r19.length:Int) - (r20.length:Int)))))))))
theorem ZAy (a0:Alg) (a1:Int) (a2:Int) (a3:Int)  {K:Int→Prop} (h:Zip a0 a1 a2 a3 K) (w0:World) (q0:TAlg.rep a0 [u0_0,u0_1] fp0 w0) :
  Calls ZMk 61 #[.agg #[u0_0,u0_1],vI a1,vI a2,vI a3] w0 fun e w'=>∃ (r0:Int),
   e=.returned (vI r0)∧K r0∧Bel w0 w':=by
 unfold Zip at h
 refine cof Tryz.func61 rfl 60 Tryz.ntmps61 ?_
 have hC:=ZM2 (X:=Nox) w0 [ZMg TAlg a0 [u0_0,u0_1] fp0] (al1 q0)
 replace hC:=hC.dAlg 0 rfl
 refine sr (Yg (v:=.agg #[u0_0,u0_1]) hC [u0_0,u0_1] rfl rfl fun b4 w6 hB_ hC=>Zd (v:=vI 0) rfl (dn (ZMh (sr (Za (v:=vI a1) rfl (Xx rfl rfl (dn ?_)))))))
 refine Zs rfl (fun hb7=>?_) (fun hb7=>?_)
 ·replace h:=ift h (ct hb7)
  refine ZMh ?_
  refine cwd 11 Yo [0,0,0,7,15,0,0,64,0,495,1007,2047,4095] [0,4,5,10] [1,2,6,7,8] (fun hM9 hM11 w8 hB_=>?_)
  replace hC:=hC.grow hB_
  refine bL 0 (.agg #[u0_0,u0_1]) rfl rfl hM9 (fun _ hB_=>by exact Xa (hC.grow hB_) 0 [u0_0,u0_1] rfl ag32 rfl rfl rfl) (Zc 13 1) (bM 1 (vI a2) rfl hM11 (Zc 13 3) (bM 2 (vI a3) rfl hM11 (Zc 13 7) (bL 5 (.agg #[u0_0,u0_1]) rfl rfl hM9 (fun _ hB_=>by exact Xa (hC.grow hB_) 0 [u0_0,u0_1] rfl ag32 rfl rfl rfl) (Zc 13 39) (bM 6 (vI a2) rfl hM11 (Zc 13 103) (bF 7 (vI (ZG5.wrap (a2+1))) rfl rfl hM11 (fun _=>by exact Zb6 rfl rfl) (Zc 13 231) (bM 8 (vI a3) rfl hM11 (Zc 13 487) (aO 3 rfl (Zf [.agg #[u0_0,u0_1],vI a2,vI a3] _ ZYb rfl rfl rfl (Zcg a0 a2 a3 h _ (Yk (hC.getP 1 rfl) (hC.getP 0 rfl))) ?_))))))))
  rintro _ w10 ⟨r11,u14,f19,rfl,h,hr10,hf14,hB10⟩
  refine rt ?_
  replace hC:=hC.push hB10 (ZMy (ZR9 136 ((EA .u8).tr)) r11 [u14] f19) hr10 hf14
  obtain ⟨ho10,hf15⟩:=Yv (hC.getM 0 rfl).1
  subst hf15
  replace hC:=hC.recast (c:=own 136 8 u14 r11.length ((EA .u8).encs r11)) (fun _ h_=>h_) (fun _=>ho10)
  refine done (aK (by assumption) (Zc 13 495) (bL 4 (vI (r11.length:Int)) rfl rfl hM9 (fun _ hB_=>by exact Zj8 (hC.grow hB_) 0 rfl ZX9 rfl) (Zc 13 511) (aO 9 rfl (Zf [.agg #[u0_0,u0_1],vI (ZG5.wrap (a2+1)),vI a3] _ ZYb rfl rfl rfl (Zcg a0 (ZG5.wrap (a2+1)) a3 h _ (Yk (hC.getP 1 rfl) (hC.getP 0 rfl))) ?_))))
  rintro _ w11 ⟨r12,u15,f20,rfl,h,hr11,hf16,hB11⟩
  refine rt ?_
  replace hC:=hC.push hB11 (ZMy (ZR9 136 ((EA .u8).tr)) r12 [u15] f20) hr11 hf16
  obtain ⟨ho11,hf17⟩:=Yv (hC.getM 0 rfl).1
  subst hf17
  replace hC:=hC.recast (c:=own 136 8 u15 r12.length ((EA .u8).encs r12)) (fun _ h_=>h_) (fun _=>ho11)
  refine done (aK (by assumption) (Zc 13 1023) (bL 10 (vI (r12.length:Int)) rfl rfl hM9 (fun _ hB_=>by exact Zj8 (hC.grow hB_) 0 rfl ZX9 rfl) (Zc 13 2047) (Z6 11 (by decide) (by decide) (by kernel_rfl) (by kernel_rfl) rfl (X3 rfl rfl (Zd (v:=vI (ZG5.wrap ((r11.length:Int) - (r12.length:Int)))) rfl (done (Z7 (Ze ?_))))))))
  refine ZMp (Zm ?_)
  exact Zi rfl (Zg rfl) ⟨ZG5.wrap ((r11.length:Int) - (r12.length:Int)),rfl,h,hC.below⟩ (.inl rfl)
 ·replace h:=Zk h (cf hb7)
  refine ZMl (Ze (sr (Yq hC 0 [u0_0,u0_1] rfl ag32 rfl rfl rfl (Za (v:=vI a1) rfl (X3 rfl rfl (Za (v:=vI a2) rfl (Zq rfl rfl (Za (v:=vI a3) rfl (Zf [.agg #[u0_0,u0_1],vI (ZG5.wrap (a1 - 1)),vI (ZG5.wrap (a2+1)),vI a3] _ ZYj rfl rfl rfl (Zlb a0 (ZG5.wrap (a1 - 1)) (ZG5.wrap (a2+1)) a3 h _ (Yk (hC.getP 1 rfl) (hC.getP 0 rfl))) ?_)))))))))
  rintro _ w12 ⟨r10,u10,f10,rfl,h,hr12,hf18,hB12⟩
  refine rt ?_
  replace hC:=hC.push hB12 (ZMy (ZR9 22 (ZR9 2 (eI.tr))) r10 [u10] f10) hr12 hf18
  refine Zd (v:=u10) rfl (dn (ZMh (sr (Za (v:=vI a3) rfl (Jh rfl rfl (dn ?_))))))
  refine Zs rfl (fun hb10=>?_) (fun hb10=>?_)
  ·replace h:=ift h (ct hb10)
   refine cwd 15 Yo [0,0,0,0,8,0,0,96,224,0,512,2044,0,4096,16382,32767,65535] [1,2] [0,3,4,5,6,7,8,9,10,12,13] (fun hM12 hM10 w13 hB_=>?_)
   replace hC:=hC.grow hB_
   refine bM 0 (u10) rfl hM10 (Zc 17 1) (bL 1 (.agg #[u0_0,u0_1]) rfl rfl hM12 (fun _ hB_=>by exact Xa (hC.grow hB_) 1 [u0_0,u0_1] rfl ag32 rfl rfl rfl) (Zc 17 3) (bL 2 (.agg #[u0_0,u0_1]) rfl rfl hM12 (fun _ hB_=>by exact Xa (hC.grow hB_) 1 [u0_0,u0_1] rfl ag32 rfl rfl rfl) (Zc 17 7) (bM 3 (vI a1) rfl hM10 (Zc 17 15) (bF 4 (vI (ZG5.wrap (a1 - 1))) rfl rfl hM10 (fun _=>by exact Zc0 rfl rfl) (Zc 17 31) (bM 5 (vI a2) rfl hM10 (Zc 17 63) (bM 6 (vI a1) rfl hM10 (Zc 17 127) (bF 7 (vI (ZG5.wrap (a2 - a1))) rfl rfl hM10 (fun _=>by exact Zc0 rfl rfl) (Zc 17 255) (bF 8 (vI (ZG5.wrap ((ZG5.wrap (a2 - a1))+1))) rfl rfl hM10 (fun _=>by exact Zb6 rfl rfl) (Zc 17 511) (bM 9 (vI a3) rfl hM10 (Zc 17 1023) (bF 10 (vI (ZG5.wrap (a3 - 1))) rfl rfl hM10 (fun _=>by exact Zc0 rfl rfl) (Zc 17 2047) (bM 12 (vI a3) rfl hM10 (Zc 17 6143) (bF 13 (vI (ZG5.wrap (a3 - 1))) rfl rfl hM10 (fun _=>by exact Zc0 rfl rfl) (Zc 17 14335) (aO 11 rfl (Zf [.agg #[u0_0,u0_1],vI (ZG5.wrap (a1 - 1)),vI (ZG5.wrap ((ZG5.wrap (a2 - a1))+1)),vI (ZG5.wrap (a3 - 1))] _ ZYj rfl rfl rfl (Zlb a0 (ZG5.wrap (a1 - 1)) (ZG5.wrap ((ZG5.wrap (a2 - a1))+1)) (ZG5.wrap (a3 - 1)) h _ (Yk (hC.getP 1 rfl) (hC.getP 0 rfl))) ?_))))))))))))))
   rintro _ w14 ⟨r14,u11,f11,rfl,h,hr13,hf19,hB13⟩
   refine rt ?_
   replace hC:=hC.push hB13 (ZMy (ZR9 22 (ZR9 2 (eI.tr))) r14 [u11] f11) hr13 hf19
   refine done (aK (by assumption) (Zc 17 16383) (aO 14 rfl (Zf [.agg #[u0_0,u0_1],u11,vI (ZG5.wrap (a3 - 1))] _ Tryz.func111 rfl rfl rfl (ZAx a0 r14 (ZG5.wrap (a3 - 1)) h _ (Yk (hC.getP 1 rfl) (hC.getP 0 rfl)) (ZYd _ (hC.getM 0 rfl).1)) ?_)))
   rintro _ w15 ⟨r13,u16,f12,rfl,h,hr14,hf20,hB14⟩
   refine rt ?_
   replace hC:=hC.push hB14 (ZMy (ZR9 22 (ZR9 2 (eI.tr))) r13 [u16] f12) hr14 hf20
   refine done (aK (by assumption) (Zc 17 32767) (Z6 15 (by decide) (by decide) (by kernel_rfl) (by kernel_rfl) rfl ?_))
   replace hC:=hC.sM [2,0,1,3] (M':=[ZMy (ZR9 22 (ZR9 2 (eI.tr))) r10 [u10] f10,ZMy (ZR9 22 (ZR9 2 (eI.tr))) r13 [u16] f12,ZMy (ZR9 22 (ZR9 2 (eI.tr))) r14 [u11] f11,blk b4 32 [u0_0,u0_1]]) (by decide) rfl
   obtain ⟨hm10,h⟩:=h
   refine Za4 hC ZXe Jz rfl (by decide) (by decide) rfl rfl hm10 fun v10 f21 w16 hC=>Zd (v:=v10) rfl (done (Z7 (Ze (sr (Yq hC 2 [u0_0,u0_1] rfl ag32 rfl rfl rfl (Za (v:=vI a1) rfl (Za (v:=vI a2) rfl (Za (v:=vI a3) rfl (Zf [.agg #[u0_0,u0_1],vI a1,vI a2,vI a3] _ ZYj rfl rfl rfl (Zlb a0 a1 a2 a3 h _ (Yk (hC.getP 1 rfl) (hC.getP 0 rfl))) ?_)))))))))
   rintro _ w17 ⟨r15,u12,f13,rfl,h,hr15,hf21,hB15⟩
   refine rt ?_
   replace hC:=hC.push hB15 (ZMy (ZR9 22 (ZR9 2 (eI.tr))) r15 [u12] f13) hr15 hf21
   have hs10:=Zai hC 0 rfl
   replace hC:=hC.thaw 0 rfl (ZMg (ZOz.sl) r15 [u12] f13) (fun h_=>ZYd _ h_.1) (fun _ hb_=>hb_)
   refine Zf [u12] _ ZYg rfl rfl rfl (Zf5 r15 h _ (hC.getP 0 rfl)) ?_
   rintro _ w18 ⟨r16,u17,f14,rfl,h,hr16,hf10,hB16⟩
   refine rt ?_
   have hs14:∀ b,b∈f14→w0.heap.size≤b:=(fun b hb=>(hf10 b hb).elim (fun h_=>ZEp hC.size h_) (fun hb=>hs10 b hb))
   replace hC:=hC.pushR hB16 (ZMg (ZOz.sl) r16 [u17] f14) hr16 (fun b hb=>(hf10 b hb).elim .inl (fun hb=>.inr (⟨_,mg 0 rfl,hb⟩)))
   refine Zu hC 0 rfl ZXe rfl (Za (v:=v10) rfl ?_)
   have hs11:=Zai hC 0 rfl
   replace hC:=hC.thaw 0 rfl (ZMg (ZOz.sl) (r10++r13) [v10] f21) (fun h_=>ZYd _ h_.1) (fun _ hb_=>hb_)
   refine Zf [v10] _ ZYg rfl rfl rfl (Zf5 (r10++r13) h _ (hC.getP 0 rfl)) ?_
   rintro _ w19 ⟨r17,u18,f15,rfl,h,hr17,hf11,hB17⟩
   refine rt ?_
   have hs15:∀ b,b∈f15→w0.heap.size≤b:=(fun b hb=>(hf11 b hb).elim (fun h_=>ZEp hC.size h_) (fun hb=>hs11 b hb))
   replace hC:=hC.pushR hB17 (ZMg (ZOz.sl) r17 [u18] f15) hr17 (fun b hb=>(hf11 b hb).elim .inl (fun hb=>.inr (⟨_,mg 0 rfl,hb⟩)))
   refine Zu hC 0 rfl ZXe rfl (X3 rfl rfl (Zd (v:=vI (ZG5.wrap ((r16.length:Int) - (r17.length:Int)))) rfl (dn (ZMp ?_))))
   exact Zi rfl (Zg rfl) ⟨ZG5.wrap ((r16.length:Int) - (r17.length:Int)),rfl,h,hC.below⟩ (.inl rfl)
  ·replace h:=Zk h (cf hb10)
   refine ZMl (Ze (sr (Yq hC 1 [u0_0,u0_1] rfl ag32 rfl rfl rfl (Za (v:=vI a1) rfl (Za (v:=vI a2) rfl (Za (v:=vI a3) rfl (Zf [.agg #[u0_0,u0_1],vI a1,vI a2,vI a3] _ ZYj rfl rfl rfl (Zlb a0 a1 a2 a3 h _ (Yk (hC.getP 1 rfl) (hC.getP 0 rfl))) ?_)))))))
   rintro _ w20 ⟨r18,u13,f16,rfl,h,hr18,hf22,hB18⟩
   refine rt ?_
   replace hC:=hC.push hB18 (ZMy (ZR9 22 (ZR9 2 (eI.tr))) r18 [u13] f16) hr18 hf22
   have hs12:=Zai hC 0 rfl
   replace hC:=hC.thaw 0 rfl (ZMg (ZOz.sl) r18 [u13] f16) (fun h_=>ZYd _ h_.1) (fun _ hb_=>hb_)
   refine Zf [u13] _ ZYg rfl rfl rfl (Zf5 r18 h _ (hC.getP 0 rfl)) ?_
   rintro _ w21 ⟨r19,u19,f17,rfl,h,hr19,hf12,hB19⟩
   refine rt ?_
   have hs16:∀ b,b∈f17→w0.heap.size≤b:=(fun b hb=>(hf12 b hb).elim (fun h_=>ZEp hC.size h_) (fun hb=>hs12 b hb))
   replace hC:=hC.pushR hB19 (ZMg (ZOz.sl) r19 [u19] f17) hr19 (fun b hb=>(hf12 b hb).elim .inl (fun hb=>.inr (⟨_,mg 0 rfl,hb⟩)))
   refine Zu hC 0 rfl ZXe rfl (Za (v:=u10) rfl ?_)
   have hs13:=Zai hC 0 rfl
   replace hC:=hC.thaw 0 rfl (ZMg (ZOz.sl) r10 [u10] f10) (fun h_=>ZYd _ h_.1) (fun _ hb_=>hb_)
   refine Zf [u10] _ ZYg rfl rfl rfl (Zf5 r10 h _ (hC.getP 0 rfl)) ?_
   rintro _ w22 ⟨r20,u20,f18,rfl,h,hr20,hf13,hB20⟩
   refine rt ?_
   have hs17:∀ b,b∈f18→w0.heap.size≤b:=(fun b hb=>(hf13 b hb).elim (fun h_=>ZEp hC.size h_) (fun hb=>hs13 b hb))
   replace hC:=hC.pushR hB20 (ZMg (ZOz.sl) r20 [u20] f18) hr20 (fun b hb=>(hf13 b hb).elim .inl (fun hb=>.inr (⟨_,mg 0 rfl,hb⟩)))
   refine Zu hC 0 rfl ZXe rfl (X3 rfl rfl (Zd (v:=vI (ZG5.wrap ((r19.length:Int) - (r20.length:Int)))) rfl (dn (ZMp ?_))))
   exact Zi rfl (Zg rfl) ⟨ZG5.wrap ((r19.length:Int) - (r20.length:Int)),rfl,h,hC.below⟩ (.inl rfl)
def Ziq (a0:Alg) (a1:Int) (K:Int→Prop):Prop :=
 Zbx a0 0 a1 (fun r10=>Z8 (fun i10 (s10:Int) nx10=>Zbv (r10.getD i10 ZEo) (fun r11=>nx10 (if s10 < r11 then r11 else s10))) (fun (s10:Int)=>K s10) r10.length 0 0)
theorem ZAz (a0:Alg) (a1:Int)  {K:Int→Prop} (h:Ziq a0 a1 K) (w0:World) (q0:TAlg.rep a0 [u0_0,u0_1] fp0 w0) :
  Calls ZMk 119 #[.agg #[u0_0,u0_1],vI a1] w0 fun e w'=>∃ (r0:Int),
   e=.returned (vI r0)∧K r0∧Bel w0 w':=by
 unfold Ziq at h
 refine cof Tryz.func119 rfl 25 Tryz.ntmps119 ?_
 have hC:=ZM2 (X:=Nox) w0 [ZMg TAlg a0 [u0_0,u0_1] fp0] (al1 q0)
 replace hC:=hC.dAlg 0 rfl
 refine sr (Yg (v:=.agg #[u0_0,u0_1]) hC [u0_0,u0_1] rfl rfl fun b4 w6 hB_ hC=>Zd (v:=vI 0) rfl (dn (sr (Yq hC 0 [u0_0,u0_1] rfl ag32 rfl rfl rfl (Za (v:=vI a1) rfl (Zf [.agg #[u0_0,u0_1],vI 0,vI a1] _ ZYb rfl rfl rfl (Zcg a0 0 a1 h _ (Yk (hC.getP 1 rfl) (hC.getP 0 rfl))) ?_))))))
 rintro _ w9 ⟨r10,u10,f10,rfl,h,hr10,hf10,hB10⟩
 refine rt ?_
 replace hC:=hC.push hB10 (ZMy (ZR9 136 ((EA .u8).tr)) r10 [u10] f10) hr10 hf10
 obtain ⟨ho10,hf11⟩:=Yv (hC.getM 0 rfl).1
 subst hf11
 replace hC:=hC.recast (c:=own 136 8 u10 r10.length ((EA .u8).encs r10)) (fun _ h_=>h_) (fun _=>ho10)
 refine Zd (v:=u10) rfl (Zd (v:=vI 0) rfl (dn (ZMh (sr (Zd (v:=vI 0) rfl (dn (ZMn ?_)))))))
 have hN10:r10.length≤9223372036854775807:=Zdl (hC.getM 0 rfl)
 refine Yi (S:=Int) _ _ (fun i10 s10 e_ w_=>Zt e_ [(5,u10),(6,vI s10),(7,vI (i10:Int))]∧Ctx Nox w0 w_ [own 136 8 u10 r10.length ((EA .u8).encs r10)] [ZMg ZM3.sl a0.images [u0_1] fp0,ZMg TInts a0.degrees [u0_0] fp0,ZMg TAlg a0 [u0_0,u0_1] fp0]) r10.length ?_ ?_ (s0:=0) ?_ h
 ·clear hC h
  rintro i10 s10 e_ w10 nx10 K10 hi10 ⟨hS_,hC⟩ h hK10
  rw [ue hS_]
  refine ZMh (sr (Za (v:=vI (i10:Int)) rfl (Za (v:=u10) rfl (Zac hC 0 rfl ZX9 rfl (Zn rfl rfl (dn (Z5 rfl (decide_eq_true (by omega)) (ZMl (Ze (ZMh (ZMn (Zh (Za (v:=vI s10) rfl (Za (v:=u10) rfl (Za (v:=vI (i10:Int)) rfl ?_)))))))))))))))
  obtain ⟨Ad10,c10,hv10⟩:=Xo (hC.getM 0 rfl) (ZO7 (ZGa _) hi10)
  refine Xv (i10 * 8) ZX9 ag136.size (tr rfl hv10) rfl (ZMx _) (ZNf.2 hi10) rfl (Jd (ZMe .u8 (r10.getD i10 ZEo)) (Zah (hC.getM 0 rfl) hv10 i10 hi10) ag136 rfl rfl (Zf [.agg (ZMf (ZMe .u8 (r10.getD i10 ZEo)))] _ ZYh rfl rfl rfl (Zig (r10.getD i10 ZEo) h _) ?_))
  rintro _ w11 ⟨r11,rfl,h,hB11⟩
  refine rt ?_
  replace hC:=hC.grow hB11
  refine Zn1 rfl rfl (Zd (v:=vI (if s10 < r11 then r11 else s10)) rfl (done (Zr (Ze (Zh (Za (v:=vI (i10:Int)) rfl (Zq rfl rfl (Zd (v:=vI (ZG5.wrap ((i10:Int)+1))) rfl (done ?_)))))))))
  exact hK10 (if s10 < r11 then r11 else s10) _ _ ⟨(sl ⟨rfl,rfl,(tr rfl (congrArg _ (Z2 hi10 hN10))),trivial⟩),hC⟩ h
 ·clear hC h
  rintro s10 e_ w12 K10 ⟨hS_,hC⟩ h
  rw [ue hS_]
  refine ZMh (sr (Za (v:=vI (r10.length:Int)) rfl (Za (v:=u10) rfl (Zac hC 0 rfl ZX9 rfl (Zn rfl rfl (dn (Z1 rfl (decide_eq_false (by omega)) ?_)))))))
  refine ZMv (Zj (Zj (Zx ?_)))
  refine Ze (sr (Za (v:=vI s10) rfl (Zd (v:=vI s10) rfl (dn (ZMp ?_)))))
  exact Zi rfl (Zg rfl) ⟨s10,rfl,h,hC.below⟩ (.inl rfl)
 ·skip
  exact⟨(slq rfl),(hC.xM [0] rfl)⟩
def Zf7 (a0:Alg) (a1:Int) (a2:Int) (K:List Int→Prop):Prop :=
 Xt (fun (s10:(List Int)×Int) nx10=>Ziq (⟨a0.degrees,a0.images⟩:Alg) a2 (fun r11=>(if s10.2≤r11 then Zip (⟨a0.degrees,a0.images⟩:Alg) a1 s10.2 a2 (fun r10=>(Zy (s10.1.length+1) 8∧nx10 (s10.1++[r10],ZG5.wrap (s10.2+1)))) else K s10.1))) ([],0)
theorem Zr5 (a0:Alg) (a1:Int) (a2:Int)  {K:List Int→Prop} (h:Zf7 a0 a1 a2 K) (w0:World) (q0:TAlg.rep a0 [u0_0,u0_1] fp0 w0) :
  Calls ZMk 65 #[.agg #[u0_0,u0_1],vI a1,vI a2] w0 fun e w'=>∃ (r0:List Int) (z0_0:Value) (fz0:List Nat),
   e=.returned (z0_0)∧K r0∧(ZMy (ZR9 2 (eI.tr)) r0 [z0_0] fz0).holds w'∧(∀ b,b∈fz0→w0.heap.size≤b)∧Bel w0 w':=by
 unfold Zf7 at h
 refine cof Tryz.func65 rfl 26 Tryz.ntmps65 ?_
 have hC:=ZM2 (X:=Nox) w0 [ZMg TAlg a0 [u0_0,u0_1] fp0] (al1 q0)
 replace hC:=hC.dAlg 0 rfl
 refine sr (Yg (v:=.agg #[u0_0,u0_1]) hC [u0_0,u0_1] rfl rfl fun b4 w6 hB_ hC=>Zd (v:=.slice none 0 0) rfl (dn (sr (Ye (sz:=1) hC [] (eI.encs []) rfl (fun _=>Zcf  _) rfl (by decide) fun b7 w8 hB_ hC=>Zd (v:=.slice (some ⟨b7,0,none⟩) 0 0) rfl (dn (ZMh (sr (Zd (v:=vI 0) rfl (dn (ZMn ?_))))))))))
 refine Xz (S:=(List Int)×Int) _ (fun s10 e_ w_=>∃ (v10:Value),Zt e_ [(1,vI a1),(2,vI a2),(3,vQ b4),(7,v10),(8,vI s10.2)]∧Ctx Nox w0 w_ [own 2 1 v10 s10.1.length (eI.encs s10.1),blk b4 32 [u0_0,u0_1]] [ZMg ZM3.sl a0.images [u0_1] fp0,ZMg TInts a0.degrees [u0_0] fp0,ZMg TAlg a0 [u0_0,u0_1] fp0]) ?_ (s0:=([],0)) ?_ h
 ·clear hC h
  rintro s10 e_ w10 nx10 K10 ⟨v10,hS_,hC⟩ h hK10
  rw [ue hS_]
  refine ZMh (sr (Za (v:=vI s10.2) rfl (Yq hC 1 [u0_0,u0_1] rfl ag32 rfl rfl rfl (Za (v:=vI a2) rfl (Zf [.agg #[u0_0,u0_1],vI a2] _ Tryz.func119 rfl rfl rfl (ZAz (⟨a0.degrees,a0.images⟩:Alg) a2 h _ (Yk (hC.getP 1 rfl) (hC.getP 0 rfl))) ?_)))))
  rintro _ w11 ⟨r11,rfl,h,hB10⟩
  refine rt ?_
  replace hC:=hC.grow hB10
  refine Zb7 rfl rfl (dn ?_)
  refine Zs rfl (fun hb10=>?_) (fun hb10=>?_)
  ·replace h:=ift h (ct hb10)
   refine ZMl (Ze (ZMh (ZMn (Zh (Za (v:=v10) rfl (Yq hC 1 [u0_0,u0_1] rfl ag32 rfl rfl rfl (Za (v:=vI a1) rfl (Za (v:=vI s10.2) rfl (Za (v:=vI a2) rfl (Zf [.agg #[u0_0,u0_1],vI a1,vI s10.2,vI a2] _ Tryz.func61 rfl rfl rfl (ZAy (⟨a0.degrees,a0.images⟩:Alg) a1 s10.2 a2 h _ (Yk (hC.getP 1 rfl) (hC.getP 0 rfl))) ?_))))))))))
   rintro _ w12 ⟨r10,rfl,h,hB11⟩
   refine rt ?_
   replace hC:=hC.grow hB11
   refine Ye (sz:=1) hC [(0,vI r10)] (eI.encs [r10]) rfl (fun _=>Zf3 r10 _) rfl (by decide) fun b10 w13 hB_ hC=>?_
   obtain ⟨hm10,h⟩:=h
   refine Ja hC 1 ZM0 el2 rfl (by decide) (by decide) rfl (Jx (hC.getM 0 rfl)) (fun q hq=>ZNk (E:=eI) _ q hq) rfl rfl hm10 fun v11 w14 hC=>?_
   replace hC:=Yy hC 1 ((s10.1++[r10]).length) (eI.encs (s10.1++[r10])) rfl (by simp) (by first | (simp [ZM9]; done) | simp [ZM9,ZSs])
   refine Zd (v:=v11) rfl (done (Zr (Ze (Zh (Za (v:=vI s10.2) rfl (Zq rfl rfl (Zd (v:=vI (ZG5.wrap (s10.2+1))) rfl (done ?_))))))))
   exact hK10 (s10.1++[r10],ZG5.wrap (s10.2+1)) _ _ ⟨v11,(slq rfl),(hC.xM [1,2] rfl)⟩ h
  ·replace h:=Zk h (cf hb10)
   refine ZMv (Zj (Zj (Zx ?_)))
   refine Ze (sr (Za (v:=v10) rfl (Zd (v:=v10) rfl (dn (ZMp ?_)))))
   exact Zi rfl (Zg rfl) ⟨s10.1,v10,(ZNg (ZFi v10)),rfl,h,(Xf (hC.getM 0 rfl)),(Y8 hC 0 rfl),hC.below⟩ (.inl rfl)
 ·skip
  exact⟨.slice (some ⟨b7,0,none⟩) 0 0,(slq rfl),hC⟩
def Zir (a0:Alg) (a1:Int) (a2:Int) (K:List Int→Int→Prop):Prop :=
 Zij a0 (fun r10=>(if r10=0 then Zdr a1 0 20 (fun r14=>(if¬ (r14=true) then K [] 2 else Zil a0 a2 (fun r11=>(if r11≠0 then K [] r11 else Zf7 a0 a1 a2 (fun r12=>K r12 0))))) else(if r10≠0 then K [] r10 else Zf7 a0 a1 a2 (fun r13=>K r13 0))))
theorem ZA0 (a0:Alg) (a1:Int) (a2:Int)  {K:List Int→Int→Prop} (h:Zir a0 a1 a2 K) (w0:World) (q0:TAlg.rep a0 [u0_0,u0_1] fp0 w0) :
  Calls ZMk 23 #[.agg #[u0_0,u0_1],vI a1,vI a2] w0 fun e w'=>∃ (r0:List Int) (z0_0:Value) (fz0:List Nat) (r1:Int),
   e=.returned (.tuple #[z0_0,vI r1])∧K r0 r1∧(ZMy (ZR9 2 (eI.tr)) r0 [z0_0] fz0).holds w'∧(∀ b,b∈fz0→w0.heap.size≤b)∧Bel w0 w':=by
 unfold Zir at h
 refine cof Tryz.func23 rfl 30 Tryz.ntmps23 ?_
 have hC:=ZM2 (X:=Nox) w0 [ZMg TAlg a0 [u0_0,u0_1] fp0] (al1 q0)
 replace hC:=hC.dAlg 0 rfl
 refine sr (Yg (v:=.agg #[u0_0,u0_1]) hC [u0_0,u0_1] rfl rfl fun b4 w6 hB_ hC=>Zd (v:=.slice none 0 0) rfl (Zd (v:=vI 0) rfl (dn (sr (Yq hC 0 [u0_0,u0_1] rfl ag32 rfl rfl rfl (Zf [.agg #[u0_0,u0_1]] _ Tryz.func58 rfl rfl rfl (ZAr a0 h _ (Yk (hC.getP 1 rfl) (hC.getP 0 rfl))) ?_))))))
 rintro _ w9 ⟨r10,rfl,h,hB10⟩
 refine rt ?_
 replace hC:=hC.grow hB10
 refine Zd (v:=vI r10) rfl (dn (ZMh (sr (Za (v:=vI r10) rfl (Xx rfl rfl (Za (v:=.bool (decide (r10=0))) rfl ?_))))))
 refine Y7 (decide (r10=0)) (fun hb10=>?_) (fun hb10=>?_)
 ·replace h:=ift h (ct hb10)
  refine Zp 2 13 rfl rfl hb10 (Za (v:=vI a1) rfl (Zp 2 13 rfl rfl hb10 (Zf [vI a1,vI 0,vI 20] _ Tryz.func59 rfl rfl rfl (Zj9 a1 0 20 h _) ?_)))
  rintro _ w10 ⟨r14,rfl,h,hB11⟩
  refine rt ?_
  replace hC:=hC.grow hB11
  refine Zp 2 13 rfl rfl hb10 (Xe rfl (Z4 (v:=.bool (!r14)) (b:=true) (tr rfl (congrArg _ hb10)) rfl (dn ?_)))
  refine Zs rfl (fun hb11=>?_) (fun hb11=>?_)
  ·replace h:=ift h (Y4 (Xi hb11))
   refine Zh (Zd (v:=vI 2) rfl (dn (ZMh (sr (Za (v:=vI 2) rfl (Xx rfl rfl (dn (Z1 rfl rfl (ZMl (Ze (ZMh (sr (Za (v:=vI 2) rfl (Y6 rfl rfl (dn (Z5 rfl rfl (sr (Za (v:=vI 2) rfl (Zd (v:=.slice none 0 0) rfl (Zd (v:=vI 2) rfl (dn ?_)))))))))))))))))))))
   refine ZMp (Zm ?_)
   exact X9 rfl (Zg rfl) (Zg rfl) ⟨[],.slice none 0 0,[],2,rfl,h,(Zba _ _ _),(fun b hb=>absurd hb (by simp)),hC.below⟩ (.inl rfl)
  ·replace h:=Zk h (not_not_intro ((Xj hb11)))
   refine ZMl (Ze (ZMh (sr (Za (v:=vI r10) rfl (Xx rfl rfl (dn (Z5 rfl hb10 (Zh (Yq hC 0 [u0_0,u0_1] rfl ag32 rfl rfl rfl (Za (v:=vI a2) rfl (Zf [.agg #[u0_0,u0_1],vI a2] _ Tryz.func60 rfl rfl rfl (ZAu a0 a2 h _ (Yk (hC.getP 1 rfl) (hC.getP 0 rfl))) ?_)))))))))))
   rintro _ w11 ⟨r11,rfl,h,hB12⟩
   refine rt ?_
   replace hC:=hC.grow hB12
   refine Zd (v:=vI r11) rfl (dn (ZMh (sr (Za (v:=vI r11) rfl (Y6 rfl rfl (dn ?_))))))
   refine Zs rfl (fun hb12=>?_) (fun hb12=>?_)
   ·replace h:=ift h (ct hb12)
    refine sr (Za (v:=vI r11) rfl (Zd (v:=.slice none 0 0) rfl (Zd (v:=vI r11) rfl (dn ?_))))
    refine ZMp (Zm ?_)
    exact X9 rfl (Zg rfl) (Zg rfl) ⟨[],.slice none 0 0,[],r11,rfl,h,(Zba _ _ _),(fun b hb=>absurd hb (by simp)),hC.below⟩ (.inl rfl)
   ·replace h:=Zk h (cf hb12)
    refine ZMl (Ze (sr (Yq hC 0 [u0_0,u0_1] rfl ag32 rfl rfl rfl (Za (v:=vI a1) rfl (Za (v:=vI a2) rfl (Zf [.agg #[u0_0,u0_1],vI a1,vI a2] _ Tryz.func65 rfl rfl rfl (Zr5 a0 a1 a2 h _ (Yk (hC.getP 1 rfl) (hC.getP 0 rfl))) ?_))))))
    rintro _ w12 ⟨r12,u10,f10,rfl,h,hr10,hf10,hB13⟩
    refine rt ?_
    replace hC:=hC.push hB13 (ZMy (ZR9 2 (eI.tr)) r12 [u10] f10) hr10 hf10
    obtain ⟨ho10,hf11⟩:=Yv (hC.getM 0 rfl).1
    subst hf11
    replace hC:=hC.recast (c:=own 2 1 u10 r12.length (eI.encs r12)) (fun _ h_=>h_) (fun _=>ho10)
    refine Zd (v:=u10) rfl (Zd (v:=vI 0) rfl (dn (ZMp ?_)))
    exact X9 rfl (Zg rfl) (Zg rfl) ⟨r12,u10,(ZNg (ZFi u10)),0,rfl,h,(Xf (hC.getM 0 rfl)),(Y8 hC 0 rfl),hC.below⟩ (.inl rfl)
 ·replace h:=Zk h (cf hb10)
  refine Zl (b:=false) 2 13 rfl (tr rfl (congrArg _ hb10)) (by decide) (Zl (b:=false) 2 13 rfl (tr rfl (congrArg _ hb10)) (by decide) (Zl (b:=false) 2 13 rfl (tr rfl (congrArg _ hb10)) (by decide) (Z4 (v:=.bool false) (b:=false) (tr rfl (congrArg _ hb10)) rfl (dn (Z1 rfl rfl (ZMl (Ze (ZMh (sr (Za (v:=vI r10) rfl (Xx rfl rfl (dn (Z1 rfl hb10 (ZMl (Ze (ZMh (sr (Za (v:=vI r10) rfl (Y6 rfl rfl (dn ?_))))))))))))))))))))
  refine Zs rfl (fun hb13=>?_) (fun hb13=>?_)
  ·replace h:=ift h (ct hb13)
   refine sr (Za (v:=vI r10) rfl (Zd (v:=.slice none 0 0) rfl (Zd (v:=vI r10) rfl (dn ?_))))
   refine ZMp (Zm ?_)
   exact X9 rfl (Zg rfl) (Zg rfl) ⟨[],.slice none 0 0,[],r10,rfl,h,(Zba _ _ _),(fun b hb=>absurd hb (by simp)),hC.below⟩ (.inl rfl)
  ·replace h:=Zk h (cf hb13)
   refine ZMl (Ze (sr (Yq hC 0 [u0_0,u0_1] rfl ag32 rfl rfl rfl (Za (v:=vI a1) rfl (Za (v:=vI a2) rfl (Zf [.agg #[u0_0,u0_1],vI a1,vI a2] _ Tryz.func65 rfl rfl rfl (Zr5 a0 a1 a2 h _ (Yk (hC.getP 1 rfl) (hC.getP 0 rfl))) ?_))))))
   rintro _ w13 ⟨r13,u11,f11,rfl,h,hr11,hf12,hB14⟩
   refine rt ?_
   replace hC:=hC.push hB14 (ZMy (ZR9 2 (eI.tr)) r13 [u11] f11) hr11 hf12
   obtain ⟨ho11,hf13⟩:=Yv (hC.getM 0 rfl).1
   subst hf13
   replace hC:=hC.recast (c:=own 2 1 u11 r13.length (eI.encs r13)) (fun _ h_=>h_) (fun _=>ho11)
   refine Zd (v:=u11) rfl (Zd (v:=vI 0) rfl (dn (ZMp ?_)))
   exact X9 rfl (Zg rfl) (Zg rfl) ⟨r13,u11,(ZNg (ZFi u11)),0,rfl,h,(Xf (hC.getM 0 rfl)),(Y8 hC 0 rfl),hC.below⟩ (.inl rfl)
end Go.Proofs.YtaagfepgbofmlaaGreat
