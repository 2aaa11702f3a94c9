import Derived.Test.YtheenipahifleaaGreatQ4
set_option linter.unusedSectionVars false
set_option linter.unusedSimpArgs false
set_option linter.unusedVariables false
open Go renaming wp_seq→ZE9,wp_ret→ZFh,wp_skip→ZFc,wp_block→ZFf,wp_exit→ZFn
open Go.Instr renaming buildSlice→ZGg
open Go.IntKind renaming i64→Zwe,u8→ZFl
open Go.Proofs.Tryz renaming underlying28→ZFx,prog→ZFb,underlying32→ZFt,func9→ZPc,func10→ZPd,underlying55→ZFg,underlying53→ZFj,underlying97→ZLz,func12→ZPf,underlying95→ZPg,underlying22→ZFs,func64→ZPh,underlying90→ZFp
open Go.Value renaming ownBlock→Zum
open Inhabited renaming default→Zt0
open Int renaming natCast_nonneg→ZFq,ofNat_lt→ZF8,one_mul→ZL5,toNat_natCast→ZPe,mul_le_mul_of_nonneg_right→ZM4,zero_mul→ZPs,add_zero→ZLq,mul_le_mul_of_nonneg_left→ZQe
open List renaming mem_append→Zud,mem_singleton→Zvn,getD→Zt7,length_eq_one_iff→ZF7,toArray→ZE8,mem_cons→Ztw,not_mem_nil→Zv2,mem_singleton_self→ZLo,map_append→ZPi,sum_append→ZPj,mem_append_right→Zun,getElem_of_mem→Zuf,map_cons→Zu1,sum_cons→ZPt,take_append_drop→Zxr
open Nat renaming le_of_ble_eq_true→ZFi,le_refl→Ztz,mul_le_mul_right→Zwk
open Option renaming toList→ZF6,getD_some→Zwo,toList_some→ZQk
open Vc renaming Form→ZFd,TForm→ZFv,ETerm→ZFa
open Vc.A8 renaming zero→ZFe
open Vc.Ctx renaming start→ZFu
open Vc.Kp renaming key→ZPb
open Vc.Tr renaming item→ZFo,sl→ZLn,trep→ZO9
open Vc.Ty renaming item→ZBl
set_option maxRecDepth 4000
set_option maxHeartbeats 4000000
namespace Go.Proofs.YtheenipahifleaaGreat
open Go Go.RowKit Vc
variable {b0 bp0 b1 bp1 b2 bp2 b3 bp3 b4 bp4 b5 bp5 b6 bp6 b7 bp7 mb0:Nat} {Dk0:List Kp} {Ek0:List (Nat×List (A8×Int))} {u0_0 u0_1 u0_2 u0_3 u0_4 u0_5 u1_0 u1_1 u1_2 u1_3 u1_4 u1_5 u2_0 u2_1 u2_2 u2_3 u2_4 u2_5 u3_0 u3_1 u3_2 u3_3 u3_4 u3_5 u4_0 u4_1 u4_2 u4_3 u4_4 u4_5 u5_0 u5_1 u5_2 u5_3 u5_4 u5_5 u6_0 u6_1 u6_2 u6_3 u6_4 u6_5 u7_0 u7_1 u7_2 u7_3 u7_4 u7_5:Value} {fp0 fp1 fp2 fp3 fp4 fp5 fp6 fp7 fp0_0 fp0_1 fp0_2 fp0_3 fp0_4 fp0_5 fp1_0 fp1_1 fp1_2 fp1_3 fp1_4 fp1_5 F0:List Nat}
theorem Zmt (w:World):(ZGg 28 0 #[]).run ZFb w=.ok (.slice (some ⟨w.heap.size,0,none⟩) 0 0) (w.alloc (.cells (ZE8 []) 55)):=by kernel_rfl
theorem Zmu (x0:Value) (hx0:Zdb x0) (w:World):(ZGg 28 1 #[(0,.agg #[x0])]).run ZFb w=.ok (.slice (some ⟨w.heap.size,0,none⟩) 1 1) (w.alloc (.cells (ZE8 [x0]) 55)):=by obtain ⟨_,_,_,rfl⟩:=hx0; kernel_rfl
theorem Zmv (x0:Value) (x1:Value) (x2:Nat) (hx0:Zdb x0) (hx1:Zdb x1) (w:World):(Instr.build 97 #[(0,x0),(1,x1),(3,.map (some x2))]).run ZFb w=.ok (.agg #[x0,x1,.slice none 0 0,.map (some x2)]) w:=by obtain ⟨_,_,_,rfl⟩:=hx0; obtain ⟨_,_,_,rfl⟩:=hx1; kernel_rfl
theorem sc95:ScaT ZFb 95:=⟨⟨_,ZPg,rfl⟩,by kernel_rfl⟩
theorem Zmw (x0:Nat) (w:World):(ZGg 95 1 #[(0,.map (some x0))]).run ZFb w=.ok (.slice (some ⟨w.heap.size,0,none⟩) 1 1) (w.alloc (.cells (ZE8 [.map (some x0)]) 99)):=by kernel_rfl
theorem Zmx:J6 ZFb 99 (.map none) 1 8:=by unfold J6; kernel_rfl
theorem Zs1 (x0:Int) (x1:Int) (w:World):(ZGg 22 2 #[(0,.int .i64 x0),(1,.int .i64 x1)]).run ZFb w=.ok (.slice (some ⟨w.heap.size,0,none⟩) 2 2) (w.alloc (.cells (ZE8 ((EI .i64).encs [x0,x1])) 2)):=by kernel_rfl
theorem J0:AggT ZFb 25 2:=⟨⟨_,Tryz.underlying25,rfl⟩,by kernel_rfl⟩
def Zcr (a0:List Int) (a1:ZFd) (a2:Int) (K:ZFd→Prop):Prop :=
 X1 ZFe 1 (fun r10=>Jc (fun (s10:(List Term)×Int) nx10=>(if s10.2 > 0 then X2 a0 (⟨s10.1⟩:ZFd) a1 (fun r11=>nx10 (r11.terms,ZFl.wrap (s10.2 - 1))) else K (⟨s10.1⟩:ZFd))) (r10.terms,a2))
theorem Zs2 (a0:List Int) (a1:ZFd) (a2:Int)  {K:ZFd→Prop} (h:Zcr a0 a1 a2 K) (w0:World) (q0:TInts.rep a0 [u0_0] fp0 w0) (q1:ZFv.rep a1 [u1_0] fp1 w0) :
  Calls ZFb 61 #[u0_0,.agg #[u1_0],.int .u8 a2] w0 fun e w'=>∃ (r0:ZFd) (z0_0:Value) (fz0:List Nat),
   e=.returned (.agg #[z0_0])∧K r0∧(ZFo (Zj 90) r0 [z0_0] fz0).holds w'∧(∀ b,b∈fz0→w0.heap.size≤b)∧Bel w0 w':=by
 unfold Zcr at h
 refine cof Tryz.func61 rfl 19 Tryz.ntmps61 ?_
 have hC:=ZFu (X:=Nox) w0 [ZBl TInts a0 [u0_0] fp0,ZBl TForm a1 [u1_0] fp1] (alc q0 (al1 q1))
 have hp3:=(hC.getP 1 rfl)
 replace hC:=hC.derive 1 rfl (ZBl ZFa.ty.sl a1.terms [u1_0] fp1) (fun _=>(Yn hp3)) (fun _ hb_=>hb_)
 refine sr (Yf (v:=.agg #[u1_0]) hC [u1_0] rfl rfl fun b5 w7 hB_ hC=>Yb hC [.slice none 0 0] z55 rfl fun b8 w10 hB_ hC=>dn (sr (Xp [] rfl (Zeo   _) (Zf [.agg (ZE8 (A8.enc .u8 ZFe)),vI 1] _ Tryz.func59 rfl rfl rfl (Zbn ZFe 1 h _) ?_))))
 rintro _ w11 ⟨r10,u10,f10,rfl,h,hr10,hf10,hB10⟩
 refine rt ?_
 replace hC:=hC.push hB10 (ZFo (Zj 90) r10 [u10] f10) hr10 hf10
 obtain ⟨ho10,hf11⟩:=Xb (hC.getM 0 rfl)
 subst hf11
 replace hC:=hC.recast (c:=own 90 9 u10 r10.terms.length (ZFa.encs r10.terms)) (fun _ h_=>h_) (fun _=>ho10)
 refine Yb hC [.slice none 0 0] z55 rfl fun b10 w12 hB_ hC=>Zu (v:=.agg #[u10]) hC 0 [u10] [u10] rfl ag55.size rfl rfl rfl rfl (Ym (Y8 (hC.getM 1 rfl)) rfl) (ZFi rfl) rfl fun w13 hC=>dn (ZE9 (ZFf ?_))
 refine Jk (S:=(List Term)×Int) _ (fun s10 e_ w_=>∃ (v10:Value),Z2 e_ [(0,u0_0),(2,.int .u8 s10.2),(4,vQ b5),(6,vQ b8),(7,vQ b10)]∧Ctx Nox w0 w_ [own 90 9 v10 s10.1.length (ZFa.encs s10.1),blk b10 55 [v10],blk b8 55 [.slice none 0 0],blk b5 55 [u1_0]] [ZBl ZFa.ty.sl a1.terms [u1_0] fp1,ZBl TInts a0 [u0_0] fp0,ZBl TForm a1 [u1_0] fp1]) ?_ (s0:=(r10.terms,a2)) ?_ h
 ·clear hC h
  rintro s10 e_ w14 nx10 K10 ⟨v10,hS_,hC⟩ h hK10
  rw [ue hS_]
  refine ZE9 (sr (Zb (v:=.int .u8 s10.2) rfl (Xx rfl rfl (dn ?_))))
  refine Zq rfl (fun hb10=>?_) (fun hb10=>?_)
  ·replace h:=ift h (ct hb10)
   refine ZFc (Zd (ZE9 (ZFf (Zn (Zb (v:=u0_0) rfl (Yd hC 1 [v10] rfl ag55 rfl rfl rfl (Yd hC 3 [u1_0] rfl ag55 rfl rfl rfl (Zf [u0_0,.agg #[v10],.agg #[u1_0]] _ Tryz.func60 rfl rfl rfl (Zav a0 (⟨s10.1⟩:ZFd) a1 h _ (hC.getP 1 rfl) (Yh (Yv (hC.getM 0 rfl))) (Yh (hC.getP 0 rfl))) ?_))))))))
   rintro _ w15 ⟨r11,u11,f11,rfl,h,hr11,hf12,hB11⟩
   refine rt ?_
   replace hC:=hC.push hB11 (ZFo (Zj 90) r11 [u11] f11) hr11 hf12
   obtain ⟨ho11,hf13⟩:=Xb (hC.getM 0 rfl)
   subst hf13
   replace hC:=hC.recast (c:=own 90 9 u11 r11.terms.length (ZFa.encs r11.terms)) (fun _ h_=>h_) (fun _=>ho11)
   refine Zu (v:=.agg #[u11]) hC 2 [u11] [u11] rfl ag55.size rfl rfl rfl rfl (Ym (Y8 (hC.getM 0 rfl)) rfl) (ZFi rfl) rfl fun w16 hC=>done (Zt (Zd (Zn (Zb (v:=.int .u8 s10.2) rfl (Zb2 rfl rfl (Zc (v:=.int .u8 (ZFl.wrap (s10.2 - 1))) rfl (done ?_)))))))
   exact hK10 (r11.terms,ZFl.wrap (s10.2 - 1)) _ _ ⟨u11,(slq rfl),(hC.xM [0,2,3,4] rfl)⟩ h
  ·replace h:=Zl h (cf hb10)
   refine ZFn (Zm (Zm (Z5 ?_)))
   refine Zd (sr (Yd hC 1 [v10] rfl ag55 rfl rfl rfl (Zu (v:=.agg #[v10]) hC 2 [v10] [v10] rfl ag55.size rfl rfl rfl rfl (Ym (Y8 (hC.getM 0 rfl)) rfl) (ZFi rfl) rfl fun w17 hC=>dn (ZFh ?_))))
   exact Zk rfl (X3 hC 2 rfl ag55 rfl rfl) ⟨(⟨s10.1⟩:ZFd),v10,(ZF6 (Zum v10)),rfl,h,(Jr (Jq (hC.getM 0 rfl))),(Jo hC 0 rfl),hC.below⟩ (.inl rfl)
 ·skip
  exact⟨u10,(slq rfl),(hC.xM [1,0,2,3] rfl)⟩
def Zd3 (a0:List Int) (a1:List ZFd) (a2:ZFd) (K:ZFd→Prop):Prop :=
 Jc (fun (s10:(List Term)×Int) nx11=>(if s10.2 < (a2.terms.length:Int) then((0≤s10.2∧s10.2 < (a2.terms.length:Int))∧X1 ZFe ((a2.terms.getD s10.2.toNat Zt0).factor) (fun r10=>Yg (fun i10 (s11:(List Term)) nx10=>((0≤s10.2∧s10.2 < (a2.terms.length:Int))∧((0≤(i10:Int)∧(i10:Int) < 8)∧(if((a2.terms.getD s10.2.toNat Zt0).mono).get i10 > 0 then((0≤s10.2∧s10.2 < (a2.terms.length:Int))∧((0≤(i10:Int)∧(i10:Int) < 8)∧Zcr a0 (a1.getD i10 Zt0) (((a2.terms.getD s10.2.toNat Zt0).mono).get i10) (fun r11=>X2 a0 (⟨s11⟩:ZFd) r11 (fun r12=>nx10 r12.terms)))) else nx10 s11)))) (fun (s11:(List Term))=>Jy (⟨s10.1⟩:ZFd) (⟨s11⟩:ZFd) 1 (fun r13=>nx11 (r13.terms,Zwe.wrap (s10.2+1)))) a1.length 0 r10.terms)) else K (⟨s10.1⟩:ZFd))) ([],0)
theorem Zmy (a0:List Int) (a1:List ZFd) (a2:ZFd)  {K:ZFd→Prop} (h:Zd3 a0 a1 a2 K) (w0:World) (q0:TInts.rep a0 [u0_0] fp0 w0) (q1:ZFv.sl.rep a1 [u1_0] fp1 w0) (q2:ZFv.rep a2 [u2_0] fp2 w0) :
  Calls ZFb 28 #[u0_0,u1_0,.agg #[u2_0]] w0 fun e w'=>∃ (r0:ZFd) (z0_0:Value) (fz0:List Nat),
   e=.returned (.agg #[z0_0])∧K r0∧(ZFo (Zj 90) r0 [z0_0] fz0).holds w'∧(∀ b,b∈fz0→w0.heap.size≤b)∧Bel w0 w':=by
 unfold Zd3 at h
 refine cof Tryz.func28 rfl 63 Tryz.ntmps28 ?_
 have hC:=ZFu (X:=Nox) w0 [ZBl TInts a0 [u0_0] fp0,ZBl ZFv.sl a1 [u1_0] fp1,ZBl TForm a2 [u2_0] fp2] (alc q0 (alc q1 (al1 q2)))
 have hp4:=(hC.getP 2 rfl)
 replace hC:=hC.derive 2 rfl (ZBl ZFa.ty.sl a2.terms [u2_0] fp2) (fun _=>(Yn hp4)) (fun _ hb_=>hb_)
 refine sr (Yf (v:=.agg #[u2_0]) hC [u2_0] rfl rfl fun b6 w8 hB_ hC=>Yb hC [.slice none 0 0] z55 rfl fun b9 w10 hB_ hC=>dn (sr (Xp [] rfl (Za7   _) (Yb hC [.slice none 0 0] z55 rfl fun b10 w11 hB_ hC=>Zu (v:=.agg #[.slice none 0 0]) hC 0 [.slice none 0 0] [.slice none 0 0] rfl ag55.size rfl rfl rfl rfl rfl (ZFi rfl) rfl fun w12 hC=>dn (ZE9 (sr (Zc (v:=vI 0) rfl (dn (ZFf ?_)))))))))
 refine Jk (S:=(List Term)×Int) _ (fun s10 e_ w_=>∃ (v10:Value),Z2 e_ [(0,u0_0),(1,u1_0),(5,vQ b6),(6,vQ b9),(7,vQ b10),(8,vI s10.2)]∧Ctx Nox w0 w_ [own 90 9 v10 s10.1.length (ZFa.encs s10.1),blk b10 55 [v10],blk b9 55 [.slice none 0 0],blk b6 55 [u2_0]] [ZBl ZFa.ty.sl a2.terms [u2_0] fp2,ZBl TInts a0 [u0_0] fp0,ZBl ZFv.sl a1 [u1_0] fp1,ZBl TForm a2 [u2_0] fp2]) ?_ (s0:=([],0)) ?_ h
 ·clear hC h
  rintro s10 e_ w13 nx11 K11 ⟨v10,hS_,hC⟩ h hK11
  rw [ue hS_]
  refine ZE9 (sr (Zb (v:=vI s10.2) rfl (Zz 0 ZFg rfl sc53.size rfl rfl (Z6 hC 3 (u2_0) rfl sc53 rfl rfl (Zx hC 0 rfl ZFj rfl (Zo rfl rfl (dn ?_)))))))
  refine Zq rfl (fun hb10=>?_) (fun hb10=>?_)
  ·replace h:=ift h (ct hb10)
   refine ZFc (Zd (ZE9 (ZFf (sr (Xp [] rfl (Zeo   _) (Zz 0 ZFg rfl sc53.size rfl rfl (Z6 hC 3 (u2_0) rfl sc53 rfl rfl (Zb (v:=vI s10.2) rfl ?_))))))))
   obtain ⟨⟨h10,h11⟩,h⟩:=h
   obtain ⟨Ad12,c10,hv10⟩:=Z3 (hC.getP 0 rfl) s10.2.toNat (show s10.2.toNat < a2.terms.length by omega)
   refine Yu (len:=a2.terms.length) ZFj ag90.size (tr rfl hv10) rfl h10 h11 (Zal (s10.2.toNat * 9+8) ZFp rfl sc2.size rfl rfl (Xz (vI ((a2.terms.getD s10.2.toNat Zt0).factor)) (Xo (o:=8) (k:=1) (Yj (hC.getP 0 rfl) hv10 s10.2.toNat (show s10.2.toNat < a2.terms.length by omega)) rfl) sc2 rfl (Zf [.agg (ZE8 (A8.enc .u8 ZFe)),vI ((a2.terms.getD s10.2.toNat Zt0).factor)] _ Tryz.func59 rfl rfl rfl (Zbn ZFe ((a2.terms.getD s10.2.toNat Zt0).factor) h _) ?_)))
   rintro _ w14 ⟨r10,u10,f10,rfl,h,hr11,hf10,hB10⟩
   refine rt ?_
   replace hC:=hC.push hB10 (ZFo (Zj 90) r10 [u10] f10) hr11 hf10
   obtain ⟨ho10,hf11⟩:=Xb (hC.getM 0 rfl)
   subst hf11
   replace hC:=hC.recast (c:=own 90 9 u10 r10.terms.length (ZFa.encs r10.terms)) (fun _ h_=>h_) (fun _=>ho10)
   refine Yb hC [.slice none 0 0] z55 rfl fun b11 w15 hB_ hC=>Zu (v:=.agg #[u10]) hC 0 [u10] [u10] rfl ag55.size rfl rfl rfl rfl (Ym (Y8 (hC.getM 1 rfl)) rfl) (ZFi rfl) rfl fun w16 hC=>dn (ZE9 (sr (Zc (v:=vI 0) rfl (dn (ZFf ?_)))))
   have hN10:a1.length≤9223372036854775807:=Y0 (hC.getP 2 rfl)
   refine Yp (S:=(List Term)) _ _ (fun i10 s11 e_ w_=>∃ (v11:Value),Z2 e_ [(0,u0_0),(1,u1_0),(5,vQ b6),(6,vQ b9),(7,vQ b10),(8,vI s10.2),(9,vQ b11),(10,vI (i10:Int))]∧Ctx Nox w0 w_ [own 90 9 v11 s11.length (ZFa.encs s11),blk b11 55 [v11],own 90 9 v10 s10.1.length (ZFa.encs s10.1),blk b10 55 [v10],blk b9 55 [.slice none 0 0],blk b6 55 [u2_0]] [ZBl ZFa.ty.sl a2.terms [u2_0] fp2,ZBl TInts a0 [u0_0] fp0,ZBl ZFv.sl a1 [u1_0] fp1,ZBl TForm a2 [u2_0] fp2]) a1.length ?_ ?_ (s0:=r10.terms) ?_ h
   ·clear hC h
    rintro i10 s11 e_ w17 nx10 K10 hi10 ⟨v11,hS_,hC⟩ h hK10
    rw [ue hS_]
    refine ZE9 (sr (Zb (v:=vI (i10:Int)) rfl (Zb (v:=u1_0) rfl (Zx hC 2 rfl ZFx rfl (Zo rfl rfl (dn (Z8 rfl (decide_eq_true (by omega)) (ZFc (Zd (ZE9 (ZFf (sr (Zz 0 ZFg rfl sc53.size rfl rfl (Z6 hC 5 (u2_0) rfl sc53 rfl rfl (Zb (v:=vI s10.2) rfl (Zb (v:=vI (i10:Int)) rfl ?_))))))))))))))))
    obtain ⟨⟨h12,h13⟩,h⟩:=h
    obtain ⟨Ad13,c11,hv11⟩:=Z3 (hC.getP 0 rfl) s10.2.toNat (show s10.2.toNat < a2.terms.length by omega)
    refine Yu (len:=a2.terms.length) ZFj ag90.size (tr rfl hv11) rfl h12 h13 (Zal (s10.2.toNat * 9+0) ZFp rfl ag88.size rfl rfl ?_)
    obtain ⟨⟨h14,h15⟩,h⟩:=h
    refine Zkw (s10.2.toNat * 9+0+i10) Tryz.underlying88 sc5.size rfl rfl h14 h15 (by omega) (Xz (.int .u8 (((a2.terms.getD s10.2.toNat Zt0).mono).get i10)) (Xo (o:=i10) (k:=1) (Yj (hC.getP 0 rfl) hv11 s10.2.toNat (show s10.2.toNat < a2.terms.length by omega)) (Zih (r:=_) (show i10 < 8 by omega))) sc5 rfl (Xx rfl rfl (dn ?_)))
    refine Zq rfl (fun hb11=>?_) (fun hb11=>?_)
    ·replace h:=ift h (ct hb11)
     refine cwd 16 mixed [0,0,0,0,0,24,56,0,128,0,0,896,2944,8064,16256,32764,65535,131071] [1,5,6,8,11,13,14] [0,2,3,4,7,9,10,12] (fun hM11 hM10 w18 hB_=>?_)
     replace hC:=hC.grow hB_
     refine bM 0 (u0_0) rfl hM10 (Za 18 1) (bL 1 (.agg #[v11]) rfl rfl hM11 (fun _ hB_=>by exact Yo (hC.grow hB_) 1 [v11] rfl ag55 rfl rfl rfl) (Za 18 3) (bM 2 (u0_0) rfl hM10 (Za 18 7) (bM 3 (u1_0) rfl hM10 (Za 18 15) (bM 4 (vI (i10:Int)) rfl hM10 (Za 18 31) ?_))))
     obtain ⟨Ad11,c12,hv12⟩:=Z3 (hC.getP 2 rfl) i10 hi10
     refine bL 5 (.pointer (some (Ad11.add (i10 * 1)))) rfl rfl hM11 (fun _ hB_=>by exact Yy (len:=a1.length) ZFx ag55.size (by exact tr rfl hv12) rfl (ZFq _) (ZF8.2 hi10)) (Za 18 63) ?_
     obtain ⟨cs_,hl10,hc10,hr10⟩:=Xh (hC.getP 2 rfl) hv12 i10 hi10
     obtain ⟨u13,rfl⟩:=ZF7.1 hl10
     clear hl10
     rw [Xf _ _ hi10] at hr10
     have hp10:=hr10
     replace hC:=hC.derive 2 rfl (ZBl ZFa.ty.sl ((a1.getD i10 Zt0).terms) [u13] fp1) (fun _=>(Yn hp10)) (fun _ hb_=>hb_)
     refine bL 6 (.agg #[u13]) rfl rfl hM11 (fun _ hB_=>by exact Xl [u13] (J9 hB_ hc10) ag55 rfl rfl) (Za 18 127) (bF 7 (vQ b6) rfl rfl hM10 (fun _=>by exact Ye 0 ZFg rfl sc53.size rfl rfl) (Za 18 255) (bL 8 (u2_0) rfl rfl hM11 (fun _ hB_=>by exact Yc (hC.grow hB_) 5 (u2_0) rfl sc53 rfl rfl) (Za 18 511) (bM 9 (vI s10.2) rfl hM10 (Za 18 1023) (bM 10 (vI (i10:Int)) rfl hM10 (Za 18 2047) ?_))))
     obtain ⟨⟨h16,h17⟩,h⟩:=h
     obtain ⟨Ad10,c13,hv13⟩:=Z3 (hC.getP 1 rfl) s10.2.toNat (show s10.2.toNat < a2.terms.length by omega)
     refine bL 11 (.pointer (some (Ad10.add (s10.2.toNat * 9)))) rfl rfl hM11 (fun _ hB_=>by exact Yy (len:=a2.terms.length) ZFj ag90.size (by exact tr rfl hv13) rfl h16 h17) (Za 18 4095) (bF 12 (.pointer (some (Ad10.add (s10.2.toNat * 9+0)))) rfl rfl hM10 (fun _=>by exact J1 (s10.2.toNat * 9+0) ZFp rfl ag88.size rfl rfl) (Za 18 8191) ?_)
     obtain ⟨⟨h18,h19⟩,h⟩:=h
     refine bL 13 (.pointer (some (Ad10.add (s10.2.toNat * 9+0+i10)))) rfl rfl hM11 (fun _ hB_=>by exact Zox (s10.2.toNat * 9+0+i10) Tryz.underlying88 sc5.size rfl rfl h18 h19 (by omega)) (Za 18 16383) (bL 14 (.int .u8 (((a2.terms.getD s10.2.toNat Zt0).mono).get i10)) rfl rfl hM11 (fun _ hB_=>by exact J7 (.int .u8 (((a2.terms.getD s10.2.toNat Zt0).mono).get i10)) (Xo (o:=i10) (k:=1) (Yj ((hC.grow hB_).getP 1 rfl) hv13 s10.2.toNat (show s10.2.toNat < a2.terms.length by omega)) (Zih (r:=_) (show i10 < 8 by omega))) sc5 rfl) (Za 18 32767) (aO 15 rfl (Zf [u0_0,.agg #[u13],.int .u8 (((a2.terms.getD s10.2.toNat Zt0).mono).get i10)] _ Tryz.func61 rfl rfl rfl (Zs2 a0 (a1.getD i10 Zt0) (((a2.terms.getD s10.2.toNat Zt0).mono).get i10) h _ (hC.getP 2 rfl) (Yh (hC.getP 0 rfl))) ?_)))
     rintro _ w19 ⟨r11,u14,f11,rfl,h,hr12,hf12,hB11⟩
     refine rt ?_
     replace hC:=hC.push hB11 (ZFo (Zj 90) r11 [u14] f11) hr12 hf12
     obtain ⟨ho11,hf13⟩:=Xb (hC.getM 0 rfl)
     subst hf13
     replace hC:=hC.recast (c:=own 90 9 u14 r11.terms.length (ZFa.encs r11.terms)) (fun _ h_=>h_) (fun _=>ho11)
     refine done (aK (by assumption) (Za 18 65535) (Z0 16 (by decide) (by decide) (by kernel_rfl) (by kernel_rfl) rfl (Zf [u0_0,.agg #[v11],.agg #[u14]] _ Tryz.func60 rfl rfl rfl (Zav a0 (⟨s11⟩:ZFd) r11 h _ (hC.getP 2 rfl) (Yh (Yv (hC.getM 1 rfl))) (Yh (Yv (hC.getM 0 rfl)))) ?_)))
     rintro _ w20 ⟨r12,u11,f12,rfl,h,hr13,hf14,hB12⟩
     refine rt ?_
     replace hC:=hC.push hB12 (ZFo (Zj 90) r12 [u11] f12) hr13 hf14
     obtain ⟨ho12,hf15⟩:=Xb (hC.getM 0 rfl)
     subst hf15
     replace hC:=hC.recast (c:=own 90 9 u11 r12.terms.length (ZFa.encs r12.terms)) (fun _ h_=>h_) (fun _=>ho12)
     refine Zu (v:=.agg #[u11]) hC 3 [u11] [u11] rfl ag55.size rfl rfl rfl rfl (Ym (Y8 (hC.getM 0 rfl)) rfl) (ZFi rfl) rfl fun w21 hC=>done (Z1 (Zt (Zd (Zn (Zb (v:=vI (i10:Int)) rfl (Zr rfl rfl (Zc (v:=vI (Zwe.wrap ((i10:Int)+1))) rfl (done ?_))))))))
     exact hK10 r12.terms _ _ ⟨u11,(sl ⟨rfl,rfl,rfl,rfl,rfl,rfl,rfl,(tr rfl (congrArg _ (Z9 hi10 hN10))),trivial⟩),((hC.xM [0,3,4,5,6,7] rfl).sP [1,2,3,4] rfl)⟩ h
    ·replace h:=Zl h (cf hb11)
     refine ZFc (Zt (Zd (Zn (Zb (v:=vI (i10:Int)) rfl (Zr rfl rfl (Zc (v:=vI (Zwe.wrap ((i10:Int)+1))) rfl (done ?_)))))))
     exact hK10 s11 _ _ ⟨v11,(sl ⟨rfl,rfl,rfl,rfl,rfl,rfl,rfl,(tr rfl (congrArg _ (Z9 hi10 hN10))),trivial⟩),hC⟩ h
   ·clear hC h
    rintro s11 e_ w22 K10 ⟨v11,hS_,hC⟩ h
    rw [ue hS_]
    refine ZE9 (sr (Zb (v:=vI (a1.length:Int)) rfl (Zb (v:=u1_0) rfl (Zx hC 2 rfl ZFx rfl (Zo rfl rfl (dn (Ya rfl (decide_eq_false (by omega)) ?_)))))))
    refine ZFn (Zm (Zm (Z5 ?_)))
    refine Zd (Zn (Yd hC 3 [v10] rfl ag55 rfl rfl rfl (Yd hC 1 [v11] rfl ag55 rfl rfl rfl (Zf [.agg #[v10],.agg #[v11],vI 1] _ Tryz.func41 rfl rfl rfl (Zer (⟨s10.1⟩:ZFd) (⟨s11⟩:ZFd) 1 h _ (Yh (Yv (hC.getM 2 rfl))) (Yh (Yv (hC.getM 0 rfl)))) ?_))))
    rintro _ w23 ⟨r13,u12,f13,rfl,h,hr14,hf16,hB13⟩
    refine rt ?_
    replace hC:=hC.push hB13 (ZFo (Zj 90) r13 [u12] f13) hr14 hf16
    obtain ⟨ho13,hf17⟩:=Xb (hC.getM 0 rfl)
    subst hf17
    replace hC:=hC.recast (c:=own 90 9 u12 r13.terms.length (ZFa.encs r13.terms)) (fun _ h_=>h_) (fun _=>ho13)
    refine Zu (v:=.agg #[u12]) hC 4 [u12] [u12] rfl ag55.size rfl rfl rfl rfl (Ym (Y8 (hC.getM 0 rfl)) rfl) (ZFi rfl) rfl fun w24 hC=>done (Zt (Zd (Zn (Zb (v:=vI s10.2) rfl (Zr rfl rfl (Zc (v:=vI (Zwe.wrap (s10.2+1))) rfl (done ?_)))))))
    exact hK11 (r13.terms,Zwe.wrap (s10.2+1)) _ _ ⟨u12,(slq rfl),(hC.xM [0,4,5,6] rfl)⟩ h
   ·skip
    exact⟨u10,(slq rfl),(hC.xM [1,0,2,3,4,5] rfl)⟩
  ·replace h:=Zl h (cf hb10)
   refine ZFn (Zm (Zm (Z5 ?_)))
   refine Zd (sr (Yd hC 1 [v10] rfl ag55 rfl rfl rfl (Zu (v:=.agg #[v10]) hC 2 [v10] [v10] rfl ag55.size rfl rfl rfl rfl (Ym (Y8 (hC.getM 0 rfl)) rfl) (ZFi rfl) rfl fun w25 hC=>dn (ZFh ?_))))
   exact Zk rfl (X3 hC 2 rfl ag55 rfl rfl) ⟨(⟨s10.1⟩:ZFd),v10,(ZF6 (Zum v10)),rfl,h,(Jr (Jq (hC.getM 0 rfl))),(Jo hC 0 rfl),hC.below⟩ (.inl rfl)
 ·skip
  replace hC:=hC.pushNil 90 9
  exact⟨.slice none 0 0,(slq rfl),hC⟩
def Zd4 (a0:Alg) (a1:Alg) (a2:List ZFd) (K:Bool→Prop):Prop :=
 Zdh a0 (fun r16=>(if¬ (r16=true) then K false else Zdh a1 (fun r14=>(if¬ (r14=true) then K false else(if(a2.length:Int)≠(a0.degrees.length:Int) then K false else Yg (fun i10 (s10:Unit) nx10=>Zcg a1.degrees (a2.getD i10 Zt0) (fun r17=>(if¬ (r17=true) then K false else Zdf a1.degrees (a2.getD i10 Zt0) (fun r10 r11=>(if¬ (r11=true) then K false else(if(((a2.getD i10 Zt0).terms).length:Int) > 0 then((0≤(i10:Int)∧(i10:Int) < (a0.degrees.length:Int))∧(if r10≠a0.degrees.getD i10 Zt0 then K false else nx10 ())) else nx10 ())))))) (fun (s10:Unit)=>Yg (fun i11 (s11:Unit) nx11=>((0≤(i11:Int)∧(i11:Int) < (a0.images.length:Int))∧Zd3 a1.degrees a2 (a0.images.getD i11 Zt0) (fun r12=>Zdg a1 (a2.getD i11 Zt0) (fun r13=>Jy r12 r13 10006 (fun r15=>(if(r15.terms.length:Int) > 0 then K false else nx11 ())))))) (fun (s11:Unit)=>K true) a2.length 0 ()) a2.length 0 ())))))
theorem Zmz (a0 : Alg) (a1 : Alg) (a2 : List ZFd)  {K : Bool → Prop} (h : Zd4 a0 a1 a2 K) (w0 : World) (q0 : TAlg.rep a0 [u0_0, u0_1] fp0 w0) (q1 : TAlg.rep a1 [u1_0, u1_1] fp1 w0) (q2 : ZFv.sl.rep a2 [u2_0] fp2 w0) :
  Calls ZFb 27 #[.agg #[u0_0,u0_1],.agg #[u1_0,u1_1],u2_0] w0 fun e w'=>∃ (r0:Bool),
   e=.returned (.bool r0)∧K r0∧Bel w0 w':=by
 unfold Zd4 at h
 refine cof Tryz.func27 rfl 96 Tryz.ntmps27 ?_
 have hC:=ZFu (X:=Nox) w0 [ZBl TAlg a0 [u0_0,u0_1] fp0,ZBl TAlg a1 [u1_0,u1_1] fp1,ZBl ZFv.sl a2 [u2_0] fp2] (alc q0 (alc q1 (al1 q2)))
 replace hC:=hC.dAlg 0 rfl
 replace hC:=hC.dAlg 3 rfl
 refine sr (Yf (v:=.agg #[u0_0,u0_1]) hC [u0_0,u0_1] rfl rfl fun b8 w10 hB_ hC=>Yf (v:=.agg #[u1_0,u1_1]) hC [u1_0,u1_1] rfl rfl fun b10 w11 hB_ hC=>Zc (v:=.bool false) rfl (dn (ZE9 (sr (Yd hC 1 [u0_0,u0_1] rfl ag32 rfl rfl rfl (Zf [.agg #[u0_0,u0_1]] _ Tryz.func38 rfl rfl rfl (Zk4 a0 h _ (Yi (hC.getP 3 rfl) (hC.getP 2 rfl))) ?_))))))
 rintro _ w12 ⟨r16,rfl,h,hB10⟩
 refine rt ?_
 replace hC:=hC.grow hB10
 refine Y4 rfl (Zb (v:=.bool (!r16)) rfl ?_)
 refine Yt (!r16) (fun hb13=>?_) (fun hb13=>?_)
 ·replace h:=ift h (Yq (Y5 hb13))
  refine Zh (b:=true) 3 14 rfl (tr rfl (congrArg _ hb13)) (by decide) (Zh (b:=true) 3 14 rfl (tr rfl (congrArg _ hb13)) (by decide) (Zh (b:=true) 3 14 rfl (tr rfl (congrArg _ hb13)) (by decide) (Zw (v:=.bool true) (b:=true) (tr rfl (congrArg _ hb13)) rfl (Zb (v:=.bool true) rfl (Zh (b:=true) 8 19 rfl (tr rfl (congrArg _ rfl)) (by decide) (Zh (b:=true) 8 19 rfl (tr rfl (congrArg _ rfl)) (by decide) (Zh (b:=true) 8 19 rfl (tr rfl (congrArg _ rfl)) (by decide) (Zh (b:=true) 8 19 rfl (tr rfl (congrArg _ rfl)) (by decide) (Zh (b:=true) 8 19 rfl (tr rfl (congrArg _ rfl)) (by decide) (Zh (b:=true) 8 19 rfl (tr rfl (congrArg _ rfl)) (by decide) (Zw (v:=.bool true) (b:=true) rfl rfl (dn (Z8 rfl rfl (sr (Zc (v:=.bool false) rfl (dn ?_))))))))))))))))
  refine ZFh (Ze ?_)
  exact Zk rfl (Zg rfl) ⟨false,rfl,h,hC.below⟩ (.inl rfl)
 ·replace h:=Zl h (not_not_intro ((Y6 hb13)))
  refine Zi 3 14 rfl rfl hb13 (Yd hC 0 [u1_0,u1_1] rfl ag32 rfl rfl rfl (Zi 3 14 rfl rfl hb13 (Zf [.agg #[u1_0,u1_1]] _ Tryz.func38 rfl rfl rfl (Zk4 a1 h _ (Yi (hC.getP 1 rfl) (hC.getP 0 rfl))) ?_)))
  rintro _ w13 ⟨r14,rfl,h,hB11⟩
  refine rt ?_
  replace hC:=hC.grow hB11
  refine Zi 3 14 rfl rfl hb13 (Y4 rfl (Zw (v:=.bool (!r14)) (b:=false) (tr rfl (congrArg _ hb13)) rfl (Zb (v:=.bool (!r14)) rfl ?_)))
  refine Yt (!r14) (fun hb12=>?_) (fun hb12=>?_)
  ·replace h:=ift h (Yq (Y5 hb12))
   refine Zh (b:=true) 8 19 rfl (tr rfl (congrArg _ hb12)) (by decide) (Zh (b:=true) 8 19 rfl (tr rfl (congrArg _ hb12)) (by decide) (Zh (b:=true) 8 19 rfl (tr rfl (congrArg _ hb12)) (by decide) (Zh (b:=true) 8 19 rfl (tr rfl (congrArg _ hb12)) (by decide) (Zh (b:=true) 8 19 rfl (tr rfl (congrArg _ hb12)) (by decide) (Zh (b:=true) 8 19 rfl (tr rfl (congrArg _ hb12)) (by decide) (Zw (v:=.bool true) (b:=true) (tr rfl (congrArg _ hb12)) rfl (dn (Z8 rfl rfl (sr (Zc (v:=.bool false) rfl (dn ?_)))))))))))
   refine ZFh (Ze ?_)
   exact Zk rfl (Zg rfl) ⟨false,rfl,h,hC.below⟩ (.inl rfl)
  ·replace h:=Zl h (not_not_intro ((Y6 hb12)))
   refine Zi 8 19 rfl rfl hb12 (Zb (v:=u2_0) rfl (Zi 8 19 rfl rfl hb12 (Zx hC 6 rfl ZFx rfl (Zi 8 19 rfl rfl hb12 (Zz 0 ZFt rfl sc22.size rfl rfl (Zi 8 19 rfl rfl hb12 (Z6 hC 1 (u0_0) rfl sc22 rfl rfl (Zi 8 19 rfl rfl hb12 (Zx hC 3 rfl ZFs rfl (Zi 8 19 rfl rfl hb12 (Y7 rfl rfl (Zw (v:=.bool (decide ((a2.length:Int)≠(a0.degrees.length:Int)))) (b:=false) (tr rfl (congrArg _ hb12)) rfl (dn ?_)))))))))))))
   refine Zq rfl (fun hb14=>?_) (fun hb14=>?_)
   ·replace h:=ift h (ct hb14)
    refine sr (Zc (v:=.bool false) rfl (dn ?_))
    refine ZFh (Ze ?_)
    exact Zk rfl (Zg rfl) ⟨false,rfl,h,hC.below⟩ (.inl rfl)
   ·replace h:=Zl h (cf hb14)
    refine ZFc (Zd (ZE9 (sr (Zc (v:=vI 0) rfl (dn (ZFf ?_))))))
    have hN10:a2.length≤9223372036854775807:=Y0 (hC.getP 6 rfl)
    refine Yp (S:=Unit) _ _ (fun i10 s10 e_ w_=>Z2 e_ [(2,u2_0),(3,vQ b8),(4,vQ b10),(7,vI (i10:Int))]∧Ctx Nox w0 w_ [blk b10 32 [u1_0,u1_1],blk b8 32 [u0_0,u0_1]] [ZBl ZFv.sl a1.images [u1_1] fp1,ZBl TInts a1.degrees [u1_0] fp1,ZBl ZFv.sl a0.images [u0_1] fp0,ZBl TInts a0.degrees [u0_0] fp0,ZBl TAlg a0 [u0_0,u0_1] fp0,ZBl TAlg a1 [u1_0,u1_1] fp1,ZBl ZFv.sl a2 [u2_0] fp2]) a2.length ?_ ?_ (s0:=()) ?_ h
    ·clear hC h
     rintro i10 s10 e_ w14 nx10 K10 hi10 ⟨hS_,hC⟩ h hK10
     rw [ue hS_]
     refine ZE9 (sr (Zb (v:=vI (i10:Int)) rfl (Zb (v:=u2_0) rfl (Zx hC 6 rfl ZFx rfl (Zo rfl rfl (dn (Z8 rfl (decide_eq_true (by omega)) (ZFc (Zd (ZE9 (ZFf (ZE9 (ZE9 ?_)))))))))))))
     refine cwd 6 mixed [0,1,0,0,12,28,63,127] [1,4,5] [0,2,3] (fun hM13 hM14 w15 hB_=>?_)
     replace hC:=hC.grow hB_
     refine bF 0 (vQ b10) rfl rfl hM14 (fun _=>by exact Ye 0 ZFt rfl sc22.size rfl rfl) (Za 8 1) (bL 1 (u1_0) rfl rfl hM13 (fun _ hB_=>by exact Yc (hC.grow hB_) 0 (u1_0) rfl sc22 rfl rfl) (Za 8 3) (bM 2 (u2_0) rfl hM14 (Za 8 7) (bM 3 (vI (i10:Int)) rfl hM14 (Za 8 15) ?_)))
     obtain ⟨Ad10,c10,hv10⟩:=Z3 (hC.getP 6 rfl) i10 hi10
     refine bL 4 (.pointer (some (Ad10.add (i10 * 1)))) rfl rfl hM13 (fun _ hB_=>by exact Yy (len:=a2.length) ZFx ag55.size (by exact tr rfl hv10) rfl (ZFq _) (ZF8.2 hi10)) (Za 8 31) ?_
     obtain ⟨cs_,hl10,hc10,hr10⟩:=Xh (hC.getP 6 rfl) hv10 i10 hi10
     obtain ⟨u10,rfl⟩:=ZF7.1 hl10
     clear hl10
     rw [Xf _ _ hi10] at hr10
     have hp10:=hr10
     replace hC:=hC.derive 6 rfl (ZBl ZFa.ty.sl ((a2.getD i10 Zt0).terms) [u10] fp2) (fun _=>(Yn hp10)) (fun _ hb_=>hb_)
     refine bL 5 (.agg #[u10]) rfl rfl hM13 (fun _ hB_=>by exact Xl [u10] (J9 hB_ hc10) ag55 rfl rfl) (Za 8 63) (Z0 6 (by decide) (by decide) (by kernel_rfl) (by kernel_rfl) rfl (Zf [u1_0,.agg #[u10]] _ Tryz.func56 rfl rfl rfl (Zip a1.degrees (a2.getD i10 Zt0) h _ (hC.getP 2 rfl) (Yh (hC.getP 0 rfl))) ?_))
     rintro _ w16 ⟨r17,rfl,h,hB12⟩
     refine rt ?_
     replace hC:=hC.grow hB12
     refine Y4 rfl (done (Z1 (Zd ?_)))
     refine Zq rfl (fun hb15=>?_) (fun hb15=>?_)
     ·replace h:=ift h (Yq (Y5 hb15))
      refine sr (Zc (v:=.bool false) rfl (dn ?_))
      refine ZFh (Ze (Zv (Ze (Ze (Zv (Ze ?_))))))
      exact Zk rfl (Zg rfl) ⟨false,rfl,h,hC.below⟩ (.inl rfl)
     ·replace h:=Zl h (not_not_intro ((Y6 hb15)))
      refine ZFc (Zd (ZE9 ?_))
      refine cwd 11 mixed [0,1,0,0,12,28,63,127,255,255,511,2047] [1,4,5] [0,2,3,7,8,9,10] (fun hM15 hM10 w17 hB_=>?_)
      replace hC:=hC.grow hB_
      refine bF 0 (vQ b10) rfl rfl hM10 (fun _=>by exact Ye 0 ZFt rfl sc22.size rfl rfl) (Za 12 1) (bL 1 (u1_0) rfl rfl hM15 (fun _ hB_=>by exact Yc (hC.grow hB_) 0 (u1_0) rfl sc22 rfl rfl) (Za 12 3) (bM 2 (u2_0) rfl hM10 (Za 12 7) (bM 3 (vI (i10:Int)) rfl hM10 (Za 12 15) ?_)))
      obtain ⟨Ad11,c11,hv11⟩:=Z3 (hC.getP 7 rfl) i10 hi10
      refine bL 4 (.pointer (some (Ad11.add (i10 * 1)))) rfl rfl hM15 (fun _ hB_=>by exact Yy (len:=a2.length) ZFx ag55.size (by exact tr rfl hv11) rfl (ZFq _) (ZF8.2 hi10)) (Za 12 31) ?_
      obtain ⟨cs_,hl11,hc11,hr11⟩:=Xh (hC.getP 7 rfl) hv11 i10 hi10
      obtain ⟨u11,rfl⟩:=ZF7.1 hl11
      clear hl11
      rw [Xf _ _ hi10] at hr11
      have hp11:=hr11
      replace hC:=hC.derive 7 rfl (ZBl ZFa.ty.sl ((a2.getD i10 Zt0).terms) [u11] fp2) (fun _=>(Yn hp11)) (fun _ hb_=>hb_)
      refine bL 5 (.agg #[u11]) rfl rfl hM15 (fun _ hB_=>by exact Xl [u11] (J9 hB_ hc11) ag55 rfl rfl) (Za 12 63) (aO 6 rfl (Zf [u1_0,.agg #[u11]] _ Tryz.func57 rfl rfl rfl (Zk2 a1.degrees (a2.getD i10 Zt0) h _ (hC.getP 3 rfl) (Yh (hC.getP 0 rfl))) ?_))
      rintro _ w18 ⟨r10,r11,rfl,h,hB13⟩
      refine rt ?_
      replace hC:=hC.grow hB13
      refine done (aK (by assumption) (Za 12 127) (bM 7 (.tuple #[vI r10,.bool r11]) rfl hM10 (Za 12 255) (bF 8 (vI r10) rfl rfl hM10 (fun _=>by exact Jm (v:=vI r10) rfl rfl) (Za 12 511) (bF 9 (.bool r11) rfl rfl hM10 (fun _=>by exact Jm (v:=.bool r11) rfl rfl) (Za 12 1023) (bA 10 (vI r10) rfl hM10 (Za 12 2047) (Z0 11 (by decide) (by decide) (by kernel_rfl) (by kernel_rfl) rfl (Zc (v:=.bool r11) rfl (done (Z1 (Zd (sr (Zb (v:=.bool r11) rfl (Y4 rfl (Zb (v:=.bool (!r11)) rfl ?_))))))))))))))
      refine Yt (!r11) (fun hb10=>?_) (fun hb10=>?_)
      ·replace h:=ift h (Yq (Y5 hb10))
       refine Zh (b:=true) 2 53 rfl (tr rfl (congrArg _ hb10)) (by decide) (Zh (b:=true) 2 53 rfl (tr rfl (congrArg _ hb10)) (by decide) (Zh (b:=true) 2 53 rfl (tr rfl (congrArg _ hb10)) (by decide) (Zh (b:=true) 2 53 rfl (tr rfl (congrArg _ hb10)) (by decide) (Zh (b:=true) 2 53 rfl (tr rfl (congrArg _ hb10)) (by decide) (Zh (b:=true) 2 53 rfl (tr rfl (congrArg _ hb10)) (by decide) (Zh (b:=true) 2 53 rfl (tr rfl (congrArg _ hb10)) (by decide) (Zh (b:=true) 2 53 rfl (tr rfl (congrArg _ hb10)) (by decide) (Xg 10 61 rfl rfl (Xg 10 61 rfl rfl (Xg 10 61 rfl rfl (Xg 10 61 rfl rfl (Xg 10 61 rfl rfl (Xg 10 61 rfl rfl (Xg 10 61 rfl rfl (Zh (b:=true) 2 53 rfl (tr rfl (congrArg _ hb10)) (by decide) (Zw (v:=.bool true) (b:=true) (tr rfl (congrArg _ hb10)) rfl (dn (Z8 rfl rfl (sr (Zc (v:=.bool false) rfl (dn ?_)))))))))))))))))))))
       refine ZFh (Zv (Ze (Ze (Zv (Ze ?_)))))
       exact Zk rfl (Zg rfl) ⟨false,rfl,h,hC.below⟩ (.inl rfl)
      ·replace h:=Zl h (not_not_intro ((Y6 hb10)))
       refine Zi 2 53 rfl rfl hb10 (Zb (v:=u2_0) rfl (Zi 2 53 rfl rfl hb10 (Zb (v:=vI (i10:Int)) rfl (Zi 2 53 rfl rfl hb10 ?_))))
       obtain ⟨Ad14,c12,hv12⟩:=Z3 (hC.getP 8 rfl) i10 hi10
       refine Yu (len:=a2.length) ZFx ag55.size (tr rfl hv12) rfl (ZFq _) (ZF8.2 hi10) (Zi 2 53 rfl rfl hb10 (Zal (i10 * 1+0) ZFg rfl sc53.size rfl rfl (Zi 2 53 rfl rfl hb10 ?_)))
       obtain ⟨cs_,hl12,hc12,hr12⟩:=Xh (hC.getP 8 rfl) hv12 i10 hi10
       obtain ⟨u17,rfl⟩:=ZF7.1 hl12
       clear hl12
       rw [Xf _ _ hi10] at hr12
       have hp12:=hr12
       replace hC:=hC.derive 8 rfl (ZBl ZFa.ty.sl ((a2.getD i10 Zt0).terms) [u17] fp2) (fun _=>(Yn hp12)) (fun _ hb_=>hb_)
       refine Xz (u17) (Xo (o:=0) (k:=1) hc12 rfl) sc53 rfl (Zi 2 53 rfl rfl hb10 (Zx hC 0 rfl ZFj rfl (Zi 2 53 rfl rfl hb10 (Xx rfl rfl (Zi 2 53 rfl rfl hb10 (Zb (v:=.bool (decide ((((a2.getD i10 Zt0).terms).length:Int) > 0))) rfl ?_))))))
       refine Yt (decide ((((a2.getD i10 Zt0).terms).length:Int) > 0)) (fun hb11=>?_) (fun hb11=>?_)
       ·replace h:=ift h (ct hb11)
        refine Zi 10 61 rfl rfl hb11 (Zb (v:=vI r10) rfl (Zi 10 61 rfl rfl hb11 (Zz 0 ZFt rfl sc22.size rfl rfl (Zi 10 61 rfl rfl hb11 (Z6 hC 1 (u0_0) rfl sc22 rfl rfl (Zi 10 61 rfl rfl hb11 (Zb (v:=vI (i10:Int)) rfl (Zi 10 61 rfl rfl hb11 ?_))))))))
        obtain ⟨⟨h10,h11⟩,h⟩:=h
        obtain ⟨Ad15,c13,hv13⟩:=Z3 (hC.getP 6 rfl) i10 (show i10 < a0.degrees.length by omega)
        refine Yu (len:=a0.degrees.length) ZFs sc2.size (tr rfl hv13) rfl h10 h11 (Zi 10 61 rfl rfl hb11 (Xz (vI (a0.degrees.getD i10 Zt0)) (Yj (hC.getP 6 rfl) hv13 i10 (show i10 < a0.degrees.length by omega)) sc2 rfl (Zi 10 61 rfl rfl hb11 (Y7 rfl rfl (Zi 2 53 rfl rfl hb10 (Zw (v:=.bool (decide (r10≠a0.degrees.getD i10 Zt0))) (b:=true) (tr rfl (congrArg _ hb11)) rfl (Zw (v:=.bool (decide (r10≠a0.degrees.getD i10 Zt0))) (b:=false) (tr rfl (congrArg _ hb10)) rfl (dn ?_))))))))
        refine Zq rfl (fun hb16=>?_) (fun hb16=>?_)
        ·replace h:=ift h (ct hb16)
         refine sr (Zc (v:=.bool false) rfl (dn ?_))
         refine ZFh (Zv (Ze (Ze (Zv (Ze ?_)))))
         exact Zk rfl (Zg rfl) ⟨false,rfl,h,hC.below⟩ (.inl rfl)
        ·replace h:=Zl h (cf hb16)
         refine ZFc (Zt (Zd (Zn (Zb (v:=vI (i10:Int)) rfl (Zr rfl rfl (Zc (v:=vI (Zwe.wrap ((i10:Int)+1))) rfl (done ?_)))))))
         exact hK10 () _ _ ⟨(sl ⟨rfl,rfl,rfl,(tr rfl (congrArg _ (Z9 hi10 hN10))),trivial⟩),(hC.sP [3,4,5,6,7,8,9] rfl)⟩ h
       ·replace h:=Zl h (cf hb11)
        refine Zh (b:=false) 10 61 rfl (tr rfl (congrArg _ hb11)) (by decide) (Zh (b:=false) 10 61 rfl (tr rfl (congrArg _ hb11)) (by decide) (Zh (b:=false) 10 61 rfl (tr rfl (congrArg _ hb11)) (by decide) (Zh (b:=false) 10 61 rfl (tr rfl (congrArg _ hb11)) (by decide) (Zh (b:=false) 10 61 rfl (tr rfl (congrArg _ hb11)) (by decide) (Zh (b:=false) 10 61 rfl (tr rfl (congrArg _ hb11)) (by decide) (Zh (b:=false) 10 61 rfl (tr rfl (congrArg _ hb11)) (by decide) (Zi 2 53 rfl rfl hb10 (Zw (v:=.bool false) (b:=false) (tr rfl (congrArg _ hb11)) rfl (Zw (v:=.bool false) (b:=false) (tr rfl (congrArg _ hb10)) rfl (dn (Ya rfl rfl (ZFc (Zt (Zd (Zn (Zb (v:=vI (i10:Int)) rfl (Zr rfl rfl (Zc (v:=vI (Zwe.wrap ((i10:Int)+1))) rfl (done ?_)))))))))))))))))))
        exact hK10 () _ _ ⟨(sl ⟨rfl,rfl,rfl,(tr rfl (congrArg _ (Z9 hi10 hN10))),trivial⟩),(hC.sP [3,4,5,6,7,8,9] rfl)⟩ h
    ·clear hC h
     rintro s10 e_ w19 K10 ⟨hS_,hC⟩ h
     rw [ue hS_]
     refine ZE9 (sr (Zb (v:=vI (a2.length:Int)) rfl (Zb (v:=u2_0) rfl (Zx hC 6 rfl ZFx rfl (Zo rfl rfl (dn (Ya rfl (decide_eq_false (by omega)) ?_)))))))
     refine ZFn (Zm (Zm (Z5 ?_)))
     refine Zd (ZE9 (sr (Zc (v:=vI 0) rfl (dn (ZFf ?_)))))
     have hN11:a2.length≤9223372036854775807:=Y0 (hC.getP 6 rfl)
     refine Yp (S:=Unit) _ _ (fun i11 s11 e_ w_=>Z2 e_ [(2,u2_0),(3,vQ b8),(4,vQ b10),(10,vI (i11:Int))]∧Ctx Nox w0 w_ [blk b10 32 [u1_0,u1_1],blk b8 32 [u0_0,u0_1]] [ZBl ZFv.sl a1.images [u1_1] fp1,ZBl TInts a1.degrees [u1_0] fp1,ZBl ZFv.sl a0.images [u0_1] fp0,ZBl TInts a0.degrees [u0_0] fp0,ZBl TAlg a0 [u0_0,u0_1] fp0,ZBl TAlg a1 [u1_0,u1_1] fp1,ZBl ZFv.sl a2 [u2_0] fp2]) a2.length ?_ ?_ (s0:=()) ?_ h
     ·clear hC h
      rintro i11 s11 e_ w20 nx11 K11 hi11 ⟨hS_,hC⟩ h hK11
      rw [ue hS_]
      refine ZE9 (sr (Zb (v:=vI (i11:Int)) rfl (Zb (v:=u2_0) rfl (Zx hC 6 rfl ZFx rfl (Zo rfl rfl (dn (Z8 rfl (decide_eq_true (by omega)) (ZFc (Zd (ZE9 (ZFf (ZE9 ?_))))))))))))
      refine cwd 14 mixed [0,1,0,0,8,0,56,120,255,0,0,0,3072,7168,16383,32767,65535,131071,262143] [1,4,6,7,9,12,13] [0,2,3,5,10,11] (fun hM11 hM12 w21 hB_=>?_)
      replace hC:=hC.grow hB_
      refine bF 0 (vQ b10) rfl rfl hM12 (fun _=>by exact Ye 0 ZFt rfl sc22.size rfl rfl) (Za 19 1) (bL 1 (u1_0) rfl rfl hM11 (fun _ hB_=>by exact Yc (hC.grow hB_) 0 (u1_0) rfl sc22 rfl rfl) (Za 19 3) (bM 2 (u2_0) rfl hM12 (Za 19 7) (bF 3 (.pointer (some ⟨b8,1,none⟩)) rfl rfl hM12 (fun _=>by exact Ye 1 ZFt rfl sc28.size rfl rfl) (Za 19 15) (bL 4 (u0_1) rfl rfl hM11 (fun _ hB_=>by exact Yc (hC.grow hB_) 1 (u0_1) rfl sc28 rfl rfl) (Za 19 31) (bM 5 (vI (i11:Int)) rfl hM12 (Za 19 63) ?_)))))
      obtain ⟨⟨h12,h13⟩,h⟩:=h
      obtain ⟨Ad12,c14,hv14⟩:=Z3 (hC.getP 2 rfl) i11 (show i11 < a0.images.length by omega)
      refine bL 6 (.pointer (some (Ad12.add (i11 * 1)))) rfl rfl hM11 (fun _ hB_=>by exact Yy (len:=a0.images.length) ZFx ag55.size (by exact tr rfl hv14) rfl h12 h13) (Za 19 127) ?_
      obtain ⟨cs_,hl13,hc13,hr13⟩:=Xh (hC.getP 2 rfl) hv14 i11 (show i11 < a0.images.length by omega)
      obtain ⟨u12,rfl⟩:=ZF7.1 hl13
      clear hl13
      rw [Xf _ _ (show i11 < a0.images.length by omega)] at hr13
      have hp13:=hr13
      replace hC:=hC.derive 2 rfl (ZBl ZFa.ty.sl ((a0.images.getD i11 Zt0).terms) [u12] fp0) (fun _=>(Yn hp13)) (fun _ hb_=>hb_)
      refine bL 7 (.agg #[u12]) rfl rfl hM11 (fun _ hB_=>by exact Xl [u12] (J9 hB_ hc13) ag55 rfl rfl) (Za 19 255) (bL 9 (.agg #[u1_0,u1_1]) rfl rfl hM11 (fun _ hB_=>by exact Yo (hC.grow hB_) 0 [u1_0,u1_1] rfl ag32 rfl rfl rfl) (Za 19 767) (bM 10 (u2_0) rfl hM12 (Za 19 1791) (bM 11 (vI (i11:Int)) rfl hM12 (Za 19 3839) ?_)))
      obtain ⟨Ad13,c15,hv15⟩:=Z3 (hC.getP 7 rfl) i11 hi11
      refine bL 12 (.pointer (some (Ad13.add (i11 * 1)))) rfl rfl hM11 (fun _ hB_=>by exact Yy (len:=a2.length) ZFx ag55.size (by exact tr rfl hv15) rfl (ZFq _) (ZF8.2 hi11)) (Za 19 7935) ?_
      obtain ⟨cs_,hl14,hc14,hr14⟩:=Xh (hC.getP 7 rfl) hv15 i11 hi11
      obtain ⟨u13,rfl⟩:=ZF7.1 hl14
      clear hl14
      rw [Xf _ _ hi11] at hr14
      have hp14:=hr14
      replace hC:=hC.derive 7 rfl (ZBl ZFa.ty.sl ((a2.getD i11 Zt0).terms) [u13] fp2) (fun _=>(Yn hp14)) (fun _ hb_=>hb_)
      refine bL 13 (.agg #[u13]) rfl rfl hM11 (fun _ hB_=>by exact Xl [u13] (J9 hB_ hc14) ag55 rfl rfl) (Za 19 16127) (aO 8 rfl (Zf [u1_0,u2_0,.agg #[u12]] _ Tryz.func28 rfl rfl rfl (Zmy a1.degrees a2 (a0.images.getD i11 Zt0) h _ (hC.getP 3 rfl) (hC.getP 8 rfl) (Yh (hC.getP 1 rfl))) ?_))
      rintro _ w22 ⟨r12,u14,f10,rfl,h,hr15,hf10,hB14⟩
      refine rt ?_
      replace hC:=hC.push hB14 (ZFo (Zj 90) r12 [u14] f10) hr15 hf10
      obtain ⟨ho10,hf11⟩:=Xb (hC.getM 0 rfl)
      subst hf11
      replace hC:=hC.recast (c:=own 90 9 u14 r12.terms.length (ZFa.encs r12.terms)) (fun _ h_=>h_) (fun _=>ho10)
      refine done (aK (by assumption) (Za 19 16383) (Z0 14 (by decide) (by decide) (by kernel_rfl) (by kernel_rfl) rfl (Zf [.agg #[u1_0,u1_1],.agg #[u13]] _ Tryz.func58 rfl rfl rfl (Zk3 a1 (a2.getD i11 Zt0) h _ (Yi (hC.getP 3 rfl) (hC.getP 2 rfl)) (Yh (hC.getP 0 rfl))) ?_)))
      rintro _ w23 ⟨r13,u15,f11,rfl,h,hr16,hf12,hB15⟩
      refine rt ?_
      replace hC:=hC.push hB15 (ZFo (Zj 90) r13 [u15] f11) hr16 hf12
      obtain ⟨ho11,hf13⟩:=Xb (hC.getM 0 rfl)
      subst hf13
      replace hC:=hC.recast (c:=own 90 9 u15 r13.terms.length (ZFa.encs r13.terms)) (fun _ h_=>h_) (fun _=>ho11)
      refine Zf [.agg #[u14],.agg #[u15],vI 10006] _ Tryz.func41 rfl rfl rfl (Zer r12 r13 10006 h _ (Yh (Yv (hC.getM 1 rfl))) (Yh (Yv (hC.getM 0 rfl)))) ?_
      rintro _ w24 ⟨r15,u16,f12,rfl,h,hr17,hf14,hB16⟩
      refine rt ?_
      replace hC:=hC.push hB16 (ZFo (Zj 90) r15 [u16] f12) hr17 hf14
      obtain ⟨ho12,hf15⟩:=Xb (hC.getM 0 rfl)
      subst hf15
      replace hC:=hC.recast (c:=own 90 9 u16 r15.terms.length (ZFa.encs r15.terms)) (fun _ h_=>h_) (fun _=>ho12)
      refine Zkx (u16) ZFg rfl sc53 rfl rfl (Zem hC 0 rfl ZFj rfl (Xx rfl rfl (done (Z1 (Zd ?_)))))
      refine Zq rfl (fun hb17=>?_) (fun hb17=>?_)
      ·replace h:=ift h (ct hb17)
       refine sr (Zc (v:=.bool false) rfl (dn ?_))
       refine ZFh (Zv (Ze (Ze (Zv (Ze ?_)))))
       exact Zk rfl (Zg rfl) ⟨false,rfl,h,hC.below⟩ (.inl rfl)
      ·replace h:=Zl h (cf hb17)
       refine ZFc (Zt (Zd (Zn (Zb (v:=vI (i11:Int)) rfl (Zr rfl rfl (Zc (v:=vI (Zwe.wrap ((i11:Int)+1))) rfl (done ?_)))))))
       exact hK11 () _ _ ⟨(sl ⟨rfl,rfl,rfl,(tr rfl (congrArg _ (Z9 hi11 hN11))),trivial⟩),((hC.xM [3,4] rfl).sP [2,3,4,5,6,7,8] rfl)⟩ h
     ·clear hC h
      rintro s11 e_ w25 K11 ⟨hS_,hC⟩ h
      rw [ue hS_]
      refine ZE9 (sr (Zb (v:=vI (a2.length:Int)) rfl (Zb (v:=u2_0) rfl (Zx hC 6 rfl ZFx rfl (Zo rfl rfl (dn (Ya rfl (decide_eq_false (by omega)) ?_)))))))
      refine ZFn (Zm (Zm (Z5 ?_)))
      refine Zd (sr (Zc (v:=.bool true) rfl (dn (ZFh ?_))))
      exact Zk rfl (Zg rfl) ⟨true,rfl,h,hC.below⟩ (.inl rfl)
     ·skip
      exact⟨(slq rfl),hC⟩
    ·skip
     exact⟨(slq rfl),hC⟩
def Zhj (a0:List Int) (a1:List ZFd) (K:List ZFd→Int→Prop):Prop :=
 Yg (fun i10 (s10:Unit) nx10=>Zcg a0 (a1.getD i10 Zt0) (fun r10=>(if¬ (r10=true) then K [] 3 else nx10 ()))) (fun (s10:Unit)=>K a1 0) a1.length 0 ()
theorem Zs3 (a0:List Int) (a1:List ZFd)  {K:List ZFd→Int→Prop} (h:Zhj a0 a1 K) (w0:World) (q0:TInts.rep a0 [u0_0] fp0 w0) (q1:ZFv.sl.rep a1 [u1_0] fp1 w0) :
  Calls ZFb 29 #[u0_0,u1_0] w0 fun e w'=>∃ (r0:List ZFd) (z0_0:Value) (fz0:List Nat) (r1:Int),
   e=.returned (.tuple #[z0_0,vI r1])∧K r0 r1∧ZFv.sl.rep r0 [z0_0] fz0 w'∧(∀ b,b∈fz0→w0.heap.size≤b∨b∈(fp0++(fp1)))∧Bel w0 w':=by
 unfold Zhj at h
 refine cof Tryz.func29 rfl 21 Tryz.ntmps29 ?_
 have hC:=ZFu (X:=Nox) w0 [ZBl TInts a0 [u0_0] fp0,ZBl ZFv.sl a1 [u1_0] fp1] (alc q0 (al1 q1))
 refine sr (Zc (v:=.slice none 0 0) rfl (Zc (v:=vI 0) rfl (dn (ZE9 (sr (Zc (v:=vI 0) rfl (dn (ZFf ?_))))))))
 have hN10:a1.length≤9223372036854775807:=Y0 (hC.getP 1 rfl)
 refine Yp (S:=Unit) _ _ (fun i10 s10 e_ w_=>Z2 e_ [(0,u0_0),(1,u1_0),(6,vI (i10:Int))]∧Ctx Nox w0 w_ [] [ZBl TInts a0 [u0_0] fp0,ZBl ZFv.sl a1 [u1_0] fp1]) a1.length ?_ ?_ (s0:=()) ?_ h
 ·clear hC h
  rintro i10 s10 e_ w10 nx10 K10 hi10 ⟨hS_,hC⟩ h hK10
  rw [ue hS_]
  refine ZE9 (sr (Zb (v:=vI (i10:Int)) rfl (Zb (v:=u1_0) rfl (Zx hC 1 rfl ZFx rfl (Zo rfl rfl (dn (Z8 rfl (decide_eq_true (by omega)) (ZFc (Zd (ZE9 (ZFf (sr (Zb (v:=u0_0) rfl (Zb (v:=u1_0) rfl (Zb (v:=vI (i10:Int)) rfl ?_)))))))))))))))
  obtain ⟨Ad10,c10,hv10⟩:=Z3 (hC.getP 1 rfl) i10 hi10
  refine Yu (len:=a1.length) ZFx ag55.size (tr rfl hv10) rfl (ZFq _) (ZF8.2 hi10) ?_
  obtain ⟨cs_,hl10,hc10,hr10⟩:=Xh (hC.getP 1 rfl) hv10 i10 hi10
  obtain ⟨u10,rfl⟩:=ZF7.1 hl10
  clear hl10
  rw [Xf _ _ hi10] at hr10
  have hp10:=hr10
  replace hC:=hC.derive 1 rfl (ZBl ZFa.ty.sl ((a1.getD i10 Zt0).terms) [u10] fp1) (fun _=>(Yn hp10)) (fun _ hb_=>hb_)
  refine X9 [u10] hc10 ag55 rfl rfl (Zf [u0_0,.agg #[u10]] _ Tryz.func56 rfl rfl rfl (Zip a0 (a1.getD i10 Zt0) h _ (hC.getP 1 rfl) (Yh (hC.getP 0 rfl))) ?_)
  rintro _ w11 ⟨r10,rfl,h,hB10⟩
  refine rt ?_
  replace hC:=hC.grow hB10
  refine Y4 rfl (dn ?_)
  refine Zq rfl (fun hb10=>?_) (fun hb10=>?_)
  ·replace h:=ift h (Yq (Y5 hb10))
   refine sr (Zc (v:=.slice none 0 0) rfl (Zc (v:=vI 3) rfl (dn ?_)))
   refine ZFh (Zv (Ze (Ze (Zv (Ze ?_)))))
   exact Xy rfl (Zg rfl) (Zg rfl) ⟨[],.slice none 0 0,[],3,rfl,h,(Zf9 _ _),(fun b hb=>.inl ((fun b hb=>absurd hb (by simp)) b hb)),hC.below⟩ (.inl rfl)
  ·replace h:=Zl h (not_not_intro ((Y6 hb10)))
   refine ZFc (Zt (Zd (Zn (Zb (v:=vI (i10:Int)) rfl (Zr rfl rfl (Zc (v:=vI (Zwe.wrap ((i10:Int)+1))) rfl (done ?_)))))))
   exact hK10 () _ _ ⟨(sl ⟨rfl,rfl,(tr rfl (congrArg _ (Z9 hi10 hN10))),trivial⟩),(hC.sP [1,2] rfl)⟩ h
 ·clear hC h
  rintro s10 e_ w12 K10 ⟨hS_,hC⟩ h
  rw [ue hS_]
  refine ZE9 (sr (Zb (v:=vI (a1.length:Int)) rfl (Zb (v:=u1_0) rfl (Zx hC 1 rfl ZFx rfl (Zo rfl rfl (dn (Ya rfl (decide_eq_false (by omega)) ?_)))))))
  refine ZFn (Zm (Zm (Z5 ?_)))
  refine Zd (sr (Zb (v:=u1_0) rfl (Zc (v:=u1_0) rfl (Zc (v:=vI 0) rfl (dn (ZFh ?_))))))
  exact Xy rfl (Zg rfl) (Zg rfl) ⟨a1,u1_0,fp1,0,rfl,h,(hC.getP 1 rfl),(fun b hb=>.inr (Zun _ hb)),hC.below⟩ (.inl rfl)
 ·skip
  exact⟨(slq rfl),hC⟩
def Zd5 (a0:Alg) (a1:Alg) (a2:Alg) (a3:List ZFd) (a4:List ZFd) (K:List ZFd→Int→Prop):Prop :=
 Zd4 a0 a1 a3 (fun r12=>(if¬ (r12=true) then K [] 1 else Zd4 a1 a2 a4 (fun r14=>(if¬ (r14=true) then K [] 1 else Yg (fun i10 (s10:(List ZFd)) nx10=>Zd3 a2.degrees a4 (a3.getD i10 Zt0) (fun r10=>(X4 (s10.length+1) 24∧nx10 (s10++[r10])))) (fun (s10:(List ZFd))=>Zhj a2.degrees s10 (fun r13 r11=>K r13 r11)) a3.length 0 []))))
theorem Zs4 (a0:Alg) (a1:Alg) (a2:Alg) (a3:List ZFd) (a4:List ZFd)  {K:List ZFd→Int→Prop} (h:Zd5 a0 a1 a2 a3 a4 K) (w0:World) (q0:TAlg.rep a0 [u0_0,u0_1] fp0 w0) (q1:TAlg.rep a1 [u1_0,u1_1] fp1 w0) (q2:TAlg.rep a2 [u2_0,u2_1] fp2 w0) (q3:ZFv.sl.rep a3 [u3_0] fp3 w0) (q4:ZFv.sl.rep a4 [u4_0] fp4 w0) :
  Calls ZFb 8 #[.agg #[u0_0,u0_1],.agg #[u1_0,u1_1],.agg #[u2_0,u2_1],u3_0,u4_0] w0 fun e w'=>∃ (r0:List ZFd) (z0_0:Value) (fz0:List Nat) (r1:Int),
   e=.returned (.tuple #[z0_0,vI r1])∧K r0 r1∧ZFv.sl.rep r0 [z0_0] fz0 w'∧(∀ b,b∈fz0→w0.heap.size≤b∨b∈(fp0++(fp1++(fp2++(fp3++(fp4))))))∧Bel w0 w':=by
 unfold Zd5 at h
 refine cof Tryz.func8 rfl 50 Tryz.ntmps8 ?_
 have hC:=ZFu (X:=Nox) w0 [ZBl TAlg a0 [u0_0,u0_1] fp0,ZBl TAlg a1 [u1_0,u1_1] fp1,ZBl TAlg a2 [u2_0,u2_1] fp2,ZBl ZFv.sl a3 [u3_0] fp3,ZBl ZFv.sl a4 [u4_0] fp4] (alc q0 (alc q1 (alc q2 (alc q3 (al1 q4)))))
 replace hC:=hC.dAlg 0 rfl
 replace hC:=hC.dAlg 3 rfl
 replace hC:=hC.dAlg 6 rfl
 refine sr (Yf (v:=.agg #[u0_0,u0_1]) hC [u0_0,u0_1] rfl rfl fun b13 w10 hB_ hC=>Yf (v:=.agg #[u1_0,u1_1]) hC [u1_0,u1_1] rfl rfl fun b14 w11 hB_ hC=>Yf (v:=.agg #[u2_0,u2_1]) hC [u2_0,u2_1] rfl rfl fun b10 w12 hB_ hC=>Zc (v:=.slice none 0 0) rfl (Zc (v:=vI 0) rfl (dn (ZE9 (sr (Yd hC 2 [u0_0,u0_1] rfl ag32 rfl rfl rfl (Yd hC 1 [u1_0,u1_1] rfl ag32 rfl rfl rfl (Zb (v:=u3_0) rfl (Zf [.agg #[u0_0,u0_1],.agg #[u1_0,u1_1],u3_0] _ Tryz.func27 rfl rfl rfl (Zmz a0 a1 a3 h _ (Yi (hC.getP 5 rfl) (hC.getP 4 rfl)) (Yi (hC.getP 3 rfl) (hC.getP 2 rfl)) (hC.getP 9 rfl)) ?_)))))))))
 rintro _ w13 ⟨r12,rfl,h,hB10⟩
 refine rt ?_
 replace hC:=hC.grow hB10
 refine Y4 rfl (Zb (v:=.bool (!r12)) rfl ?_)
 refine Yt (!r12) (fun hb10=>?_) (fun hb10=>?_)
 ·replace h:=ift h (Yq (Y5 hb10))
  refine Zh (b:=true) 5 19 rfl (tr rfl (congrArg _ hb10)) (by decide) (Zh (b:=true) 5 19 rfl (tr rfl (congrArg _ hb10)) (by decide) (Zh (b:=true) 5 19 rfl (tr rfl (congrArg _ hb10)) (by decide) (Zh (b:=true) 5 19 rfl (tr rfl (congrArg _ hb10)) (by decide) (Zh (b:=true) 5 19 rfl (tr rfl (congrArg _ hb10)) (by decide) (Zw (v:=.bool true) (b:=true) (tr rfl (congrArg _ hb10)) rfl (dn (Z8 rfl rfl (sr (Zc (v:=.slice none 0 0) rfl (Zc (v:=vI 1) rfl (dn ?_)))))))))))
  refine ZFh (Ze ?_)
  exact Xy rfl (Zg rfl) (Zg rfl) ⟨[],.slice none 0 0,[],1,rfl,h,(Zf9 _ _),(fun b hb=>.inl ((fun b hb=>absurd hb (by simp)) b hb)),hC.below⟩ (.inl rfl)
 ·replace h:=Zl h (not_not_intro ((Y6 hb10)))
  refine Zi 5 19 rfl rfl hb10 (Yd hC 1 [u1_0,u1_1] rfl ag32 rfl rfl rfl (Zi 5 19 rfl rfl hb10 (Yd hC 0 [u2_0,u2_1] rfl ag32 rfl rfl rfl (Zi 5 19 rfl rfl hb10 (Zb (v:=u4_0) rfl (Zi 5 19 rfl rfl hb10 (Zf [.agg #[u1_0,u1_1],.agg #[u2_0,u2_1],u4_0] _ Tryz.func27 rfl rfl rfl (Zmz a1 a2 a4 h _ (Yi (hC.getP 3 rfl) (hC.getP 2 rfl)) (Yi (hC.getP 1 rfl) (hC.getP 0 rfl)) (hC.getP 10 rfl)) ?_)))))))
  rintro _ w14 ⟨r14,rfl,h,hB11⟩
  refine rt ?_
  replace hC:=hC.grow hB11
  refine Zi 5 19 rfl rfl hb10 (Y4 rfl (Zw (v:=.bool (!r14)) (b:=false) (tr rfl (congrArg _ hb10)) rfl (dn ?_)))
  refine Zq rfl (fun hb11=>?_) (fun hb11=>?_)
  ·replace h:=ift h (Yq (Y5 hb11))
   refine sr (Zc (v:=.slice none 0 0) rfl (Zc (v:=vI 1) rfl (dn ?_)))
   refine ZFh (Ze ?_)
   exact Xy rfl (Zg rfl) (Zg rfl) ⟨[],.slice none 0 0,[],1,rfl,h,(Zf9 _ _),(fun b hb=>.inl ((fun b hb=>absurd hb (by simp)) b hb)),hC.below⟩ (.inl rfl)
  ·replace h:=Zl h (not_not_intro ((Y6 hb11)))
   refine ZFc (Zd (sr (Ju (sz:=1) hC [] [] rfl (fun _=>Zmt _) rfl (by decide) fun b12 w15 hB_ hC=>?_)))
   replace hC:=hC.pushM0 (Yl (Zj 90) ([]:List ZFd) [] []) (Zcc _ _) rfl
   replace hC:=hC.gather (c:=ZFo (ZLn 55 (Zj 90)) [] [.slice (some ⟨b12,0,none⟩) 0 0] ((ZF6 (Zum (.slice (some ⟨b12,0,none⟩) 0 0)))++([]:List (List Nat)).flatten)) (fun x_ hx_=>(Zud.1 hx_).symm) (fun h1_ h2_ hd_=>Zau h2_ h1_ (fun b_ hb_ hb2_=>hd_ b_ hb2_ hb_))
   refine Zc (v:=.slice (some ⟨b12,0,none⟩) 0 0) rfl (dn (ZE9 (sr (Zc (v:=vI 0) rfl (dn (ZFf ?_))))))
   have hN10:a3.length≤9223372036854775807:=Y0 (hC.getP 9 rfl)
   refine Yp (S:=(List ZFd)) _ _ (fun i10 s10 e_ w_=>∃ (v10:Value),∃ (f10:List Nat),Z2 e_ [(3,u3_0),(4,u4_0),(7,vQ b10),(12,v10),(13,vI (i10:Int))]∧Ctx Nox w0 w_ [ZFo (ZLn 55 (Zj 90)) s10 [v10] f10,blk b10 32 [u2_0,u2_1]] [ZBl ZFv.sl a2.images [u2_1] fp2,ZBl TInts a2.degrees [u2_0] fp2,ZBl ZFv.sl a1.images [u1_1] fp1,ZBl TInts a1.degrees [u1_0] fp1,ZBl ZFv.sl a0.images [u0_1] fp0,ZBl TInts a0.degrees [u0_0] fp0,ZBl TAlg a0 [u0_0,u0_1] fp0,ZBl TAlg a1 [u1_0,u1_1] fp1,ZBl TAlg a2 [u2_0,u2_1] fp2,ZBl ZFv.sl a3 [u3_0] fp3,ZBl ZFv.sl a4 [u4_0] fp4]) a3.length ?_ ?_ (s0:=[]) ?_ h
   ·clear hC h
    rintro i10 s10 e_ w16 nx10 K10 hi10 ⟨v10,f10,hS_,hC⟩ h hK10
    rw [ue hS_]
    refine ZE9 (sr (Zb (v:=vI (i10:Int)) rfl (Zb (v:=u3_0) rfl (Zx hC 9 rfl ZFx rfl (Zo rfl rfl (dn (Z8 rfl (decide_eq_true (by omega)) (ZFc (Zd (ZE9 (ZFf ?_)))))))))))
    refine cwd 10 mixed [0,0,2,0,0,0,48,112,254,510,1023,2047] [2,6,7] [0,1,3,4,5] (fun hM11 hM10 w17 hB_=>?_)
    replace hC:=hC.grow hB_
    refine bM 0 (v10) rfl hM10 (Za 12 1) (bF 1 (vQ b10) rfl rfl hM10 (fun _=>by exact Ye 0 ZFt rfl sc22.size rfl rfl) (Za 12 3) (bL 2 (u2_0) rfl rfl hM11 (fun _ hB_=>by exact Yc (hC.grow hB_) 1 (u2_0) rfl sc22 rfl rfl) (Za 12 7) (bM 3 (u4_0) rfl hM10 (Za 12 15) (bM 4 (u3_0) rfl hM10 (Za 12 31) (bM 5 (vI (i10:Int)) rfl hM10 (Za 12 63) ?_)))))
    obtain ⟨Ad10,c10,hv10⟩:=Z3 (hC.getP 9 rfl) i10 hi10
    refine bL 6 (.pointer (some (Ad10.add (i10 * 1)))) rfl rfl hM11 (fun _ hB_=>by exact Yy (len:=a3.length) ZFx ag55.size (by exact tr rfl hv10) rfl (ZFq _) (ZF8.2 hi10)) (Za 12 127) ?_
    obtain ⟨cs_,hl10,hc10,hr10⟩:=Xh (hC.getP 9 rfl) hv10 i10 hi10
    obtain ⟨u11,rfl⟩:=ZF7.1 hl10
    clear hl10
    rw [Xf _ _ hi10] at hr10
    have hp10:=hr10
    replace hC:=hC.derive 9 rfl (ZBl ZFa.ty.sl ((a3.getD i10 Zt0).terms) [u11] fp3) (fun _=>(Yn hp10)) (fun _ hb_=>hb_)
    refine bL 7 (.agg #[u11]) rfl rfl hM11 (fun _ hB_=>by exact Xl [u11] (J9 hB_ hc10) ag55 rfl rfl) (Za 12 255) (aO 8 rfl (Zf [u2_0,u4_0,.agg #[u11]] _ Tryz.func28 rfl rfl rfl (Zmy a2.degrees a4 (a3.getD i10 Zt0) h _ (hC.getP 2 rfl) (hC.getP 11 rfl) (Yh (hC.getP 0 rfl))) ?_))
    rintro _ w18 ⟨r10,u10,f12,rfl,h,hr11,hf11,hB12⟩
    refine rt ?_
    replace hC:=hC.push hB12 (ZFo (Zj 90) r10 [u10] f12) hr11 hf11
    obtain ⟨ho10,hf12⟩:=Xb (hC.getM 0 rfl)
    subst hf12
    replace hC:=hC.recast (c:=own 90 9 u10 r10.terms.length (ZFa.encs r10.terms)) (fun _ h_=>h_) (fun _=>ho10)
    refine done (aK (by assumption) (Za 12 511) (aO 9 rfl (Ju (sz:=1) hC [(0,.agg #[u10])] [u10] rfl (fun _=>Zmu u10 (Zii (hC.getM 0 rfl)) _) rfl (by decide) fun b11 w19 hB_ hC=>?_)))
    replace hC:=hC.pushM0 (Yl (Zj 90) [] [] []) (Zcc _ _) rfl
    replace hC:=hC.sM [2,0,1,3,4] (M':=[own 90 9 u10 r10.terms.length (ZFa.encs r10.terms),Yl (Zj 90) [] [] [],own 55 1 (.slice (some ⟨b11,0,none⟩) 1 1) 1 [u10],ZFo (ZLn 55 (Zj 90)) s10 [v10] f10,blk b10 32 [u2_0,u2_1]]) (by decide) rfl
    replace hC:=hC.gather (c:=Yl (Zj 90) [r10] [u10] [(ZF6 (Zum u10))]) (fun x_ hx_=>Zgl hx_) (fun h1_ h2_ hd_=>Zek (c:=[u10]) (Jr (Jq h1_)) h2_ hd_)
    replace hC:=hC.sM [1,0,2,3] (M':=[own 55 1 (.slice (some ⟨b11,0,none⟩) 1 1) 1 [u10],Yl (Zj 90) [r10] [u10] [(ZF6 (Zum u10))],ZFo (ZLn 55 (Zj 90)) s10 [v10] f10,blk b10 32 [u2_0,u2_1]]) (by decide) rfl
    replace hC:=hC.gather (c:=ZFo (ZLn 55 (Zj 90)) [r10] [.slice (some ⟨b11,0,none⟩) 1 1] ((ZF6 (Zum (.slice (some ⟨b11,0,none⟩) 1 1)))++([(ZF6 (Zum u10))]:List (List Nat)).flatten)) (fun x_ hx_=>Zud.1 hx_) (fun h1_ h2_ hd_=>Zau h1_ h2_ hd_)
    refine done (aK (by assumption) (Za 12 1023) (Z0 10 (by decide) (by decide) (by kernel_rfl) (by kernel_rfl) rfl ?_))
    replace hC:=hC.sM [1,0,2] (M':=[ZFo (ZLn 55 (Zj 90)) s10 [v10] f10,ZFo (ZLn 55 (Zj 90)) [r10] [.slice (some ⟨b11,0,none⟩) 1 1] ((ZF6 (Zum (.slice (some ⟨b11,0,none⟩) 1 1)))++([(ZF6 (Zum u10))]:List (List Nat)).flatten),blk b10 32 [u2_0,u2_1]]) (by decide) rfl
    obtain ⟨hm10,h⟩:=h
    refine Zgk hC ZFx Ziu rfl (by decide) (by decide) rfl rfl hm10 fun v11 f13 w20 hC=>Zc (v:=v11) rfl (done (Z1 (Zt (Zd (Zn (Zb (v:=vI (i10:Int)) rfl (Zr rfl rfl (Zc (v:=vI (Zwe.wrap ((i10:Int)+1))) rfl (done ?_)))))))))
    exact hK10 (s10++[r10]) _ _ ⟨v11,f13,(sl ⟨rfl,rfl,rfl,rfl,(tr rfl (congrArg _ (Z9 hi10 hN10))),trivial⟩),(hC.sP [1,2,3,4,5,6,7,8,9,10,11] rfl)⟩ h
   ·clear hC h
    rintro s10 e_ w21 K10 ⟨v10,f10,hS_,hC⟩ h
    rw [ue hS_]
    refine ZE9 (sr (Zb (v:=vI (a3.length:Int)) rfl (Zb (v:=u3_0) rfl (Zx hC 9 rfl ZFx rfl (Zo rfl rfl (dn (Ya rfl (decide_eq_false (by omega)) ?_)))))))
    refine ZFn (Zm (Zm (Z5 ?_)))
    refine Zd (sr (Zz 0 ZFt rfl sc22.size rfl rfl (Z6 hC 1 (u2_0) rfl sc22 rfl rfl (Zb (v:=v10) rfl ?_))))
    have hs10:=Za5 hC 0 rfl
    replace hC:=hC.thaw 0 rfl (ZBl ZFv.sl s10 [v10] f10) (fun h_=>ZO9 _ h_.1) (fun _ hb_=>hb_)
    refine Zf [u2_0,v10] _ Tryz.func29 rfl rfl rfl (Zs3 a2.degrees s10 h _ (hC.getP 2 rfl) (hC.getP 0 rfl)) ?_
    rintro _ w22 ⟨r13,u12,f11,r11,rfl,h,hr12,hf10,hB13⟩
    refine rt ?_
    have hs11:∀ b,b∈f11→w0.heap.size≤b∨b∈(fp0++(fp1++(fp2++(fp3++(fp4))))):=(fun b hb=>(hf10 b hb).elim (fun h_=>.inl (Nat.le_trans hC.size h_)) (fun hb=>(Zud.1 hb).elim (fun hb=>.inr (Zun _ (Zun _ (List.mem_append_left _ hb)))) (fun hb=>.inl (hs10 b hb))))
    replace hC:=hC.pushR hB13 (ZBl ZFv.sl r13 [u12] f11) hr12 (fun b hb=>(hf10 b hb).elim .inl (fun hb=>.inr ((Zud.1 hb).elim (fun hb=>⟨_,mg 2 rfl,hb⟩) (fun hb=>⟨_,mg 0 rfl,hb⟩))))
    refine Y2 (v:=u12) rfl rfl (Y2 (v:=vI r11) rfl rfl (Zc (v:=u12) rfl (Zc (v:=vI r11) rfl (dn (ZFh ?_)))))
    exact Xy rfl (Zg rfl) (Zg rfl) ⟨r13,u12,f11,r11,rfl,h,(hC.getP 0 rfl),(fun b hb=>hs11 b hb),hC.below⟩ (.inl rfl)
   ·skip
    exact⟨.slice (some ⟨b12,0,none⟩) 0 0,((ZF6 (Zum (.slice (some ⟨b12,0,none⟩) 0 0)))++([]:List (List Nat)).flatten),(slq rfl),(hC.xM [0,1] rfl)⟩
def Zfr (a0:List Int) (a1:List Int) (a2:List ZFd) (K:Bool→Prop):Prop :=
 (if(a2.length:Int)≠(a0.length:Int) then K false else Yg (fun i10 (s10:Unit) nx10=>Zdl a1 (a2.getD i10 Zt0) (fun r10=>(if¬ (r10=true) then K false else((0≤(i10:Int)∧(i10:Int) < (a0.length:Int))∧Zdm a1 (a2.getD i10 Zt0) (a0.getD i10 Zt0) (fun r11=>(if¬ (r11=true) then K false else nx10 ())))))) (fun (s10:Unit)=>K true) a2.length 0 ())
theorem Zs5 (a0:List Int) (a1:List Int) (a2:List ZFd)  {K:Bool→Prop} (h:Zfr a0 a1 a2 K) (w0:World) (q0:TInts.rep a0 [u0_0] fp0 w0) (q1:TInts.rep a1 [u1_0] fp1 w0) (q2:ZFv.sl.rep a2 [u2_0] fp2 w0) :
  Calls ZFb 76 #[u0_0,u1_0,u2_0] w0 fun e w'=>∃ (r0:Bool),
   e=.returned (.bool r0)∧K r0∧Bel w0 w':=by
 unfold Zfr at h
 refine cof Tryz.func76 rfl 36 Tryz.ntmps76 ?_
 have hC:=ZFu (X:=Nox) w0 [ZBl TInts a0 [u0_0] fp0,ZBl TInts a1 [u1_0] fp1,ZBl ZFv.sl a2 [u2_0] fp2] (alc q0 (alc q1 (al1 q2)))
 refine sr (Zc (v:=.bool false) rfl (dn (ZE9 (sr (Zb (v:=u2_0) rfl (Zx hC 2 rfl ZFx rfl (Zb (v:=u0_0) rfl (Zx hC 0 rfl ZFs rfl (Y7 rfl rfl (dn ?_))))))))))
 refine Zq rfl (fun hb11=>?_) (fun hb11=>?_)
 ·replace h:=ift h (ct hb11)
  refine sr (Zc (v:=.bool false) rfl (dn ?_))
  refine ZFh (Ze ?_)
  exact Zk rfl (Zg rfl) ⟨false,rfl,h,hC.below⟩ (.inl rfl)
 ·replace h:=Zl h (cf hb11)
  refine ZFc (Zd (ZE9 (sr (Zb (v:=u2_0) rfl (Zx hC 2 rfl ZFx rfl (Zb (v:=vI 0) rfl (dn (ZFf ?_))))))))
  have hN10:a2.length≤9223372036854775807:=Y0 (hC.getP 2 rfl)
  refine Yp (S:=Unit) _ _ (fun i10 s10 e_ w_=>Z2 e_ [(0,u0_0),(1,u1_0),(14,u2_0),(15,vI (a2.length:Int)),(16,vI (i10:Int))]∧Ctx Nox w0 w_ [] [ZBl TInts a0 [u0_0] fp0,ZBl TInts a1 [u1_0] fp1,ZBl ZFv.sl a2 [u2_0] fp2]) a2.length ?_ ?_ (s0:=()) ?_ h
  ·clear hC h
   rintro i10 s10 e_ w10 nx10 K10 hi10 ⟨hS_,hC⟩ h hK10
   rw [ue hS_]
   refine sr (Zo rfl rfl (dn (ZE9 (Z8 rfl (decide_eq_true (by omega)) (ZFc (Zd (ZE9 (ZFf (sr (Zb (v:=vI (i10:Int)) rfl ?_))))))))))
   obtain ⟨Ad11,c10,hv10⟩:=Z3 (hC.getP 2 rfl) i10 hi10
   refine Yu (len:=a2.length) ZFx ag55.size (tr rfl hv10) rfl (ZFq _) (ZF8.2 hi10) ?_
   obtain ⟨cs_,hl10,hc10,hr10⟩:=Xh (hC.getP 2 rfl) hv10 i10 hi10
   obtain ⟨u10,rfl⟩:=ZF7.1 hl10
   clear hl10
   rw [Xf _ _ hi10] at hr10
   have hp10:=hr10
   replace hC:=hC.derive 2 rfl (ZBl ZFa.ty.sl ((a2.getD i10 Zt0).terms) [u10] fp2) (fun _=>(Yn hp10)) (fun _ hb_=>hb_)
   refine X9 [u10] hc10 ag55 rfl rfl (Yb hC [.slice none 0 0] z55 rfl fun b10 w11 hB_ hC=>Zc (v:=vI (i10:Int)) rfl (Zu (v:=.agg #[u10]) hC 0 [u10] [u10] rfl ag55.size rfl rfl rfl rfl (Ym (J2 (hC.getP 0 rfl)) rfl) (ZFi rfl) rfl fun w12 hC=>dn (ZE9 ?_)))
   refine cwd 11 mixed [0,0,3,7,15,31,31,31,31,415,927,2047,4095,8191] [1,6,9,10] [0,3,4,5,6,7,8,9,10] (fun hM11 hM10 w13 hB_=>?_)
   replace hC:=hC.grow hB_
   refine bM 0 (u1_0) rfl hM10 (Za 14 1) (bL 1 (.agg #[u10]) rfl rfl hM11 (fun _ hB_=>by exact Yo (hC.grow hB_) 0 [u10] rfl ag55 rfl rfl rfl) (Za 14 3) (aO 2 rfl (Zf [u1_0,.agg #[u10]] _ Tryz.func74 rfl rfl rfl (Zk9 a1 (a2.getD i10 Zt0) h _ (hC.getP 2 rfl) (Yh (hC.getP 0 rfl))) ?_)))
   rintro _ w14 ⟨r10,rfl,h,hB10⟩
   refine rt ?_
   replace hC:=hC.grow hB10
   refine done (aK (by assumption) (Za 14 7) (bF 3 (.bool (!r10)) rfl rfl hM10 (fun _=>by exact Zfx rfl) (Za 14 15) (bM 4 (.bool (!r10)) rfl hM10 (Za 14 31) ?_)))
   refine Yt (!r10) (fun hb10=>?_) (fun hb10=>?_)
   ·replace h:=ift h (Yq (Y5 hb10))
    refine Zp Zs 5 undef rfl rfl (by kernel_rfl) (hM10 5 rfl) (fun w_=>.inr ⟨Z4 (b:=true) 4 25 rfl (tr rfl (congrArg _ hb10)) (by decide),rfl⟩) (l9:=(Za 14 63)) (by kernel_rfl) (Zp Zs 6 undef rfl rfl (by kernel_rfl) (hM10 6 rfl) (fun w_=>.inr ⟨Z4 (b:=true) 4 25 rfl (tr rfl (congrArg _ hb10)) (by decide),rfl⟩) (l9:=(Za 14 127)) (by kernel_rfl) (Zp Zs 7 undef rfl rfl (by kernel_rfl) (hM10 7 rfl) (fun w_=>.inr ⟨Z4 (b:=true) 4 25 rfl (tr rfl (congrArg _ hb10)) (by decide),rfl⟩) (l9:=(Za 14 255)) (by kernel_rfl) (Zp Zs 8 undef rfl rfl (by kernel_rfl) (hM10 8 rfl) (fun w_=>.inr ⟨Z4 (b:=true) 4 25 rfl (tr rfl (congrArg _ hb10)) (by decide),rfl⟩) (l9:=(Za 14 511)) (by kernel_rfl) (Zp Zs 9 undef rfl rfl (by kernel_rfl) (hM10 9 rfl) (fun w_=>.inr ⟨Z4 (b:=true) 4 25 rfl (tr rfl (congrArg _ hb10)) (by decide),rfl⟩) (l9:=(Za 14 1023)) (by kernel_rfl) (Zp Zs 10 undef rfl rfl (by kernel_rfl) (hM10 10 rfl) (fun w_=>.inr ⟨Z4 (b:=true) 4 25 rfl (tr rfl (congrArg _ hb10)) (by decide),rfl⟩) (l9:=(Za 14 2047)) (by kernel_rfl) (Z0 11 (by decide) (by decide) (by kernel_rfl) (by kernel_rfl) rfl (Zh (b:=true) 4 25 rfl (tr rfl (congrArg _ hb10)) (by decide) (Zh (b:=true) 4 25 rfl (tr rfl (congrArg _ hb10)) (by decide) (Zw (v:=.bool true) (b:=true) (tr rfl (congrArg _ hb10)) rfl (done (Z1 (Zd (Z8 rfl rfl (sr (Zc (v:=.bool false) rfl (dn ?_))))))))))))))))
    refine ZFh (Zv (Ze (Ze (Zv (Ze ?_)))))
    exact Zk rfl (Zg rfl) ⟨false,rfl,h,hC.below⟩ (.inl rfl)
   ·replace h:=Zl h (not_not_intro ((Y6 hb10)))
    refine aF 5 (u1_0) rfl rfl (hM10 5 rfl) (Z7 4 25 rfl rfl hb10) (fun _=>by exact Xw (v:=u1_0) rfl) (Za 14 63) (aL 6 (.agg #[u10]) rfl rfl (hM11 6 rfl) (Z7 4 25 rfl rfl hb10) (fun _ hB_=>by exact Yo (hC.grow hB_) 0 [u10] rfl ag55 rfl rfl rfl) (Za 14 127) (aF 7 (u0_0) rfl rfl (hM10 7 rfl) (Z7 4 25 rfl rfl hb10) (fun _=>by exact Xw (v:=u0_0) rfl) (Za 14 255) (aF 8 (vI (i10:Int)) rfl rfl (hM10 8 rfl) (Z7 4 25 rfl rfl hb10) (fun _=>by exact Xw (v:=vI (i10:Int)) rfl) (Za 14 511) ?_)))
    obtain ⟨⟨h10,h11⟩,h⟩:=h
    obtain ⟨Ad10,c11,hv11⟩:=Z3 (hC.getP 1 rfl) i10 (show i10 < a0.length by omega)
    refine aL 9 (.pointer (some (Ad10.add (i10 * 1)))) rfl rfl (hM11 9 rfl) (Z7 4 25 rfl rfl hb10) (fun _ hB_=>by exact Yy (len:=a0.length) ZFs sc2.size (by exact tr rfl hv11) rfl h10 h11) (Za 14 1023) (aL 10 (vI (a0.getD i10 Zt0)) rfl rfl (hM11 10 rfl) (Z7 4 25 rfl rfl hb10) (fun _ hB_=>by exact J7 (vI (a0.getD i10 Zt0)) (Yj ((hC.grow hB_).getP 1 rfl) hv11 i10 (show i10 < a0.length by omega)) sc2 rfl) (Za 14 2047) (Z0 11 (by decide) (by decide) (by kernel_rfl) (by kernel_rfl) rfl (Zi 4 25 rfl rfl hb10 (Zf [u1_0,.agg #[u10],vI (a0.getD i10 Zt0)] _ Tryz.func93 rfl rfl rfl (Zla a1 (a2.getD i10 Zt0) (a0.getD i10 Zt0) h _ (hC.getP 2 rfl) (Yh (hC.getP 0 rfl))) ?_))))
    rintro _ w15 ⟨r11,rfl,h,hB11⟩
    refine rt ?_
    replace hC:=hC.grow hB11
    refine Zi 4 25 rfl rfl hb10 (Y4 rfl (Zw (v:=.bool (!r11)) (b:=false) (tr rfl (congrArg _ hb10)) rfl (done (Z1 (Zd ?_)))))
    refine Zq rfl (fun hb12=>?_) (fun hb12=>?_)
    ·replace h:=ift h (Yq (Y5 hb12))
     refine sr (Zc (v:=.bool false) rfl (dn ?_))
     refine ZFh (Zv (Ze (Ze (Zv (Ze ?_)))))
     exact Zk rfl (Zg rfl) ⟨false,rfl,h,hC.below⟩ (.inl rfl)
    ·replace h:=Zl h (not_not_intro ((Y6 hb12)))
     refine ZFc (Zt (Zd (Zn (Zr rfl rfl (Zb (v:=vI (Zwe.wrap ((i10:Int)+1))) rfl (done ?_))))))
     exact hK10 () _ _ ⟨(sl ⟨rfl,rfl,rfl,rfl,(tr rfl (congrArg _ (Z9 hi10 hN10))),trivial⟩),((hC.xM [] rfl).sP [1,2,3] rfl)⟩ h
  ·clear hC h
   rintro s10 e_ w16 K10 ⟨hS_,hC⟩ h
   rw [ue hS_]
   refine sr (Zo rfl rfl (dn (ZE9 (Ya rfl (decide_eq_false (by omega)) ?_))))
   refine ZFn (Zm (Zm (Z5 ?_)))
   refine Zd (sr (Zc (v:=.bool true) rfl (dn (ZFh ?_))))
   exact Zk rfl (Zg rfl) ⟨true,rfl,h,hC.below⟩ (.inl rfl)
  ·skip
   exact⟨(slq rfl),hC⟩
def Zfs (a0:List (A8×Int)) (a1:List (A8×Int)) (K:Bool→Prop):Prop :=
 Zax ([]:List (A8×Int)) a0 1 (fun m11=>Zax m11 a1 10006 (fun m10=>K (decide ((m10.length:Int)=0))))
theorem Zs6 (a0:List (A8×Int)) (a1:List (A8×Int))  {K:Bool→Prop} (h:Zfs a0 a1 K) (w0:World) (q0:(mapS b0 a0).holds w0) (q1:(mapS b1 a1).holds w0) :
  Calls ZFb 99 #[.map (some b0),.map (some b1)] w0 fun e w'=>∃ (r0:Bool),
   e=.returned (.bool r0)∧K r0∧Bel w0 w':=by
 unfold Zfs at h
 refine cof Tryz.func99 rfl 16 Tryz.ntmps99 ?_
 have hC:=ZFu (X:=Nox) w0 [mapS b0 a0,mapS b1 a1] (alc q0 (al1 q1))
 refine sr (Zc (v:=.bool false) rfl (dn (sr (Zbk hC (kvA .i64) (vvI .i64) fun b3 w5 hB_ hC=>Zc (v:=.map (some b3)) rfl (dn (sr (Zb (v:=.map (some b3)) rfl (Zb (v:=.map (some b0)) rfl (Zf [.map (some b3),.map (some b0),vI 1] _ Tryz.func89 rfl rfl rfl (Zgr ([]:List (A8×Int)) a0 1 h _ (hC.getM 0 rfl) (fun c_ hc_ e_=>hC.pdk 0 0 rfl rfl c_ hc_ (Zvn.2 e_)) (hC.getP 0 rfl)) ?_)))))))))
 rintro _ w8 ⟨m11,rfl,h,hm10,hB9⟩
 refine rt ?_
 replace hC:=hC.turnB 0 rfl hB9 rfl rfl hm10
 refine dn (sr (Zb (v:=.map (some b3)) rfl (Zb (v:=.map (some b1)) rfl (Zf [.map (some b3),.map (some b1),vI 10006] _ Tryz.func89 rfl rfl rfl (Zgr m11 a1 10006 h _ (hC.getM 0 rfl) (fun c_ hc_ e_=>hC.pdk 1 0 rfl rfl c_ hc_ (Zvn.2 e_)) (hC.getP 1 rfl)) ?_))))
 rintro _ w10 ⟨m10,rfl,h,hm11,hB10⟩
 refine rt ?_
 replace hC:=hC.turnB 0 rfl hB10 rfl rfl hm11
 refine dn (sr (Zb (v:=.map (some b3)) rfl (Zh6 (hC.getM 0 rfl) Tryz.underlying99 rfl rfl (Jh rfl rfl (Zc (v:=.bool (decide ((m10.length:Int)=0))) rfl (dn (ZFh ?_)))))))
 exact Zk rfl (Zg rfl) ⟨decide ((m10.length:Int)=0),rfl,h,hC.below⟩ (.inl rfl)
def Zft (a0:Alg) (a1:Alg) (a2:List ZFd) (K:Bool→Prop):Prop :=
 Yg (fun i11 (s10:(List (List (A8×Int)))) nx10=>Zaw (a2.getD i11 Zt0) (fun r10=>(X4 (s10.length+1) 8∧nx10 (s10++[r10])))) (fun (s10:(List (List (A8×Int))))=>(∃ (Cl152:Int→Int→List (A8×Int)→Prop),Yg (fun i10 (s11:Unit) nx11=>((0≤(i10:Int)∧(i10:Int) < (s10.length:Int))∧Zaw (a0.images.getD i10 Zt0) (fun r11=>Zd2 Cl152 a0.degrees a1.degrees s10 r11 (fun r12=>Zdn a1 (s10.getD i10 []) (fun r13=>Zfs r12 r13 (fun r14=>(if¬ (r14=true) then K false else nx11 ()))))))) (fun (s11:Unit)=>K true) a0.images.length 0 ())) a2.length 0 []
theorem Zs7 (a0:Alg) (a1:Alg) (a2:List ZFd)  {K:Bool→Prop} (h:Zft a0 a1 a2 K) (w0:World) (q0:TAlg.rep a0 [u0_0,u0_1] fp0 w0) (qb0:(blk b0 32 [u0_0,u0_1]).holds w0) (q1:TAlg.rep a1 [u1_0,u1_1] fp1 w0) (qb1:(blk b1 32 [u1_0,u1_1]).holds w0) (q2:ZFv.sl.rep a2 [u2_0] fp2 w0) :
  Calls ZFb 77 #[vQ b0,vQ b1,u2_0] w0 fun e w'=>∃ (r0:Bool),
   e=.returned (.bool r0)∧K r0∧Bel w0 w':=by
 unfold Zft at h
 refine cof Tryz.func77 rfl 46 Tryz.ntmps77 ?_
 have hC:=ZFu (X:=Nox) w0 [ZBl TAlg a0 [u0_0,u0_1] fp0,ZBl TAlg a1 [u1_0,u1_1] fp1,ZBl ZFv.sl a2 [u2_0] fp2,blk b0 32 [u0_0,u0_1],blk b1 32 [u1_0,u1_1]] (alc q0 (alc q1 (alc q2 (alc qb0 (al1 qb1)))))
 replace hC:=hC.dAlg 0 rfl
 replace hC:=hC.dAlg 3 rfl
 refine sr (Zc (v:=.bool false) rfl (dn (ZE9 ?_)))
 refine cwd 9 mixed [0,1,3,7,0,16,48,112,0,511,1023] [3,7] [0,1,2,4,5,6,8] (fun hM14 hM10 w10 hB_=>?_)
 replace hC:=hC.grow hB_
 refine bM 0 (vQ b0) rfl hM10 (Za 11 1) (bF 1 (vQ b0) rfl rfl hM10 (fun _=>by exact Jn rfl) (Za 11 3) (bF 2 (vQ b0) rfl rfl hM10 (fun _=>by exact Ye 0 ZFt rfl sc22.size rfl rfl) (Za 11 7) (bL 3 (u0_0) rfl rfl hM14 (fun _ hB_=>by exact Zae (u0_0) ((hC.grow hB_).getP 7 rfl) sc22 rfl rfl) (Za 11 15) (bM 4 (vQ b1) rfl hM10 (Za 11 31) (bF 5 (vQ b1) rfl rfl hM10 (fun _=>by exact Jn rfl) (Za 11 63) (bF 6 (vQ b1) rfl rfl hM10 (fun _=>by exact Ye 0 ZFt rfl sc22.size rfl rfl) (Za 11 127) (bL 7 (u1_0) rfl rfl hM14 (fun _ hB_=>by exact Zae (u1_0) ((hC.grow hB_).getP 8 rfl) sc22 rfl rfl) (Za 11 255) (bM 8 (u2_0) rfl hM10 (Za 11 511) (Z0 9 (by decide) (by decide) (by kernel_rfl) (by kernel_rfl) rfl (Zjc [u0_0,u1_0,u2_0] Tryz.func33 rfl rfl 34 Tryz.ntmps33 (ZFi rfl) rfl (sr (Zc (v:=.pointer none) rfl (dn (sr (Zb (v:=u0_0) rfl (Zb (v:=u1_0) rfl (Zbk hC kv2 vvM fun b10 w11 hB_ hC=>?_)))))))))))))))))
 replace hC:=hC.recast (c:=Zy kv2 vvM b10 (([]:List Kp).map ZPb)) (fun _ h_=>h_) (fun h_=>h_)
 refine Xp [(0,u0_0),(1,u1_0),(3,.map (some b10))] rfl (Zmv u0_0 u1_0 b10 (Zgj (hC.getP 3 rfl)) (Zgj (hC.getP 1 rfl)) _) (Yf (v:=.agg #[u0_0,u1_0,.slice none 0 0,.map (some b10)]) hC [u0_0,u1_0,.slice none 0 0,.map (some b10)] rfl rfl fun b11 w12 hB_ hC=>Zc (v:=vQ b11) rfl (dn (ZE9 (sr (Zb (v:=u2_0) rfl (Zx hC 6 rfl ZFx rfl (Zb (v:=vI 0) rfl (dn (ZFf ?_)))))))))
 have hN10:a2.length≤9223372036854775807:=Y0 (hC.getP 6 rfl)
 refine Yp (S:=(List (List (A8×Int)))) _ _ (fun i11 s10 e_ w_=>∃ (v10:Value),∃ (f10:List Nat),Z2 e_ [(7,vQ b11),(15,u2_0),(16,vI (a2.length:Int)),(17,vI (i11:Int))]∧Ctx Nox w0 w_ [ZFo (ZLn 99 (Y9 (kvA .i64) (vvI .i64))) s10 [v10] f10,blk b11 97 [u0_0,u1_0,v10,.map (some b10)],Zy kv2 vvM b10 (([]:List Kp).map ZPb)] [ZBl ZFv.sl a1.images [u1_1] fp1,ZBl TInts a1.degrees [u1_0] fp1,ZBl ZFv.sl a0.images [u0_1] fp0,ZBl TInts a0.degrees [u0_0] fp0,ZBl TAlg a0 [u0_0,u0_1] fp0,ZBl TAlg a1 [u1_0,u1_1] fp1,ZBl ZFv.sl a2 [u2_0] fp2,blk b0 32 [u0_0,u0_1],blk b1 32 [u1_0,u1_1]]) a2.length ?_ ?_ (s0:=[]) ?_ h
 ·clear hC h
  rintro i11 s10 e_ w13 nx10 K10 hi10 ⟨v10,f10,hS_,hC⟩ h hK10
  rw [ue hS_]
  refine sr (Zo rfl rfl (dn (ZE9 (Z8 rfl (decide_eq_true (by omega)) (ZFc (Zd (ZE9 (ZFf (sr ?_)))))))))
  obtain ⟨Ad10,c10,hv10⟩:=Z3 (hC.getP 6 rfl) i11 hi10
  refine Yu (len:=a2.length) ZFx ag55.size (tr rfl hv10) rfl (ZFq _) (ZF8.2 hi10) ?_
  obtain ⟨cs_,hl10,hc10,hr10⟩:=Xh (hC.getP 6 rfl) hv10 i11 hi10
  obtain ⟨u10,rfl⟩:=ZF7.1 hl10
  clear hl10
  rw [Xf _ _ hi10] at hr10
  have hp10:=hr10
  replace hC:=hC.derive 6 rfl (ZBl ZFa.ty.sl ((a2.getD i11 Zt0).terms) [u10] fp2) (fun _=>(Yn hp10)) (fun _ hb_=>hb_)
  refine X9 [u10] hc10 ag55 rfl rfl (Yb hC [.slice none 0 0] z55 rfl fun b14 w14 hB_ hC=>Zu (v:=.agg #[u10]) hC 0 [u10] [u10] rfl ag55.size rfl rfl rfl rfl (Ym (J2 (hC.getP 0 rfl)) rfl) (ZFi rfl) rfl fun w15 hC=>dn ?_)
  refine cwd 8 mixed [0,0,2,6,14,0,32,96,254,511,1023,2047] [4,5] [0,1,2,3] (fun hM15 hM12 w16 hB_=>?_)
  replace hC:=hC.grow hB_
  refine bM 0 (vQ b11) rfl hM12 (Za 12 1) (bM 1 (vQ b11) rfl hM12 (Za 12 3) (bF 2 (vQ b11) rfl rfl hM12 (fun _=>by exact Jn rfl) (Za 12 7) (bF 3 (.pointer (some ⟨b11,2,none⟩)) rfl rfl hM12 (fun _=>by exact Ye 2 ZLz rfl sc95.size rfl rfl) (Za 12 15) (bL 4 (v10) rfl rfl hM15 (fun _ hB_=>by exact Yc (hC.grow hB_) 2 (v10) rfl sc95 rfl rfl) (Za 12 31) (bL 5 (.agg #[u10]) rfl rfl hM15 (fun _ hB_=>by exact Yo (hC.grow hB_) 0 [u10] rfl ag55 rfl rfl rfl) (Za 12 63) (aO 6 rfl (Zf [.agg #[u10]] _ ZPh rfl rfl rfl (Zdj (a2.getD i11 Zt0) h _ (Yh (hC.getP 0 rfl))) ?_)))))))
  rintro _ w17 ⟨r10,b12,rfl,h,hr12,hf11,hB10⟩
  refine rt ?_
  replace hC:=hC.push hB10 (mapS b12 r10) hr12 (fun b_ hb_=>by obtain rfl:=Zvn.1 hb_; exact hf11)
  refine done (aK (by assumption) (Za 12 127) (aO 7 rfl (Ju (sz:=1) hC [(0,.map (some b12))] [.map (some b12)] rfl (fun _=>Zmw b12  _) rfl (by decide) fun b13 w18 hB_ hC=>?_)))
  replace hC:=hC.pushM0 (Yl (Y9 (kvA .i64) (vvI .i64)) [] [] []) (Zcc _ _) rfl
  replace hC:=hC.sM [2,0,1,3,4,5,6] (M':=[mapS b12 r10,Yl (Y9 (kvA .i64) (vvI .i64)) [] [] [],own 99 1 (.slice (some ⟨b13,0,none⟩) 1 1) 1 [.map (some b12)],blk b14 55 [u10],ZFo (ZLn 99 (Y9 (kvA .i64) (vvI .i64))) s10 [v10] f10,blk b11 97 [u0_0,u1_0,v10,.map (some b10)],Zy kv2 vvM b10 (([]:List Kp).map ZPb)]) (by decide) rfl
  replace hC:=hC.gather (c:=Yl (Y9 (kvA .i64) (vvI .i64)) [r10] [.map (some b12)] [[b12]]) (fun x_ hx_=>Zgl hx_) (fun h1_ h2_ hd_=>Zek (c:=[.map (some b12)]) (Zmn h1_) h2_ hd_)
  replace hC:=hC.sM [1,0,2,3,4,5] (M':=[own 99 1 (.slice (some ⟨b13,0,none⟩) 1 1) 1 [.map (some b12)],Yl (Y9 (kvA .i64) (vvI .i64)) [r10] [.map (some b12)] [[b12]],blk b14 55 [u10],ZFo (ZLn 99 (Y9 (kvA .i64) (vvI .i64))) s10 [v10] f10,blk b11 97 [u0_0,u1_0,v10,.map (some b10)],Zy kv2 vvM b10 (([]:List Kp).map ZPb)]) (by decide) rfl
  replace hC:=hC.gather (c:=ZFo (ZLn 99 (Y9 (kvA .i64) (vvI .i64))) [r10] [.slice (some ⟨b13,0,none⟩) 1 1] ((ZF6 (Zum (.slice (some ⟨b13,0,none⟩) 1 1)))++([[b12]]:List (List Nat)).flatten)) (fun x_ hx_=>Zud.1 hx_) (fun h1_ h2_ hd_=>Zau h1_ h2_ hd_)
  refine done (aK (by assumption) (Za 12 255) (aO 8 rfl ?_))
  replace hC:=hC.sM [2,0,1,3,4] (M':=[ZFo (ZLn 99 (Y9 (kvA .i64) (vvI .i64))) s10 [v10] f10,ZFo (ZLn 99 (Y9 (kvA .i64) (vvI .i64))) [r10] [.slice (some ⟨b13,0,none⟩) 1 1] ((ZF6 (Zum (.slice (some ⟨b13,0,none⟩) 1 1)))++([[b12]]:List (List Nat)).flatten),blk b14 55 [u10],blk b11 97 [u0_0,u1_0,v10,.map (some b10)],Zy kv2 vvM b10 (([]:List Kp).map ZPb)]) (by decide) rfl
  obtain ⟨hm10,h⟩:=h
  refine Zgk hC ZPg Zmx rfl (by decide) (by decide) rfl rfl hm10 fun v11 f11 w19 hC=>done (Zge (by decide) (l9:=(Za 12 511)) (by kernel_rfl) (Z0 9 (by decide) (by decide) (by kernel_rfl) (by kernel_rfl) rfl (Za3 rfl (Zz 2 ZLz rfl sc95.size rfl rfl (Zu (v:=v11) hC 2 [v11] [u0_0,u1_0,v11,.map (some b10)] rfl sc95.size rfl rfl (Zh4 (ZO9 _ (hC.getM 0 rfl).1)) rfl (Ym (J2 (ZO9 _ (hC.getM 0 rfl).1)) rfl) (ZFi rfl) rfl fun w20 hC=>done (Z1 (Zt (Zd (Zn (Zr rfl rfl (Zb (v:=vI (Zwe.wrap ((i11:Int)+1))) rfl (done ?_))))))))))))
  exact hK10 (s10++[r10]) _ _ ⟨v11,f11,(sl ⟨rfl,rfl,rfl,(tr rfl (congrArg _ (Z9 hi10 hN10))),trivial⟩),((hC.xM [0,2,3] rfl).sP [1,2,3,4,5,6,7,8,9] rfl)⟩ h
 ·clear hC h
  rintro s10 e_ w21 K10 ⟨v10,f10,hS_,hC⟩ h
  rw [ue hS_]
  refine sr (Zo rfl rfl (dn (ZE9 (Ya rfl (decide_eq_false (by omega)) ?_))))
  refine ZFn (Zm (Zm (Z5 ?_)))
  refine Zd (sr (Zb (v:=vQ b11) rfl (Zc (v:=vQ b11) rfl (dn (ZFh ?_)))))
  refine Zk (fn:=Tryz.f33) (v:=vQ b11) rfl (Zg rfl) ⟨_,rfl,?_⟩ (.inl rfl)
  refine Zc (v:=vQ b11) rfl (done (Z1 (Zd (ZE9 (sr (Zb (v:=vQ b0) rfl (Za3 rfl (Zz 1 ZFt rfl sc28.size rfl rfl (Zb6 (u0_1) (hC.getP 7 rfl) sc28 rfl rfl (Zx hC 2 rfl ZFx rfl (Zb (v:=vI 0) rfl (dn (ZFf ?_)))))))))))))
  obtain ⟨Cl152,h⟩:=h
  replace hC:=hC.pushE (ldE Cl152 ([]:List Kp) []) (Zmp _ _) rfl
  have hN11:a0.images.length≤9223372036854775807:=Y0 (hC.getP 3 rfl)
  refine Yp (S:=Unit) _ _ (fun i10 s11 e_ w_=>∃ (D291:List Kp),∃ (E292:List (Nat×List (A8×Int))),Z2 e_ [(1,vQ b1),(7,vQ b11),(23,u0_1),(24,vI (a0.images.length:Int)),(25,vI (i10:Int))]∧LdLe w0 [] E292∧Ctx Nox w0 w_ [ZFo (ZLn 99 (Y9 (kvA .i64) (vvI .i64))) s10 [v10] f10,blk b11 97 [u0_0,u1_0,v10,.map (some b10)],Zy kv2 vvM b10 (D291.map ZPb)] [ldE Cl152 D291 E292,ZBl ZFv.sl a1.images [u1_1] fp1,ZBl TInts a1.degrees [u1_0] fp1,ZBl ZFv.sl a0.images [u0_1] fp0,ZBl TInts a0.degrees [u0_0] fp0,ZBl TAlg a0 [u0_0,u0_1] fp0,ZBl TAlg a1 [u1_0,u1_1] fp1,ZBl ZFv.sl a2 [u2_0] fp2,blk b0 32 [u0_0,u0_1],blk b1 32 [u1_0,u1_1]]) a0.images.length ?_ ?_ (s0:=()) ?_ h
  ·clear hC h
   rintro i10 s11 e_ w22 nx11 K11 hi11 ⟨D291,E292,hS_,hq10,hC⟩ h hK11
   rw [ue hS_]
   refine sr (Zo rfl rfl (dn (ZE9 (Z8 rfl (decide_eq_true (by omega)) (ZFc (Zd (ZE9 (ZFf (sr (Zb (v:=vI (i10:Int)) rfl ?_))))))))))
   obtain ⟨Ad11,c11,hv11⟩:=Z3 (hC.getP 3 rfl) i10 hi11
   refine Yu (len:=a0.images.length) ZFx ag55.size (tr rfl hv11) rfl (ZFq _) (ZF8.2 hi11) ?_
   obtain ⟨cs_,hl11,hc11,hr11⟩:=Xh (hC.getP 3 rfl) hv11 i10 hi11
   obtain ⟨u11,rfl⟩:=ZF7.1 hl11
   clear hl11
   rw [Xf _ _ hi11] at hr11
   have hp11:=hr11
   replace hC:=hC.derive 3 rfl (ZBl ZFa.ty.sl ((a0.images.getD i10 Zt0).terms) [u11] fp0) (fun _=>(Yn hp11)) (fun _ hb_=>hb_)
   refine X9 [u11] hc11 ag55 rfl rfl (Yb hC [.slice none 0 0] z55 rfl fun b18 w23 hB_ hC=>Zc (v:=vI (i10:Int)) rfl (Zu (v:=.agg #[u11]) hC 0 [u11] [u11] rfl ag55.size rfl rfl rfl rfl (Ym (J2 (hC.getP 0 rfl)) rfl) (ZFi rfl) rfl fun w24 hC=>dn (ZE9 ?_)))
   refine Zjd b10 12 mixed [0,0,2,7,0,0,32,96,224,0,992,2016,4095,8191,16383] [1,8,10,11] [0,4,5,6,7,9] (by kernel_rfl) (by kernel_rfl) (by kernel_rfl) (fun hM13 hM11 w25 hB_=>?_)
   replace hC:=hC.grow hB_
   refine bMR (Y3 b10) 0 (vQ b11) rfl hM11 (Za 15 1) (Ja (Y3 b10) 1 (.agg #[u11]) rfl rfl (by kernel_rfl) (hM13 1 rfl) (fun w_ hB_=>.inl ⟨rfl,by exact Yo (hC.growC 3 rfl (ZLo _) hB_) 0 [u11] rfl ag55 rfl rfl rfl⟩) (l9:=(Za 15 3)) (by kernel_rfl) (bMR (Y3 b10) 4 (vQ b1) rfl hM11 (Za 15 19) (bMR (Y3 b10) 5 (vQ b11) rfl hM11 (Za 15 51) (Zp (Y3 b10) 6 (vQ b11) rfl rfl (by kernel_rfl) (hM11 6 rfl) (fun w_=>.inl ⟨rfl,by exact Jn rfl⟩) (l9:=(Za 15 115)) (by kernel_rfl) (Zp (Y3 b10) 7 (.pointer (some ⟨b11,2,none⟩)) rfl rfl (by kernel_rfl) (hM11 7 rfl) (fun w_=>.inl ⟨rfl,by exact Ye 2 ZLz rfl sc95.size rfl rfl⟩) (l9:=(Za 15 243)) (by kernel_rfl) (Ja (Y3 b10) 8 (v10) rfl rfl (by kernel_rfl) (hM13 8 rfl) (fun w_ hB_=>.inl ⟨rfl,by exact Yc (hC.growC 3 rfl (ZLo _) hB_) 2 (v10) rfl sc95 rfl rfl⟩) (l9:=(Za 15 499)) (by kernel_rfl) (bMR (Y3 b10) 9 (vI (i10:Int)) rfl hM11 (Za 15 1011) ?_)))))))
   replace hC:=hC.sM [1,0,2,3] (M':=[ZFo (ZLn 99 (Y9 (kvA .i64) (vvI .i64))) s10 [v10] f10,blk b18 55 [u11],blk b11 97 [u0_0,u1_0,v10,.map (some b10)],Zy kv2 vvM b10 (D291.map ZPb)]) (by decide) rfl
   obtain ⟨bs316,ho10,hf10⟩:=Zsl (hC.getM 0 rfl)
   replace hC:=hC.recast (c:=Zcp 99 (kvA .i64) (vvI .i64) v10 bs316 s10) (fun x_ hx_=>by have e_:=hf10; exact e_ ▸ hx_) (fun _=>ho10)
   obtain ⟨⟨h10,h11⟩,h⟩:=h
   obtain ⟨g10,cap10,hv12⟩:=Za4 (hC.getM 0 rfl).1 (Nat.lt_of_le_of_lt (Nat.zero_le _) (show i10 < s10.length by omega))
   refine Ja (Y3 b10) 10 (.pointer (some ⟨g10,i10 * 1,none⟩)) rfl rfl (by kernel_rfl) (hM13 10 rfl) (fun w_ hB_=>.inl ⟨rfl,by exact Zkb (i10 * 1) ZPg sc99.size (by exact tr rfl hv12) rfl h10 h11 rfl⟩) (l9:=(Za 15 2035)) (by kernel_rfl) (Ja (Y3 b10) 11 (.map (some (bs316.getD i10 0))) rfl rfl (by kernel_rfl) (hM13 11 rfl) (fun w_ hB_=>.inl ⟨rfl,by exact J7 (.map (some (bs316.getD i10 0))) (Zsm ((hC.growC 3 rfl (ZLo _) hB_).getM 0 rfl) hv12 (show i10 < s10.length by omega)) sc99 rfl⟩) (l9:=(Za 15 4083)) (by kernel_rfl) (aO 2 rfl (Zf [.agg #[u11]] _ ZPh rfl rfl rfl (Zdj (a0.images.getD i10 Zt0) h _ (Yh (hC.getP 0 rfl))) ?_)))
   rintro _ w26 ⟨r11,b15,rfl,h,hr13,hf12,hB11⟩
   refine rt ?_
   replace hC:=hC.push hB11 (mapS b15 r11) hr13 (fun b_ hb_=>by obtain rfl:=Zvn.1 hb_; exact hf12)
   refine done (aK (by first | assumption | exact Zfq (by assumption)) (Za 15 4087) (aO 3 rfl (Zf [vQ b11,.map (some b15)] _ Tryz.func65 rfl rfl rfl (Zms Cl152 a0.degrees a1.degrees s10 r11 h _ (hC.getP 5 rfl) (hC.getP 3 rfl) (ZO9 _ (Zmo (hC.getM 1 rfl)).1) (hC.getM 3 rfl) (hC.getM 4 rfl) (hC.getP 1 rfl) (hC.ldOff 4 1 rfl rfl) (fun e_=>hC.mm 3 4 rfl rfl (by decide) _ (ZLo _) (Zvn.2 e_)) (fun c_ hc_ e_=>hC.pdk 5 4 rfl rfl c_ hc_ (Zvn.2 e_)) (fun c_ hc_ e_=>hC.pdk 3 4 rfl rfl c_ hc_ (Zvn.2 e_)) (fun c_ hc_ e_=>hC.mm 1 4 rfl rfl (by decide) c_ hc_ (Zvn.2 e_)) (hC.getM 0 rfl) (fun c_ hc_ e_=>hC.mm 0 4 rfl rfl (by decide) c_ hc_ (Zvn.2 e_))) ?_)))
   rintro _ w27 ⟨r12,b16,D335,E336,rfl,h,hr14,hf13,hj10,hj11,hj12,hle340,hnd346,hB12⟩
   refine rt ?_
   have hs10:=hC.size
   replace hC:=hC.ldTurnP 4 1 rfl rfl hB12 hj10 hj11 hj12 hle340 (nt:=mapS b16 r12) hr14 (fun b_ hb_=>by obtain rfl:=Zvn.1 hb_; exact hf13) (fun b_ hb_=>by obtain rfl:=Zvn.1 hb_; exact hnd346)
   refine done (aK (by first | assumption | exact Zfq (by assumption)) (Za 15 4095) (Z0 12 (by decide) (by decide) (by kernel_rfl) (by kernel_rfl) rfl (Zf [vQ b1,.map (some (bs316.getD i10 0))] _ Tryz.func95 rfl rfl rfl (Zlb a1 (s10.getD i10 []) h _ (Yi (hC.getP 3 rfl) (hC.getP 2 rfl)) (hC.getP 10 rfl) (Zsn (hC.getM 2 rfl) (show i10 < s10.length by omega)).1) ?_)))
   rintro _ w28 ⟨r13,b17,rfl,h,hr15,hf14,hB13⟩
   refine rt ?_
   replace hC:=hC.push hB13 (mapS b17 r13) hr15 (fun b_ hb_=>by obtain rfl:=Zvn.1 hb_; exact hf14)
   refine Zf [.map (some b16),.map (some b17)] _ Tryz.func99 rfl rfl rfl (Zs6 r12 r13 h _ (hC.getM 1 rfl) (hC.getM 0 rfl)) ?_
   rintro _ w29 ⟨r14,rfl,h,hB14⟩
   refine rt ?_
   replace hC:=hC.grow hB14
   refine Y4 rfl (done (Z1 (Zd ?_)))
   refine Zq rfl (fun hb10=>?_) (fun hb10=>?_)
   ·replace h:=ift h (Yq (Y5 hb10))
    refine sr (Zc (v:=.bool false) rfl (dn ?_))
    refine ZFh (Zv (Ze (Ze (Zv (Ze ?_)))))
    exact Zk rfl (Zg rfl) ⟨false,rfl,h,hC.below⟩ (.inl rfl)
   ·replace h:=Zl h (not_not_intro ((Y6 hb10)))
    refine ZFc (Zt (Zd (Zn (Zr rfl rfl (Zb (v:=vI (Zwe.wrap ((i10:Int)+1))) rfl (done ?_))))))
    replace hC:=hC.sM [3,0,1,2,4,5,6] (M':=[Zcp 99 (kvA .i64) (vvI .i64) v10 bs316 s10,mapS b17 r13,mapS b16 r12,mapS b15 r11,blk b18 55 [u11],blk b11 97 [u0_0,u1_0,v10,.map (some b10)],Zy kv2 vvM b10 (D335.map ZPb)]) (by decide) rfl
    replace hC:=hC.recast (c:=ZFo (ZLn 99 (Y9 (kvA .i64) (vvI .i64))) s10 [v10] ((ZF6 (Zum v10))++bs316)) (fun x_ hx_=>hx_) (fun h_=>Zmo h_)
    rw [← hf10] at hC
    exact hK11 () _ _ ⟨D335,E336,(sl ⟨rfl,rfl,rfl,rfl,(tr rfl (congrArg _ (Z9 hi11 hN11))),trivial⟩),(hq10.step hs10 hle340),((hC.xM [0,5,6] rfl).sP [1,2,3,4,5,6,7,8,9,10] rfl)⟩ h
  ·clear hC h
   rintro s11 e_ w30 K11 ⟨D291,E292,hS_,hq10,hC⟩ h
   rw [ue hS_]
   refine sr (Zo rfl rfl (dn (ZE9 (Ya rfl (decide_eq_false (by omega)) ?_))))
   refine ZFn (Zm (Zm (Z5 ?_)))
   refine Zd (sr (Zc (v:=.bool true) rfl (dn (ZFh ?_))))
   exact Zk rfl (Zg rfl) ⟨true,rfl,h,hC.below⟩ (.inl rfl)
  ·skip
   exact⟨([]:List Kp),[],(slq rfl),(LdLe.refl _ _),hC⟩
 ·skip
  replace hC:=hC.pushM0 (ZFo (ZLn 99 (Y9 (kvA .i64) (vvI .i64))) [] [.slice none 0 0] []) (Zbl _ _ _) rfl
  exact⟨.slice none 0 0,[],(slq rfl),hC⟩
def Zfu (a0:Alg) (a1:Alg) (a2:List ZFd) (K:Bool→Prop):Prop :=
 Zfr a0.degrees a1.degrees a2 (fun r11=>(if r11=true then Zft a0 a1 a2 (fun r10=>K r10) else K false))
theorem Zs8 (a0:Alg) (a1:Alg) (a2:List ZFd)  {K:Bool→Prop} (h:Zfu a0 a1 a2 K) (w0:World) (q0:TAlg.rep a0 [u0_0,u0_1] fp0 w0) (qb0:(blk b0 32 [u0_0,u0_1]).holds w0) (q1:TAlg.rep a1 [u1_0,u1_1] fp1 w0) (qb1:(blk b1 32 [u1_0,u1_1]).holds w0) (q2:ZFv.sl.rep a2 [u2_0] fp2 w0) :
  Calls ZFb 50 #[vQ b0,vQ b1,u2_0] w0 fun e w'=>∃ (r0:Bool),
   e=.returned (.bool r0)∧K r0∧Bel w0 w':=by
 unfold Zfu at h
 refine cof Tryz.func50 rfl 23 Tryz.ntmps50 ?_
 have hC:=ZFu (X:=Nox) w0 [ZBl TAlg a0 [u0_0,u0_1] fp0,ZBl TAlg a1 [u1_0,u1_1] fp1,ZBl ZFv.sl a2 [u2_0] fp2,blk b0 32 [u0_0,u0_1],blk b1 32 [u1_0,u1_1]] (alc q0 (alc q1 (alc q2 (alc qb0 (al1 qb1)))))
 replace hC:=hC.dAlg 0 rfl
 replace hC:=hC.dAlg 3 rfl
 refine sr (Zc (v:=.bool false) rfl (dn (ZE9 ?_)))
 refine cwd 14 mixed [0,1,3,7,0,16,48,112,0,511,1023,2047,2047,2047,16383,32767,65535] [3,7] [0,1,2,4,5,6,8,10,11,12,13] (fun hM11 hM10 w10 hB_=>?_)
 replace hC:=hC.grow hB_
 refine bM 0 (vQ b0) rfl hM10 (Za 17 1) (bF 1 (vQ b0) rfl rfl hM10 (fun _=>by exact Jn rfl) (Za 17 3) (bF 2 (vQ b0) rfl rfl hM10 (fun _=>by exact Ye 0 ZFt rfl sc22.size rfl rfl) (Za 17 7) (bL 3 (u0_0) rfl rfl hM11 (fun _ hB_=>by exact Zae (u0_0) ((hC.grow hB_).getP 7 rfl) sc22 rfl rfl) (Za 17 15) (bM 4 (vQ b1) rfl hM10 (Za 17 31) (bF 5 (vQ b1) rfl rfl hM10 (fun _=>by exact Jn rfl) (Za 17 63) (bF 6 (vQ b1) rfl rfl hM10 (fun _=>by exact Ye 0 ZFt rfl sc22.size rfl rfl) (Za 17 127) (bL 7 (u1_0) rfl rfl hM11 (fun _ hB_=>by exact Zae (u1_0) ((hC.grow hB_).getP 8 rfl) sc22 rfl rfl) (Za 17 255) (bM 8 (u2_0) rfl hM10 (Za 17 511) (aO 9 rfl (Zf [u0_0,u1_0,u2_0] _ Tryz.func76 rfl rfl rfl (Zs5 a0.degrees a1.degrees a2 h _ (hC.getP 3 rfl) (hC.getP 1 rfl) (hC.getP 6 rfl)) ?_))))))))))
 rintro _ w11 ⟨r11,rfl,h,hB10⟩
 refine rt ?_
 replace hC:=hC.grow hB10
 refine done (aK (by assumption) (Za 17 1023) (bM 10 (.bool r11) rfl hM10 (Za 17 2047) ?_))
 refine Yt r11 (fun hb10=>?_) (fun hb10=>?_)
 ·replace h:=ift h (hb10)
  refine aF 11 (vQ b0) rfl rfl (hM10 11 rfl) (Z7 10 17 rfl rfl hb10) (fun _=>by exact Xw (v:=vQ b0) rfl) (Za 17 4095) (aF 12 (vQ b1) rfl rfl (hM10 12 rfl) (Z7 10 17 rfl rfl hb10) (fun _=>by exact Xw (v:=vQ b1) rfl) (Za 17 8191) (aF 13 (u2_0) rfl rfl (hM10 13 rfl) (Z7 10 17 rfl rfl hb10) (fun _=>by exact Xw (v:=u2_0) rfl) (Za 17 16383) (Z0 14 (by decide) (by decide) (by kernel_rfl) (by kernel_rfl) rfl (Zi 10 17 rfl rfl hb10 (Zf [vQ b0,vQ b1,u2_0] _ Tryz.func77 rfl rfl rfl (Zs7 a0 a1 a2 h _ (Yi (hC.getP 3 rfl) (hC.getP 2 rfl)) (hC.getP 7 rfl) (Yi (hC.getP 1 rfl) (hC.getP 0 rfl)) (hC.getP 8 rfl) (hC.getP 6 rfl)) ?_)))))
  rintro _ w12 ⟨r10,rfl,h,hB11⟩
  refine rt ?_
  replace hC:=hC.grow hB11
  refine Zw (v:=.bool r10) (b:=true) (tr rfl (congrArg _ hb10)) rfl (Zc (v:=.bool r10) rfl (done (Z1 (Zd (ZFh ?_)))))
  exact Zk rfl (Zg rfl) ⟨r10,rfl,h,hC.below⟩ (.inl rfl)
 ·replace h:=Zl h (Yq hb10)
  refine Zp Zs 11 undef rfl rfl (by kernel_rfl) (hM10 11 rfl) (fun w_=>.inr ⟨Z4 (b:=false) 10 17 rfl (tr rfl (congrArg _ hb10)) (by decide),rfl⟩) (l9:=(Za 17 4095)) (by kernel_rfl) (Zp Zs 12 undef rfl rfl (by kernel_rfl) (hM10 12 rfl) (fun w_=>.inr ⟨Z4 (b:=false) 10 17 rfl (tr rfl (congrArg _ hb10)) (by decide),rfl⟩) (l9:=(Za 17 8191)) (by kernel_rfl) (Zp Zs 13 undef rfl rfl (by kernel_rfl) (hM10 13 rfl) (fun w_=>.inr ⟨Z4 (b:=false) 10 17 rfl (tr rfl (congrArg _ hb10)) (by decide),rfl⟩) (l9:=(Za 17 16383)) (by kernel_rfl) (Z0 14 (by decide) (by decide) (by kernel_rfl) (by kernel_rfl) rfl (Zh (b:=false) 10 17 rfl (tr rfl (congrArg _ hb10)) (by decide) (Zw (v:=.bool false) (b:=false) (tr rfl (congrArg _ hb10)) rfl (Zc (v:=.bool false) rfl (done (Z1 (Zd (ZFh ?_))))))))))
  exact Zk rfl (Zg rfl) ⟨false,rfl,h,hC.below⟩ (.inl rfl)
def Zhk (a0:Alg) (a1:Alg) (a2:List ZFd) (K:Bool→Prop):Prop :=
 Zds a0 (fun r12=>(if r12=true then Zds a1 (fun r10=>(if r10=true then Zfu a0 a1 a2 (fun r11=>K r11) else K false)) else K false))
theorem Zs9 (a0:Alg) (a1:Alg) (a2:List ZFd)  {K:Bool→Prop} (h:Zhk a0 a1 a2 K) (w0:World) (q0:TAlg.rep a0 [u0_0,u0_1] fp0 w0) (q1:TAlg.rep a1 [u1_0,u1_1] fp1 w0) (q2:ZFv.sl.rep a2 [u2_0] fp2 w0) :
  Calls ZFb 63 #[.agg #[u0_0,u0_1],.agg #[u1_0,u1_1],u2_0] w0 fun e w'=>∃ (r0:Bool),
   e=.returned (.bool r0)∧K r0∧Bel w0 w':=by
 unfold Zhk at h
 refine cof Tryz.func63 rfl 17 Tryz.ntmps63 ?_
 have hC:=ZFu (X:=Nox) w0 [ZBl TAlg a0 [u0_0,u0_1] fp0,ZBl TAlg a1 [u1_0,u1_1] fp1,ZBl ZFv.sl a2 [u2_0] fp2] (alc q0 (alc q1 (al1 q2)))
 replace hC:=hC.dAlg 0 rfl
 replace hC:=hC.dAlg 3 rfl
 refine sr (Yf (v:=.agg #[u0_0,u0_1]) hC [u0_0,u0_1] rfl rfl fun b8 w10 hB_ hC=>Yf (v:=.agg #[u1_0,u1_1]) hC [u1_0,u1_1] rfl rfl fun b10 w11 hB_ hC=>Zc (v:=.bool false) rfl (dn (sr (Yd hC 1 [u0_0,u0_1] rfl ag32 rfl rfl rfl (Zf [.agg #[u0_0,u0_1]] _ Tryz.func71 rfl rfl rfl (Zls a0 h _ (Yi (hC.getP 3 rfl) (hC.getP 2 rfl))) ?_)))))
 rintro _ w12 ⟨r12,rfl,h,hB10⟩
 refine rt ?_
 replace hC:=hC.grow hB10
 refine Zb (v:=.bool r12) rfl ?_
 refine Yt r12 (fun hb10=>?_) (fun hb10=>?_)
 ·replace h:=ift h (hb10)
  refine Zi 2 9 rfl rfl hb10 (Yd hC 0 [u1_0,u1_1] rfl ag32 rfl rfl rfl (Zi 2 9 rfl rfl hb10 (Zf [.agg #[u1_0,u1_1]] _ Tryz.func71 rfl rfl rfl (Zls a1 h _ (Yi (hC.getP 1 rfl) (hC.getP 0 rfl))) ?_)))
  rintro _ w13 ⟨r10,rfl,h,hB11⟩
  refine rt ?_
  replace hC:=hC.grow hB11
  refine Zw (v:=.bool r10) (b:=true) (tr rfl (congrArg _ hb10)) rfl (Zb (v:=.bool r10) rfl ?_)
  refine Yt r10 (fun hb11=>?_) (fun hb11=>?_)
  ·replace h:=ift h (hb11)
   refine Zi 6 13 rfl rfl hb11 (Zb (v:=u2_0) rfl (Zi 6 13 rfl rfl hb11 (Zf [vQ b8,vQ b10,u2_0] _ Tryz.func50 rfl rfl rfl (Zs8 a0 a1 a2 h _ (Yi (hC.getP 3 rfl) (hC.getP 2 rfl)) (hC.getM 1 rfl) (Yi (hC.getP 1 rfl) (hC.getP 0 rfl)) (hC.getM 0 rfl) (hC.getP 6 rfl)) ?_)))
   rintro _ w14 ⟨r11,rfl,h,hB12⟩
   refine rt ?_
   replace hC:=hC.grow hB12
   refine Zw (v:=.bool r11) (b:=true) (tr rfl (congrArg _ hb11)) rfl (Zc (v:=.bool r11) rfl (dn (ZFh ?_)))
   exact Zk rfl (Zg rfl) ⟨r11,rfl,h,hC.below⟩ (.inl rfl)
  ·replace h:=Zl h (Yq hb11)
   refine Zh (b:=false) 6 13 rfl (tr rfl (congrArg _ hb11)) (by decide) (Zh (b:=false) 6 13 rfl (tr rfl (congrArg _ hb11)) (by decide) (Zw (v:=.bool false) (b:=false) (tr rfl (congrArg _ hb11)) rfl (Zc (v:=.bool false) rfl (dn (ZFh ?_)))))
   exact Zk rfl (Zg rfl) ⟨false,rfl,h,hC.below⟩ (.inl rfl)
 ·replace h:=Zl h (Yq hb10)
  refine Zh (b:=false) 2 9 rfl (tr rfl (congrArg _ hb10)) (by decide) (Zh (b:=false) 2 9 rfl (tr rfl (congrArg _ hb10)) (by decide) (Zw (v:=.bool false) (b:=false) (tr rfl (congrArg _ hb10)) rfl (Zb (v:=.bool false) rfl (Zh (b:=false) 6 13 rfl (tr rfl (congrArg _ rfl)) (by decide) (Zh (b:=false) 6 13 rfl (tr rfl (congrArg _ rfl)) (by decide) (Zw (v:=.bool false) (b:=false) rfl rfl (Zc (v:=.bool false) rfl (dn (ZFh ?_)))))))))
  exact Zk rfl (Zg rfl) ⟨false,rfl,h,hC.below⟩ (.inl rfl)
def Zd6 (a0:Alg) (a1:Alg) (a2:List ZFd) (K:Int→Prop):Prop :=
 Zhk a0 a1 a2 (fun r10=>Zfd (!r10) 1 (fun r11=>K r11))
theorem Zm0 (a0:Alg) (a1:Alg) (a2:List ZFd)  {K:Int→Prop} (h:Zd6 a0 a1 a2 K) (w0:World) (q0:TAlg.rep a0 [u0_0,u0_1] fp0 w0) (qb0:(blk b0 32 [u0_0,u0_1]).holds w0) (q1:TAlg.rep a1 [u1_0,u1_1] fp1 w0) (qb1:(blk b1 32 [u1_0,u1_1]).holds w0) (q2:ZFv.sl.rep a2 [u2_0] fp2 w0) :
  Calls ZFb 32 #[vQ b0,vQ b1,u2_0] w0 fun e w'=>∃ (r0:Int),
   e=.returned (vI r0)∧K r0∧Bel w0 w':=by
 unfold Zd6 at h
 refine cof Tryz.func32 rfl 17 Tryz.ntmps32 ?_
 have hC:=ZFu (X:=Nox) w0 [ZBl TAlg a0 [u0_0,u0_1] fp0,ZBl TAlg a1 [u1_0,u1_1] fp1,ZBl ZFv.sl a2 [u2_0] fp2,blk b0 32 [u0_0,u0_1],blk b1 32 [u1_0,u1_1]] (alc q0 (alc q1 (alc q2 (alc qb0 (al1 qb1)))))
 replace hC:=hC.dAlg 0 rfl
 replace hC:=hC.dAlg 3 rfl
 refine sr (Zc (v:=vI 0) rfl (dn (ZE9 ?_)))
 refine cwd 7 mixed [0,1,3,0,8,24,0,127,255,511,1023] [2,5] [0,1,3,4,6] (fun hM11 hM10 w10 hB_=>?_)
 replace hC:=hC.grow hB_
 refine bM 0 (vQ b0) rfl hM10 (Za 11 1) (bF 1 (vQ b0) rfl rfl hM10 (fun _=>by exact Jn rfl) (Za 11 3) (bL 2 (.agg #[u0_0,u0_1]) rfl rfl hM11 (fun _ hB_=>by exact Zkc [u0_0,u0_1] ((hC.grow hB_).getP 7 rfl) ag32 rfl rfl rfl) (Za 11 7) (bM 3 (vQ b1) rfl hM10 (Za 11 15) (bF 4 (vQ b1) rfl rfl hM10 (fun _=>by exact Jn rfl) (Za 11 31) (bL 5 (.agg #[u1_0,u1_1]) rfl rfl hM11 (fun _ hB_=>by exact Zkc [u1_0,u1_1] ((hC.grow hB_).getP 8 rfl) ag32 rfl rfl rfl) (Za 11 63) (bM 6 (u2_0) rfl hM10 (Za 11 127) (Z0 7 (by decide) (by decide) (by kernel_rfl) (by kernel_rfl) rfl (Zf [.agg #[u0_0,u0_1],.agg #[u1_0,u1_1],u2_0] _ Tryz.func63 rfl rfl rfl (Zs9 a0 a1 a2 h _ (Yi (hC.getP 3 rfl) (hC.getP 2 rfl)) (Yi (hC.getP 1 rfl) (hC.getP 0 rfl)) (hC.getP 6 rfl)) ?_))))))))
 rintro _ w11 ⟨r10,rfl,h,hB10⟩
 refine rt ?_
 replace hC:=hC.grow hB10
 refine Y4 rfl (Zf [.bool (!r10),vI 1] _ Tryz.func47 rfl rfl rfl (Zqg (!r10) 1 h _) ?_)
 rintro _ w12 ⟨r11,rfl,h,hB11⟩
 refine rt ?_
 replace hC:=hC.grow hB11
 refine Zc (v:=vI r11) rfl (done (Z1 (Zd (ZFh ?_))))
 exact Zk rfl (Zg rfl) ⟨r11,rfl,h,hC.below⟩ (.inl rfl)
def Zcs (a0:Alg) (a1:Alg) (a2:Alg) (a3:List ZFd) (a4:List ZFd) (K:List ZFd→Int→Prop):Prop :=
 Zd6 a0 a1 a3 (fun r10=>Zd6 a1 a2 a4 (fun r11=>Zfk [r10,r11] (fun r15=>(if r15≠0 then K [] r15 else Yg (fun i10 (s10:(List (List (A8×Int)))) nx10=>Zaw (a4.getD i10 Zt0) (fun r14=>(X4 (s10.length+1) 8∧nx10 (s10++[r14])))) (fun (s10:(List (List (A8×Int))))=>(∃ (Cl182:Int→Int→List (A8×Int)→Prop),Yg (fun i11 (s11:(List ZFd)) nx11=>Zaw (a3.getD i11 Zt0) (fun r16=>Zd2 Cl182 a1.degrees a2.degrees s10 r16 (fun r17=>Zch r17 (fun r13 r12=>(if r12≠0 then K [] r12 else(X4 (s11.length+1) 24∧nx11 (s11++[r13]))))))) (fun (s11:(List ZFd))=>K s11 0) a3.length 0 [])) a4.length 0 []))))
theorem Zm1 (a0:Alg) (a1:Alg) (a2:Alg) (a3:List ZFd) (a4:List ZFd)  {K:List ZFd→Int→Prop} (h:Zcs a0 a1 a2 a3 a4 K) (w0:World) (q0:TAlg.rep a0 [u0_0,u0_1] fp0 w0) (q1:TAlg.rep a1 [u1_0,u1_1] fp1 w0) (q2:TAlg.rep a2 [u2_0,u2_1] fp2 w0) (q3:ZFv.sl.rep a3 [u3_0] fp3 w0) (q4:ZFv.sl.rep a4 [u4_0] fp4 w0) :
  Calls ZFb 11 #[.agg #[u0_0,u0_1],.agg #[u1_0,u1_1],.agg #[u2_0,u2_1],u3_0,u4_0] w0 fun e w'=>∃ (r0:List ZFd) (z0_0:Value) (fz0:List Nat) (r1:Int),
   e=.returned (.tuple #[z0_0,vI r1])∧K r0 r1∧(ZFo (ZLn 55 (Zj 90)) r0 [z0_0] fz0).holds w'∧(∀ b,b∈fz0→w0.heap.size≤b)∧Bel w0 w':=by
 unfold Zcs at h
 refine cof Tryz.func11 rfl 32 Tryz.ntmps11 ?_
 have hC:=ZFu (X:=Nox) w0 [ZBl TAlg a0 [u0_0,u0_1] fp0,ZBl TAlg a1 [u1_0,u1_1] fp1,ZBl TAlg a2 [u2_0,u2_1] fp2,ZBl ZFv.sl a3 [u3_0] fp3,ZBl ZFv.sl a4 [u4_0] fp4] (alc q0 (alc q1 (alc q2 (alc q3 (al1 q4)))))
 replace hC:=hC.dAlg 0 rfl
 replace hC:=hC.dAlg 3 rfl
 replace hC:=hC.dAlg 6 rfl
 refine sr (Yf (v:=.agg #[u0_0,u0_1]) hC [u0_0,u0_1] rfl rfl fun b14 w10 hB_ hC=>Yf (v:=.agg #[u1_0,u1_1]) hC [u1_0,u1_1] rfl rfl fun b13 w11 hB_ hC=>Yf (v:=.agg #[u2_0,u2_1]) hC [u2_0,u2_1] rfl rfl fun b15 w12 hB_ hC=>Zc (v:=.slice none 0 0) rfl (Zc (v:=vI 0) rfl (dn (ZE9 (sr (Zb (v:=u3_0) rfl (Zf [vQ b14,vQ b13,u3_0] _ Tryz.func32 rfl rfl rfl (Zm0 a0 a1 a3 h _ (Yi (hC.getP 5 rfl) (hC.getP 4 rfl)) (hC.getM 2 rfl) (Yi (hC.getP 3 rfl) (hC.getP 2 rfl)) (hC.getM 1 rfl) (hC.getP 9 rfl)) ?_)))))))
 rintro _ w13 ⟨r10,rfl,h,hB10⟩
 refine rt ?_
 replace hC:=hC.grow hB10
 refine Zb (v:=u4_0) rfl (Zf [vQ b13,vQ b15,u4_0] _ Tryz.func32 rfl rfl rfl (Zm0 a1 a2 a4 h _ (Yi (hC.getP 3 rfl) (hC.getP 2 rfl)) (hC.getM 1 rfl) (Yi (hC.getP 1 rfl) (hC.getP 0 rfl)) (hC.getM 0 rfl) (hC.getP 10 rfl)) ?_)
 rintro _ w14 ⟨r11,rfl,h,hB11⟩
 refine rt ?_
 replace hC:=hC.grow hB11
 refine Ju (sz:=1) hC [(0,vI r10),(1,vI r11)] (eI.encs [r10,r11]) rfl (fun _=>Zs1 r10 r11 _) rfl (by decide) fun b16 w15 hB_ hC=>Zf [.slice (some ⟨b16,0,none⟩) 2 2] _ Tryz.func31 rfl rfl rfl (Zrc [r10,r11] h _ (Yv (hC.getM 0 rfl))) ?_
 rintro _ w16 ⟨r15,rfl,h,hB12⟩
 refine rt ?_
 replace hC:=hC.grow hB12
 refine Zc (v:=vI r15) rfl (dn (sr (Zb (v:=vI r15) rfl (Y7 rfl rfl (dn ?_)))))
 refine Zq rfl (fun hb10=>?_) (fun hb10=>?_)
 ·replace h:=ift h (ct hb10)
  refine sr (Zb (v:=vI r15) rfl (Zc (v:=.slice none 0 0) rfl (Zc (v:=vI r15) rfl (dn ?_))))
  refine ZFh (Ze ?_)
  exact Xy rfl (Zg rfl) (Zg rfl) ⟨[],.slice none 0 0,[],r15,rfl,h,(Zbl _ _ _),(fun b hb=>absurd hb (by simp)),hC.below⟩ (.inl rfl)
 ·replace h:=Zl h (cf hb10)
  refine ZFc (Zd (sr (Zz 0 ZFt rfl sc22.size rfl rfl (Z6 hC 2 (u1_0) rfl sc22 rfl rfl (Zz 0 ZFt rfl sc22.size rfl rfl (Z6 hC 1 (u2_0) rfl sc22 rfl rfl (Zb (v:=u4_0) rfl (Zjc [u1_0,u2_0,u4_0] Tryz.func33 rfl rfl 34 Tryz.ntmps33 (ZFi rfl) rfl (sr (Zc (v:=.pointer none) rfl (dn (sr (Zb (v:=u1_0) rfl (Zb (v:=u2_0) rfl (Zbk hC kv2 vvM fun b10 w17 hB_ hC=>?_)))))))))))))))
  replace hC:=hC.recast (c:=Zy kv2 vvM b10 (([]:List Kp).map ZPb)) (fun _ h_=>h_) (fun h_=>h_)
  refine Xp [(0,u1_0),(1,u2_0),(3,.map (some b10))] rfl (Zmv u1_0 u2_0 b10 (Zgj (hC.getP 3 rfl)) (Zgj (hC.getP 1 rfl)) _) (Yf (v:=.agg #[u1_0,u2_0,.slice none 0 0,.map (some b10)]) hC [u1_0,u2_0,.slice none 0 0,.map (some b10)] rfl rfl fun b11 w18 hB_ hC=>Zc (v:=vQ b11) rfl (dn (ZE9 (sr (Zb (v:=u4_0) rfl (Zx hC 10 rfl ZFx rfl (Zb (v:=vI 0) rfl (dn (ZFf ?_)))))))))
  have hN10:a4.length≤9223372036854775807:=Y0 (hC.getP 10 rfl)
  refine Yp (S:=(List (List (A8×Int)))) _ _ (fun i10 s10 e_ w_=>∃ (v10:Value),∃ (f10:List Nat),Z2 e_ [(7,vQ b11),(15,u4_0),(16,vI (a4.length:Int)),(17,vI (i10:Int))]∧Ctx Nox w0 w_ [ZFo (ZLn 99 (Y9 (kvA .i64) (vvI .i64))) s10 [v10] f10,blk b11 97 [u1_0,u2_0,v10,.map (some b10)],Zy kv2 vvM b10 (([]:List Kp).map ZPb),own 2 1 (.slice (some ⟨b16,0,none⟩) 2 2) ([r10,r11].length) (eI.encs [r10,r11]),blk b15 32 [u2_0,u2_1],blk b13 32 [u1_0,u1_1],blk b14 32 [u0_0,u0_1]] [ZBl ZFv.sl a2.images [u2_1] fp2,ZBl TInts a2.degrees [u2_0] fp2,ZBl ZFv.sl a1.images [u1_1] fp1,ZBl TInts a1.degrees [u1_0] fp1,ZBl ZFv.sl a0.images [u0_1] fp0,ZBl TInts a0.degrees [u0_0] fp0,ZBl TAlg a0 [u0_0,u0_1] fp0,ZBl TAlg a1 [u1_0,u1_1] fp1,ZBl TAlg a2 [u2_0,u2_1] fp2,ZBl ZFv.sl a3 [u3_0] fp3,ZBl ZFv.sl a4 [u4_0] fp4]) a4.length ?_ ?_ (s0:=[]) ?_ h
  ·clear hC h
   rintro i10 s10 e_ w19 nx10 K10 hi10 ⟨v10,f10,hS_,hC⟩ h hK10
   rw [ue hS_]
   refine sr (Zo rfl rfl (dn (ZE9 (Z8 rfl (decide_eq_true (by omega)) (ZFc (Zd (ZE9 (ZFf (sr ?_)))))))))
   obtain ⟨Ad10,c10,hv10⟩:=Z3 (hC.getP 10 rfl) i10 hi10
   refine Yu (len:=a4.length) ZFx ag55.size (tr rfl hv10) rfl (ZFq _) (ZF8.2 hi10) ?_
   obtain ⟨cs_,hl10,hc10,hr10⟩:=Xh (hC.getP 10 rfl) hv10 i10 hi10
   obtain ⟨u11,rfl⟩:=ZF7.1 hl10
   clear hl10
   rw [Xf _ _ hi10] at hr10
   have hp10:=hr10
   replace hC:=hC.derive 10 rfl (ZBl ZFa.ty.sl ((a4.getD i10 Zt0).terms) [u11] fp4) (fun _=>(Yn hp10)) (fun _ hb_=>hb_)
   refine X9 [u11] hc10 ag55 rfl rfl (Yb hC [.slice none 0 0] z55 rfl fun b22 w20 hB_ hC=>Zu (v:=.agg #[u11]) hC 0 [u11] [u11] rfl ag55.size rfl rfl rfl rfl (Ym (J2 (hC.getP 0 rfl)) rfl) (ZFi rfl) rfl fun w21 hC=>dn ?_)
   refine cwd 8 mixed [0,0,2,6,14,0,32,96,254,511,1023,2047] [4,5] [0,1,2,3] (fun hM11 hM10 w22 hB_=>?_)
   replace hC:=hC.grow hB_
   refine bM 0 (vQ b11) rfl hM10 (Za 12 1) (bM 1 (vQ b11) rfl hM10 (Za 12 3) (bF 2 (vQ b11) rfl rfl hM10 (fun _=>by exact Jn rfl) (Za 12 7) (bF 3 (.pointer (some ⟨b11,2,none⟩)) rfl rfl hM10 (fun _=>by exact Ye 2 ZLz rfl sc95.size rfl rfl) (Za 12 15) (bL 4 (v10) rfl rfl hM11 (fun _ hB_=>by exact Yc (hC.grow hB_) 2 (v10) rfl sc95 rfl rfl) (Za 12 31) (bL 5 (.agg #[u11]) rfl rfl hM11 (fun _ hB_=>by exact Yo (hC.grow hB_) 0 [u11] rfl ag55 rfl rfl rfl) (Za 12 63) (aO 6 rfl (Zf [.agg #[u11]] _ ZPh rfl rfl rfl (Zdj (a4.getD i10 Zt0) h _ (Yh (hC.getP 0 rfl))) ?_)))))))
   rintro _ w23 ⟨r14,b12,rfl,h,hr12,hf10,hB13⟩
   refine rt ?_
   replace hC:=hC.push hB13 (mapS b12 r14) hr12 (fun b_ hb_=>by obtain rfl:=Zvn.1 hb_; exact hf10)
   refine done (aK (by assumption) (Za 12 127) (aO 7 rfl (Ju (sz:=1) hC [(0,.map (some b12))] [.map (some b12)] rfl (fun _=>Zmw b12  _) rfl (by decide) fun b17 w24 hB_ hC=>?_)))
   replace hC:=hC.pushM0 (Yl (Y9 (kvA .i64) (vvI .i64)) [] [] []) (Zcc _ _) rfl
   replace hC:=hC.sM [2,0,1,3,4,5,6,7,8,9,10] (M':=[mapS b12 r14,Yl (Y9 (kvA .i64) (vvI .i64)) [] [] [],own 99 1 (.slice (some ⟨b17,0,none⟩) 1 1) 1 [.map (some b12)],blk b22 55 [u11],ZFo (ZLn 99 (Y9 (kvA .i64) (vvI .i64))) s10 [v10] f10,blk b11 97 [u1_0,u2_0,v10,.map (some b10)],Zy kv2 vvM b10 (([]:List Kp).map ZPb),own 2 1 (.slice (some ⟨b16,0,none⟩) 2 2) ([r10,r11].length) (eI.encs [r10,r11]),blk b15 32 [u2_0,u2_1],blk b13 32 [u1_0,u1_1],blk b14 32 [u0_0,u0_1]]) (by decide) rfl
   replace hC:=hC.gather (c:=Yl (Y9 (kvA .i64) (vvI .i64)) [r14] [.map (some b12)] [[b12]]) (fun x_ hx_=>Zgl hx_) (fun h1_ h2_ hd_=>Zek (c:=[.map (some b12)]) (Zmn h1_) h2_ hd_)
   replace hC:=hC.sM [1,0,2,3,4,5,6,7,8,9] (M':=[own 99 1 (.slice (some ⟨b17,0,none⟩) 1 1) 1 [.map (some b12)],Yl (Y9 (kvA .i64) (vvI .i64)) [r14] [.map (some b12)] [[b12]],blk b22 55 [u11],ZFo (ZLn 99 (Y9 (kvA .i64) (vvI .i64))) s10 [v10] f10,blk b11 97 [u1_0,u2_0,v10,.map (some b10)],Zy kv2 vvM b10 (([]:List Kp).map ZPb),own 2 1 (.slice (some ⟨b16,0,none⟩) 2 2) ([r10,r11].length) (eI.encs [r10,r11]),blk b15 32 [u2_0,u2_1],blk b13 32 [u1_0,u1_1],blk b14 32 [u0_0,u0_1]]) (by decide) rfl
   replace hC:=hC.gather (c:=ZFo (ZLn 99 (Y9 (kvA .i64) (vvI .i64))) [r14] [.slice (some ⟨b17,0,none⟩) 1 1] ((ZF6 (Zum (.slice (some ⟨b17,0,none⟩) 1 1)))++([[b12]]:List (List Nat)).flatten)) (fun x_ hx_=>Zud.1 hx_) (fun h1_ h2_ hd_=>Zau h1_ h2_ hd_)
   refine done (aK (by assumption) (Za 12 255) (aO 8 rfl ?_))
   replace hC:=hC.sM [2,0,1,3,4,5,6,7,8] (M':=[ZFo (ZLn 99 (Y9 (kvA .i64) (vvI .i64))) s10 [v10] f10,ZFo (ZLn 99 (Y9 (kvA .i64) (vvI .i64))) [r14] [.slice (some ⟨b17,0,none⟩) 1 1] ((ZF6 (Zum (.slice (some ⟨b17,0,none⟩) 1 1)))++([[b12]]:List (List Nat)).flatten),blk b22 55 [u11],blk b11 97 [u1_0,u2_0,v10,.map (some b10)],Zy kv2 vvM b10 (([]:List Kp).map ZPb),own 2 1 (.slice (some ⟨b16,0,none⟩) 2 2) ([r10,r11].length) (eI.encs [r10,r11]),blk b15 32 [u2_0,u2_1],blk b13 32 [u1_0,u1_1],blk b14 32 [u0_0,u0_1]]) (by decide) rfl
   obtain ⟨hm10,h⟩:=h
   refine Zgk hC ZPg Zmx rfl (by decide) (by decide) rfl rfl hm10 fun v12 f12 w25 hC=>done (Zge (by decide) (l9:=(Za 12 511)) (by kernel_rfl) (Z0 9 (by decide) (by decide) (by kernel_rfl) (by kernel_rfl) rfl (Za3 rfl (Zz 2 ZLz rfl sc95.size rfl rfl (Zu (v:=v12) hC 2 [v12] [u1_0,u2_0,v12,.map (some b10)] rfl sc95.size rfl rfl (Zh4 (ZO9 _ (hC.getM 0 rfl).1)) rfl (Ym (J2 (ZO9 _ (hC.getM 0 rfl).1)) rfl) (ZFi rfl) rfl fun w26 hC=>done (Z1 (Zt (Zd (Zn (Zr rfl rfl (Zb (v:=vI (Zwe.wrap ((i10:Int)+1))) rfl (done ?_))))))))))))
   exact hK10 (s10++[r14]) _ _ ⟨v12,f12,(sl ⟨rfl,rfl,rfl,(tr rfl (congrArg _ (Z9 hi10 hN10))),trivial⟩),((hC.xM [0,2,3,4,5,6,7] rfl).sP [1,2,3,4,5,6,7,8,9,10,11] rfl)⟩ h
  ·clear hC h
   rintro s10 e_ w27 K10 ⟨v10,f10,hS_,hC⟩ h
   rw [ue hS_]
   refine sr (Zo rfl rfl (dn (ZE9 (Ya rfl (decide_eq_false (by omega)) ?_))))
   refine ZFn (Zm (Zm (Z5 ?_)))
   refine Zd (sr (Zb (v:=vQ b11) rfl (Zc (v:=vQ b11) rfl (dn (ZFh ?_)))))
   refine Zk (fn:=Tryz.f33) (v:=vQ b11) rfl (Zg rfl) ⟨_,rfl,?_⟩ (.inl rfl)
   refine Zb (v:=u3_0) rfl (Zjc [vQ b11,u3_0] Tryz.func34 rfl rfl 35 Tryz.ntmps34 (ZFi rfl) rfl (sr (Zc (v:=.slice none 0 0) rfl (Zc (v:=vI 0) rfl (dn (sr (Ju (sz:=1) hC [] [] rfl (fun _=>Zmt _) rfl (by decide) fun b19 w28 hB_ hC=>?_)))))))
   replace hC:=hC.pushM0 (Yl (Zj 90) ([]:List ZFd) [] []) (Zcc _ _) rfl
   replace hC:=hC.gather (c:=ZFo (ZLn 55 (Zj 90)) [] [.slice (some ⟨b19,0,none⟩) 0 0] ((ZF6 (Zum (.slice (some ⟨b19,0,none⟩) 0 0)))++([]:List (List Nat)).flatten)) (fun x_ hx_=>(Zud.1 hx_).symm) (fun h1_ h2_ hd_=>Zau h2_ h1_ (fun b_ hb_ hb2_=>hd_ b_ hb2_ hb_))
   refine Zc (v:=.slice (some ⟨b19,0,none⟩) 0 0) rfl (dn (ZE9 (sr (Zb (v:=u3_0) rfl (Zx hC 9 rfl ZFx rfl (Zb (v:=vI 0) rfl (dn (ZFf ?_))))))))
   obtain ⟨Cl182,h⟩:=h
   replace hC:=hC.pushE (ldE Cl182 ([]:List Kp) []) (Zmp _ _) rfl
   have hN11:a3.length≤9223372036854775807:=Y0 (hC.getP 10 rfl)
   refine Yp (S:=(List ZFd)) _ _ (fun i11 s11 e_ w_=>∃ (D327:List Kp),∃ (E328:List (Nat×List (A8×Int))),∃ (v11:Value),∃ (f11:List Nat),Z2 e_ [(0,vQ b11),(6,v11),(12,u3_0),(13,vI (a3.length:Int)),(14,vI (i11:Int))]∧LdLe w0 [] E328∧Ctx Nox w0 w_ [ZFo (ZLn 55 (Zj 90)) s11 [v11] f11,ZFo (ZLn 99 (Y9 (kvA .i64) (vvI .i64))) s10 [v10] f10,blk b11 97 [u1_0,u2_0,v10,.map (some b10)],Zy kv2 vvM b10 (D327.map ZPb),own 2 1 (.slice (some ⟨b16,0,none⟩) 2 2) ([r10,r11].length) (eI.encs [r10,r11]),blk b15 32 [u2_0,u2_1],blk b13 32 [u1_0,u1_1],blk b14 32 [u0_0,u0_1]] [ldE Cl182 D327 E328,ZBl ZFv.sl a2.images [u2_1] fp2,ZBl TInts a2.degrees [u2_0] fp2,ZBl ZFv.sl a1.images [u1_1] fp1,ZBl TInts a1.degrees [u1_0] fp1,ZBl ZFv.sl a0.images [u0_1] fp0,ZBl TInts a0.degrees [u0_0] fp0,ZBl TAlg a0 [u0_0,u0_1] fp0,ZBl TAlg a1 [u1_0,u1_1] fp1,ZBl TAlg a2 [u2_0,u2_1] fp2,ZBl ZFv.sl a3 [u3_0] fp3,ZBl ZFv.sl a4 [u4_0] fp4]) a3.length ?_ ?_ (s0:=[]) ?_ h
   ·clear hC h
    rintro i11 s11 e_ w29 nx11 K11 hi11 ⟨D327,E328,v11,f11,hS_,hq10,hC⟩ h hK11
    rw [ue hS_]
    refine sr (Zo rfl rfl (dn (ZE9 (Z8 rfl (decide_eq_true (by omega)) (ZFc (Zd (ZE9 (ZFf (sr ?_)))))))))
    obtain ⟨Ad11,c11,hv11⟩:=Z3 (hC.getP 10 rfl) i11 hi11
    refine Yu (len:=a3.length) ZFx ag55.size (tr rfl hv11) rfl (ZFq _) (ZF8.2 hi11) ?_
    obtain ⟨cs_,hl11,hc11,hr11⟩:=Xh (hC.getP 10 rfl) hv11 i11 hi11
    obtain ⟨u12,rfl⟩:=ZF7.1 hl11
    clear hl11
    rw [Xf _ _ hi11] at hr11
    have hp11:=hr11
    replace hC:=hC.derive 10 rfl (ZBl ZFa.ty.sl ((a3.getD i11 Zt0).terms) [u12] fp3) (fun _=>(Yn hp11)) (fun _ hb_=>hb_)
    refine X9 [u12] hc11 ag55 rfl rfl (Yb hC [.slice none 0 0] z55 rfl fun b23 w30 hB_ hC=>Zu (v:=.agg #[u12]) hC 0 [u12] [u12] rfl ag55.size rfl rfl rfl rfl (Ym (J2 (hC.getP 0 rfl)) rfl) (ZFi rfl) rfl fun w31 hC=>dn (sr (Zb (v:=vQ b11) rfl (Yd hC 0 [u12] rfl ag55 rfl rfl rfl (Zf [.agg #[u12]] _ ZPh rfl rfl rfl (Zdj (a3.getD i11 Zt0) h _ (Yh (hC.getP 0 rfl))) ?_)))))
    rintro _ w32 ⟨r16,b20,rfl,h,hr13,hf11,hB14⟩
    refine rt ?_
    replace hC:=hC.push hB14 (mapS b20 r16) hr13 (fun b_ hb_=>by obtain rfl:=Zvn.1 hb_; exact hf11)
    refine Zf [vQ b11,.map (some b20)] _ Tryz.func65 rfl rfl rfl (Zms Cl182 a1.degrees a2.degrees s10 r16 h _ (hC.getP 5 rfl) (hC.getP 3 rfl) (ZO9 _ (hC.getM 3 rfl).1) (hC.getM 4 rfl) (hC.getM 5 rfl) (hC.getP 1 rfl) (hC.ldOff 5 1 rfl rfl) (fun e_=>hC.mm 4 5 rfl rfl (by decide) _ (ZLo _) (Zvn.2 e_)) (fun c_ hc_ e_=>hC.pdk 5 5 rfl rfl c_ hc_ (Zvn.2 e_)) (fun c_ hc_ e_=>hC.pdk 3 5 rfl rfl c_ hc_ (Zvn.2 e_)) (fun c_ hc_ e_=>hC.mm 3 5 rfl rfl (by decide) c_ hc_ (Zvn.2 e_)) (hC.getM 0 rfl) (fun c_ hc_ e_=>hC.mm 0 5 rfl rfl (by decide) c_ hc_ (Zvn.2 e_))) ?_
    rintro _ w33 ⟨r17,b21,D362,E363,rfl,h,hr14,hf12,hj10,hj11,hj12,hle367,hnd373,hB15⟩
    refine rt ?_
    have hs10:=hC.size
    replace hC:=hC.ldTurnP 5 1 rfl rfl hB15 hj10 hj11 hj12 hle367 (nt:=mapS b21 r17) hr14 (fun b_ hb_=>by obtain rfl:=Zvn.1 hb_; exact hf12) (fun b_ hb_=>by obtain rfl:=Zvn.1 hb_; exact hnd373)
    refine Zf [.map (some b21)] _ Tryz.func66 rfl rfl rfl (Zpu r17 h _ (hC.getM 0 rfl)) ?_
    rintro _ w34 ⟨r13,u10,f13,r12,rfl,h,hr15,hf13,hB16⟩
    refine rt ?_
    replace hC:=hC.push hB16 (ZFo (Zj 90) r13 [u10] f13) hr15 hf13
    obtain ⟨ho10,hf14⟩:=Xb (hC.getM 0 rfl)
    subst hf14
    replace hC:=hC.recast (c:=own 90 9 u10 r13.terms.length (ZFa.encs r13.terms)) (fun _ h_=>h_) (fun _=>ho10)
    refine Zb (v:=.tuple #[.agg #[u10],vI r12]) rfl (Y2 (v:=.agg #[u10]) rfl rfl (Y2 (v:=vI r12) rfl rfl (Yb hC [.slice none 0 0] z55 rfl fun b24 w35 hB_ hC=>Zu (v:=.agg #[u10]) hC 0 [u10] [u10] rfl ag55.size rfl rfl rfl rfl (Ym (Y8 (hC.getM 1 rfl)) rfl) (ZFi rfl) rfl fun w36 hC=>Zc (v:=vI r12) rfl (dn (ZE9 (sr (Zb (v:=vI r12) rfl (Y7 rfl rfl (dn ?_)))))))))
    refine Zq rfl (fun hb11=>?_) (fun hb11=>?_)
    ·replace h:=ift h (ct hb11)
     refine sr (Zb (v:=vI r12) rfl (Zc (v:=.slice none 0 0) rfl (Zc (v:=vI r12) rfl (dn ?_))))
     refine ZFh (Ze (Zv (Ze (Ze (Zv (Ze ?_))))))
     refine Xy (fn:=Tryz.f34) (v:=.slice none 0 0) (u:=vI r12) rfl (Zg rfl) (Zg rfl) ⟨_,rfl,?_⟩ (.inl rfl)
     refine Y2 (v:=.slice none 0 0) rfl rfl (Y2 (v:=vI r12) rfl rfl (Zc (v:=.slice none 0 0) rfl (Zc (v:=vI r12) rfl (dn (ZFh ?_)))))
     exact Xy rfl (Zg rfl) (Zg rfl) ⟨[],.slice none 0 0,[],r12,rfl,h,(Zbl _ _ _),(fun b hb=>absurd hb (by simp)),hC.below⟩ (.inl rfl)
    ·replace h:=Zl h (cf hb11)
     refine ZFc (Zd (Zn (Zb (v:=v11) rfl (Yd hC 0 [u10] rfl ag55 rfl rfl rfl (Ju (sz:=1) hC [(0,.agg #[u10])] [u10] rfl (fun _=>Zmu u10 (Zii (hC.getM 1 rfl)) _) rfl (by decide) fun b18 w37 hB_ hC=>?_)))))
     replace hC:=hC.pushM0 (Yl (Zj 90) [] [] []) (Zcc _ _) rfl
     replace hC:=hC.sM [3,0,1,2,4,5,6,7,8,9,10,11,12,13,14] (M':=[own 90 9 u10 r13.terms.length (ZFa.encs r13.terms),Yl (Zj 90) [] [] [],own 55 1 (.slice (some ⟨b18,0,none⟩) 1 1) 1 [u10],blk b24 55 [u10],mapS b21 r17,mapS b20 r16,blk b23 55 [u12],ZFo (ZLn 55 (Zj 90)) s11 [v11] f11,ZFo (ZLn 99 (Y9 (kvA .i64) (vvI .i64))) s10 [v10] f10,blk b11 97 [u1_0,u2_0,v10,.map (some b10)],Zy kv2 vvM b10 (D362.map ZPb),own 2 1 (.slice (some ⟨b16,0,none⟩) 2 2) ([r10,r11].length) (eI.encs [r10,r11]),blk b15 32 [u2_0,u2_1],blk b13 32 [u1_0,u1_1],blk b14 32 [u0_0,u0_1]]) (by decide) rfl
     replace hC:=hC.gather (c:=Yl (Zj 90) [r13] [u10] [(ZF6 (Zum u10))]) (fun x_ hx_=>Zgl hx_) (fun h1_ h2_ hd_=>Zek (c:=[u10]) (Jr (Jq h1_)) h2_ hd_)
     replace hC:=hC.sM [1,0,2,3,4,5,6,7,8,9,10,11,12,13] (M':=[own 55 1 (.slice (some ⟨b18,0,none⟩) 1 1) 1 [u10],Yl (Zj 90) [r13] [u10] [(ZF6 (Zum u10))],blk b24 55 [u10],mapS b21 r17,mapS b20 r16,blk b23 55 [u12],ZFo (ZLn 55 (Zj 90)) s11 [v11] f11,ZFo (ZLn 99 (Y9 (kvA .i64) (vvI .i64))) s10 [v10] f10,blk b11 97 [u1_0,u2_0,v10,.map (some b10)],Zy kv2 vvM b10 (D362.map ZPb),own 2 1 (.slice (some ⟨b16,0,none⟩) 2 2) ([r10,r11].length) (eI.encs [r10,r11]),blk b15 32 [u2_0,u2_1],blk b13 32 [u1_0,u1_1],blk b14 32 [u0_0,u0_1]]) (by decide) rfl
     replace hC:=hC.gather (c:=ZFo (ZLn 55 (Zj 90)) [r13] [.slice (some ⟨b18,0,none⟩) 1 1] ((ZF6 (Zum (.slice (some ⟨b18,0,none⟩) 1 1)))++([(ZF6 (Zum u10))]:List (List Nat)).flatten)) (fun x_ hx_=>Zud.1 hx_) (fun h1_ h2_ hd_=>Zau h1_ h2_ hd_)
     replace hC:=hC.sM [5,0,1,2,3,4,6,7,8,9,10,11,12] (M':=[ZFo (ZLn 55 (Zj 90)) s11 [v11] f11,ZFo (ZLn 55 (Zj 90)) [r13] [.slice (some ⟨b18,0,none⟩) 1 1] ((ZF6 (Zum (.slice (some ⟨b18,0,none⟩) 1 1)))++([(ZF6 (Zum u10))]:List (List Nat)).flatten),blk b24 55 [u10],mapS b21 r17,mapS b20 r16,blk b23 55 [u12],ZFo (ZLn 99 (Y9 (kvA .i64) (vvI .i64))) s10 [v10] f10,blk b11 97 [u1_0,u2_0,v10,.map (some b10)],Zy kv2 vvM b10 (D362.map ZPb),own 2 1 (.slice (some ⟨b16,0,none⟩) 2 2) ([r10,r11].length) (eI.encs [r10,r11]),blk b15 32 [u2_0,u2_1],blk b13 32 [u1_0,u1_1],blk b14 32 [u0_0,u0_1]]) (by decide) rfl
     obtain ⟨hm11,h⟩:=h
     refine Zgk hC ZFx Ziu rfl (by decide) (by decide) rfl rfl hm11 fun v13 f14 w38 hC=>Zc (v:=v13) rfl (done (Zt (Zd (Zn (Zr rfl rfl (Zb (v:=vI (Zwe.wrap ((i11:Int)+1))) rfl (done ?_)))))))
     exact hK11 (s11++[r13]) _ _ ⟨D362,E363,v13,f14,(sl ⟨rfl,rfl,rfl,rfl,(tr rfl (congrArg _ (Z9 hi11 hN11))),trivial⟩),(hq10.step hs10 hle367),((hC.xM [0,5,6,7,8,9,10,11] rfl).sP [1,2,3,4,5,6,7,8,9,10,11,12] rfl)⟩ h
   ·clear hC h
    rintro s11 e_ w39 K11 ⟨D327,E328,v11,f11,hS_,hq10,hC⟩ h
    rw [ue hS_]
    refine sr (Zo rfl rfl (dn (ZE9 (Ya rfl (decide_eq_false (by omega)) ?_))))
    refine ZFn (Zm (Zm (Z5 ?_)))
    refine Zd (sr (Zb (v:=v11) rfl (Zc (v:=v11) rfl (Zc (v:=vI 0) rfl (dn (ZFh ?_))))))
    refine Xy (fn:=Tryz.f34) (v:=v11) (u:=vI 0) rfl (Zg rfl) (Zg rfl) ⟨_,rfl,?_⟩ (.inl rfl)
    refine Y2 (v:=v11) rfl rfl (Y2 (v:=vI 0) rfl rfl (Zc (v:=v11) rfl (Zc (v:=vI 0) rfl (dn (ZFh ?_)))))
    exact Xy rfl (Zg rfl) (Zg rfl) ⟨s11,v11,f11,0,rfl,h,(hC.getM 0 rfl),(Za5 hC 0 rfl),hC.below⟩ (.inl rfl)
   ·skip
    exact⟨([]:List Kp),[],.slice (some ⟨b19,0,none⟩) 0 0,((ZF6 (Zum (.slice (some ⟨b19,0,none⟩) 0 0)))++([]:List (List Nat)).flatten),(slq rfl),(LdLe.refl _ _),hC⟩
  ·skip
   replace hC:=hC.pushM0 (ZFo (ZLn 99 (Y9 (kvA .i64) (vvI .i64))) [] [.slice none 0 0] []) (Zbl _ _ _) rfl
   exact⟨.slice none 0 0,[],(slq rfl),hC⟩
def Zhl (a0:Alg) (a1:Alg) (a2:Alg) (a3:List ZFd) (a4:List ZFd) (K:Bool→Prop):Prop :=
 Zcl a0 1048576 (fun r26=>(if r26 < 0 then K true else Zcl a1 r26 (fun r27=>(if r27 < 0 then K true else Zcl a2 r27 (fun r28=>(if r28 < 0 then K true else Zck a3 r28 (fun r29=>(if r29 < 0 then K true else Zck a4 r29 (fun r46=>(if r46 < 0 then K true else Jf a0 (fun r18=>Jf a1 (fun r19=>Jf a2 (fun r20=>Jz a3 (fun r43=>Jz a4 (fun r44=>Zd5 (⟨r18.degrees,r18.images⟩:Alg) (⟨r19.degrees,r19.images⟩:Alg) (⟨r20.degrees,r20.images⟩:Alg) r43 r44 (fun r30 r15=>Jf (⟨a0.degrees,a0.images⟩:Alg) (fun r21=>Jf (⟨a1.degrees,a1.images⟩:Alg) (fun r14=>Jf (⟨a2.degrees,a2.images⟩:Alg) (fun r13=>Jz a3 (fun r22=>Jz a4 (fun r17=>Zcs r21 r14 r13 r22 r17 (fun r16 r25=>Zay r16 r30 (fun r47=>(if¬ (r47=true) then K false else(if r25≠r15 then K false else Jf (⟨a0.degrees,a0.images⟩:Alg) (fun r10=>Zbs r21 r10 (fun r52=>(if¬ (r52=true) then K false else Jf (⟨a1.degrees,a1.images⟩:Alg) (fun r11=>Zbs r14 r11 (fun r53=>(if¬ (r53=true) then K false else Jf (⟨a2.degrees,a2.images⟩:Alg) (fun r12=>Zbs r13 r12 (fun r54=>(if¬ (r54=true) then K false else Jz a3 (fun r23=>Zay r22 r23 (fun r55=>(if¬ (r55=true) then K false else Jz a4 (fun r24=>Zay r17 r24 (fun r56=>(if¬ (r56=true) then K false else Zcm r21 1 (fun r35 m10=>Zcm (⟨r14.degrees,r14.images⟩:Alg) r35 (fun r36 m11=>Zcm (⟨r13.degrees,r13.images⟩:Alg) r36 (fun r37 m12=>Za1 r22 r37 (fun r38 m14=>Za1 r17 r38 (fun r39 m15=>(if r39 < 0 then K false else Zay r16 r30 (fun r45=>(if¬ (r45=true) then K false else Za1 r16 1 (fun r40 m13=>Zdu m13 1 (fun r41=>(if r41 < 0 then K false else(if r41≠r40 then K false else Jf (⟨a0.degrees,a0.images⟩:Alg) (fun r32=>Jf (⟨a1.degrees,a1.images⟩:Alg) (fun r33=>Jf (⟨a2.degrees,a2.images⟩:Alg) (fun r34=>Jz a3 (fun r48=>Jz a4 (fun r49=>Zcs r32 r33 r34 r48 r49 (fun r50 r31=>Zay r50 r30 (fun r51=>(if¬ (r51=true) then K false else(if r31≠r15 then K false else Zdu m13 1 (fun r42=>(if r42 < 0 then K false else(if r42≠r40 then K false else K true))))))))))))))))))))))))))))))))))))))))))))))))))))))))))))))))
theorem Zta (a0 : Alg) (a1 : Alg) (a2 : Alg) (a3 : List ZFd) (a4 : List ZFd)  {K : Bool → Prop} (h : Zhl a0 a1 a2 a3 a4 K) (w0 : World) (q0 : TAlg.rep a0 [u0_0, u0_1] fp0 w0) (q1 : TAlg.rep a1 [u1_0, u1_1] fp1 w0) (q2 : TAlg.rep a2 [u2_0, u2_1] fp2 w0) (q3 : ZFv.sl.rep a3 [u3_0] fp3 w0) (q4 : ZFv.sl.rep a4 [u4_0] fp4 w0) :
  Calls ZFb 3 #[.agg #[u0_0,u0_1],.agg #[u1_0,u1_1],.agg #[u2_0,u2_1],u3_0,u4_0] w0 fun e w'=>∃ (r0:Bool),
   e=.returned (.bool r0)∧K r0∧Bel w0 w':=by
 unfold Zhl at h
 refine cof Tryz.func3 rfl 188 Tryz.ntmps3 ?_
 have hC:=ZFu (X:=Nox) w0 [ZBl TAlg a0 [u0_0,u0_1] fp0,ZBl TAlg a1 [u1_0,u1_1] fp1,ZBl TAlg a2 [u2_0,u2_1] fp2,ZBl ZFv.sl a3 [u3_0] fp3,ZBl ZFv.sl a4 [u4_0] fp4] (alc q0 (alc q1 (alc q2 (alc q3 (al1 q4)))))
 replace hC:=hC.dAlg 0 rfl
 replace hC:=hC.dAlg 3 rfl
 replace hC:=hC.dAlg 6 rfl
 refine sr (Yf (v:=.agg #[u0_0,u0_1]) hC [u0_0,u0_1] rfl rfl fun b10 w10 hB_ hC=>Yf (v:=.agg #[u1_0,u1_1]) hC [u1_0,u1_1] rfl rfl fun b11 w11 hB_ hC=>Yf (v:=.agg #[u2_0,u2_1]) hC [u2_0,u2_1] rfl rfl fun b12 w12 hB_ hC=>Zc (v:=.bool false) rfl (dn (sr (Zc (v:=vI 1048576) rfl (dn (sr (Yd hC 2 [u0_0,u0_1] rfl J0 rfl rfl rfl (Zb (v:=vI 1048576) rfl (Zf [.agg #[u0_0,u0_1],vI 1048576] _ Tryz.func6 rfl rfl rfl (Ziw a0 1048576 h _ (Yi (hC.getP 5 rfl) (hC.getP 4 rfl))) ?_)))))))))
 rintro _ w13 ⟨r26,rfl,h,hB16⟩
 refine rt ?_
 replace hC:=hC.grow hB16
 refine Zc (v:=vI r26) rfl (dn (ZE9 (sr (Zb (v:=vI r26) rfl (Zo rfl rfl (dn ?_))))))
 refine Zq rfl (fun hb15=>?_) (fun hb15=>?_)
 ·replace h:=ift h (ct hb15)
  refine sr (Zc (v:=.bool true) rfl (dn ?_))
  refine ZFh (Ze ?_)
  exact Zk rfl (Zg rfl) ⟨true,rfl,h,hC.below⟩ (.inl rfl)
 ·replace h := Zl h (cf hb15)
  refine ZFc (Zd (sr (Yd hC 1 [u1_0,u1_1] rfl J0 rfl rfl rfl (Zb (v:=vI r26) rfl (Zf [.agg #[u1_0,u1_1],vI r26] _ Tryz.func6 rfl rfl rfl (Ziw a1 r26 h _ (Yi (hC.getP 3 rfl) (hC.getP 2 rfl))) ?_)))))
  rintro _ w14 ⟨r27,rfl,h,hB17⟩
  refine rt ?_
  replace hC:=hC.grow hB17
  refine Zc (v:=vI r27) rfl (dn (ZE9 (sr (Zb (v:=vI r27) rfl (Zo rfl rfl (dn ?_))))))
  refine Zq rfl (fun hb16=>?_) (fun hb16=>?_)
  ·replace h:=ift h (ct hb16)
   refine sr (Zc (v:=.bool true) rfl (dn ?_))
   refine ZFh (Ze ?_)
   exact Zk rfl (Zg rfl) ⟨true,rfl,h,hC.below⟩ (.inl rfl)
  ·replace h := Zl h (cf hb16)
   refine ZFc (Zd (sr (Yd hC 0 [u2_0,u2_1] rfl J0 rfl rfl rfl (Zb (v:=vI r27) rfl (Zf [.agg #[u2_0,u2_1],vI r27] _ Tryz.func6 rfl rfl rfl (Ziw a2 r27 h _ (Yi (hC.getP 1 rfl) (hC.getP 0 rfl))) ?_)))))
   rintro _ w15 ⟨r28,rfl,h,hB18⟩
   refine rt ?_
   replace hC:=hC.grow hB18
   refine Zc (v:=vI r28) rfl (dn (ZE9 (sr (Zb (v:=vI r28) rfl (Zo rfl rfl (dn ?_))))))
   refine Zq rfl (fun hb17=>?_) (fun hb17=>?_)
   ·replace h:=ift h (ct hb17)
    refine sr (Zc (v:=.bool true) rfl (dn ?_))
    refine ZFh (Ze ?_)
    exact Zk rfl (Zg rfl) ⟨true,rfl,h,hC.below⟩ (.inl rfl)
   ·replace h := Zl h (cf hb17)
    refine ZFc (Zd (sr (Zb (v:=u3_0) rfl (Zb (v:=vI r28) rfl (Zf [u3_0,vI r28] _ Tryz.func7 rfl rfl rfl (Ziv a3 r28 h _ (hC.getP 9 rfl)) ?_)))))
    rintro _ w16 ⟨r29,rfl,h,hB19⟩
    refine rt ?_
    replace hC:=hC.grow hB19
    refine Zc (v:=vI r29) rfl (dn (ZE9 (sr (Zb (v:=vI r29) rfl (Zo rfl rfl (dn ?_))))))
    refine Zq rfl (fun hb18=>?_) (fun hb18=>?_)
    ·replace h:=ift h (ct hb18)
     refine sr (Zc (v:=.bool true) rfl (dn ?_))
     refine ZFh (Ze ?_)
     exact Zk rfl (Zg rfl) ⟨true,rfl,h,hC.below⟩ (.inl rfl)
    ·replace h := Zl h (cf hb18)
     refine ZFc (Zd (sr (Zb (v:=u4_0) rfl (Zb (v:=vI r29) rfl (Zf [u4_0,vI r29] _ Tryz.func7 rfl rfl rfl (Ziv a4 r29 h _ (hC.getP 10 rfl)) ?_)))))
     rintro _ w17 ⟨r46,rfl,h,hB20⟩
     refine rt ?_
     replace hC:=hC.grow hB20
     refine Zc (v:=vI r46) rfl (dn (ZE9 (sr (Zb (v:=vI r46) rfl (Zo rfl rfl (dn ?_))))))
     refine Zq rfl (fun hb19=>?_) (fun hb19=>?_)
     ·replace h:=ift h (ct hb19)
      refine sr (Zc (v:=.bool true) rfl (dn ?_))
      refine ZFh (Ze ?_)
      exact Zk rfl (Zg rfl) ⟨true,rfl,h,hC.below⟩ (.inl rfl)
     ·replace h := Zl h (cf hb19)
      refine ZFc (Zd (ZE9 ?_))
      refine cwd 15 mixed [0,1,0,7,0,31,0,127,0,511,1023,2047,4095,4095,8191,32767] [0,2,4] [6,8,11,12,13,14] (fun hM12 hM10 w18 hB_=>?_)
      replace hC:=hC.grow hB_
      refine bL 0 (.agg #[u0_0,u0_1]) rfl rfl hM12 (fun _ hB_=>by exact Yo (hC.grow hB_) 2 [u0_0,u0_1] rfl J0 rfl rfl rfl) (Za 16 1) (bL 2 (.agg #[u1_0,u1_1]) rfl rfl hM12 (fun _ hB_=>by exact Yo (hC.grow hB_) 1 [u1_0,u1_1] rfl J0 rfl rfl rfl) (Za 16 5) (bL 4 (.agg #[u2_0,u2_1]) rfl rfl hM12 (fun _ hB_=>by exact Yo (hC.grow hB_) 0 [u2_0,u2_1] rfl J0 rfl rfl rfl) (Za 16 21) (bM 6 (u3_0) rfl hM10 (Za 16 85) (bM 8 (u4_0) rfl hM10 (Za 16 341) (aO 1 rfl (Zf [.agg #[u0_0,u0_1]] _ ZPc rfl rfl rfl (Zah a0 h _ (Yi (hC.getP 5 rfl) (hC.getP 4 rfl))) ?_))))))
      rintro _ w19 ⟨r18,u29,u32,f27,rfl,h,hr10,hf11,hB21⟩
      refine rt ?_
      replace hC:=hC.push hB21 (ZFo (Jx 2 90 55) r18 [u29,u32] f27) hr10 hf11
      obtain ⟨f21,ho10,ho11,hs10,hs11,hd10⟩:=Zag (hC.getM 0 rfl)
      replace hC:=hC.split (a:=own 2 1 u29 r18.degrees.length (eI.encs r18.degrees)) (b:=ZFo (ZLn 55 (Zj 90)) r18.images [u32] f21) hs10 hs11 ⟨ho10,ho11,hd10⟩
      refine done (aK (by assumption) (Za 16 343) (aO 3 rfl (Zf [.agg #[u1_0,u1_1]] _ ZPc rfl rfl rfl (Zah a1 h _ (Yi (hC.getP 3 rfl) (hC.getP 2 rfl))) ?_)))
      rintro _ w20 ⟨r19,u30,u33,f28,rfl,h,hr11,hf12,hB22⟩
      refine rt ?_
      replace hC:=hC.push hB22 (ZFo (Jx 2 90 55) r19 [u30,u33] f28) hr11 hf12
      obtain ⟨f22,ho12,ho13,hs12,hs13,hd11⟩:=Zag (hC.getM 0 rfl)
      replace hC:=hC.split (a:=own 2 1 u30 r19.degrees.length (eI.encs r19.degrees)) (b:=ZFo (ZLn 55 (Zj 90)) r19.images [u33] f22) hs12 hs13 ⟨ho12,ho13,hd11⟩
      refine done (aK (by assumption) (Za 16 351) (aO 5 rfl (Zf [.agg #[u2_0,u2_1]] _ ZPc rfl rfl rfl (Zah a2 h _ (Yi (hC.getP 1 rfl) (hC.getP 0 rfl))) ?_)))
      rintro _ w21 ⟨r20,u31,u34,f29,rfl,h,hr12,hf13,hB23⟩
      refine rt ?_
      replace hC:=hC.push hB23 (ZFo (Jx 2 90 55) r20 [u31,u34] f29) hr12 hf13
      obtain ⟨f23,ho14,ho15,hs14,hs15,hd12⟩:=Zag (hC.getM 0 rfl)
      replace hC:=hC.split (a:=own 2 1 u31 r20.degrees.length (eI.encs r20.degrees)) (b:=ZFo (ZLn 55 (Zj 90)) r20.images [u34] f23) hs14 hs15 ⟨ho14,ho15,hd12⟩
      refine done (aK (by assumption) (Za 16 383) (aO 7 rfl (Zf [u3_0] _ ZPd rfl rfl rfl (Zbc a3 h _ (hC.getP 9 rfl)) ?_)))
      rintro _ w22 ⟨r43,u35,f24,rfl,h,hr13,hf14,hB24⟩
      refine rt ?_
      replace hC:=hC.push hB24 (ZFo (ZLn 55 (Zj 90)) r43 [u35] f24) hr13 hf14
      refine done (aK (by assumption) (Za 16 511) (aO 9 rfl (Zf [u4_0] _ ZPd rfl rfl rfl (Zbc a4 h _ (hC.getP 10 rfl)) ?_)))
      rintro _ w23 ⟨r44,u36,f25,rfl,h,hr14,hf15,hB25⟩
      refine rt ?_
      replace hC:=hC.push hB25 (ZFo (ZLn 55 (Zj 90)) r44 [u36] f25) hr14 hf15
      refine done (aK (by assumption) (Za 16 1023) (aO 10 rfl ?_))
      have hs16:=Jo hC 6 rfl
      replace hC:=hC.thaw 6 rfl (ZBl TInts r18.degrees [u29] (ZF6 (Zum u29))) Yv (fun _ hb_=>hb_)
      have hs17:=Za5 hC 6 rfl
      replace hC:=hC.thaw 6 rfl (ZBl ZFv.sl r18.images [u32] f21) (fun h_=>ZO9 _ h_.1) (fun _ hb_=>hb_)
      have hs18:=Jo hC 4 rfl
      replace hC:=hC.thaw 4 rfl (ZBl TInts r19.degrees [u30] (ZF6 (Zum u30))) Yv (fun _ hb_=>hb_)
      have hs19:=Za5 hC 4 rfl
      replace hC:=hC.thaw 4 rfl (ZBl ZFv.sl r19.images [u33] f22) (fun h_=>ZO9 _ h_.1) (fun _ hb_=>hb_)
      have hs20:=Jo hC 2 rfl
      replace hC:=hC.thaw 2 rfl (ZBl TInts r20.degrees [u31] (ZF6 (Zum u31))) Yv (fun _ hb_=>hb_)
      have hs21:=Za5 hC 2 rfl
      replace hC:=hC.thaw 2 rfl (ZBl ZFv.sl r20.images [u34] f23) (fun h_=>ZO9 _ h_.1) (fun _ hb_=>hb_)
      have hs22:=Za5 hC 1 rfl
      replace hC:=hC.thaw 1 rfl (ZBl ZFv.sl r43 [u35] f24) (fun h_=>ZO9 _ h_.1) (fun _ hb_=>hb_)
      have hs23:=Za5 hC 0 rfl
      replace hC:=hC.thaw 0 rfl (ZBl ZFv.sl r44 [u36] f25) (fun h_=>ZO9 _ h_.1) (fun _ hb_=>hb_)
      refine Zf [.agg #[u29,u32],.agg #[u30,u33],.agg #[u31,u34],u35,u36] _ Tryz.func8 rfl rfl rfl (Zs4 (⟨r18.degrees,r18.images⟩:Alg) (⟨r19.degrees,r19.images⟩:Alg) (⟨r20.degrees,r20.images⟩:Alg) r43 r44 h _ (Yi (hC.getP 7 rfl) (hC.getP 6 rfl)) (Yi (hC.getP 5 rfl) (hC.getP 4 rfl)) (Yi (hC.getP 3 rfl) (hC.getP 2 rfl)) (hC.getP 1 rfl) (hC.getP 0 rfl)) ?_
      rintro _ w24 ⟨r30,u19,f26,r15,rfl,h,hr15,hf10,hB26⟩
      refine rt ?_
      have hs42:∀ b,b∈f26→w0.heap.size≤b:=(fun b hb=>(hf10 b hb).elim (fun h_=>Nat.le_trans hC.size h_) (fun hb=>(Zud.1 hb).elim (fun hb=>(Zud.1 hb).elim (fun hb=>hs16 b hb) (fun hb=>hs17 b hb)) (fun hb=>(Zud.1 hb).elim (fun hb=>(Zud.1 hb).elim (fun hb=>hs18 b hb) (fun hb=>hs19 b hb)) (fun hb=>(Zud.1 hb).elim (fun hb=>(Zud.1 hb).elim (fun hb=>hs20 b hb) (fun hb=>hs21 b hb)) (fun hb=>(Zud.1 hb).elim (fun hb=>hs22 b hb) (fun hb=>hs23 b hb))))))
      replace hC:=hC.pushR hB26 (ZBl ZFv.sl r30 [u19] f26) hr15 (fun b hb=>(hf10 b hb).elim .inl (fun hb=>.inr ((Zud.1 hb).elim (fun hb=>(Zud.1 hb).elim (fun hb=>⟨_,mg 7 rfl,hb⟩) (fun hb=>⟨_,mg 6 rfl,hb⟩)) (fun hb=>(Zud.1 hb).elim (fun hb=>(Zud.1 hb).elim (fun hb=>⟨_,mg 5 rfl,hb⟩) (fun hb=>⟨_,mg 4 rfl,hb⟩)) (fun hb=>(Zud.1 hb).elim (fun hb=>(Zud.1 hb).elim (fun hb=>⟨_,mg 3 rfl,hb⟩) (fun hb=>⟨_,mg 2 rfl,hb⟩)) (fun hb=>(Zud.1 hb).elim (fun hb=>⟨_,mg 1 rfl,hb⟩) (fun hb=>⟨_,mg 0 rfl,hb⟩)))))))
      refine done (aK (by assumption) (Za 16 2047) (bM 11 (.tuple #[u19,vI r15]) rfl hM10 (Za 16 4095) (bF 12 (u19) rfl rfl hM10 (fun _=>by exact Jm (v:=u19) rfl rfl) (Za 16 8191) (bF 13 (vI r15) rfl rfl hM10 (fun _=>by exact Jm (v:=vI r15) rfl rfl) (Za 16 16383) (bA 14 (u19) rfl hM10 (Za 16 32767) (Z0 15 (by decide) (by decide) (by kernel_rfl) (by kernel_rfl) rfl (Zc (v:=vI r15) rfl (done (Z1 (Zd (sr (Yd hC 2 [u0_0,u0_1] rfl J0 rfl rfl rfl (Zf [.agg #[u0_0,u0_1]] _ ZPc rfl rfl rfl (Zah (⟨a0.degrees,a0.images⟩:Alg) h _ (Yi (hC.getP 14 rfl) (hC.getP 13 rfl))) ?_)))))))))))))
      rintro _ w25 ⟨r21,u10,u11,f30,rfl,h,hr16,hf16,hB27⟩
      refine rt ?_
      replace hC:=hC.push hB27 (ZFo (Jx 2 90 55) r21 [u10,u11] f30) hr16 hf16
      obtain ⟨f10,ho16,ho17,hs24,hs25,hd13⟩:=Zag (hC.getM 0 rfl)
      replace hC:=hC.split (a:=own 2 1 u10 r21.degrees.length (eI.encs r21.degrees)) (b:=ZFo (ZLn 55 (Zj 90)) r21.images [u11] f10) hs24 hs25 ⟨ho16,ho17,hd13⟩
      refine Yb hC [.slice none 0 0,.slice none 0 0] z32 rfl fun b13 w26 hB_ hC=>Zu (v:=.agg #[u10,u11]) hC 0 [u10,u11] [u10,u11] rfl ag32.size rfl rfl rfl rfl (Ym (Y8 (hC.getM 1 rfl)) (Ym (J2 (ZO9 _ (hC.getM 2 rfl).1)) rfl)) (ZFi rfl) rfl fun w27 hC=>dn (sr (Yd hC 4 [u1_0,u1_1] rfl J0 rfl rfl rfl (Zf [.agg #[u1_0,u1_1]] _ ZPc rfl rfl rfl (Zah (⟨a1.degrees,a1.images⟩:Alg) h _ (Yi (hC.getP 12 rfl) (hC.getP 11 rfl))) ?_)))
      rintro _ w28 ⟨r14,u12,u13,f31,rfl,h,hr17,hf17,hB28⟩
      refine rt ?_
      replace hC:=hC.push hB28 (ZFo (Jx 2 90 55) r14 [u12,u13] f31) hr17 hf17
      obtain ⟨f11,ho18,ho19,hs26,hs27,hd14⟩:=Zag (hC.getM 0 rfl)
      replace hC:=hC.split (a:=own 2 1 u12 r14.degrees.length (eI.encs r14.degrees)) (b:=ZFo (ZLn 55 (Zj 90)) r14.images [u13] f11) hs26 hs27 ⟨ho18,ho19,hd14⟩
      refine Yb hC [.slice none 0 0,.slice none 0 0] z32 rfl fun b14 w29 hB_ hC=>Zu (v:=.agg #[u12,u13]) hC 0 [u12,u13] [u12,u13] rfl ag32.size rfl rfl rfl rfl (Ym (Y8 (hC.getM 1 rfl)) (Ym (J2 (ZO9 _ (hC.getM 2 rfl).1)) rfl)) (ZFi rfl) rfl fun w30 hC=>dn (sr (Yd hC 6 [u2_0,u2_1] rfl J0 rfl rfl rfl (Zf [.agg #[u2_0,u2_1]] _ ZPc rfl rfl rfl (Zah (⟨a2.degrees,a2.images⟩:Alg) h _ (Yi (hC.getP 10 rfl) (hC.getP 9 rfl))) ?_)))
      rintro _ w31 ⟨r13,u14,u15,f32,rfl,h,hr18,hf18,hB29⟩
      refine rt ?_
      replace hC:=hC.push hB29 (ZFo (Jx 2 90 55) r13 [u14,u15] f32) hr18 hf18
      obtain ⟨f12,ho20,ho21,hs28,hs29,hd15⟩:=Zag (hC.getM 0 rfl)
      replace hC:=hC.split (a:=own 2 1 u14 r13.degrees.length (eI.encs r13.degrees)) (b:=ZFo (ZLn 55 (Zj 90)) r13.images [u15] f12) hs28 hs29 ⟨ho20,ho21,hd15⟩
      refine Yb hC [.slice none 0 0,.slice none 0 0] z32 rfl fun b15 w32 hB_ hC=>Zu (v:=.agg #[u14,u15]) hC 0 [u14,u15] [u14,u15] rfl ag32.size rfl rfl rfl rfl (Ym (Y8 (hC.getM 1 rfl)) (Ym (J2 (ZO9 _ (hC.getM 2 rfl).1)) rfl)) (ZFi rfl) rfl fun w33 hC=>dn (sr (Zb (v:=u3_0) rfl (Zf [u3_0] _ ZPd rfl rfl rfl (Zbc a3 h _ (hC.getP 18 rfl)) ?_)))
      rintro _ w34 ⟨r22,u17,f13,rfl,h,hr19,hf19,hB30⟩
      refine rt ?_
      replace hC:=hC.push hB30 (ZFo (ZLn 55 (Zj 90)) r22 [u17] f13) hr19 hf19
      refine Zc (v:=u17) rfl (dn (sr (Zb (v:=u4_0) rfl (Zf [u4_0] _ ZPd rfl rfl rfl (Zbc a4 h _ (hC.getP 19 rfl)) ?_))))
      rintro _ w35 ⟨r17,u18,f14,rfl,h,hr20,hf20,hB31⟩
      refine rt ?_
      replace hC:=hC.push hB31 (ZFo (ZLn 55 (Zj 90)) r17 [u18] f14) hr20 hf20
      refine Zc (v:=u18) rfl (dn (sr (Yd hC 8 [u10,u11] rfl ag32 rfl rfl rfl (Yd hC 5 [u12,u13] rfl ag32 rfl rfl rfl (Yd hC 2 [u14,u15] rfl ag32 rfl rfl rfl (Zb (v:=u17) rfl (Zb (v:=u18) rfl (Zf [.agg #[u10,u11],.agg #[u12,u13],.agg #[u14,u15],u17,u18] _ Tryz.func11 rfl rfl rfl (Zm1 r21 r14 r13 r22 r17 h _ (Yi (Yv (hC.getM 9 rfl)) (ZO9 _ (hC.getM 10 rfl).1)) (Yi (Yv (hC.getM 6 rfl)) (ZO9 _ (hC.getM 7 rfl).1)) (Yi (Yv (hC.getM 3 rfl)) (ZO9 _ (hC.getM 4 rfl).1)) (ZO9 _ (hC.getM 1 rfl).1) (ZO9 _ (hC.getM 0 rfl).1)) ?_))))))))
      rintro _ w36 ⟨r16,u16,f15,r25,rfl,h,hr21,hf21,hB32⟩
      refine rt ?_
      replace hC:=hC.push hB32 (ZFo (ZLn 55 (Zj 90)) r16 [u16] f15) hr21 hf21
      refine Zb (v:=.tuple #[u16,vI r25]) rfl (Y2 (v:=u16) rfl rfl (Y2 (v:=vI r25) rfl rfl (Zc (v:=u16) rfl (Zc (v:=vI r25) rfl (dn (ZE9 (sr (Zb (v:=u16) rfl (Zb (v:=u19) rfl (Zf [u16,u19] _ ZPf rfl rfl rfl (Zdo r16 r30 h _ (ZO9 _ (hC.getM 0 rfl).1) (hC.getP 0 rfl)) ?_))))))))))
      rintro _ w37 ⟨r47,rfl,h,hB33⟩
      refine rt ?_
      replace hC:=hC.grow hB33
      refine Y4 rfl (Zb (v:=.bool (!r47)) rfl ?_)
      refine Yt (!r47) (fun hb11=>?_) (fun hb11=>?_)
      ·replace h:=ift h (Yq (Y5 hb11))
       refine Zh (b:=true) 4 88 rfl (tr rfl (congrArg _ hb11)) (by decide) (Zh (b:=true) 4 88 rfl (tr rfl (congrArg _ hb11)) (by decide) (Zh (b:=true) 4 88 rfl (tr rfl (congrArg _ hb11)) (by decide) (Zw (v:=.bool true) (b:=true) (tr rfl (congrArg _ hb11)) rfl (dn (Z8 rfl rfl (sr (Zc (v:=.bool false) rfl (dn ?_))))))))
       refine ZFh (Ze ?_)
       exact Zk rfl (Zg rfl) ⟨false,rfl,h,hC.below⟩ (.inl rfl)
      ·replace h := Zl h (not_not_intro ((Y6 hb11)))
       refine Zi 4 88 rfl rfl hb11 (Zb (v:=vI r25) rfl (Zi 4 88 rfl rfl hb11 (Zb (v:=vI r15) rfl (Zi 4 88 rfl rfl hb11 (Y7 rfl rfl (Zw (v:=.bool (decide (r25≠r15))) (b:=false) (tr rfl (congrArg _ hb11)) rfl (dn ?_)))))))
       refine Zq rfl (fun hb14=>?_) (fun hb14=>?_)
       ·replace h:=ift h (ct hb14)
        refine sr (Zc (v:=.bool false) rfl (dn ?_))
        refine ZFh (Ze ?_)
        exact Zk rfl (Zg rfl) ⟨false,rfl,h,hC.below⟩ (.inl rfl)
       ·replace h := Zl h (cf hb14)
        refine ZFc (Zd (ZE9 (ZE9 ?_)))
        refine cwd 3 mixed [0,0,2,7,15] [0,1] [] (fun hM14 hM17 w38 hB_=>?_)
        replace hC:=hC.grow hB_
        refine bL 0 (.agg #[u10,u11]) rfl rfl hM14 (fun _ hB_=>by exact Yo (hC.grow hB_) 9 [u10,u11] rfl ag32 rfl rfl rfl) (Za 5 1) (bL 1 (.agg #[u0_0,u0_1]) rfl rfl hM14 (fun _ hB_=>by exact Yo (hC.grow hB_) 14 [u0_0,u0_1] rfl J0 rfl rfl rfl) (Za 5 3) (aO 2 rfl (Zf [.agg #[u0_0,u0_1]] _ ZPc rfl rfl rfl (Zah (⟨a0.degrees,a0.images⟩:Alg) h _ (Yi (hC.getP 14 rfl) (hC.getP 13 rfl))) ?_)))
        rintro _ w39 ⟨r10,u20,u21,f33,rfl,h,hr22,hf22,hB34⟩
        refine rt ?_
        replace hC:=hC.push hB34 (ZFo (Jx 2 90 55) r10 [u20,u21] f33) hr22 hf22
        obtain ⟨f16,ho22,ho23,hs30,hs31,hd16⟩:=Zag (hC.getM 0 rfl)
        replace hC:=hC.split (a:=own 2 1 u20 r10.degrees.length (eI.encs r10.degrees)) (b:=ZFo (ZLn 55 (Zj 90)) r10.images [u21] f16) hs30 hs31 ⟨ho22,ho23,hd16⟩
        refine done (aK (by assumption) (Za 5 7) (Z0 3 (by decide) (by decide) (by kernel_rfl) (by kernel_rfl) rfl (Zf [.agg #[u10,u11],.agg #[u20,u21]] _ Tryz.func13 rfl rfl rfl (Zix r21 r10 h _ (Yi (Yv (hC.getM 12 rfl)) (ZO9 _ (hC.getM 13 rfl).1)) (Yi (Yv (hC.getM 0 rfl)) (ZO9 _ (hC.getM 1 rfl).1))) ?_)))
        rintro _ w40 ⟨r52,rfl,h,hB35⟩
        refine rt ?_
        replace hC:=hC.grow hB35
        refine Y4 rfl (done (Z1 (Zd ?_)))
        refine Zq rfl (fun hb20=>?_) (fun hb20=>?_)
        ·replace h:=ift h (Yq (Y5 hb20))
         refine sr (Zc (v:=.bool false) rfl (dn ?_))
         refine ZFh (Ze ?_)
         exact Zk rfl (Zg rfl) ⟨false,rfl,h,hC.below⟩ (.inl rfl)
        ·replace h := Zl h (not_not_intro ((Y6 hb20)))
         refine ZFc (Zd (ZE9 (ZE9 ?_)))
         refine cwd 3 mixed [0,0,2,7,15] [0,1] [] (fun hM15 hM18 w41 hB_=>?_)
         replace hC:=hC.grow hB_
         refine bL 0 (.agg #[u12,u13]) rfl rfl hM15 (fun _ hB_=>by exact Yo (hC.grow hB_) 8 [u12,u13] rfl ag32 rfl rfl rfl) (Za 5 1) (bL 1 (.agg #[u1_0,u1_1]) rfl rfl hM15 (fun _ hB_=>by exact Yo (hC.grow hB_) 15 [u1_0,u1_1] rfl J0 rfl rfl rfl) (Za 5 3) (aO 2 rfl (Zf [.agg #[u1_0,u1_1]] _ ZPc rfl rfl rfl (Zah (⟨a1.degrees,a1.images⟩:Alg) h _ (Yi (hC.getP 12 rfl) (hC.getP 11 rfl))) ?_)))
         rintro _ w42 ⟨r11,u22,u23,f34,rfl,h,hr23,hf23,hB36⟩
         refine rt ?_
         replace hC:=hC.push hB36 (ZFo (Jx 2 90 55) r11 [u22,u23] f34) hr23 hf23
         obtain ⟨f17,ho24,ho25,hs32,hs33,hd17⟩:=Zag (hC.getM 0 rfl)
         replace hC:=hC.split (a:=own 2 1 u22 r11.degrees.length (eI.encs r11.degrees)) (b:=ZFo (ZLn 55 (Zj 90)) r11.images [u23] f17) hs32 hs33 ⟨ho24,ho25,hd17⟩
         refine done (aK (by assumption) (Za 5 7) (Z0 3 (by decide) (by decide) (by kernel_rfl) (by kernel_rfl) rfl (Zf [.agg #[u12,u13],.agg #[u22,u23]] _ Tryz.func13 rfl rfl rfl (Zix r14 r11 h _ (Yi (Yv (hC.getM 11 rfl)) (ZO9 _ (hC.getM 12 rfl).1)) (Yi (Yv (hC.getM 0 rfl)) (ZO9 _ (hC.getM 1 rfl).1))) ?_)))
         rintro _ w43 ⟨r53,rfl,h,hB37⟩
         refine rt ?_
         replace hC:=hC.grow hB37
         refine Y4 rfl (done (Z1 (Zd ?_)))
         refine Zq rfl (fun hb21=>?_) (fun hb21=>?_)
         ·replace h:=ift h (Yq (Y5 hb21))
          refine sr (Zc (v:=.bool false) rfl (dn ?_))
          refine ZFh (Ze ?_)
          exact Zk rfl (Zg rfl) ⟨false,rfl,h,hC.below⟩ (.inl rfl)
         ·replace h := Zl h (not_not_intro ((Y6 hb21)))
          refine ZFc (Zd (ZE9 (ZE9 ?_)))
          refine cwd 3 mixed [0,0,2,7,15] [0,1] [] (fun hM16 hM19 w44 hB_=>?_)
          replace hC:=hC.grow hB_
          refine bL 0 (.agg #[u14,u15]) rfl rfl hM16 (fun _ hB_=>by exact Yo (hC.grow hB_) 7 [u14,u15] rfl ag32 rfl rfl rfl) (Za 5 1) (bL 1 (.agg #[u2_0,u2_1]) rfl rfl hM16 (fun _ hB_=>by exact Yo (hC.grow hB_) 16 [u2_0,u2_1] rfl J0 rfl rfl rfl) (Za 5 3) (aO 2 rfl (Zf [.agg #[u2_0,u2_1]] _ ZPc rfl rfl rfl (Zah (⟨a2.degrees,a2.images⟩:Alg) h _ (Yi (hC.getP 10 rfl) (hC.getP 9 rfl))) ?_)))
          rintro _ w45 ⟨r12,u24,u25,f35,rfl,h,hr24,hf24,hB38⟩
          refine rt ?_
          replace hC:=hC.push hB38 (ZFo (Jx 2 90 55) r12 [u24,u25] f35) hr24 hf24
          obtain ⟨f18,ho26,ho27,hs34,hs35,hd18⟩:=Zag (hC.getM 0 rfl)
          replace hC:=hC.split (a:=own 2 1 u24 r12.degrees.length (eI.encs r12.degrees)) (b:=ZFo (ZLn 55 (Zj 90)) r12.images [u25] f18) hs34 hs35 ⟨ho26,ho27,hd18⟩
          refine done (aK (by assumption) (Za 5 7) (Z0 3 (by decide) (by decide) (by kernel_rfl) (by kernel_rfl) rfl (Zf [.agg #[u14,u15],.agg #[u24,u25]] _ Tryz.func13 rfl rfl rfl (Zix r13 r12 h _ (Yi (Yv (hC.getM 10 rfl)) (ZO9 _ (hC.getM 11 rfl).1)) (Yi (Yv (hC.getM 0 rfl)) (ZO9 _ (hC.getM 1 rfl).1))) ?_)))
          rintro _ w46 ⟨r54,rfl,h,hB39⟩
          refine rt ?_
          replace hC:=hC.grow hB39
          refine Y4 rfl (done (Z1 (Zd ?_)))
          refine Zq rfl (fun hb22=>?_) (fun hb22=>?_)
          ·replace h:=ift h (Yq (Y5 hb22))
           refine sr (Zc (v:=.bool false) rfl (dn ?_))
           refine ZFh (Ze ?_)
           exact Zk rfl (Zg rfl) ⟨false,rfl,h,hC.below⟩ (.inl rfl)
          ·replace h := Zl h (not_not_intro ((Y6 hb22)))
           refine ZFc (Zd (ZE9 (sr (Zb (v:=u17) rfl (Zb (v:=u3_0) rfl (Zf [u3_0] _ ZPd rfl rfl rfl (Zbc a3 h _ (hC.getP 18 rfl)) ?_))))))
           rintro _ w47 ⟨r23,u26,f19,rfl,h,hr25,hf25,hB40⟩
           refine rt ?_
           replace hC:=hC.push hB40 (ZFo (ZLn 55 (Zj 90)) r23 [u26] f19) hr25 hf25
           refine Zf [u17,u26] _ ZPf rfl rfl rfl (Zdo r22 r23 h _ (ZO9 _ (hC.getM 9 rfl).1) (ZO9 _ (hC.getM 0 rfl).1)) ?_
           rintro _ w48 ⟨r55,rfl,h,hB41⟩
           refine rt ?_
           replace hC:=hC.grow hB41
           refine Y4 rfl (dn ?_)
           refine Zq rfl (fun hb23=>?_) (fun hb23=>?_)
           ·replace h:=ift h (Yq (Y5 hb23))
            refine sr (Zc (v:=.bool false) rfl (dn ?_))
            refine ZFh (Ze ?_)
            exact Zk rfl (Zg rfl) ⟨false,rfl,h,hC.below⟩ (.inl rfl)
           ·replace h := Zl h (not_not_intro ((Y6 hb23)))
            refine ZFc (Zd (ZE9 (sr (Zb (v:=u18) rfl (Zb (v:=u4_0) rfl (Zf [u4_0] _ ZPd rfl rfl rfl (Zbc a4 h _ (hC.getP 19 rfl)) ?_))))))
            rintro _ w49 ⟨r24,u27,f20,rfl,h,hr26,hf26,hB42⟩
            refine rt ?_
            replace hC:=hC.push hB42 (ZFo (ZLn 55 (Zj 90)) r24 [u27] f20) hr26 hf26
            refine Zf [u18,u27] _ ZPf rfl rfl rfl (Zdo r17 r24 h _ (ZO9 _ (hC.getM 9 rfl).1) (ZO9 _ (hC.getM 0 rfl).1)) ?_
            rintro _ w50 ⟨r56,rfl,h,hB43⟩
            refine rt ?_
            replace hC:=hC.grow hB43
            refine Y4 rfl (dn ?_)
            refine Zq rfl (fun hb24=>?_) (fun hb24=>?_)
            ·replace h:=ift h (Yq (Y5 hb24))
             refine sr (Zc (v:=.bool false) rfl (dn ?_))
             refine ZFh (Ze ?_)
             exact Zk rfl (Zg rfl) ⟨false,rfl,h,hC.below⟩ (.inl rfl)
            ·replace h := Zl h (not_not_intro ((Y6 hb24)))
             refine ZFc (Zd (sr (Zc (v:=vI 1) rfl (dn (sr (Yd hC 17 [u10,u11] rfl ag32 rfl rfl rfl (Zb (v:=vI 1) rfl (Zf [.agg #[u10,u11],vI 1] _ Tryz.func14 rfl rfl rfl (Ziy r21 1 h _ (hC.getM 18 rfl) (hC.getM 19 rfl) (hC.mm 18 19 rfl rfl (by decide))) ?_))))))))
             rintro _ w51 ⟨r35,m10,rfl,h,hm10,hm11,hB13⟩
             refine rt ?_
             replace hC:=hC.turnL hB13 (M':=[ZFo (ZLn 55 (Zj 90)) r24 [u27] f20,ZFo (ZLn 55 (Zj 90)) r23 [u26] f19,own 2 1 u24 r12.degrees.length (eI.encs r12.degrees),ZFo (ZLn 55 (Zj 90)) r12.images [u25] f18,own 2 1 u22 r11.degrees.length (eI.encs r11.degrees),ZFo (ZLn 55 (Zj 90)) r11.images [u23] f17,own 2 1 u20 r10.degrees.length (eI.encs r10.degrees),ZFo (ZLn 55 (Zj 90)) r10.images [u21] f16,ZFo (ZLn 55 (Zj 90)) r16 [u16] f15,ZFo (ZLn 55 (Zj 90)) r17 [u18] f14,ZFo (ZLn 55 (Zj 90)) r22 [u17] f13,blk b15 32 [u14,u15],own 2 1 u14 r13.degrees.length (eI.encs r13.degrees),ZFo (ZLn 55 (Zj 90)) r13.images [u15] f12,blk b14 32 [u12,u13],own 2 1 u12 r14.degrees.length (eI.encs r14.degrees),ZFo (ZLn 55 (Zj 90)) r14.images [u13] f11,blk b13 32 [u10,u11],own 2 1 u10 m10.degrees.length (eI.encs m10.degrees),ZFo (ZLn 55 (Zj 90)) m10.images [u11] f10,blk b12 25 [u2_0,u2_1],blk b11 25 [u1_0,u1_1],blk b10 25 [u0_0,u0_1]]) rfl (fun x_ hx_=>(Zud.1 hx_).elim (fun hx_=>⟨_,mg 18 rfl,hx_⟩) (fun hx_=>⟨_,mg 19 rfl,hx_⟩)) (by simp only [Ztw,Zv2,or_false,forall_eq_or_imp,forall_eq]; exact⟨(hC.stay 0 rfl hB13 (fun x_ hq_ hx_=>(Zud.1 hx_).elim (fun hx_=>hC.mm 0 18 rfl rfl (by decide) x_ hq_ hx_) (fun hx_=>hC.mm 0 19 rfl rfl (by decide) x_ hq_ hx_))),(hC.stay 1 rfl hB13 (fun x_ hq_ hx_=>(Zud.1 hx_).elim (fun hx_=>hC.mm 1 18 rfl rfl (by decide) x_ hq_ hx_) (fun hx_=>hC.mm 1 19 rfl rfl (by decide) x_ hq_ hx_))),(hC.stay 2 rfl hB13 (fun x_ hq_ hx_=>(Zud.1 hx_).elim (fun hx_=>hC.mm 2 18 rfl rfl (by decide) x_ hq_ hx_) (fun hx_=>hC.mm 2 19 rfl rfl (by decide) x_ hq_ hx_))),(hC.stay 3 rfl hB13 (fun x_ hq_ hx_=>(Zud.1 hx_).elim (fun hx_=>hC.mm 3 18 rfl rfl (by decide) x_ hq_ hx_) (fun hx_=>hC.mm 3 19 rfl rfl (by decide) x_ hq_ hx_))),(hC.stay 4 rfl hB13 (fun x_ hq_ hx_=>(Zud.1 hx_).elim (fun hx_=>hC.mm 4 18 rfl rfl (by decide) x_ hq_ hx_) (fun hx_=>hC.mm 4 19 rfl rfl (by decide) x_ hq_ hx_))),(hC.stay 5 rfl hB13 (fun x_ hq_ hx_=>(Zud.1 hx_).elim (fun hx_=>hC.mm 5 18 rfl rfl (by decide) x_ hq_ hx_) (fun hx_=>hC.mm 5 19 rfl rfl (by decide) x_ hq_ hx_))),(hC.stay 6 rfl hB13 (fun x_ hq_ hx_=>(Zud.1 hx_).elim (fun hx_=>hC.mm 6 18 rfl rfl (by decide) x_ hq_ hx_) (fun hx_=>hC.mm 6 19 rfl rfl (by decide) x_ hq_ hx_))),(hC.stay 7 rfl hB13 (fun x_ hq_ hx_=>(Zud.1 hx_).elim (fun hx_=>hC.mm 7 18 rfl rfl (by decide) x_ hq_ hx_) (fun hx_=>hC.mm 7 19 rfl rfl (by decide) x_ hq_ hx_))),(hC.stay 8 rfl hB13 (fun x_ hq_ hx_=>(Zud.1 hx_).elim (fun hx_=>hC.mm 8 18 rfl rfl (by decide) x_ hq_ hx_) (fun hx_=>hC.mm 8 19 rfl rfl (by decide) x_ hq_ hx_))),(hC.stay 9 rfl hB13 (fun x_ hq_ hx_=>(Zud.1 hx_).elim (fun hx_=>hC.mm 9 18 rfl rfl (by decide) x_ hq_ hx_) (fun hx_=>hC.mm 9 19 rfl rfl (by decide) x_ hq_ hx_))),(hC.stay 10 rfl hB13 (fun x_ hq_ hx_=>(Zud.1 hx_).elim (fun hx_=>hC.mm 10 18 rfl rfl (by decide) x_ hq_ hx_) (fun hx_=>hC.mm 10 19 rfl rfl (by decide) x_ hq_ hx_))),(hC.stay 11 rfl hB13 (fun x_ hq_ hx_=>(Zud.1 hx_).elim (fun hx_=>hC.mm 11 18 rfl rfl (by decide) x_ hq_ hx_) (fun hx_=>hC.mm 11 19 rfl rfl (by decide) x_ hq_ hx_))),(hC.stay 12 rfl hB13 (fun x_ hq_ hx_=>(Zud.1 hx_).elim (fun hx_=>hC.mm 12 18 rfl rfl (by decide) x_ hq_ hx_) (fun hx_=>hC.mm 12 19 rfl rfl (by decide) x_ hq_ hx_))),(hC.stay 13 rfl hB13 (fun x_ hq_ hx_=>(Zud.1 hx_).elim (fun hx_=>hC.mm 13 18 rfl rfl (by decide) x_ hq_ hx_) (fun hx_=>hC.mm 13 19 rfl rfl (by decide) x_ hq_ hx_))),(hC.stay 14 rfl hB13 (fun x_ hq_ hx_=>(Zud.1 hx_).elim (fun hx_=>hC.mm 14 18 rfl rfl (by decide) x_ hq_ hx_) (fun hx_=>hC.mm 14 19 rfl rfl (by decide) x_ hq_ hx_))),(hC.stay 15 rfl hB13 (fun x_ hq_ hx_=>(Zud.1 hx_).elim (fun hx_=>hC.mm 15 18 rfl rfl (by decide) x_ hq_ hx_) (fun hx_=>hC.mm 15 19 rfl rfl (by decide) x_ hq_ hx_))),(hC.stay 16 rfl hB13 (fun x_ hq_ hx_=>(Zud.1 hx_).elim (fun hx_=>hC.mm 16 18 rfl rfl (by decide) x_ hq_ hx_) (fun hx_=>hC.mm 16 19 rfl rfl (by decide) x_ hq_ hx_))),(hC.stay 17 rfl hB13 (fun x_ hq_ hx_=>(Zud.1 hx_).elim (fun hx_=>hC.mm 17 18 rfl rfl (by decide) x_ hq_ hx_) (fun hx_=>hC.mm 17 19 rfl rfl (by decide) x_ hq_ hx_))),hm10,hm11,(hC.stay 20 rfl hB13 (fun x_ hq_ hx_=>(Zud.1 hx_).elim (fun hx_=>hC.mm 20 18 rfl rfl (by decide) x_ hq_ hx_) (fun hx_=>hC.mm 20 19 rfl rfl (by decide) x_ hq_ hx_))),(hC.stay 21 rfl hB13 (fun x_ hq_ hx_=>(Zud.1 hx_).elim (fun hx_=>hC.mm 21 18 rfl rfl (by decide) x_ hq_ hx_) (fun hx_=>hC.mm 21 19 rfl rfl (by decide) x_ hq_ hx_))),(hC.stay 22 rfl hB13 (fun x_ hq_ hx_=>(Zud.1 hx_).elim (fun hx_=>hC.mm 22 18 rfl rfl (by decide) x_ hq_ hx_) (fun hx_=>hC.mm 22 19 rfl rfl (by decide) x_ hq_ hx_)))⟩)
             refine Zc (v:=vI r35) rfl (dn (sr (Yd hC 14 [u12,u13] rfl ag32 rfl rfl rfl (Zb (v:=vI r35) rfl (Zf [.agg #[u12,u13],vI r35] _ Tryz.func14 rfl rfl rfl (Ziy (⟨r14.degrees,r14.images⟩:Alg) r35 h _ (hC.getM 15 rfl) (hC.getM 16 rfl) (hC.mm 15 16 rfl rfl (by decide))) ?_)))))
             rintro _ w52 ⟨r36,m11,rfl,h,hm12,hm13,hB14⟩
             refine rt ?_
             replace hC:=hC.turnL hB14 (M':=[ZFo (ZLn 55 (Zj 90)) r24 [u27] f20,ZFo (ZLn 55 (Zj 90)) r23 [u26] f19,own 2 1 u24 r12.degrees.length (eI.encs r12.degrees),ZFo (ZLn 55 (Zj 90)) r12.images [u25] f18,own 2 1 u22 r11.degrees.length (eI.encs r11.degrees),ZFo (ZLn 55 (Zj 90)) r11.images [u23] f17,own 2 1 u20 r10.degrees.length (eI.encs r10.degrees),ZFo (ZLn 55 (Zj 90)) r10.images [u21] f16,ZFo (ZLn 55 (Zj 90)) r16 [u16] f15,ZFo (ZLn 55 (Zj 90)) r17 [u18] f14,ZFo (ZLn 55 (Zj 90)) r22 [u17] f13,blk b15 32 [u14,u15],own 2 1 u14 r13.degrees.length (eI.encs r13.degrees),ZFo (ZLn 55 (Zj 90)) r13.images [u15] f12,blk b14 32 [u12,u13],own 2 1 u12 m11.degrees.length (eI.encs m11.degrees),ZFo (ZLn 55 (Zj 90)) m11.images [u13] f11,blk b13 32 [u10,u11],own 2 1 u10 m10.degrees.length (eI.encs m10.degrees),ZFo (ZLn 55 (Zj 90)) m10.images [u11] f10,blk b12 25 [u2_0,u2_1],blk b11 25 [u1_0,u1_1],blk b10 25 [u0_0,u0_1]]) rfl (fun x_ hx_=>(Zud.1 hx_).elim (fun hx_=>⟨_,mg 15 rfl,hx_⟩) (fun hx_=>⟨_,mg 16 rfl,hx_⟩)) (by simp only [Ztw,Zv2,or_false,forall_eq_or_imp,forall_eq]; exact⟨(hC.stay 0 rfl hB14 (fun x_ hq_ hx_=>(Zud.1 hx_).elim (fun hx_=>hC.mm 0 15 rfl rfl (by decide) x_ hq_ hx_) (fun hx_=>hC.mm 0 16 rfl rfl (by decide) x_ hq_ hx_))),(hC.stay 1 rfl hB14 (fun x_ hq_ hx_=>(Zud.1 hx_).elim (fun hx_=>hC.mm 1 15 rfl rfl (by decide) x_ hq_ hx_) (fun hx_=>hC.mm 1 16 rfl rfl (by decide) x_ hq_ hx_))),(hC.stay 2 rfl hB14 (fun x_ hq_ hx_=>(Zud.1 hx_).elim (fun hx_=>hC.mm 2 15 rfl rfl (by decide) x_ hq_ hx_) (fun hx_=>hC.mm 2 16 rfl rfl (by decide) x_ hq_ hx_))),(hC.stay 3 rfl hB14 (fun x_ hq_ hx_=>(Zud.1 hx_).elim (fun hx_=>hC.mm 3 15 rfl rfl (by decide) x_ hq_ hx_) (fun hx_=>hC.mm 3 16 rfl rfl (by decide) x_ hq_ hx_))),(hC.stay 4 rfl hB14 (fun x_ hq_ hx_=>(Zud.1 hx_).elim (fun hx_=>hC.mm 4 15 rfl rfl (by decide) x_ hq_ hx_) (fun hx_=>hC.mm 4 16 rfl rfl (by decide) x_ hq_ hx_))),(hC.stay 5 rfl hB14 (fun x_ hq_ hx_=>(Zud.1 hx_).elim (fun hx_=>hC.mm 5 15 rfl rfl (by decide) x_ hq_ hx_) (fun hx_=>hC.mm 5 16 rfl rfl (by decide) x_ hq_ hx_))),(hC.stay 6 rfl hB14 (fun x_ hq_ hx_=>(Zud.1 hx_).elim (fun hx_=>hC.mm 6 15 rfl rfl (by decide) x_ hq_ hx_) (fun hx_=>hC.mm 6 16 rfl rfl (by decide) x_ hq_ hx_))),(hC.stay 7 rfl hB14 (fun x_ hq_ hx_=>(Zud.1 hx_).elim (fun hx_=>hC.mm 7 15 rfl rfl (by decide) x_ hq_ hx_) (fun hx_=>hC.mm 7 16 rfl rfl (by decide) x_ hq_ hx_))),(hC.stay 8 rfl hB14 (fun x_ hq_ hx_=>(Zud.1 hx_).elim (fun hx_=>hC.mm 8 15 rfl rfl (by decide) x_ hq_ hx_) (fun hx_=>hC.mm 8 16 rfl rfl (by decide) x_ hq_ hx_))),(hC.stay 9 rfl hB14 (fun x_ hq_ hx_=>(Zud.1 hx_).elim (fun hx_=>hC.mm 9 15 rfl rfl (by decide) x_ hq_ hx_) (fun hx_=>hC.mm 9 16 rfl rfl (by decide) x_ hq_ hx_))),(hC.stay 10 rfl hB14 (fun x_ hq_ hx_=>(Zud.1 hx_).elim (fun hx_=>hC.mm 10 15 rfl rfl (by decide) x_ hq_ hx_) (fun hx_=>hC.mm 10 16 rfl rfl (by decide) x_ hq_ hx_))),(hC.stay 11 rfl hB14 (fun x_ hq_ hx_=>(Zud.1 hx_).elim (fun hx_=>hC.mm 11 15 rfl rfl (by decide) x_ hq_ hx_) (fun hx_=>hC.mm 11 16 rfl rfl (by decide) x_ hq_ hx_))),(hC.stay 12 rfl hB14 (fun x_ hq_ hx_=>(Zud.1 hx_).elim (fun hx_=>hC.mm 12 15 rfl rfl (by decide) x_ hq_ hx_) (fun hx_=>hC.mm 12 16 rfl rfl (by decide) x_ hq_ hx_))),(hC.stay 13 rfl hB14 (fun x_ hq_ hx_=>(Zud.1 hx_).elim (fun hx_=>hC.mm 13 15 rfl rfl (by decide) x_ hq_ hx_) (fun hx_=>hC.mm 13 16 rfl rfl (by decide) x_ hq_ hx_))),(hC.stay 14 rfl hB14 (fun x_ hq_ hx_=>(Zud.1 hx_).elim (fun hx_=>hC.mm 14 15 rfl rfl (by decide) x_ hq_ hx_) (fun hx_=>hC.mm 14 16 rfl rfl (by decide) x_ hq_ hx_))),hm12,hm13,(hC.stay 17 rfl hB14 (fun x_ hq_ hx_=>(Zud.1 hx_).elim (fun hx_=>hC.mm 17 15 rfl rfl (by decide) x_ hq_ hx_) (fun hx_=>hC.mm 17 16 rfl rfl (by decide) x_ hq_ hx_))),(hC.stay 18 rfl hB14 (fun x_ hq_ hx_=>(Zud.1 hx_).elim (fun hx_=>hC.mm 18 15 rfl rfl (by decide) x_ hq_ hx_) (fun hx_=>hC.mm 18 16 rfl rfl (by decide) x_ hq_ hx_))),(hC.stay 19 rfl hB14 (fun x_ hq_ hx_=>(Zud.1 hx_).elim (fun hx_=>hC.mm 19 15 rfl rfl (by decide) x_ hq_ hx_) (fun hx_=>hC.mm 19 16 rfl rfl (by decide) x_ hq_ hx_))),(hC.stay 20 rfl hB14 (fun x_ hq_ hx_=>(Zud.1 hx_).elim (fun hx_=>hC.mm 20 15 rfl rfl (by decide) x_ hq_ hx_) (fun hx_=>hC.mm 20 16 rfl rfl (by decide) x_ hq_ hx_))),(hC.stay 21 rfl hB14 (fun x_ hq_ hx_=>(Zud.1 hx_).elim (fun hx_=>hC.mm 21 15 rfl rfl (by decide) x_ hq_ hx_) (fun hx_=>hC.mm 21 16 rfl rfl (by decide) x_ hq_ hx_))),(hC.stay 22 rfl hB14 (fun x_ hq_ hx_=>(Zud.1 hx_).elim (fun hx_=>hC.mm 22 15 rfl rfl (by decide) x_ hq_ hx_) (fun hx_=>hC.mm 22 16 rfl rfl (by decide) x_ hq_ hx_)))⟩)
             refine Zc (v:=vI r36) rfl (dn (sr (Yd hC 11 [u14,u15] rfl ag32 rfl rfl rfl (Zb (v:=vI r36) rfl (Zf [.agg #[u14,u15],vI r36] _ Tryz.func14 rfl rfl rfl (Ziy (⟨r13.degrees,r13.images⟩:Alg) r36 h _ (hC.getM 12 rfl) (hC.getM 13 rfl) (hC.mm 12 13 rfl rfl (by decide))) ?_)))))
             rintro _ w53 ⟨r37,m12,rfl,h,hm14,hm15,hB15⟩
             refine rt ?_
             replace hC:=hC.turnL hB15 (M':=[ZFo (ZLn 55 (Zj 90)) r24 [u27] f20,ZFo (ZLn 55 (Zj 90)) r23 [u26] f19,own 2 1 u24 r12.degrees.length (eI.encs r12.degrees),ZFo (ZLn 55 (Zj 90)) r12.images [u25] f18,own 2 1 u22 r11.degrees.length (eI.encs r11.degrees),ZFo (ZLn 55 (Zj 90)) r11.images [u23] f17,own 2 1 u20 r10.degrees.length (eI.encs r10.degrees),ZFo (ZLn 55 (Zj 90)) r10.images [u21] f16,ZFo (ZLn 55 (Zj 90)) r16 [u16] f15,ZFo (ZLn 55 (Zj 90)) r17 [u18] f14,ZFo (ZLn 55 (Zj 90)) r22 [u17] f13,blk b15 32 [u14,u15],own 2 1 u14 m12.degrees.length (eI.encs m12.degrees),ZFo (ZLn 55 (Zj 90)) m12.images [u15] f12,blk b14 32 [u12,u13],own 2 1 u12 m11.degrees.length (eI.encs m11.degrees),ZFo (ZLn 55 (Zj 90)) m11.images [u13] f11,blk b13 32 [u10,u11],own 2 1 u10 m10.degrees.length (eI.encs m10.degrees),ZFo (ZLn 55 (Zj 90)) m10.images [u11] f10,blk b12 25 [u2_0,u2_1],blk b11 25 [u1_0,u1_1],blk b10 25 [u0_0,u0_1]]) rfl (fun x_ hx_=>(Zud.1 hx_).elim (fun hx_=>⟨_,mg 12 rfl,hx_⟩) (fun hx_=>⟨_,mg 13 rfl,hx_⟩)) (by simp only [Ztw,Zv2,or_false,forall_eq_or_imp,forall_eq]; exact⟨(hC.stay 0 rfl hB15 (fun x_ hq_ hx_=>(Zud.1 hx_).elim (fun hx_=>hC.mm 0 12 rfl rfl (by decide) x_ hq_ hx_) (fun hx_=>hC.mm 0 13 rfl rfl (by decide) x_ hq_ hx_))),(hC.stay 1 rfl hB15 (fun x_ hq_ hx_=>(Zud.1 hx_).elim (fun hx_=>hC.mm 1 12 rfl rfl (by decide) x_ hq_ hx_) (fun hx_=>hC.mm 1 13 rfl rfl (by decide) x_ hq_ hx_))),(hC.stay 2 rfl hB15 (fun x_ hq_ hx_=>(Zud.1 hx_).elim (fun hx_=>hC.mm 2 12 rfl rfl (by decide) x_ hq_ hx_) (fun hx_=>hC.mm 2 13 rfl rfl (by decide) x_ hq_ hx_))),(hC.stay 3 rfl hB15 (fun x_ hq_ hx_=>(Zud.1 hx_).elim (fun hx_=>hC.mm 3 12 rfl rfl (by decide) x_ hq_ hx_) (fun hx_=>hC.mm 3 13 rfl rfl (by decide) x_ hq_ hx_))),(hC.stay 4 rfl hB15 (fun x_ hq_ hx_=>(Zud.1 hx_).elim (fun hx_=>hC.mm 4 12 rfl rfl (by decide) x_ hq_ hx_) (fun hx_=>hC.mm 4 13 rfl rfl (by decide) x_ hq_ hx_))),(hC.stay 5 rfl hB15 (fun x_ hq_ hx_=>(Zud.1 hx_).elim (fun hx_=>hC.mm 5 12 rfl rfl (by decide) x_ hq_ hx_) (fun hx_=>hC.mm 5 13 rfl rfl (by decide) x_ hq_ hx_))),(hC.stay 6 rfl hB15 (fun x_ hq_ hx_=>(Zud.1 hx_).elim (fun hx_=>hC.mm 6 12 rfl rfl (by decide) x_ hq_ hx_) (fun hx_=>hC.mm 6 13 rfl rfl (by decide) x_ hq_ hx_))),(hC.stay 7 rfl hB15 (fun x_ hq_ hx_=>(Zud.1 hx_).elim (fun hx_=>hC.mm 7 12 rfl rfl (by decide) x_ hq_ hx_) (fun hx_=>hC.mm 7 13 rfl rfl (by decide) x_ hq_ hx_))),(hC.stay 8 rfl hB15 (fun x_ hq_ hx_=>(Zud.1 hx_).elim (fun hx_=>hC.mm 8 12 rfl rfl (by decide) x_ hq_ hx_) (fun hx_=>hC.mm 8 13 rfl rfl (by decide) x_ hq_ hx_))),(hC.stay 9 rfl hB15 (fun x_ hq_ hx_=>(Zud.1 hx_).elim (fun hx_=>hC.mm 9 12 rfl rfl (by decide) x_ hq_ hx_) (fun hx_=>hC.mm 9 13 rfl rfl (by decide) x_ hq_ hx_))),(hC.stay 10 rfl hB15 (fun x_ hq_ hx_=>(Zud.1 hx_).elim (fun hx_=>hC.mm 10 12 rfl rfl (by decide) x_ hq_ hx_) (fun hx_=>hC.mm 10 13 rfl rfl (by decide) x_ hq_ hx_))),(hC.stay 11 rfl hB15 (fun x_ hq_ hx_=>(Zud.1 hx_).elim (fun hx_=>hC.mm 11 12 rfl rfl (by decide) x_ hq_ hx_) (fun hx_=>hC.mm 11 13 rfl rfl (by decide) x_ hq_ hx_))),hm14,hm15,(hC.stay 14 rfl hB15 (fun x_ hq_ hx_=>(Zud.1 hx_).elim (fun hx_=>hC.mm 14 12 rfl rfl (by decide) x_ hq_ hx_) (fun hx_=>hC.mm 14 13 rfl rfl (by decide) x_ hq_ hx_))),(hC.stay 15 rfl hB15 (fun x_ hq_ hx_=>(Zud.1 hx_).elim (fun hx_=>hC.mm 15 12 rfl rfl (by decide) x_ hq_ hx_) (fun hx_=>hC.mm 15 13 rfl rfl (by decide) x_ hq_ hx_))),(hC.stay 16 rfl hB15 (fun x_ hq_ hx_=>(Zud.1 hx_).elim (fun hx_=>hC.mm 16 12 rfl rfl (by decide) x_ hq_ hx_) (fun hx_=>hC.mm 16 13 rfl rfl (by decide) x_ hq_ hx_))),(hC.stay 17 rfl hB15 (fun x_ hq_ hx_=>(Zud.1 hx_).elim (fun hx_=>hC.mm 17 12 rfl rfl (by decide) x_ hq_ hx_) (fun hx_=>hC.mm 17 13 rfl rfl (by decide) x_ hq_ hx_))),(hC.stay 18 rfl hB15 (fun x_ hq_ hx_=>(Zud.1 hx_).elim (fun hx_=>hC.mm 18 12 rfl rfl (by decide) x_ hq_ hx_) (fun hx_=>hC.mm 18 13 rfl rfl (by decide) x_ hq_ hx_))),(hC.stay 19 rfl hB15 (fun x_ hq_ hx_=>(Zud.1 hx_).elim (fun hx_=>hC.mm 19 12 rfl rfl (by decide) x_ hq_ hx_) (fun hx_=>hC.mm 19 13 rfl rfl (by decide) x_ hq_ hx_))),(hC.stay 20 rfl hB15 (fun x_ hq_ hx_=>(Zud.1 hx_).elim (fun hx_=>hC.mm 20 12 rfl rfl (by decide) x_ hq_ hx_) (fun hx_=>hC.mm 20 13 rfl rfl (by decide) x_ hq_ hx_))),(hC.stay 21 rfl hB15 (fun x_ hq_ hx_=>(Zud.1 hx_).elim (fun hx_=>hC.mm 21 12 rfl rfl (by decide) x_ hq_ hx_) (fun hx_=>hC.mm 21 13 rfl rfl (by decide) x_ hq_ hx_))),(hC.stay 22 rfl hB15 (fun x_ hq_ hx_=>(Zud.1 hx_).elim (fun hx_=>hC.mm 22 12 rfl rfl (by decide) x_ hq_ hx_) (fun hx_=>hC.mm 22 13 rfl rfl (by decide) x_ hq_ hx_)))⟩)
             refine Zc (v:=vI r37) rfl (dn (sr (Zb (v:=u17) rfl (Zb (v:=vI r37) rfl (Zf [u17,vI r37] _ Tryz.func15 rfl rfl rfl (Zg5 r22 r37 h _ (hC.getM 10 rfl)) ?_)))))
             rintro _ w54 ⟨r38,m14,rfl,h,hm16,hB10⟩
             refine rt ?_
             replace hC:=hC.turnL hB10 (M':=[ZFo (ZLn 55 (Zj 90)) r24 [u27] f20,ZFo (ZLn 55 (Zj 90)) r23 [u26] f19,own 2 1 u24 r12.degrees.length (eI.encs r12.degrees),ZFo (ZLn 55 (Zj 90)) r12.images [u25] f18,own 2 1 u22 r11.degrees.length (eI.encs r11.degrees),ZFo (ZLn 55 (Zj 90)) r11.images [u23] f17,own 2 1 u20 r10.degrees.length (eI.encs r10.degrees),ZFo (ZLn 55 (Zj 90)) r10.images [u21] f16,ZFo (ZLn 55 (Zj 90)) r16 [u16] f15,ZFo (ZLn 55 (Zj 90)) r17 [u18] f14,ZFo (ZLn 55 (Zj 90)) m14 [u17] f13,blk b15 32 [u14,u15],own 2 1 u14 m12.degrees.length (eI.encs m12.degrees),ZFo (ZLn 55 (Zj 90)) m12.images [u15] f12,blk b14 32 [u12,u13],own 2 1 u12 m11.degrees.length (eI.encs m11.degrees),ZFo (ZLn 55 (Zj 90)) m11.images [u13] f11,blk b13 32 [u10,u11],own 2 1 u10 m10.degrees.length (eI.encs m10.degrees),ZFo (ZLn 55 (Zj 90)) m10.images [u11] f10,blk b12 25 [u2_0,u2_1],blk b11 25 [u1_0,u1_1],blk b10 25 [u0_0,u0_1]]) rfl (fun x_ hx_=>⟨_,mg 10 rfl,hx_⟩) (by simp only [Ztw,Zv2,or_false,forall_eq_or_imp,forall_eq]; exact⟨(hC.stay 0 rfl hB10 (fun x_ hq_ hx_=>hC.mm 0 10 rfl rfl (by decide) x_ hq_ hx_)),(hC.stay 1 rfl hB10 (fun x_ hq_ hx_=>hC.mm 1 10 rfl rfl (by decide) x_ hq_ hx_)),(hC.stay 2 rfl hB10 (fun x_ hq_ hx_=>hC.mm 2 10 rfl rfl (by decide) x_ hq_ hx_)),(hC.stay 3 rfl hB10 (fun x_ hq_ hx_=>hC.mm 3 10 rfl rfl (by decide) x_ hq_ hx_)),(hC.stay 4 rfl hB10 (fun x_ hq_ hx_=>hC.mm 4 10 rfl rfl (by decide) x_ hq_ hx_)),(hC.stay 5 rfl hB10 (fun x_ hq_ hx_=>hC.mm 5 10 rfl rfl (by decide) x_ hq_ hx_)),(hC.stay 6 rfl hB10 (fun x_ hq_ hx_=>hC.mm 6 10 rfl rfl (by decide) x_ hq_ hx_)),(hC.stay 7 rfl hB10 (fun x_ hq_ hx_=>hC.mm 7 10 rfl rfl (by decide) x_ hq_ hx_)),(hC.stay 8 rfl hB10 (fun x_ hq_ hx_=>hC.mm 8 10 rfl rfl (by decide) x_ hq_ hx_)),(hC.stay 9 rfl hB10 (fun x_ hq_ hx_=>hC.mm 9 10 rfl rfl (by decide) x_ hq_ hx_)),hm16,(hC.stay 11 rfl hB10 (fun x_ hq_ hx_=>hC.mm 11 10 rfl rfl (by decide) x_ hq_ hx_)),(hC.stay 12 rfl hB10 (fun x_ hq_ hx_=>hC.mm 12 10 rfl rfl (by decide) x_ hq_ hx_)),(hC.stay 13 rfl hB10 (fun x_ hq_ hx_=>hC.mm 13 10 rfl rfl (by decide) x_ hq_ hx_)),(hC.stay 14 rfl hB10 (fun x_ hq_ hx_=>hC.mm 14 10 rfl rfl (by decide) x_ hq_ hx_)),(hC.stay 15 rfl hB10 (fun x_ hq_ hx_=>hC.mm 15 10 rfl rfl (by decide) x_ hq_ hx_)),(hC.stay 16 rfl hB10 (fun x_ hq_ hx_=>hC.mm 16 10 rfl rfl (by decide) x_ hq_ hx_)),(hC.stay 17 rfl hB10 (fun x_ hq_ hx_=>hC.mm 17 10 rfl rfl (by decide) x_ hq_ hx_)),(hC.stay 18 rfl hB10 (fun x_ hq_ hx_=>hC.mm 18 10 rfl rfl (by decide) x_ hq_ hx_)),(hC.stay 19 rfl hB10 (fun x_ hq_ hx_=>hC.mm 19 10 rfl rfl (by decide) x_ hq_ hx_)),(hC.stay 20 rfl hB10 (fun x_ hq_ hx_=>hC.mm 20 10 rfl rfl (by decide) x_ hq_ hx_)),(hC.stay 21 rfl hB10 (fun x_ hq_ hx_=>hC.mm 21 10 rfl rfl (by decide) x_ hq_ hx_)),(hC.stay 22 rfl hB10 (fun x_ hq_ hx_=>hC.mm 22 10 rfl rfl (by decide) x_ hq_ hx_))⟩)
             refine Zc (v:=vI r38) rfl (dn (sr (Zb (v:=u18) rfl (Zb (v:=vI r38) rfl (Zf [u18,vI r38] _ Tryz.func15 rfl rfl rfl (Zg5 r17 r38 h _ (hC.getM 9 rfl)) ?_)))))
             rintro _ w55 ⟨r39,m15,rfl,h,hm17,hB11⟩
             refine rt ?_
             replace hC:=hC.turnL hB11 (M':=[ZFo (ZLn 55 (Zj 90)) r24 [u27] f20,ZFo (ZLn 55 (Zj 90)) r23 [u26] f19,own 2 1 u24 r12.degrees.length (eI.encs r12.degrees),ZFo (ZLn 55 (Zj 90)) r12.images [u25] f18,own 2 1 u22 r11.degrees.length (eI.encs r11.degrees),ZFo (ZLn 55 (Zj 90)) r11.images [u23] f17,own 2 1 u20 r10.degrees.length (eI.encs r10.degrees),ZFo (ZLn 55 (Zj 90)) r10.images [u21] f16,ZFo (ZLn 55 (Zj 90)) r16 [u16] f15,ZFo (ZLn 55 (Zj 90)) m15 [u18] f14,ZFo (ZLn 55 (Zj 90)) m14 [u17] f13,blk b15 32 [u14,u15],own 2 1 u14 m12.degrees.length (eI.encs m12.degrees),ZFo (ZLn 55 (Zj 90)) m12.images [u15] f12,blk b14 32 [u12,u13],own 2 1 u12 m11.degrees.length (eI.encs m11.degrees),ZFo (ZLn 55 (Zj 90)) m11.images [u13] f11,blk b13 32 [u10,u11],own 2 1 u10 m10.degrees.length (eI.encs m10.degrees),ZFo (ZLn 55 (Zj 90)) m10.images [u11] f10,blk b12 25 [u2_0,u2_1],blk b11 25 [u1_0,u1_1],blk b10 25 [u0_0,u0_1]]) rfl (fun x_ hx_=>⟨_,mg 9 rfl,hx_⟩) (by simp only [Ztw,Zv2,or_false,forall_eq_or_imp,forall_eq]; exact⟨(hC.stay 0 rfl hB11 (fun x_ hq_ hx_=>hC.mm 0 9 rfl rfl (by decide) x_ hq_ hx_)),(hC.stay 1 rfl hB11 (fun x_ hq_ hx_=>hC.mm 1 9 rfl rfl (by decide) x_ hq_ hx_)),(hC.stay 2 rfl hB11 (fun x_ hq_ hx_=>hC.mm 2 9 rfl rfl (by decide) x_ hq_ hx_)),(hC.stay 3 rfl hB11 (fun x_ hq_ hx_=>hC.mm 3 9 rfl rfl (by decide) x_ hq_ hx_)),(hC.stay 4 rfl hB11 (fun x_ hq_ hx_=>hC.mm 4 9 rfl rfl (by decide) x_ hq_ hx_)),(hC.stay 5 rfl hB11 (fun x_ hq_ hx_=>hC.mm 5 9 rfl rfl (by decide) x_ hq_ hx_)),(hC.stay 6 rfl hB11 (fun x_ hq_ hx_=>hC.mm 6 9 rfl rfl (by decide) x_ hq_ hx_)),(hC.stay 7 rfl hB11 (fun x_ hq_ hx_=>hC.mm 7 9 rfl rfl (by decide) x_ hq_ hx_)),(hC.stay 8 rfl hB11 (fun x_ hq_ hx_=>hC.mm 8 9 rfl rfl (by decide) x_ hq_ hx_)),hm17,(hC.stay 10 rfl hB11 (fun x_ hq_ hx_=>hC.mm 10 9 rfl rfl (by decide) x_ hq_ hx_)),(hC.stay 11 rfl hB11 (fun x_ hq_ hx_=>hC.mm 11 9 rfl rfl (by decide) x_ hq_ hx_)),(hC.stay 12 rfl hB11 (fun x_ hq_ hx_=>hC.mm 12 9 rfl rfl (by decide) x_ hq_ hx_)),(hC.stay 13 rfl hB11 (fun x_ hq_ hx_=>hC.mm 13 9 rfl rfl (by decide) x_ hq_ hx_)),(hC.stay 14 rfl hB11 (fun x_ hq_ hx_=>hC.mm 14 9 rfl rfl (by decide) x_ hq_ hx_)),(hC.stay 15 rfl hB11 (fun x_ hq_ hx_=>hC.mm 15 9 rfl rfl (by decide) x_ hq_ hx_)),(hC.stay 16 rfl hB11 (fun x_ hq_ hx_=>hC.mm 16 9 rfl rfl (by decide) x_ hq_ hx_)),(hC.stay 17 rfl hB11 (fun x_ hq_ hx_=>hC.mm 17 9 rfl rfl (by decide) x_ hq_ hx_)),(hC.stay 18 rfl hB11 (fun x_ hq_ hx_=>hC.mm 18 9 rfl rfl (by decide) x_ hq_ hx_)),(hC.stay 19 rfl hB11 (fun x_ hq_ hx_=>hC.mm 19 9 rfl rfl (by decide) x_ hq_ hx_)),(hC.stay 20 rfl hB11 (fun x_ hq_ hx_=>hC.mm 20 9 rfl rfl (by decide) x_ hq_ hx_)),(hC.stay 21 rfl hB11 (fun x_ hq_ hx_=>hC.mm 21 9 rfl rfl (by decide) x_ hq_ hx_)),(hC.stay 22 rfl hB11 (fun x_ hq_ hx_=>hC.mm 22 9 rfl rfl (by decide) x_ hq_ hx_))⟩)
             refine Zc (v:=vI r39) rfl (dn (ZE9 (sr (Zb (v:=vI r39) rfl (Zo rfl rfl (Zb (v:=.bool (decide (r39 < 0))) rfl ?_))))))
             refine Yt (decide (r39 < 0)) (fun hb10=>?_) (fun hb10=>?_)
             ·replace h:=ift h (ct hb10)
              refine Zh (b:=true) 2 135 rfl (tr rfl (congrArg _ hb10)) (by decide) (Zh (b:=true) 2 135 rfl (tr rfl (congrArg _ hb10)) (by decide) (Zh (b:=true) 2 135 rfl (tr rfl (congrArg _ hb10)) (by decide) (Zh (b:=true) 2 135 rfl (tr rfl (congrArg _ hb10)) (by decide) (Zw (v:=.bool true) (b:=true) (tr rfl (congrArg _ hb10)) rfl (Zb (v:=.bool true) rfl (Zh (b:=true) 8 141 rfl (tr rfl (congrArg _ rfl)) (by decide) (Zh (b:=true) 8 141 rfl (tr rfl (congrArg _ rfl)) (by decide) (Zh (b:=true) 8 141 rfl (tr rfl (congrArg _ rfl)) (by decide) (Zw (v:=.bool true) (b:=true) rfl rfl (dn (Z8 rfl rfl (sr (Zc (v:=.bool false) rfl (dn ?_))))))))))))))
              refine ZFh (Ze ?_)
              exact Zk rfl (Zg rfl) ⟨false,rfl,h,hC.below⟩ (.inl rfl)
             ·replace h:=Zl h (cf hb10)
              refine Zi 2 135 rfl rfl hb10 (Zb (v:=u16) rfl (Zi 2 135 rfl rfl hb10 (Zb (v:=u19) rfl (Zi 2 135 rfl rfl hb10 (Zf [u16,u19] _ ZPf rfl rfl rfl (Zdo r16 r30 h _ (ZO9 _ (hC.getM 8 rfl).1) (hC.getP 0 rfl)) ?_)))))
              rintro _ w56 ⟨r45,rfl,h,hB44⟩
              refine rt ?_
              replace hC:=hC.grow hB44
              refine Zi 2 135 rfl rfl hb10 (Y4 rfl (Zw (v:=.bool (!r45)) (b:=false) (tr rfl (congrArg _ hb10)) rfl (Zb (v:=.bool (!r45)) rfl ?_)))
              refine Yt (!r45) (fun hb12=>?_) (fun hb12=>?_)
              ·replace h:=ift h (Yq (Y5 hb12))
               refine Zh (b:=true) 8 141 rfl (tr rfl (congrArg _ hb12)) (by decide) (Zh (b:=true) 8 141 rfl (tr rfl (congrArg _ hb12)) (by decide) (Zh (b:=true) 8 141 rfl (tr rfl (congrArg _ hb12)) (by decide) (Zw (v:=.bool true) (b:=true) (tr rfl (congrArg _ hb12)) rfl (dn (Z8 rfl rfl (sr (Zc (v:=.bool false) rfl (dn ?_))))))))
               refine ZFh (Ze ?_)
               exact Zk rfl (Zg rfl) ⟨false,rfl,h,hC.below⟩ (.inl rfl)
              ·replace h:=Zl h (not_not_intro ((Y6 hb12)))
               refine Zi 8 141 rfl rfl hb12 (Zb (v:=vI r25) rfl (Zi 8 141 rfl rfl hb12 (Zb (v:=vI r15) rfl (Zi 8 141 rfl rfl hb12 (Y7 rfl rfl (Zw (v:=.bool (decide (r25≠r15))) (b:=false) (tr rfl (congrArg _ hb12)) rfl (dn (Ya rfl hb14 (ZFc (Zd (sr (Zc (v:=vI 1) rfl (dn (sr (Zb (v:=u16) rfl (Zb (v:=vI 1) rfl (Zf [u16,vI 1] _ Tryz.func15 rfl rfl rfl (Zg5 r16 1 h _ (hC.getM 8 rfl)) ?_)))))))))))))))))
               rintro _ w57 ⟨r40,m13,rfl,h,hm18,hB12⟩
               refine rt ?_
               replace hC:=hC.turnL hB12 (M':=[ZFo (ZLn 55 (Zj 90)) r24 [u27] f20,ZFo (ZLn 55 (Zj 90)) r23 [u26] f19,own 2 1 u24 r12.degrees.length (eI.encs r12.degrees),ZFo (ZLn 55 (Zj 90)) r12.images [u25] f18,own 2 1 u22 r11.degrees.length (eI.encs r11.degrees),ZFo (ZLn 55 (Zj 90)) r11.images [u23] f17,own 2 1 u20 r10.degrees.length (eI.encs r10.degrees),ZFo (ZLn 55 (Zj 90)) r10.images [u21] f16,ZFo (ZLn 55 (Zj 90)) m13 [u16] f15,ZFo (ZLn 55 (Zj 90)) m15 [u18] f14,ZFo (ZLn 55 (Zj 90)) m14 [u17] f13,blk b15 32 [u14,u15],own 2 1 u14 m12.degrees.length (eI.encs m12.degrees),ZFo (ZLn 55 (Zj 90)) m12.images [u15] f12,blk b14 32 [u12,u13],own 2 1 u12 m11.degrees.length (eI.encs m11.degrees),ZFo (ZLn 55 (Zj 90)) m11.images [u13] f11,blk b13 32 [u10,u11],own 2 1 u10 m10.degrees.length (eI.encs m10.degrees),ZFo (ZLn 55 (Zj 90)) m10.images [u11] f10,blk b12 25 [u2_0,u2_1],blk b11 25 [u1_0,u1_1],blk b10 25 [u0_0,u0_1]]) rfl (fun x_ hx_=>⟨_,mg 8 rfl,hx_⟩) (by simp only [Ztw,Zv2,or_false,forall_eq_or_imp,forall_eq]; exact⟨(hC.stay 0 rfl hB12 (fun x_ hq_ hx_=>hC.mm 0 8 rfl rfl (by decide) x_ hq_ hx_)),(hC.stay 1 rfl hB12 (fun x_ hq_ hx_=>hC.mm 1 8 rfl rfl (by decide) x_ hq_ hx_)),(hC.stay 2 rfl hB12 (fun x_ hq_ hx_=>hC.mm 2 8 rfl rfl (by decide) x_ hq_ hx_)),(hC.stay 3 rfl hB12 (fun x_ hq_ hx_=>hC.mm 3 8 rfl rfl (by decide) x_ hq_ hx_)),(hC.stay 4 rfl hB12 (fun x_ hq_ hx_=>hC.mm 4 8 rfl rfl (by decide) x_ hq_ hx_)),(hC.stay 5 rfl hB12 (fun x_ hq_ hx_=>hC.mm 5 8 rfl rfl (by decide) x_ hq_ hx_)),(hC.stay 6 rfl hB12 (fun x_ hq_ hx_=>hC.mm 6 8 rfl rfl (by decide) x_ hq_ hx_)),(hC.stay 7 rfl hB12 (fun x_ hq_ hx_=>hC.mm 7 8 rfl rfl (by decide) x_ hq_ hx_)),hm18,(hC.stay 9 rfl hB12 (fun x_ hq_ hx_=>hC.mm 9 8 rfl rfl (by decide) x_ hq_ hx_)),(hC.stay 10 rfl hB12 (fun x_ hq_ hx_=>hC.mm 10 8 rfl rfl (by decide) x_ hq_ hx_)),(hC.stay 11 rfl hB12 (fun x_ hq_ hx_=>hC.mm 11 8 rfl rfl (by decide) x_ hq_ hx_)),(hC.stay 12 rfl hB12 (fun x_ hq_ hx_=>hC.mm 12 8 rfl rfl (by decide) x_ hq_ hx_)),(hC.stay 13 rfl hB12 (fun x_ hq_ hx_=>hC.mm 13 8 rfl rfl (by decide) x_ hq_ hx_)),(hC.stay 14 rfl hB12 (fun x_ hq_ hx_=>hC.mm 14 8 rfl rfl (by decide) x_ hq_ hx_)),(hC.stay 15 rfl hB12 (fun x_ hq_ hx_=>hC.mm 15 8 rfl rfl (by decide) x_ hq_ hx_)),(hC.stay 16 rfl hB12 (fun x_ hq_ hx_=>hC.mm 16 8 rfl rfl (by decide) x_ hq_ hx_)),(hC.stay 17 rfl hB12 (fun x_ hq_ hx_=>hC.mm 17 8 rfl rfl (by decide) x_ hq_ hx_)),(hC.stay 18 rfl hB12 (fun x_ hq_ hx_=>hC.mm 18 8 rfl rfl (by decide) x_ hq_ hx_)),(hC.stay 19 rfl hB12 (fun x_ hq_ hx_=>hC.mm 19 8 rfl rfl (by decide) x_ hq_ hx_)),(hC.stay 20 rfl hB12 (fun x_ hq_ hx_=>hC.mm 20 8 rfl rfl (by decide) x_ hq_ hx_)),(hC.stay 21 rfl hB12 (fun x_ hq_ hx_=>hC.mm 21 8 rfl rfl (by decide) x_ hq_ hx_)),(hC.stay 22 rfl hB12 (fun x_ hq_ hx_=>hC.mm 22 8 rfl rfl (by decide) x_ hq_ hx_))⟩)
               refine Zc (v:=vI r40) rfl (dn (sr (Zc (v:=vI 1) rfl (dn (sr (Zb (v:=u16) rfl (Zb (v:=vI 1) rfl (Zf [u16,vI 1] _ Tryz.func16 rfl rfl rfl (Zlt m13 1 h _ (ZO9 _ (hC.getM 8 rfl).1)) ?_))))))))
               rintro _ w58 ⟨r41,rfl,h,hB45⟩
               refine rt ?_
               replace hC:=hC.grow hB45
               refine Zc (v:=vI r41) rfl (dn (ZE9 (sr (Zb (v:=vI r41) rfl (Zo rfl rfl (dn ?_))))))
               refine Zq rfl (fun hb25=>?_) (fun hb25=>?_)
               ·replace h:=ift h (ct hb25)
                refine sr (Zc (v:=.bool false) rfl (dn ?_))
                refine ZFh (Ze ?_)
                exact Zk rfl (Zg rfl) ⟨false,rfl,h,hC.below⟩ (.inl rfl)
               ·replace h:=Zl h (cf hb25)
                refine ZFc (Zd (ZE9 (sr (Zb (v:=vI r41) rfl (Zb (v:=vI r40) rfl (Y7 rfl rfl (dn ?_)))))))
                refine Zq rfl (fun hb26=>?_) (fun hb26=>?_)
                ·replace h:=ift h (ct hb26)
                 refine sr (Zc (v:=.bool false) rfl (dn ?_))
                 refine ZFh (Ze ?_)
                 exact Zk rfl (Zg rfl) ⟨false,rfl,h,hC.below⟩ (.inl rfl)
                ·replace h:=Zl h (cf hb26)
                 refine ZFc (Zd (ZE9 ?_))
                 refine cwd 15 mixed [0,1,0,7,0,31,0,127,0,511,1023,2047,4095,4095,8191,32767] [0,2,4] [6,8,11,12,13,14] (fun hM13 hM11 w59 hB_=>?_)
                 replace hC:=hC.grow hB_
                 refine bL 0 (.agg #[u0_0,u0_1]) rfl rfl hM13 (fun _ hB_=>by exact Yo (hC.grow hB_) 22 [u0_0,u0_1] rfl J0 rfl rfl rfl) (Za 16 1) (bL 2 (.agg #[u1_0,u1_1]) rfl rfl hM13 (fun _ hB_=>by exact Yo (hC.grow hB_) 21 [u1_0,u1_1] rfl J0 rfl rfl rfl) (Za 16 5) (bL 4 (.agg #[u2_0,u2_1]) rfl rfl hM13 (fun _ hB_=>by exact Yo (hC.grow hB_) 20 [u2_0,u2_1] rfl J0 rfl rfl rfl) (Za 16 21) (bM 6 (u3_0) rfl hM11 (Za 16 85) (bM 8 (u4_0) rfl hM11 (Za 16 341) (aO 1 rfl (Zf [.agg #[u0_0,u0_1]] _ ZPc rfl rfl rfl (Zah (⟨a0.degrees,a0.images⟩:Alg) h _ (Yi (hC.getP 14 rfl) (hC.getP 13 rfl))) ?_))))))
                 rintro _ w60 ⟨r32,u37,u38,f36,rfl,h,hr27,hf27,hB46⟩
                 refine rt ?_
                 replace hC:=hC.push hB46 (ZFo (Jx 2 90 55) r32 [u37,u38] f36) hr27 hf27
                 obtain ⟨f37,ho28,ho29,hs36,hs37,hd19⟩:=Zag (hC.getM 0 rfl)
                 replace hC:=hC.split (a:=own 2 1 u37 r32.degrees.length (eI.encs r32.degrees)) (b:=ZFo (ZLn 55 (Zj 90)) r32.images [u38] f37) hs36 hs37 ⟨ho28,ho29,hd19⟩
                 refine done (aK (by assumption) (Za 16 343) (aO 3 rfl (Zf [.agg #[u1_0,u1_1]] _ ZPc rfl rfl rfl (Zah (⟨a1.degrees,a1.images⟩:Alg) h _ (Yi (hC.getP 12 rfl) (hC.getP 11 rfl))) ?_)))
                 rintro _ w61 ⟨r33,u39,u40,f38,rfl,h,hr28,hf28,hB47⟩
                 refine rt ?_
                 replace hC:=hC.push hB47 (ZFo (Jx 2 90 55) r33 [u39,u40] f38) hr28 hf28
                 obtain ⟨f39,ho30,ho31,hs38,hs39,hd20⟩:=Zag (hC.getM 0 rfl)
                 replace hC:=hC.split (a:=own 2 1 u39 r33.degrees.length (eI.encs r33.degrees)) (b:=ZFo (ZLn 55 (Zj 90)) r33.images [u40] f39) hs38 hs39 ⟨ho30,ho31,hd20⟩
                 refine done (aK (by assumption) (Za 16 351) (aO 5 rfl (Zf [.agg #[u2_0,u2_1]] _ ZPc rfl rfl rfl (Zah (⟨a2.degrees,a2.images⟩:Alg) h _ (Yi (hC.getP 10 rfl) (hC.getP 9 rfl))) ?_)))
                 rintro _ w62 ⟨r34,u41,u42,f40,rfl,h,hr29,hf29,hB48⟩
                 refine rt ?_
                 replace hC:=hC.push hB48 (ZFo (Jx 2 90 55) r34 [u41,u42] f40) hr29 hf29
                 obtain ⟨f41,ho32,ho33,hs40,hs41,hd21⟩:=Zag (hC.getM 0 rfl)
                 replace hC:=hC.split (a:=own 2 1 u41 r34.degrees.length (eI.encs r34.degrees)) (b:=ZFo (ZLn 55 (Zj 90)) r34.images [u42] f41) hs40 hs41 ⟨ho32,ho33,hd21⟩
                 refine done (aK (by assumption) (Za 16 383) (aO 7 rfl (Zf [u3_0] _ ZPd rfl rfl rfl (Zbc a3 h _ (hC.getP 18 rfl)) ?_)))
                 rintro _ w63 ⟨r48,u43,f42,rfl,h,hr30,hf30,hB49⟩
                 refine rt ?_
                 replace hC:=hC.push hB49 (ZFo (ZLn 55 (Zj 90)) r48 [u43] f42) hr30 hf30
                 refine done (aK (by assumption) (Za 16 511) (aO 9 rfl (Zf [u4_0] _ ZPd rfl rfl rfl (Zbc a4 h _ (hC.getP 19 rfl)) ?_)))
                 rintro _ w64 ⟨r49,u44,f43,rfl,h,hr31,hf31,hB50⟩
                 refine rt ?_
                 replace hC:=hC.push hB50 (ZFo (ZLn 55 (Zj 90)) r49 [u44] f43) hr31 hf31
                 refine done (aK (by assumption) (Za 16 1023) (aO 10 rfl (Zf [.agg #[u37,u38],.agg #[u39,u40],.agg #[u41,u42],u43,u44] _ Tryz.func11 rfl rfl rfl (Zm1 r32 r33 r34 r48 r49 h _ (Yi (Yv (hC.getM 6 rfl)) (ZO9 _ (hC.getM 7 rfl).1)) (Yi (Yv (hC.getM 4 rfl)) (ZO9 _ (hC.getM 5 rfl).1)) (Yi (Yv (hC.getM 2 rfl)) (ZO9 _ (hC.getM 3 rfl).1)) (ZO9 _ (hC.getM 1 rfl).1) (ZO9 _ (hC.getM 0 rfl).1)) ?_)))
                 rintro _ w65 ⟨r50,u28,f44,r31,rfl,h,hr32,hf32,hB51⟩
                 refine rt ?_
                 replace hC:=hC.push hB51 (ZFo (ZLn 55 (Zj 90)) r50 [u28] f44) hr32 hf32
                 refine done (aK (by assumption) (Za 16 2047) (bM 11 (.tuple #[u28,vI r31]) rfl hM11 (Za 16 4095) (bF 12 (u28) rfl rfl hM11 (fun _=>by exact Jm (v:=u28) rfl rfl) (Za 16 8191) (bF 13 (vI r31) rfl rfl hM11 (fun _=>by exact Jm (v:=vI r31) rfl rfl) (Za 16 16383) (bA 14 (u28) rfl hM11 (Za 16 32767) (Z0 15 (by decide) (by decide) (by kernel_rfl) (by kernel_rfl) rfl (Zc (v:=vI r31) rfl (done (Z1 (Zd (ZE9 (sr (Zb (v:=u28) rfl (Zb (v:=u19) rfl (Zf [u28,u19] _ ZPf rfl rfl rfl (Zdo r50 r30 h _ (ZO9 _ (hC.getM 0 rfl).1) (hC.getP 0 rfl)) ?_)))))))))))))))
                 rintro _ w66 ⟨r51,rfl,h,hB52⟩
                 refine rt ?_
                 replace hC:=hC.grow hB52
                 refine Y4 rfl (Zb (v:=.bool (!r51)) rfl ?_)
                 refine Yt (!r51) (fun hb13=>?_) (fun hb13=>?_)
                 ·replace h:=ift h (Yq (Y5 hb13))
                  refine Zh (b:=true) 4 175 rfl (tr rfl (congrArg _ hb13)) (by decide) (Zh (b:=true) 4 175 rfl (tr rfl (congrArg _ hb13)) (by decide) (Zh (b:=true) 4 175 rfl (tr rfl (congrArg _ hb13)) (by decide) (Zw (v:=.bool true) (b:=true) (tr rfl (congrArg _ hb13)) rfl (dn (Z8 rfl rfl (sr (Zc (v:=.bool false) rfl (dn ?_))))))))
                  refine ZFh (Ze ?_)
                  exact Zk rfl (Zg rfl) ⟨false,rfl,h,hC.below⟩ (.inl rfl)
                 ·replace h:=Zl h (not_not_intro ((Y6 hb13)))
                  refine Zi 4 175 rfl rfl hb13 (Zb (v:=vI r31) rfl (Zi 4 175 rfl rfl hb13 (Zb (v:=vI r15) rfl (Zi 4 175 rfl rfl hb13 (Y7 rfl rfl (Zw (v:=.bool (decide (r31≠r15))) (b:=false) (tr rfl (congrArg _ hb13)) rfl (dn ?_)))))))
                  refine Zq rfl (fun hb27=>?_) (fun hb27=>?_)
                  ·replace h:=ift h (ct hb27)
                   refine sr (Zc (v:=.bool false) rfl (dn ?_))
                   refine ZFh (Ze ?_)
                   exact Zk rfl (Zg rfl) ⟨false,rfl,h,hC.below⟩ (.inl rfl)
                  ·replace h:=Zl h (cf hb27)
                   refine ZFc (Zd (sr (Zc (v:=vI 1) rfl (dn (sr (Zb (v:=u16) rfl (Zb (v:=vI 1) rfl (Zf [u16,vI 1] _ Tryz.func16 rfl rfl rfl (Zlt m13 1 h _ (ZO9 _ (hC.getM 17 rfl).1)) ?_))))))))
                   rintro _ w67 ⟨r42,rfl,h,hB53⟩
                   refine rt ?_
                   replace hC:=hC.grow hB53
                   refine Zc (v:=vI r42) rfl (dn (ZE9 (sr (Zb (v:=vI r42) rfl (Zo rfl rfl (dn ?_))))))
                   refine Zq rfl (fun hb28=>?_) (fun hb28=>?_)
                   ·replace h:=ift h (ct hb28)
                    refine sr (Zc (v:=.bool false) rfl (dn ?_))
                    refine ZFh (Ze ?_)
                    exact Zk rfl (Zg rfl) ⟨false,rfl,h,hC.below⟩ (.inl rfl)
                   ·replace h:=Zl h (cf hb28)
                    refine ZFc (Zd (ZE9 (sr (Zb (v:=vI r42) rfl (Zb (v:=vI r40) rfl (Y7 rfl rfl (dn ?_)))))))
                    refine Zq rfl (fun hb29=>?_) (fun hb29=>?_)
                    ·replace h:=ift h (ct hb29)
                     refine sr (Zc (v:=.bool false) rfl (dn ?_))
                     refine ZFh (Ze ?_)
                     exact Zk rfl (Zg rfl) ⟨false,rfl,h,hC.below⟩ (.inl rfl)
                    ·replace h:=Zl h (cf hb29)
                     refine ZFc (Zd (sr (Zc (v:=.bool true) rfl (dn (ZFh ?_)))))
                     exact Zk rfl (Zg rfl) ⟨true,rfl,h,hC.below⟩ (.inl rfl)
end Go.Proofs.YtheenipahifleaaGreat
namespace Go.Proofs.YtheenipahifleaaGreat
open Go Vc
structure HomM (ds:List Int) (w:Int) (s:List (A8×Int)):Prop where
  ok:MapOk s
  hom:∀ q,q∈s→WM ds w q.1
theorem Zm2 {ds:List Int} {v w:Int} {s t:List (A8×Int)} {K:List (A8×Int)→Prop} (hd:OkDeg ds) (hs:HomM ds v s) (ht:HomM ds w t) (hv:v≤13) (hw:w≤13) (h:∀ out,HomM ds (v+w) out→(∀ x,co out x % 10007=prM ds s t x % 10007)→K out):J4 s ds t K :=
  Zi3 hd hs.ok (fun q hq => ((hs.hom q hq).wk hd (by omega)).1) (fun q hq => (hs.hom q hq).pos) ht.ok (fun q hq => ((ht.hom q hq).wk hd (by omega)).1) (fun q hq => (ht.hom q hq).pos) fun out ho =>
    h out ⟨ho.ok, fun q hq => by
      obtain ⟨a,b,ha,hb,e,hc⟩:=ho.ks q hq
      rw [e]; exact(hs.hom a ha).add (ht.hom b hb) hc hd.1⟩ ho.cf
theorem Zhm:∀ i:Nat,ZFe.get i=0
  | 0 | 1 | 2 | 3 | 4 | 5 | 6 | 7=>rfl
  | _+8=>rfl
def Zhn:List Term:=[⟨ZFe,1⟩]
theorem Zho {ds:List Int} (h8:ds.length≤8):WM ds 0 ZFe where
  pos i hi:=by rw [Zhm]; omega
  odd i hi o:=by rw [Zhm]; omega
  out i hi hl:=Zhm i
  wt:=by
    have:∀ k,wtU ds ZFe k=0:=fun k=>by
      induction k with
      | zero=>rfl
      | succ k ih=>simp only [wtU]; rw [ih,Zhm]; simp
    exact this _
def PwL (ds:List Int) (img:List Term):Nat→List Term
  | 0=>Zhn
  | k+1=>Zco ds (PwL ds img k) img
theorem Ztb {ds : List Int} {d : Int} {f : List Term} {K : ZFd → Prop} (hd : OkDeg ds) (hf : HomF ds d f) (h0 : 1 ≤ d) (k : Nat) (hk : (k : Int) * d ≤ 13) (h : ∀ out, HomF ds ((k : Int) * d) out → (∀ x, coT out x % 10007 = coT (PwL ds f k) x % 10007) → K ⟨out⟩) : Zcr ds ⟨f⟩ (k : Int) K := by
  have kb:(k:Int)≤13:=by
    have:=ZQe h0 (ZFq k)
    omega
  unfold Zcr
  refine Zi8 ?_
  refine Jd (fun (s:List Term×Int)=>0≤s.2∧s.2≤k∧HomF ds (((k:Int) - s.2) * d) s.1∧∀ x,coT s.1 x % 10007=coT (PwL ds f ((k:Int) - s.2).toNat) x % 10007) (fun s=>s.2.toNat) ?_ ⟨by dsimp only; omega,by dsimp only; omega,?_,fun x=>?_⟩
  · rintro ⟨l,j⟩ next ⟨g1,g2,g3,g4⟩ hnx
    dsimp only at g1 g2 g3 g4 hnx ⊢
    by_cases c:j > 0
    · have w1:((k:Int) - j) * d≤13∧((k:Int) - (j - 1)) * d≤13∧((k:Int) - j) * d+d=((k:Int) - (j - 1)) * d∧d≤13:=by
        have e1:((k:Int) - j) * d+d=((k:Int) - (j - 1)) * d:=by rw [show (k:Int) - (j - 1)=((k:Int) - j)+1 by omega,Int.add_mul,ZL5]
        have e2:((k:Int) - (j - 1)) * d≤(k:Int) * d:=ZM4 (by omega) (by omega)
        have e3:0≤((k:Int) - j) * d:=Int.mul_nonneg (by omega) (by omega)
        omega
      refine Xi c (Zmm hd g3 hf w1.1 w1.2.2.2 (by rw [w1.2.2.1]; exact w1.2.1) fun out ho hh=>?_)
      have wu:ZFl.wrap (j - 1)=j - 1:=Zgh _ (by omega)
      rw [wu]
      refine hnx _ ⟨by dsimp only; omega,by dsimp only; omega,by dsimp only; rw [← w1.2.2.1]; exact hh,fun x=>?_⟩ (by dsimp only; omega)
      dsimp only
      have en:((k:Int) - (j - 1)).toNat=((k:Int) - j).toNat+1:=by omega
      rw [en,ho.cf,PwL]
      have:=Zjb (ds:=ds) 1 (f:=l) (f':=PwL ds f ((k:Int) - j).toNat) (g:=f) (g':=f) (fun x=>by rw [ZL5]; exact g4 x) (fun _=>rfl) x
      rwa [ZL5] at this
    · have e:j=0:=by omega
      subst e
      rw [Int.sub_zero] at g3 g4
      rw [ZPe] at g4
      exact Xn c (h l g3 g4)
  · dsimp only
    rw [Int.sub_self,ZPs]
    exact⟨Zja _,fun t ht=>by obtain rfl:=Zvn.1 ht; exact Zho hd.1⟩
  · dsimp only
    rw [Int.sub_self]; rfl
def Zct (ds:List Int) (deg:List Int) (m:List (List Term)) (i k:Int) (s:List (A8×Int)):Prop:=HomM ds (k * deg.getD i.toNat Zt0) s∧∀ x,co s x % 10007=coT (PwL ds (m.getD i.toNat Zt0) k.toNat) x % 10007
theorem Ztc {ds deg:List Int} {m:List (List Term)} {imgs:List (List (A8×Int))} (hd:OkDeg ds) {i:Nat} (hi:HomM ds (deg.getD i Zt0) (imgs.getD i [])) (hc:∀ x,co (imgs.getD i []) x=coT (m.getD i Zt0) x) (h0:1≤deg.getD i Zt0) {e:Nat} (he:(e:Int) * deg.getD i Zt0≤13) (h1:deg.getD i Zt0≤13):Zd1 (Zct ds deg m) ds imgs i e:=by
  refine⟨?_,fun k hk r hr=>?_⟩
  · unfold Zcq Zct
    refine⟨⟨Zhg _,fun q hq=>?_⟩,fun x=>?_⟩
    · obtain rfl:=Zvn.1 hq
      rw [ZPs]; exact Zho hd.1
    · rfl
  · obtain ⟨h2,h3⟩:=hr
    rw [ZPe] at h2 h3
    have ek:((k:Int)+1) * deg.getD i Zt0=(k:Int) * deg.getD i Zt0+deg.getD i Zt0:=by rw [Int.add_mul,ZL5]
    have kb:(k:Int) * deg.getD i Zt0≤13:=Int.le_trans (ZM4 (by omega) (by omega)) he
    refine Zm2 hd h2 hi kb h1 fun out ho hco=>⟨by rw [ZPe,ek]; exact ho,fun x=>?_⟩
    have en:((k:Int)+1).toNat=k+1:=by omega
    rw [en,ZPe,PwL,hco]
    rw [ZPe] at h3
    have:=Zmi (ds:=ds) 1 (s:=r) (t:=imgs.getD i []) (f':=PwL ds (m.getD i Zt0) k) (g':=m.getD i Zt0) (fun x=>by rw [ZL5]; exact h3 x) (fun x=>by rw [hc]) x
    rwa [ZL5] at this
end Go.Proofs.YtheenipahifleaaGreat
namespace Go.Proofs.YtheenipahifleaaGreat
open Go Vc
theorem Zm3 {ds:List Int} {m:A8} (hd:OkDeg ds) (hp:∀ i,i < 8→0≤m.get i) {j:Nat}:∀ k,j≤k→k≤ds.length→wtU ds m j≤wtU ds m k:=fun k=>by
  induction k with
  | zero=>intro h _; rw [Nat.le_zero.1 h]; exact Int.le_refl _
  | succ k ih =>
    intro h hk
    by_cases e:j=k+1
    · rw [e]; exact Int.le_refl _
    · have h1:=ih (by omega) (by omega)
      have h8:=hd.1
      have:=Int.mul_nonneg (show 0≤ds.getD k Zt0 by have:=hd.2 k (by omega); omega) (hp k (by omega))
      simp only [wtU]; omega
def LdL (ds:List Int) (m:List (List Term)) (p:A8):Nat→List Term
  | 0=>Zhn
  | i+1=>if 0 < p.get i then Zco ds (LdL ds m p i) (PwL ds (m.getD i Zt0) (p.get i).toNat) else LdL ds m p i
structure ImgOf (deg ds:List Int) (m:List (List Term)):Prop where
  len:m.length=deg.length
  hom:∀ i,i < deg.length→HomF ds (deg.getD i Zt0) (m.getD i Zt0)
structure MapOf (deg ds:List Int) (m:List (List Term)) (imgs:List (List (A8×Int))):Prop where
  len:imgs.length=deg.length
  hom:∀ i,i < deg.length→HomM ds (deg.getD i Zt0) (imgs.getD i [])
  co:∀ i,i < deg.length→∀ x,co (imgs.getD i []) x=coT (m.getD i Zt0) x
section
variable {deg ds:List Int} {m:List (List Term)}
theorem Zm4 (hg:OkDeg deg) {p:A8} {W:Int} (hp:WM deg W p) (hW:W≤13) {i:Nat} (hi:i < deg.length) (h0:0 < p.get i):1≤deg.getD i Zt0∧deg.getD i Zt0≤13∧p.get i * deg.getD i Zt0≤13∧p.get i≤13∧wtU deg p (i+1)=wtU deg p i+p.get i * deg.getD i Zt0∧wtU deg p (i+1)≤13∧0≤wtU deg p i∧wtU deg p i≤13:=by
  have h1:=hg.2 i hi
  have h2:=(Zfp hg hp.pos deg.length (Ztz _)).2 i hi
  rw [hp.wt,Int.mul_comm] at h2
  have a1:p.get i * 1≤p.get i * deg.getD i Zt0:=ZQe h1.1 (by omega)
  have a2:1 * deg.getD i Zt0≤p.get i * deg.getD i Zt0:=ZM4 (by omega) (by omega)
  have m1:=Zm3 hg hp.pos (j:=i+1) deg.length (by omega) (Ztz _)
  have m2:=Zm3 hg hp.pos (j:=i) deg.length (by omega) (Ztz _)
  rw [hp.wt] at m1 m2
  have m3:=(Zfp hg hp.pos i (by omega)).1
  refine⟨h1.1,by omega,by omega,by omega,?_,by omega,m3,by omega⟩
  simp only [wtU]; rw [Int.mul_comm]
theorem Ztd {imgs : List (List (A8 × Int))} {K : List (A8 × Int) → Prop} (hg : OkDeg deg) (hd : OkDeg ds) (hm : MapOf deg ds m imgs) {p : A8} {W : Int} (hp : WM deg W p) (hW : W ≤ 13) (h : ∀ t, HomM ds W t → (∀ x, co t x % 10007 = coT (LdL ds m p deg.length) x % 10007) → K t) :
    Zcq (fun r11=>Yg (fun i10 (s10:(List (A8×Int))) nx10=>((0≤(i10:Int)∧(i10:Int) < 8)∧(if p.get i10 > 0 then((0≤(i10:Int)∧(i10:Int) < 8)∧(((i10 < imgs.length∧0≤p.get i10∧p.get i10≤1000)∧Zd1 (Zct ds deg m) ds imgs i10 (p.get i10).toNat)∧∀ (r10:List (A8×Int)),Zct ds deg m (i10:Int) (p.get i10) r10→J4 s10 ds r10 (fun r12=>nx10 r12))) else nx10 s10))) K deg.length 0 r11):=by
  have h8:=hg.1
  unfold Zcq
  refine Yr (fun i (t:List (A8×Int))=>HomM ds (wtU deg p i) t∧∀ x,co t x % 10007=coT (LdL ds m p i) x % 10007) deg.length ?_ ?_ _ _ _ (by omega) ⟨⟨Zhg _,fun q hq=>by obtain rfl:=Zvn.1 hq; exact Zho hd.1⟩,fun x=>rfl⟩
  · rintro i t next hi ⟨g1,g2⟩ hnx
    refine⟨by omega,?_⟩
    by_cases c:0 < p.get i
    · obtain ⟨d1,d2,d3,d4,d5,d6,d7,d8⟩:=Zm4 hg hp hW hi c
      refine Xi c ⟨by omega,⟨⟨⟨by rw [hm.len]; omega,by omega,by omega⟩,?_⟩,fun r hr=>?_⟩⟩
      · exact Ztc hd (hm.hom i hi) (hm.co i hi) d1 (by rw [Int.toNat_of_nonneg (by omega)]; exact d3) d2
      · obtain ⟨r1,r2⟩:=hr
        rw [ZPe] at r1 r2
        refine Zm2 hd g1 r1 d8 d3 fun out ho hco=>hnx _ ⟨by rw [d5]; exact ho,fun x=>?_⟩
        rw [hco,LdL,if_pos c]
        have:=Zmi (ds:=ds) 1 (s:=t) (t:=r) (f':=LdL ds m p i) (g':=PwL ds (m.getD i Zt0) (p.get i).toNat) (fun x=>by rw [ZL5]; exact g2 x) r2 x
        rwa [ZL5] at this
    · have z:p.get i=0:=by have:=hp.pos i (by omega); omega
      refine Xn (by omega) (hnx _ ⟨?_,fun x=>by rw [LdL,if_neg c]; exact g2 x⟩)
      have:wtU deg p (i+1)=wtU deg p i:=by simp only [wtU]; rw [z,Int.mul_zero,ZLq]
      rw [this]; exact g1
  · rintro t ⟨g1,g2⟩
    rw [hp.wt] at g1
    exact h t g1 g2
def ApC (ds:List Int) (m:List (List Term)) (n:Nat) (f:List Term) (x:A8):Int:=tot (fun t=>t.factor * coT (LdL ds m t.mono n) x) f
theorem Zm5 {imgs:List (List (A8×Int))} {s:List (A8×Int)} {f:List Term} {K:List (A8×Int)→Prop} (hg:OkDeg deg) (hd:OkDeg ds) (hm:MapOf deg ds m imgs) {W:Int} (hf:HomF deg W f) (hs:IsMap f s) (hW:W≤13) (h:∀ out,HomM ds W out→(∀ x,co out x % 10007=ApC ds m deg.length f x % 10007)→K out):Zd2 (Zct ds deg m) deg ds imgs s K:=by
  unfold Zd2
  have key:∀ x,tot (fun q:A8×Int=>q.2 * coT (LdL ds m q.1 deg.length) x) s=ApC ds m deg.length f x:=fun x =>
    Zfn hs hf.can (fun a n=>n * coT (LdL ds m a deg.length) x) (fun a=>ZPs _)
  have hsW:∀ q,q∈s→WM deg W q.1:=fun q hq=>by
    obtain ⟨t,ht,e⟩:=hs.ks q hq
    rw [← e]; exact hf.hom t ht
  refine Zc8 (fun l' (out:List (A8×Int))=>(∀ q,q∈l'→q∈s)∧HomM ds W out∧∀ x,(co out x+tot (fun q:A8×Int=>q.2 * coT (LdL ds m q.1 deg.length) x) l') % 10007=ApC ds m deg.length f x % 10007) ?_ ?_ s [] ⟨fun _ h=>h,⟨MapOk.nil,fun q hq=>by cases hq⟩,fun x=>by rw [Za9,Int.zero_add,key]⟩
  · rintro l' q l'' out next hp ⟨h0,h1,h2⟩ hnx
    have hperm:=Zc9 hp
    have hq:q∈s:=h0 q (hperm.mem_iff.2 (by simp))
    have hqf:=hs.ok.2 q hq
    refine Ztd hg hd hm (hsW q hq) hW fun t ht hco=>?_
    refine Zg9 h1.ok ht.ok (by omega) fun o2 ho=>hnx _ ⟨fun z hz=>h0 z (hperm.mem_iff.2 (by simp [hz])),⟨ho.ok,fun z hz=>?_⟩,fun x=>?_⟩
    · obtain ⟨y,hy | hy,e⟩:=ho.ks z hz
      · rw [← e]; exact h1.hom y hy
      · rw [← e]; exact ht.hom y hy
    · have e1:=ho.cf x
      have e2:=h2 x
      have e3:=hco x
      have e4:tot (fun q:A8×Int=>q.2 * coT (LdL ds m q.1 deg.length) x) l'=q.2 * coT (LdL ds m q.1 deg.length) x+tot (fun q:A8×Int=>q.2 * coT (LdL ds m q.1 deg.length) x) l'':=by rw [Zci _ hperm]; rfl
      have e5:(q.2 * co t x) % 10007=(q.2 * coT (LdL ds m q.1 deg.length) x) % 10007:=by rw [Int.mul_emod,e3,← Int.mul_emod]
      omega
  · rintro out ⟨_,h1,h2⟩
    exact h out h1 fun x=>by have:=h2 x; simpa [tot] using this
end
end Go.Proofs.YtheenipahifleaaGreat
namespace Go.Proofs.YtheenipahifleaaGreat
open Go Vc
def tms (l:List ZFd):List (List Term):=l.map Vc.Form.terms
theorem Zd7 (l:List ZFd) (i:Nat):(tms l).getD i Zt0=(l.getD i Zt0).terms:=by
  unfold tms
  by_cases h:i < l.length
  · simp [Zt7,h]
  · simp [Zt7,List.getElem?_eq_none (Nat.le_of_not_lt h)]; rfl
theorem Zte {m:A8} {v:Int} {K:ZFd→Prop} (hv:1≤v∧v≤10006) (h:K ⟨[⟨m,v⟩]⟩):X1 m v K:=by
  unfold X1
  refine Zbd ?_
  rw [show v % 10007=v by omega,if_neg (by omega)]
  refine Zbd ?_
  rw [show v % 10007=v by omega]
  exact h
section
variable {deg ds:List Int} {ms:List ZFd}
theorem Ztf {p : A8} {v : Int} {A : Prop} {K : List Term → Prop} (hg : OkDeg deg) (hd : OkDeg ds) (hm : ImgOf deg ds (tms ms)) {W : Int} (hp : WM deg W p) (hW : W ≤ 13) (hv : 1 ≤ v ∧ v ≤ 10006) (hA : A) (h : ∀ l, HomF ds W l → (∀ x, coT l x % 10007 = (v * coT (LdL ds (tms ms) p deg.length) x) % 10007) → K l) :
    X1 ZFe v (fun r10=>Yg (fun i10 (s11:(List Term)) nx10=>(A∧((0≤(i10:Int)∧(i10:Int) < 8)∧(if p.get i10 > 0 then(A∧((0≤(i10:Int)∧(i10:Int) < 8)∧Zcr ds (ms.getD i10 Zt0) (p.get i10) (fun r11=>X2 ds (⟨s11⟩:ZFd) r11 (fun r12=>nx10 r12.terms)))) else nx10 s11)))) K ms.length 0 r10.terms):=by
  have h8:=hg.1
  have hl:ms.length=deg.length:=by have:=hm.len; rwa [tms,List.length_map] at this
  refine Zte hv ?_
  rw [hl]
  refine Yr (fun i (t:List Term)=>HomF ds (wtU deg p i) t∧∀ x,coT t x % 10007=(v * coT (LdL ds (tms ms) p i) x) % 10007) deg.length ?_ ?_ _ _ _ (by omega) ⟨⟨⟨by simp,fun t ht=>by obtain rfl:=Zvn.1 ht; exact hv⟩,fun t ht=>by obtain rfl:=Zvn.1 ht; exact Zho hd.1⟩,fun x=>?_⟩
  · rintro i t next hi ⟨g1,g2⟩ hnx
    refine⟨hA,by omega,?_⟩
    by_cases c:0 < p.get i
    · obtain ⟨d1,d2,d3,d4,d5,d6,d7,d8⟩:=Zm4 hg hp hW hi c
      refine Xi c ⟨hA,by omega,?_⟩
      have hf:=hm.hom i hi
      have en:((p.get i).toNat:Int)=p.get i:=Int.toNat_of_nonneg (by omega)
      have go:∀ K':ZFd→Prop,(∀ out,HomF ds (p.get i * deg.getD i Zt0) out→(∀ x,coT out x % 10007=coT (PwL ds ((tms ms).getD i Zt0) (p.get i).toNat) x % 10007)→K' ⟨out⟩)→Zcr ds (ms.getD i Zt0) (p.get i) K':=fun K' hK=>by
        rw [Zd7] at hf hK
        have:=Ztb (K:=K') hd hf d1 (p.get i).toNat (by rw [en]; exact d3) fun out h1 h2=>hK out (by rwa [en] at h1) h2
        rwa [en] at this
      refine go _ fun r r1 r2=>?_
      refine Zmm hd g1 r1 d8 d3 (by rw [← d5]; exact d6) fun out ho hh=>hnx _ ⟨by rw [d5]; exact hh,fun x=>?_⟩
      rw [ho.cf,LdL,if_pos c]
      exact Zjb v g2 r2 x
    · have z:p.get i=0:=by have:=hp.pos i (by omega); omega
      refine Xn (by omega) (hnx _ ⟨?_,fun x=>by rw [LdL,if_neg c]; exact g2 x⟩)
      have:wtU deg p (i+1)=wtU deg p i:=by simp only [wtU]; rw [z,Int.mul_zero,ZLq]
      rw [this]; exact g1
  · rintro t ⟨g1,g2⟩
    rw [hp.wt] at g1
    exact h t g1 g2
  · show coT [⟨ZFe,v⟩] x % 10007=(v * coT Zhn x) % 10007
    rw [Za8,Zbr,Zhn,Za8,Zbr]
    dsimp only
    split <;> simp
theorem Zm6 {f : List Term} {K : ZFd → Prop} (hg : OkDeg deg) (hd : OkDeg ds) (hm : ImgOf deg ds (tms ms)) {W : Int} (hf : HomF deg W f) (hW : W ≤ 13) (h : ∀ out, HomF ds W out → (∀ x, coT out x % 10007 = ApC ds (tms ms) deg.length f x % 10007) → K ⟨out⟩) : Zd3 ds ms ⟨f⟩ K := by
  have lf:=Zbv hg hW hf.can hf.hom
  unfold Zd3
  refine Jd (fun (s:List Term×Int)=>0≤s.2∧s.2≤f.length∧HomF ds W s.1∧∀ x,coT s.1 x % 10007=ApC ds (tms ms) deg.length (f.take s.2.toNat) x % 10007) (fun s=>(f.length - s.2.toNat)) ?_ ⟨by dsimp only; omega,by dsimp only; omega,⟨Canon.nil,fun t ht=>by cases ht⟩,fun x=>rfl⟩
  rintro ⟨l,j⟩ next ⟨g1,g2,g3,g4⟩ hnx
  dsimp only at g1 g2 g3 g4 hnx ⊢
  by_cases c:j < (f.length:Int)
  · have hj:j.toNat < f.length:=by omega
    have ht:=Xt hj
    refine Xi c ⟨⟨g1,c⟩,?_⟩
    refine Ztf hg hd hm (hf.hom _ ht) hW (hf.can.2 _ ht) ⟨g1,c⟩ fun own h1 h2=>?_
    have l1:=Zbv hd hW g3.can g3.hom
    have l2:=Zbv hd hW h1.can h1.hom
    refine Zfm g3.can h1.can (by omega) (by omega) (by omega) fun o2 ho=>?_
    rw [i64_in (j+1) (by omega)]
    refine hnx _ ⟨by dsimp only; omega,by dsimp only; omega,⟨ho.can,fun x hx=>?_⟩,fun x=>?_⟩ (by dsimp only; omega)
    · obtain ⟨y,hy | hy,e⟩:=ho.mo x hx
      · rw [← e]; exact g3.hom y hy
      · rw [← e]; exact h1.hom y hy
    · dsimp only
      have e1:=ho.cf x
      have e2:=g4 x
      have e3:=h2 x
      have e4:(j+1).toNat=j.toNat+1:=by omega
      have e5:ApC ds (tms ms) deg.length (f.take (j.toNat+1)) x=ApC ds (tms ms) deg.length (f.take j.toNat) x+(f.getD j.toNat Zt0).factor * coT (LdL ds (tms ms) (f.getD j.toNat Zt0).mono deg.length) x:=by
        rw [Zaa hj]; unfold ApC; rw [Zdp]; simp only [tot,ZLq]
      rw [e4,e5]
      omega
  · have e:j.toNat=f.length:=by omega
    rw [e,List.take_length] at g4
    exact Xn c (h l g3 g4)
end
end Go.Proofs.YtheenipahifleaaGreat
namespace Go.Proofs.YtheenipahifleaaGreat
open Go Vc
def Zab (m:List ZFd):Prop:=∀ i,i < m.length→FitT (m.getD i Zt0).terms∧(m.getD i Zt0).terms.length≤1048576
def AssignOk (a b:Alg) (m:List ZFd):Prop:=m.length=a.degrees.length∧∀ i,i < m.length→OkForm b.degrees (m.getD i Zt0).terms∧Hom b.degrees (m.getD i Zt0).terms (a.degrees.getD i Zt0)
theorem Zje {ds : List Int} {w : Int} {f : List Term} (of : OkForm ds f) (ff : FitT f) (hh : Hom ds f w) : HomF ds w f := ⟨of.canon, fun t ht => by
  obtain ⟨i,hi,e⟩:=Zuf ht
  have h1:=hh i hi
  rw [show f.getD i Zt0=t by simp [Zt7,hi,e]] at h1
  have hp:=ff.pos t ht
  exact ⟨fun i hi => (hp i hi).1, fun i hi o => by
    by_cases h8:i < 8
    · exact((of.mono ht i h8).1 hi).2 o
    · have:t.mono.get i=0:=by
        match i,h8 with
        | n+8,_=>rfl
      omega,fun i hi hl=>(of.mono ht i hi).2 hl,h1⟩⟩
def DC (b:Alg) (f:List Term) (x:A8):Int:=tot (fun t=>dT b.degrees (imgsT b) t.mono t.factor x) f
def KeepsOk (a b:Alg) (m:List ZFd):Prop:=∀ i,i < m.length→∀ x,ApC b.degrees (tms m) a.degrees.length (a.images.getD i Zt0).terms x % 10007=DC b (m.getD i Zt0).terms x % 10007
theorem Ztg {s:List (A8×Int)} (h:MapOk s) (h0:∀ x,co s x % 10007=0):s=[]:=by
  cases s with
  | nil=>rfl
  | cons q l =>
    have h1:=h0 q.1
    have hn:q.1∉l.map Prod.fst:=(List.nodup_cons.1 h.1).1
    rw [J5,if_pos rfl,Zbb fun t ht e=>hn (List.mem_map.2 ⟨t,ht,e⟩)] at h1
    have:=h.2 q (by simp)
    omega
theorem Zth {s t:List (A8×Int)} {K:Bool→Prop} (hs:MapOk s) (ht:MapOk t) (h1:(∀ x,co s x % 10007=co t x % 10007)→K true) (h0:¬ (∀ x,co s x % 10007=co t x % 10007)→K false):Zfs s t K:=by
  unfold Zfs
  refine Zg9 MapOk.nil hs (by omega) fun o1 ho1=>Zg9 ho1.ok ht (by omega) fun o2 ho2=>?_
  have e:∀ x,co o2 x % 10007=(co s x+10006 * co t x) % 10007:=fun x=>by
    have e1:=ho1.cf x
    have e2:=ho2.cf x
    rw [Za9] at e1
    omega
  by_cases c:∀ x,co s x % 10007=co t x % 10007
  · have:o2=[]:=Ztg ho2.ok fun x=>by rw [e]; have:=c x; omega
    rw [this]; exact h1 c
  · have ne:¬ ((o2.length:Int)=0):=fun z=>c fun x=>by
      have hz:o2=[]:=List.eq_nil_of_length_eq_zero (by omega)
      have:=e x
      rw [hz,Za9] at this
      omega
    rw [decide_eq_false ne]; exact h0 c
section
variable {a b:Alg} {m:List ZFd}
theorem Zhp (ak:AssignOk a b m) (fm:Zab m):ImgOf a.degrees b.degrees (tms m):=⟨by rw [tms,List.length_map]; exact ak.1,fun i hi=>by
  rw [Zd7]
  have h1:=ak.2 i (by rw [ak.1]; exact hi)
  exact Zje h1.1 (fm i (by rw [ak.1]; exact hi)).1 h1.2⟩
theorem Zm7 (ok:OkAlg a) (hf:Jg a) {i:Nat} (hi:i < a.images.length):HomF a.degrees (a.degrees.getD i Zt0+1) (a.images.getD i Zt0).terms∧a.degrees.getD i Zt0+1≤13 :=
  ⟨Zje (ok.frm i hi) (hf i hi).1 (ok.hom i hi),by have:=(ok.deg.2 i (by rw [← ok.len]; exact hi)).2; omega⟩
theorem Zti {K : Bool → Prop} (oka : OkAlg a) (hfa : Jg a) (okb : OkAlg b) (hfb : Jg b) (ak : AssignOk a b m) (fm : Zab m) (h1 : KeepsOk a b m → K true) (h0 : ¬ KeepsOk a b m → K false) : Zft a b m K := by
  have hl:m.length=a.images.length:=by rw [ak.1,oka.len]
  have h8:=oka.deg.1
  unfold Zft
  refine Yr (fun i (s:List (List (A8×Int)))=>s.length=i∧∀ j,j < i→IsMap (m.getD j Zt0).terms (s.getD j [])) m.length ?_ ?_ _ _ _ (by omega) ⟨rfl,fun j hj=>by omega⟩
  · rintro i s next hi ⟨g1,g2⟩ hnx
    refine Zdx (ak.2 i hi).1.canon (fm i hi).1 fun r hr=>⟨by unfold X4; have:=ak.1; omega,hnx _ ⟨by simp [g1],fun j hj=>?_⟩⟩
    by_cases e:j < s.length
    · have:(s++[r]).getD j []=s.getD j []:=by simp only [Zt7]; rw [List.getElem?_append_left e]
      rw [this]; exact g2 j (by omega)
    · obtain rfl:j=i:=by omega
      have:(s++[r]).getD j []=r:=by rw [← g1]; simp [Zt7]
      rw [this]; exact hr
  · rintro imgs ⟨g1,g2⟩
    have im:=Zhp ak fm
    have hm:MapOf a.degrees b.degrees (tms m) imgs:=⟨by rw [g1,ak.1],fun i hi=>by
      have q:=g2 i (by rw [ak.1]; exact hi)
      have f:=im.hom i hi
      rw [Zd7] at f
      exact⟨q.ok,fun z hz=>by
        obtain ⟨t,ht,e⟩:=q.ks z hz
        rw [← e]; exact f.hom t ht⟩,fun i hi x=>by rw [Zd7]; exact(g2 i (by rw [ak.1]; exact hi)).cf x⟩
    refine⟨Zct b.degrees a.degrees (tms m),?_⟩
    refine Yr (fun i (_:Unit)=>∀ j,j < i→∀ x,ApC b.degrees (tms m) a.degrees.length (a.images.getD j Zt0).terms x % 10007=DC b (m.getD j Zt0).terms x % 10007) a.images.length ?_ ?_ _ _ _ (by omega) (fun j hj=>by omega)
    · intro i _ next hi g hnx
      obtain ⟨sh,sw⟩:=Zm7 oka hfa hi
      have him:i < m.length:=by omega
      refine⟨by omega,Zdx sh.can (hfa i hi).1 fun r hr=>Zm5 oka.deg okb.deg hm sh hr sw fun r12 hw hco=>?_⟩
      refine m_d (okb.algF hfb) (g2 i him) (ak.2 i him).1 (fm i him).1 fun r13 hD=>?_
      have eD:∀ x,co r13 x % 10007=DC b (m.getD i Zt0).terms x % 10007:=fun x=>by
        rw [hD.cf,Zfn (g2 i him) (ak.2 i him).1.canon (fun y n=>dT b.degrees (imgsT b) y n x) (fun y=>Zi5 _ _ y x)]; rfl
      refine Zth hw.ok hD.ok (fun c=>Xn (by decide) (hnx _ fun j hj x=>?_)) fun c=>Xi (by decide) (h0 fun z=>c fun x=>by rw [hco,eD]; exact z i him x)
      by_cases e:j=i
      · subst e
        rw [← hco,← eD]; exact c x
      · exact g j (by omega) x
    · intro _ g
      exact h1 fun i hi x=>g i (by omega) x
theorem Ztj {K : Bool → Prop} (okb : OkAlg b) (hda : a.degrees.length ≤ 8) (fm : Zab m) (h1 : AssignOk a b m → K true) (h0 : ¬ AssignOk a b m → K false) : Zfr a.degrees b.degrees m K := by
  unfold Zfr
  by_cases hl:m.length=a.degrees.length
  · refine Xn (by omega) ?_
    refine Yr (fun i (_:Unit)=>∀ j,j < i→OkForm b.degrees (m.getD j Zt0).terms∧Hom b.degrees (m.getD j Zt0).terms (a.degrees.getD j Zt0)) m.length ?_ ?_ _ _ _ (by omega) (fun j hj=>by omega)
    · intro i _ next hi g hnx
      refine Zly (l:=(m.getD i Zt0).terms) okb.deg (fm i hi).1 ?_
      by_cases c:OkForm b.degrees (m.getD i Zt0).terms
      · rw [decide_eq_true c]
        refine Xn (by decide) ⟨by omega,Zmc (l:=(m.getD i Zt0).terms) okb.deg (fm i hi).1 ?_⟩
        by_cases d:Hom b.degrees (m.getD i Zt0).terms (a.degrees.getD i Zt0)
        · rw [decide_eq_true d]
          refine Xn (by decide) (hnx _ fun j hj=>?_)
          by_cases e:j=i
          · subst e; exact⟨c,d⟩
          · exact g j (by omega)
        · rw [decide_eq_false d]
          exact Xi (by decide) (h0 fun z=>d (z.2 i hi).2)
      · rw [decide_eq_false c]
        exact Xi (by decide) (h0 fun z=>c (z.2 i hi).1)
    · intro _ g; exact h1 ⟨hl,g⟩
  · exact Xi (by omega) (h0 fun z=>hl z.1)
theorem Ztk {K:Bool→Prop} (oka:OkAlg a) (hfa:Jg a) (okb:OkAlg b) (hfb:Jg b) (fm:Zab m) (h1:AssignOk a b m→KeepsOk a b m→K true) (h0:¬ (AssignOk a b m∧KeepsOk a b m)→K false):Zfu a b m K:=by
  unfold Zfu
  exact Ztj okb oka.deg.1 fm (fun ak=>Xi rfl (Zti oka hfa okb hfb ak fm (h1 ak) fun z=>h0 fun q=>z q.2)) fun z=>Xn (by decide) (h0 fun q=>z q.1)
end
end Go.Proofs.YtheenipahifleaaGreat
namespace Go.Proofs.YtheenipahifleaaGreat
open Go Vc
theorem Ztl {l:List Term} (hc:Canon l) (h0:∀ x,coT l x % 10007=0):l=[]:=by
  cases l with
  | nil=>rfl
  | cons t l =>
    have h1:=h0 t.mono
    rw [Za8,if_pos rfl,Zdq fun s hs e=>by have:=hc.head s hs; rw [e] at this; exact absurd this (by rw [Zlg]; omega)] at h1
    have:=hc.2 t (by simp)
    omega
theorem Zm8 {a b : Alg} {m : List ZFd} {K : Bool → Prop} (fa : Jg a) (fb : Jg b) (fm : Zab m) (h1 : OkAlg a → OkAlg b → AssignOk a b m → KeepsOk a b m → K true) (h0 : ¬ (OkAlg a ∧ OkAlg b ∧ AssignOk a b m ∧ KeepsOk a b m) → K false) : Zd4 a b m K := by
  unfold Zd4
  refine Zme fa (fun oka=>Xn (by decide) ?_) fun z=>Xi (by decide) (h0 fun q=>z q.1)
  refine Zme fb (fun okb=>Xn (by decide) ?_) fun z=>Xi (by decide) (h0 fun q=>z q.2.1)
  have h8:=oka.deg.1
  by_cases hl:m.length=a.degrees.length
  · refine Xn (by omega) ?_
    refine Yr (fun i (_:Unit)=>∀ j,j < i→OkForm b.degrees (m.getD j Zt0).terms∧Hom b.degrees (m.getD j Zt0).terms (a.degrees.getD j Zt0)) m.length ?_ ?_ _ _ _ (by omega) (fun j hj=>by omega)
    · intro i _ next hi g hnx
      refine Zi1 (l:=(m.getD i Zt0).terms) okb.deg.1 (fm i hi).1.pos (by have:=(fm i hi).2; omega) ?_
      by_cases c:OkForm b.degrees (m.getD i Zt0).terms
      · rw [decide_eq_true c]
        refine Xn (by decide) ?_
        have yes:Hom b.degrees (m.getD i Zt0).terms (a.degrees.getD i Zt0)→next ():=fun d=>hnx _ fun j hj=>by
          by_cases e:j=i
          · subst e; exact⟨c,d⟩
          · exact g j (by omega)
        refine Zmd (l:=(m.getD i Zt0).terms) okb.deg (fm i hi).1.pos (by have:=(fm i hi).2; omega) (fun e=>?_) (fun e hh=>?_) fun hno=>?_
        · refine Xn (by decide) (Xn (by omega) (yes fun j hj=>by omega))
        · refine Xn (by decide) (Xi (by omega) ⟨by omega,?_⟩)
          by_cases d:wtU b.degrees ((m.getD i Zt0).terms.getD 0 Zt0).mono b.degrees.length=a.degrees.getD i Zt0
          · exact Xn (fun q=>q d) (yes (d ▸ hh))
          · exact Xi d (h0 fun z=>d ((z.2.2.1.2 i hi).2 0 e))
        · exact Xi (by decide) (h0 fun z=>hno _ (z.2.2.1.2 i hi).2)
      · rw [decide_eq_false c]
        exact Xi (by decide) (h0 fun z=>c (z.2.2.1.2 i hi).1)
    · intro _ g
      have ak:AssignOk a b m:=⟨hl,g⟩
      have im:=Zhp ak fm
      refine Yr (fun i (_:Unit)=>∀ j,j < i→∀ x,ApC b.degrees (tms m) a.degrees.length (a.images.getD j Zt0).terms x % 10007=DC b (m.getD j Zt0).terms x % 10007) m.length ?_ ?_ _ _ _ (by omega) (fun j hj=>by omega)
      · intro i _ next hi g hnx
        have hl2:=oka.len
        obtain ⟨sh,sw⟩:=Zm7 oka fa (i:=i) (by omega)
        refine⟨by omega,Zm6 (f:=(a.images.getD i Zt0).terms) oka.deg okb.deg im sh sw fun out hw hco=>?_⟩
        refine Zmb (f:=(m.getD i Zt0).terms) (okb.algF fb) (ak.2 i hi).1 (fm i hi).1 fun o2 hD l2=>?_
        have l1:=Zbv okb.deg sw hw.can hw.hom
        refine Zfm hw.can hD.can (by omega) (by omega) (by omega) fun o3 ho=>?_
        have e3:∀ x,coT o3 x % 10007=(ApC b.degrees (tms m) a.degrees.length (a.images.getD i Zt0).terms x+10006 * DC b (m.getD i Zt0).terms x) % 10007:=fun x=>by
          have e1:=ho.cf x
          have e2:=hco x
          have e4:=hD.cf x
          unfold DC
          omega
        by_cases c:o3=[]
        · subst c
          refine Xn (by simp) (hnx _ fun j hj x=>?_)
          by_cases e:j=i
          · subst e
            have:=e3 x
            rw [Zbr] at this
            omega
          · exact g j (by omega) x
        · have:0 < o3.length:=List.length_pos_iff.2 c
          exact Xi (by dsimp only; omega) (h0 fun z=>c (Ztl ho.can fun x=>by
            have q:=z.2.2.2 i hi x
            rw [e3]; omega))
      · intro _ g
        exact h1 oka okb ak fun i hi x=>g i hi x
  · exact Xi (by omega) (h0 fun z=>hl z.2.2.1.1)
end Go.Proofs.YtheenipahifleaaGreat
namespace Go.Proofs.YtheenipahifleaaGreat
open Go Vc
def Big (n:Nat):Prop:=n < 9223372036854775808
structure LenAlg (a:Alg):Prop where
  deg:Big a.degrees.length
  img:Big a.images.length
  trm:∀ f,f∈a.images→Big f.terms.length
theorem Zjf {x:Alg} {u v:Value} {fp:List Nat} {w:World} (h:TAlg.rep x [u,v] fp w):LenAlg x:=by
  have h1:=Y0 (Zee h).1
  have h2:=Y0 (Zee h).2
  refine⟨by unfold Big; omega,by unfold Big; omega,fun f hf=>?_⟩
  obtain ⟨i,hi,rfl⟩:=Zuf hf
  obtain ⟨A,c,hv,cs,hl,hc,hr⟩:=Zcx (Zee h).2 i hi
  obtain ⟨z,rfl⟩:=ZF7.1 (show cs.length=1 from hl)
  have h3:=Y0 (Yn hr)
  unfold Big; omega
theorem Ztm {f:ZFd} {n:Int} {K:Int→Prop} (hl:Big f.terms.length) (hn:0≤n∧n≤1048576) (h1:(f.terms.length:Int)≤n→K (n - f.terms.length)) (h2:∀ r,r < 0→K r):Zdt f n K:=Zrt (by unfold Big at hl; omega) hn h1 h2
theorem Zjg {l:List ZFd} {n:Int} {K:Int→Prop} (hl:Big l.length) (ht:∀ f,f∈l→Big f.terms.length) (hn:0≤n∧n≤1048576) (h1:∀ r,0≤r→r≤n→(l.length:Int)≤n→(∀ i,i < l.length→(l.getD i Zt0).terms.length≤1048576)→K r) (h2:∀ r,r < 0→K r):Zck l n K:=by
  unfold Zck
  unfold Big at hl
  rw [i64_in _ (by omega)]
  split
  · exact h2 _ (by omega)
  · rename_i q
    refine Yr (fun i (s:Int)=>0≤s∧s≤n∧∀ j,j < i→(l.getD j Zt0).terms.length≤1048576) l.length ?_ ?_ _ _ _ (by omega) ⟨by omega,by omega,by intro j hj; omega⟩
    · intro i s next hi ⟨g1,g2,g3⟩ hn'
      refine Ztm (ht _ (Xt hi)) (by omega) (fun hle=>?_) (fun r hr=>by rw [if_pos hr]; exact h2 _ (by omega))
      rw [if_neg (by omega)]
      refine hn' _ ⟨by omega,by omega,fun j hj=>?_⟩
      by_cases e:j=i
      · subst e; omega
      · exact g3 j (by omega)
    · intro s ⟨g1,g2,g3⟩
      exact h1 s g1 g2 (by omega) g3
theorem Zbe {l:List ZFd} {K:List ZFd→Prop} (hl:l.length≤1048576) (ht:∀ i,i < l.length→(l.getD i Zt0).terms.length≤1048576) (h:K l):Jz l K:=by
  unfold Jz
  refine⟨by omega,?_⟩
  refine Yr (fun i (s:List ZFd)=>s.length=l.length∧∀ j,j < i→s.getD j Zt0=l.getD j Zt0) l.length ?_ ?_ _ _ _ (by omega) ⟨by simp,by intro j hj; omega⟩
  · intro i s next hi ⟨h1,h2⟩ hn
    refine Zrs (ht i hi) ⟨by omega,hn _ ⟨by simpa using h1,fun j hj=>?_⟩⟩
    rw [Zbt (by omega)]
    by_cases e:j=i
    · rw [if_pos e,e]
    · rw [if_neg e]; exact h2 j (by omega)
  · intro s ⟨h1,h2⟩
    have:s=l:=List.ext_getElem h1 fun j hj hj'=>by have:=h2 j (by omega); simpa [Zt7,hj,hj'] using this
    rw [this]; exact h
theorem Zai {a:Alg} {K:Alg→Prop} (h1:a.degrees.length≤1048576) (h2:a.images.length≤1048576) (h3:∀ i,i < a.images.length→(a.images.getD i Zt0).terms.length≤1048576) (h:K a):Jf a K:=by
  unfold Jf
  exact Zqm h1 (Zbe h2 h3 h)
theorem Zjh {a:Alg} {K:Bool→Prop} (h:K true):Zbs a a K:=Zro (by simpa using h)
def GoodAlg (a:Alg):Prop:=(∀ x,x∈a.degrees→Fit .i64 x)∧∀ f,f∈a.images→∀ t,t∈f.terms→Jp .u8 t.mono∧Fit .i64 t.factor
theorem GoodAlg.fit {a:Alg} (h:GoodAlg a) (h3:∀ i,i < a.images.length→(a.images.getD i Zt0).terms.length≤1048576):Jg a:=fun i hi=>⟨fun t ht=>(h.2 _ (Xt hi) t ht).1,h3 i hi⟩
end Go.Proofs.YtheenipahifleaaGreat
namespace Go.Proofs.YtheenipahifleaaGreat
open Go Vc
def cnt (fs:List ZFd):Nat:=(fs.map (fun f=>f.terms.length)).sum
theorem Ztn {fs : List ZFd} {m : Int} {K : Int → List ZFd → Prop} (hm : 0 ≤ m ∧ m + 9 * cnt fs ≤ 4611686018427387904) (h : ∀ x' n, 0 ≤ n → n ≤ m + 9 * cnt fs → (∀ K' : Int → Prop, K' n → Zdu x' m K') → K n x') (hl : fs.length ≤ 1000000) : Za1 fs m K := by
  unfold Za1
  let part (i:Nat):Int:=m+9 * cnt (fs.take i)
  have hp0:part 0=m:=by simp [part,cnt]
  have hps:∀ i,i < fs.length→part (i+1)=part i+9 * (fs.getD i Zt0).terms.length:=by
    intro i hi
    simp only [part,cnt,List.take_add_one,List.getElem?_eq_getElem hi,ZQk,ZPi,ZPj,Zu1,List.map_nil,ZPt,List.sum_nil,Zt7,Zwo]
    omega
  have hpl:part fs.length=m+9 * cnt fs:=by simp [part]
  have hmono:∀ i,i≤fs.length→m≤part i∧part i≤m+9 * cnt fs:=by
    intro i hi
    have:cnt fs=cnt (fs.take i)+cnt (fs.drop i):=by
      unfold cnt; rw [← ZPj,← ZPi,Zxr]
    simp only [part]; omega
  refine Jd (fun (s:List ZFd×Int×Int)=>s.1.length=fs.length∧(0≤s.2.2∧s.2.2≤fs.length)∧s.2.1=part s.2.2.toNat∧(∀ j:Nat,(j:Int) < s.2.2→(s.1.getD j Zt0).terms.length=(fs.getD j Zt0).terms.length∧∀ q,q < (s.1.getD j Zt0).terms.length→Zfo ((s.1.getD j Zt0).terms.getD q Zt0) (part j+9 * q))∧∀ j:Nat,s.2.2≤(j:Int)→s.1.getD j Zt0=fs.getD j Zt0) (fun s=>fs.length - s.2.2.toNat) ?_ ⟨rfl,by dsimp only; omega,by dsimp only; exact hp0.symm,by intro j hj; dsimp only at hj; omega,fun _ _=>rfl⟩
  rintro ⟨x,c,i⟩ next ⟨h1,h2,h3,h4,h5⟩ hn
  dsimp only at h1 h2 h3 h4 h5 ⊢
  split
  · rename_i hi
    refine⟨by omega,?_⟩
    have hin:i.toNat < fs.length:=by omega
    have hxi:x.getD i.toNat Zt0=fs.getD i.toNat Zt0:=h5 _ (by omega)
    have hs:=hps i.toNat hin
    have hb:=hmono (i.toNat+1) (by omega)
    have hb0:=hmono i.toNat (by omega)
    rw [hxi]
    refine Zl7 (by rw [h3]; omega) fun y hy ht=>?_
    rw [i64_in (i+1) (by omega)]
    refine hn _ ⟨by simpa using h1,by dsimp only; omega,by dsimp only; rw [show (i+1).toNat=i.toNat+1 by omega,hs,h3],fun j hj=>?_,fun j hj=>?_⟩ (by dsimp only; omega)
    · dsimp only at hj ⊢
      rw [Zbt (by omega)]
      split
      · rename_i e
        subst e
        refine⟨hy,fun q hq=>?_⟩
        have:=ht q hq
        rwa [h3] at this
      · exact h4 j (by omega)
    · dsimp only at hj ⊢
      rw [Zbt (by omega),if_neg (by omega)]
      exact h5 j (by omega)
  · rename_i hi
    have hie:i.toNat=fs.length:=by omega
    have hc:c=part fs.length:=by rw [h3,hie]
    have hb:=hmono fs.length (Ztz _)
    rw [hc]
    refine h x _ (by omega) hb.2 fun K' hK'=>?_
    unfold Zdu
    refine Yr (fun j (s:Int)=>s=part j) x.length ?_ ?_ _ _ _ (by omega) hp0.symm
    · intro j s next hj hs hn'
      obtain ⟨g1,g2⟩:=h4 j (by omega)
      have hsj:=hps j (by omega)
      have hb1:=hmono (j+1) (by omega)
      have hb0:=hmono j (by omega)
      refine Zrp (by rw [hs,g1]; omega) (fun q hq=>by rw [hs]; exact g2 q hq) ?_
      rw [if_neg (by rw [hs,g1]; omega)]
      exact hn' _ (by rw [hs,g1,hsj])
    · intro s hs
      rw [hs,h1]; exact hK'
theorem Zto {l:List Int} {m:Int} {K:Int→List Int→Prop} (hm:0≤m∧m+l.length≤4611686018427387904) (h:∀ x',K (m+l.length) x'):Zfl l m K:=by
  unfold Zfl
  refine Jd (fun (s:List Int×Int×Int)=>s.1.length=l.length∧(0≤s.2.2∧s.2.2≤l.length)∧s.2.1=m+s.2.2) (fun s=>l.length - s.2.2.toNat) ?_ ⟨rfl,by dsimp only; omega,by simp⟩
  rintro ⟨x,c,i⟩ next ⟨h1,h2,h3⟩ hn
  dsimp only at h1 h2 h3 ⊢
  split
  · rename_i hi
    refine⟨by omega,?_⟩
    rw [i64_in (c+1) (by omega),i64_in (i+1) (by omega)]
    exact hn _ ⟨by simpa using h1,by dsimp only; omega,by dsimp only; omega⟩ (by dsimp only; omega)
  · rename_i hi
    have hc:c=m+l.length:=by omega
    rw [hc]
    exact h x
theorem Zhq {fs:List ZFd} {B:Nat} (h:∀ i,i < fs.length→(fs.getD i Zt0).terms.length≤B):cnt fs≤fs.length * B:=by
  induction fs with
  | nil=>simp [cnt]
  | cons f fs ih =>
    have h0:=h 0 (by simp)
    have h1:=ih fun i hi=>by have:=h (i+1) (by simpa using hi); simpa using this
    simp only [List.getD_cons_zero] at h0
    simp only [cnt,Zu1,ZPt,List.length_cons,Nat.add_mul,Nat.one_mul] at h1 ⊢
    omega
theorem Zji {fs:List ZFd} {m:Int} {K:Int→List ZFd→Prop} (hm:0≤m∧m+9 * cnt fs≤4611686018427387904) (h:∀ x' n,0≤n→n≤m+9 * cnt fs→K n x') (hl:fs.length≤1048576):Za1 fs m K:=by
  unfold Za1
  let part (i:Nat):Int:=m+9 * cnt (fs.take i)
  have hp0:part 0=m:=by simp [part,cnt]
  have hps:∀ i,i < fs.length→part (i+1)=part i+9 * (fs.getD i Zt0).terms.length:=by
    intro i hi
    simp only [part,cnt,List.take_add_one,List.getElem?_eq_getElem hi,ZQk,ZPi,ZPj,Zu1,List.map_nil,ZPt,List.sum_nil,Zt7,Zwo]
    omega
  have hpl:part fs.length=m+9 * cnt fs:=by simp [part]
  have hmono:∀ i,i≤fs.length→m≤part i∧part i≤m+9 * cnt fs:=by
    intro i hi
    have:cnt fs=cnt (fs.take i)+cnt (fs.drop i):=by
      unfold cnt; rw [← ZPj,← ZPi,Zxr]
    simp only [part]; omega
  refine Jd (fun (s:List ZFd×Int×Int)=>s.1.length=fs.length∧(0≤s.2.2∧s.2.2≤fs.length)∧s.2.1=part s.2.2.toNat∧∀ j:Nat,s.2.2≤(j:Int)→s.1.getD j Zt0=fs.getD j Zt0) (fun s=>fs.length - s.2.2.toNat) ?_ ⟨rfl,by dsimp only; omega,by dsimp only; exact hp0.symm,fun _ _=>rfl⟩
  rintro ⟨x,c,i⟩ next ⟨h1,h2,h3,h5⟩ hn
  dsimp only at h1 h2 h3 h5 ⊢
  split
  · rename_i hi
    refine⟨by omega,?_⟩
    have hin:i.toNat < fs.length:=by omega
    have hxi:x.getD i.toNat Zt0=fs.getD i.toNat Zt0:=h5 _ (by omega)
    have hs:=hps i.toNat hin
    have hb:=hmono (i.toNat+1) (by omega)
    have hb0:=hmono i.toNat (by omega)
    rw [hxi]
    refine Zl7 (by rw [h3]; omega) fun y hy ht=>?_
    rw [i64_in (i+1) (by omega)]
    refine hn _ ⟨by simpa using h1,by dsimp only; omega,by dsimp only; rw [show (i+1).toNat=i.toNat+1 by omega,hs,h3],fun j hj=>?_⟩ (by dsimp only; omega)
    · dsimp only at hj ⊢
      rw [Zbt (by omega),if_neg (by omega)]
      exact h5 j (by omega)
  · rename_i hi
    have hie:i.toNat=fs.length:=by omega
    have hc:c=part fs.length:=by rw [h3,hie]
    have hb:=hmono fs.length (Ztz _)
    rw [hc]
    exact h x _ (by omega) hb.2
theorem Zjj {a:Alg} {m:Int} {K:Int→Alg→Prop} (hm:0≤m∧m≤100000000000000000) (h1:a.degrees.length≤1048576) (h2:a.images.length≤1048576) (h3:∀ i,i < a.images.length→(a.images.getD i Zt0).terms.length≤1048576) (h:∀ x' n,0≤n→n≤m+10000000000000→K n x'):Zcm a m K:=by
  unfold Zcm
  have hc:=Zhq h3
  have hc2:a.images.length * 1048576≤1048576 * 1048576:=Zwk _ h2
  refine Zto (by omega) fun d=>?_
  exact Zji (by omega) (fun fs n h0 hn=>h _ n h0 (by omega)) (by omega)
theorem Zjk {a:Alg} {n:Int} {K:Int→Prop} (hn:0≤n∧n≤1048576) (hb:LenAlg a) (h1:∀ r,0≤r→r≤n→a.degrees.length≤1048576→a.images.length≤1048576→(∀ i,i < a.images.length→(a.images.getD i Zt0).terms.length≤1048576)→K r) (h2:∀ r,r < 0→K r):Zcl a n K:=by
  unfold Zcl Zg4
  have hd:=hb.deg
  unfold Big at hd
  rw [i64_in _ (by omega)]
  split
  · dsimp only; rw [if_pos (by omega)]; exact h2 _ (by omega)
  · dsimp only; rw [if_neg (by omega)]
    refine Zjg hb.img hb.trm (by omega) (fun r g1 g2 g3 g4=>?_) (fun r hr=>by rw [if_pos hr]; exact h2 _ (by omega))
    rw [if_neg (by omega)]
    exact h1 r g1 (by omega) (by omega) (by omega) g4
theorem Zm9 {xs:List ZFd} {v:Value} {fp:List Nat} {w:World} (h:ZFv.sl.rep xs [v] fp w):Big xs.length∧∀ f,f∈xs→Big f.terms.length:=by
  refine⟨Nat.lt_succ_of_le (Y0 h),fun f hf=>?_⟩
  obtain ⟨i,hi,rfl⟩:=Zuf hf
  obtain ⟨A,c,hv,cs,hl,hc,hr⟩:=Zcx h i hi
  obtain ⟨u,rfl⟩:=ZF7.1 (show cs.length=1 from hl)
  exact Nat.lt_succ_of_le (Y0 (Yn hr))
theorem Zfv {l:List ZFd} {K:Bool→Prop} (h:K true):Zay l l K:=Zl6 (by simpa using h)
end Go.Proofs.YtheenipahifleaaGreat
namespace Go.Proofs.YtheenipahifleaaGreat
open Go Vc
def IsCm (a b c:Alg) (m q:List ZFd) (i:Nat) (g:List Term):Prop:=HomF c.degrees (a.degrees.getD i Zt0) g∧∀ x,coT g x % 10007=ApC c.degrees (tms q) b.degrees.length (m.getD i Zt0).terms x % 10007
structure BothOk (a b c:Alg) (m q:List ZFd):Prop where
  oka:OkAlg a
  okb:OkAlg b
  okc:OkAlg c
  am:AssignOk a b m
  km:KeepsOk a b m
  aq:AssignOk b c q
  kq:KeepsOk b c q
def CmRes (a b c:Alg) (m q:List ZFd) (l:List ZFd) (n:Int):Prop :=
  (¬ BothOk a b c m q∧l=[]∧n=1)∨(BothOk a b c m q∧l.length=m.length∧(∀ i,i < m.length→IsCm a b c m q i (l.getD i Zt0).terms∧(l.getD i Zt0).terms.length≤400)∧n=0)∨(BothOk a b c m q∧(∃ i g,i < m.length∧IsCm a b c m q i g∧400 < g.length)∧l=[]∧n=3)
section
variable {a b c:Alg} {m q:List ZFd}
theorem IsCm.unique {i:Nat} {g h:List Term} (hg:IsCm a b c m q i g) (hh:IsCm a b c m q i h):g=h:=Zll hg.1.can hh.1.can fun x=>by rw [hg.2,hh.2]
theorem CmRes.unique {l l':List ZFd} {n n':Int} (h:CmRes a b c m q l n) (h':CmRes a b c m q l' n'):l=l'∧n=n':=by
  rcases h with ⟨p,rfl,rfl⟩ | ⟨p,e,r,rfl⟩ | ⟨p,⟨i,g,r1,r2,r3⟩,rfl,rfl⟩ <;> rcases h' with ⟨p',rfl,rfl⟩ | ⟨p',e',r',rfl⟩ | ⟨p',⟨i',g',r1',r2',r3'⟩,rfl,rfl⟩
  · exact⟨rfl,rfl⟩
  · exact absurd p' p
  · exact absurd p' p
  · exact absurd p p'
  · refine⟨List.ext_getElem (by omega) fun j hj hj'=>?_,rfl⟩
    have:=(r j (by omega)).1.unique (r' j (by omega)).1
    simp only [Zt7,List.getElem?_eq_getElem hj,List.getElem?_eq_getElem hj',Zwo] at this
    exact congrArg Vc.Form.mk this
  · exfalso
    have:=(r i' r1').1.unique r2'
    have:=(r i' r1').2
    simp_all
    omega
  · exact absurd p p'
  · exfalso
    have:=(r' i r1).1.unique r2
    have:=(r' i r1).2
    simp_all
    omega
  · exact⟨rfl,rfl⟩
theorem CmRes.small {l:List ZFd} {n:Int} (h:CmRes a b c m q l n):l.length≤8∧cnt l≤3200:=by
  rcases h with ⟨_,rfl,_⟩ | ⟨p,e,r,_⟩ | ⟨_,_,rfl,_⟩
  · simp [cnt]
  · have h8:=p.oka.deg.1
    have:=p.am.1
    have hl:l.length≤8:=by omega
    have:=Zhq (fs:=l) (B:=400) fun i hi=>(r i (by omega)).2
    have:l.length * 400≤8 * 400:=Zwk _ hl
    omega
  · simp [cnt]
theorem Ztp {ds:List Int} {w:Int} {g:List Term} (hd:OkDeg ds) (hg:HomF ds w g) (hw:w≤13):OkForm ds g↔g.length≤400:=by
  refine⟨fun h=>h.1,fun h=>⟨h,fun i hi=>⟨?_,hg.can.at_range hi,fun h0=>?_⟩⟩⟩
  · have hm:=hg.hom _ (Xt hi)
    intro j hj
    have:=hm.six hd hw hj
    exact⟨fun hl=>⟨by omega,hm.odd j hl⟩,hm.out j hj⟩
  · have:=List.pairwise_iff_getElem.1 hg.can.1 (i - 1) i (by omega) hi (by omega)
    simp only [Zt7,List.getElem?_eq_getElem hi,List.getElem?_eq_getElem (show i - 1 < g.length by omega),Zwo]
    exact this
theorem Zjl (B:BothOk a b c m q) (fm:Zab m) {i:Nat} (hi:i < m.length):HomF b.degrees (a.degrees.getD i Zt0) (m.getD i Zt0).terms∧a.degrees.getD i Zt0≤13:=by
  have h1:=B.am.2 i hi
  have:=(B.oka.deg.2 i (by rw [← B.am.1]; exact hi)).2
  exact⟨Zje h1.1 (fm i hi).1 h1.2,by omega⟩
theorem Ztq {K : List ZFd → Int → Prop} (fa : Jg a) (fb : Jg b) (fc : Jg c) (fm : Zab m) (fq : Zab q) (h : ∀ l n, CmRes a b c m q l n → K l n) : Zd5 a b c m q K := by
  unfold Zd5
  refine Zm8 fa fb fm (fun oka okb am km=>Xn (by decide) ?_) fun z=>Xi (by decide) (h _ _ (.inl ⟨fun B=>z ⟨B.oka,B.okb,B.am,B.km⟩,rfl,rfl⟩))
  refine Zm8 fb fc fq (fun _ okc aq kq=>Xn (by decide) ?_) fun z=>Xi (by decide) (h _ _ (.inl ⟨fun B=>z ⟨B.okb,B.okc,B.aq,B.kq⟩,rfl,rfl⟩))
  have B:BothOk a b c m q:=⟨oka,okb,okc,am,km,aq,kq⟩
  have h8:=oka.deg.1
  have hl:=am.1
  have im:=Zhp aq fq
  refine Yr (fun i (s:List ZFd)=>s.length=i∧∀ j,j < i→IsCm a b c m q j (s.getD j Zt0).terms) m.length ?_ ?_ _ _ _ (by omega) ⟨rfl,fun j hj=>by omega⟩
  · rintro i s next hi ⟨g1,g2⟩ hnx
    obtain ⟨sh,sw⟩:=Zjl B fm hi
    refine Zm6 (f:=(m.getD i Zt0).terms) okb.deg okc.deg im sh sw fun out hw hco=>⟨by unfold X4; omega,hnx _ ⟨by simp [g1],fun j hj=>?_⟩⟩
    by_cases e:j < s.length
    · have:(s++[(⟨out⟩:ZFd)]).getD j Zt0=s.getD j Zt0:=by simp only [Zt7]; rw [List.getElem?_append_left e]
      rw [this]; exact g2 j (by omega)
    · obtain rfl:j=i:=by omega
      have:(s++[(⟨out⟩:ZFd)]).getD j Zt0=⟨out⟩:=by rw [← g1]; simp [Zt7]
      rw [this]; exact⟨hw,hco⟩
  · rintro l ⟨g1,g2⟩
    unfold Zhj
    refine Yr (fun i (_:Unit)=>∀ j,j < i→(l.getD j Zt0).terms.length≤400) l.length ?_ ?_ _ _ _ (by omega) (fun j hj=>by omega)
    · intro i _ next hi g hnx
      obtain ⟨k1,k2⟩:=g2 i (by omega)
      obtain ⟨sh,sw⟩:=Zjl B fm (i:=i) (by omega)
      have ln:=Zbv okc.deg sw k1.can k1.hom
      refine Zi1 (l:=(l.getD i Zt0).terms) okc.deg.1 (fun t ht j hj=>by have:=(k1.hom t ht).six okc.deg sw hj; omega) (by omega) ?_
      rw [decide_eq_decide.2 (Ztp okc.deg k1 sw)]
      by_cases d:(l.getD i Zt0).terms.length≤400
      · rw [decide_eq_true d]
        refine Xn (by decide) (hnx _ fun j hj=>?_)
        by_cases e:j=i
        · subst e; exact d
        · exact g j (by omega)
      · rw [decide_eq_false d]
        exact Xi (by decide) (h _ _ (.inr (.inr ⟨B,⟨i,_,by omega,⟨k1,k2⟩,by omega⟩,rfl,rfl⟩)))
    · intro _ g
      exact h _ _ (.inr (.inl ⟨B,g1,fun i hi=>⟨g2 i hi,g i (by omega)⟩,rfl⟩))
theorem Zjm {K:Int→Prop} (fa:Jg a) (fb:Jg b) (fm:Zab m) (h1:OkAlg a→OkAlg b→AssignOk a b m→KeepsOk a b m→K 0) (h0:¬ (OkAlg a∧OkAlg b∧AssignOk a b m∧KeepsOk a b m)→K 1):Zd6 a b m K:=by
  unfold Zd6 Zhk
  refine Zmf fa (fun oka=>Xi rfl ?_) fun z=>Xn (by decide) (Zhc (h0 fun q=>z q.1))
  refine Zmf fb (fun okb=>Xi rfl ?_) fun z=>Xn (by decide) (Zhc (h0 fun q=>z q.2.1))
  exact Ztk oka fa okb fb fm (fun p q=>Zhc (h1 oka okb p q)) fun z=>Zhc (h0 fun q=>z q.2.2)
theorem Zhr {r10 r18:Int} {K:Int→Prop} (h:K (if r10≠0 then r10 else r18)):Zfk [r10,r18] K:=by
  unfold Zfk
  by_cases c:r10=0
  · subst c
    by_cases d:r18=0
    · subst d; simpa [Yg] using h
    · simpa [Yg,d] using h
  · simpa [Yg,c] using h
theorem Ztr {K : List ZFd → Int → Prop} (fa : Jg a) (fb : Jg b) (fc : Jg c) (fm : Zab m) (fq : Zab q) (h : ∀ l n, CmRes a b c m q l n → K l n) : Zcs a b c m q K := by
  unfold Zcs
  refine Zjm fa fb fm (fun oka okb am km=>?_) fun z=>?_
  · refine Zjm fb fc fq (fun _ okc aq kq=>Zhr (Xn (by decide) ?_)) fun z=>Zhr (Xi (by decide) (h _ _ (.inl ⟨fun B=>z ⟨B.okb,B.okc,B.aq,B.kq⟩,rfl,rfl⟩)))
    have B:BothOk a b c m q:=⟨oka,okb,okc,am,km,aq,kq⟩
    have h8:=oka.deg.1
    have h8b:=okb.deg.1
    have hl:=am.1
    have hlq:=aq.1
    refine Yr (fun i (s:List (List (A8×Int)))=>s.length=i∧∀ j,j < i→IsMap (q.getD j Zt0).terms (s.getD j [])) q.length ?_ ?_ _ _ _ (by omega) ⟨rfl,fun j hj=>by omega⟩
    · rintro i s next hi ⟨g1,g2⟩ hnx
      refine Zdx (aq.2 i hi).1.canon (fq i hi).1 fun r hr=>⟨by unfold X4; omega,hnx _ ⟨by simp [g1],fun j hj=>?_⟩⟩
      by_cases e:j < s.length
      · have:(s++[r]).getD j []=s.getD j []:=by simp only [Zt7]; rw [List.getElem?_append_left e]
        rw [this]; exact g2 j (by omega)
      · obtain rfl:j=i:=by omega
        have:(s++[r]).getD j []=r:=by rw [← g1]; simp [Zt7]
        rw [this]; exact hr
    · rintro imgs ⟨g1,g2⟩
      have im:=Zhp aq fq
      have hm:MapOf b.degrees c.degrees (tms q) imgs:=⟨by rw [g1,aq.1],fun i hi=>by
        have r:=g2 i (by rw [aq.1]; exact hi)
        have f:=im.hom i hi
        rw [Zd7] at f
        exact⟨r.ok,fun z hz=>by
          obtain ⟨t,ht,e⟩:=r.ks z hz
          rw [← e]; exact f.hom t ht⟩,fun i hi x=>by rw [Zd7]; exact(g2 i (by rw [aq.1]; exact hi)).cf x⟩
      refine⟨Zct c.degrees b.degrees (tms q),?_⟩
      refine Yr (fun i (s:List ZFd)=>s.length=i∧∀ j,j < i→IsCm a b c m q j (s.getD j Zt0).terms∧(s.getD j Zt0).terms.length≤400) m.length ?_ ?_ _ _ _ (by omega) ⟨rfl,fun j hj=>by omega⟩
      · rintro i s next hi ⟨k1,k2⟩ hnx
        obtain ⟨sh,sw⟩:=Zjl B fm hi
        refine Zdx sh.can (fm i hi).1 fun r hr=>Zm5 okb.deg okc.deg hm sh hr sw fun r17 hw hco=>?_
        refine Zrg hw.ok (fun p hp x hx=>?_) fun l hc hcf hks=>?_
        · obtain ⟨j,hj,rfl⟩:=A8.mem_list.1 hx
          have:=(hw.hom p hp).six okc.deg sw hj; omega
        · have ic:IsCm a b c m q i l:=⟨⟨hc,fun t ht=>by
            obtain ⟨p,hp,e⟩:=hks t ht
            rw [← e]; exact hw.hom p hp⟩,fun x=>by rw [hcf]; exact hco x⟩
          by_cases d:l.length≤400
          · have:Zcn l=(⟨l⟩,0):=if_pos ⟨d,fun t ht j hj=>by have:=(ic.1.hom t ht).six okc.deg sw hj; omega⟩
            rw [this]
            refine Xn (fun z=>z rfl) ⟨by unfold X4; omega,hnx _ ⟨by simp [k1],fun j hj=>?_⟩⟩
            by_cases e:j < s.length
            · have:(s++[(⟨l⟩:ZFd)]).getD j Zt0=s.getD j Zt0:=by simp only [Zt7]; rw [List.getElem?_append_left e]
              rw [this]; exact k2 j (by omega)
            · obtain rfl:j=i:=by omega
              have:(s++[(⟨l⟩:ZFd)]).getD j Zt0=⟨l⟩:=by rw [← k1]; simp [Zt7]
              rw [this]; exact⟨ic,d⟩
          · have:Zcn l=(⟨[]⟩,3):=if_neg fun z=>d z.1
            rw [this]
            exact Xi (by decide) (h _ _ (.inr (.inr ⟨B,⟨i,l,hi,ic,by omega⟩,rfl,rfl⟩)))
      · rintro l ⟨k1,k2⟩
        exact h _ _ (.inr (.inl ⟨B,k1,k2,rfl⟩))
  · have bad:K [] 1:=h _ _ (.inl ⟨fun B=>z ⟨B.oka,B.okb,B.am,B.km⟩,rfl,rfl⟩)
    exact Zjm fb fc fq (fun _ _ _ _=>Zhr (Xi (by decide) bad)) fun _=>Zhr (Xi (by decide) bad)
end
end Go.Proofs.YtheenipahifleaaGreat
namespace Go.Proofs.YtheenipahifleaaGreat
open Go Vc
theorem Zts (a b c:Alg) (m q:List ZFd) (ga:GoodAlg a) (gb:GoodAlg b) (gc:GoodAlg c) (gm:∀ f,f∈m→∀ t,t∈f.terms→Jp .u8 t.mono∧Fit .i64 t.factor) (gq:∀ f,f∈q→∀ t,t∈f.terms→Jp .u8 t.mono∧Fit .i64 t.factor)
    (ba:LenAlg a) (bb:LenAlg b) (bc:LenAlg c) (bm:Big m.length∧∀ f,f∈m→Big f.terms.length) (bq:Big q.length∧∀ f,f∈q→Big f.terms.length):Zhl a b c m q (fun r=>r=true):=by
  unfold Zhl
  refine Zjk (by omega) ba (fun r hr hr2 d1 d2 d3=>?_) (fun r hr=>by rw [if_pos hr])
  rw [if_neg (by omega)]
  refine Zjk (by omega) bb (fun r' hr' hr2' e1 e2 e3=>?_) (fun r hr=>by rw [if_pos hr])
  rw [if_neg (by omega)]
  refine Zjk (by omega) bc (fun r4 hr4 hr24 h1 h2 h3=>?_) (fun r hr=>by rw [if_pos hr])
  rw [if_neg (by omega)]
  refine Zjg bm.1 bm.2 (by omega) (fun r5 q1 q2 q3 q4=>?_) (fun r hr=>by rw [if_pos hr])
  rw [if_neg (by omega)]
  refine Zjg bq.1 bq.2 (by omega) (fun r6 p1 p2 p3 p4=>?_) (fun r hr=>by rw [if_pos hr])
  rw [if_neg (by omega)]
  have lm:m.length≤1048576:=by omega
  have lq:q.length≤1048576:=by omega
  have fm:Zab m:=fun i hi=>⟨fun t ht=>(gm _ (Xt hi) t ht).1,q4 i hi⟩
  have fq:Zab q:=fun i hi=>⟨fun t ht=>(gq _ (Xt hi) t ht).1,p4 i hi⟩
  have fa:=ga.fit d3
  have fb:=gb.fit e3
  have fc:=gc.fit h3
  have all:∀ {K:Alg→Alg→Alg→List ZFd→List ZFd→Prop}, K a b c m q→Jf a (fun r32=>Jf b (fun r33=>Jf c (fun r34=>Jz m (fun r48=>Jz q (fun r49=>K r32 r33 r34 r48 r49))))):=fun h=>Zai d1 d2 d3 (Zai e1 e2 e3 (Zai h1 h2 h3 (Zbe lm q4 (Zbe lq p4 h))))
  refine all (K:=fun r18 r19 r20 r43 r44=>Zd5 ⟨r18.degrees,r18.images⟩ ⟨r19.degrees,r19.images⟩ ⟨r20.degrees,r20.images⟩ r43 r44 _) ?_
  refine Ztq (a:=a) (b:=b) (c:=c) fa fb fc fm fq fun l n R=>?_
  have him:∀ K:List ZFd→Int→Prop,K l n→Zcs a b c m q K:=fun K hK=>Ztr fa fb fc fm fq fun l' c' R'=>by
    obtain ⟨rfl,rfl⟩:=R'.unique R
    exact hK
  obtain ⟨s1,s2⟩:=R.small
  have cm:=Zhq q4
  have cm2:m.length * 1048576≤1048576 * 1048576:=Zwk _ lm
  have cq:=Zhq p4
  have cq2:q.length * 1048576≤1048576 * 1048576:=Zwk _ lq
  refine Zai (a:=a) d1 d2 d3 (Zai (a:=b) e1 e2 e3 (Zai (a:=c) h1 h2 h3 (Zbe lm q4 (Zbe lq p4 (him _ (Zfv (Zbu (Zhd ?_))))))))
  refine Zai (a:=a) d1 d2 d3 (Zjh (Zbu ?_))
  refine Zai (a:=b) e1 e2 e3 (Zjh (Zbu ?_))
  refine Zai (a:=c) h1 h2 h3 (Zjh (Zbu ?_))
  refine Zbe lm q4 (Zfv (Zbu ?_))
  refine Zbe lq p4 (Zfv (Zbu ?_))
  refine Zjj (by omega) d1 d2 d3 fun x0 n0 z1 z2=>?_
  refine Zjj (a:=⟨b.degrees,b.images⟩) (by omega) e1 e2 e3 fun x1 n1 y1 y2=>?_
  refine Zjj (a:=⟨c.degrees,c.images⟩) (by omega) h1 h2 h3 fun x2 n2 w1 w2=>?_
  refine Zji (by omega) (fun x3 n3 v1 v2=>?_) (by omega)
  refine Zji (by omega) (fun x4 n4 v3 v4=>?_) (by omega)
  refine Zi7 (by omega) (Zfv (Zbu ?_))
  refine Ztn (by omega) (fun x5 n5 u4 u5 hh=>?_) (by omega)
  refine hh _ (Zi7 (by omega) (Zhd ?_))
  refine Zai (a:=a) d1 d2 d3 (Zai (a:=b) e1 e2 e3 (Zai (a:=c) h1 h2 h3 (Zbe lm q4 (Zbe lq p4 (him _ (Zfv (Zbu (Zhd ?_))))))))
  exact hh _ (Zi7 (by omega) (Zhd rfl))
end Go.Proofs.YtheenipahifleaaGreat
