import Derived.Test.YtheenipahifleaaGreatQ4
set_option linter.unusedSectionVars false
set_option linter.unusedSimpArgs false
set_option linter.unusedVariables false
open Go renaming wp_seq→ZFx,wp_ret→ZF5,wp_skip→ZF0,wp_block→ZF3,wp_exit→ZGb
open Go.Instr renaming buildSlice→ZG4
open Go.IntKind renaming i64→Zw2,u8→ZF9
open Go.Proofs.Tryz renaming underlying28→ZGl,prog→ZFz,underlying22→ZGg,underlying32→ZGh,underlying55→ZF4,underlying53→ZF7,func49→ZP7,func50→ZP8,func9→ZP9,func18→ZQa,underlying95→ZQd,underlying90→ZGd,underlying88→ZGf,underlying97→ZMm
open Go.Value renaming ownBlock→Zva
open Inhabited renaming default→Zuo
open Int renaming natCast_nonneg→ZGe,ofNat_lt→ZGw,tmod→Zu9,one_mul→ZMs,toNat_natCast→ZP6,le_refl→ZMg,mul_le_mul_of_nonneg_right→ZNv,zero_mul→ZQj,add_zero→ZMe,mul_le_mul_of_nonneg_left→ZQ0
open List renaming mem_append→Zu1,mem_singleton→Zwb,toArray→ZFw,length_eq_one_iff→ZGv,getD→Zuv,mem_singleton_self→ZMc,map_append→ZQb,sum_append→ZQc,mem_cons→Zuk,not_mem_nil→Zwq,map_cons→Zvp,sum_cons→ZQk,take_append_drop→Zyf
open Nat renaming le_of_ble_eq_true→ZF6,le_refl→Zun
open Option renaming toList→ZGu,toList_some→ZQ8
open Vc renaming Form→ZF1,ETerm→ZFy,TForm→ZGj
open Vc.A8 renaming zero→ZF2,enc→ZFv
open Vc.Ctx renaming start→ZGi
open Vc.Kp renaming key→ZP5
open Vc.Tr renaming item→ZGc,sl→ZMb,trep→ZP3
open Vc.Ty renaming item→ZB9
set_option maxRecDepth 4000
set_option maxHeartbeats 4000000
namespace Go.Proofs.YtheenipahifleaaGreat
open Go Go.RowKit Vc
variable {b0 bp0 b1 bp1 b2 bp2 b3 bp3 b4 bp4 b5 bp5 b6 bp6 b7 bp7 mb0:Nat} {Dk0:List Kp} {Ek0:List (Nat×List (A8×Int))} {u0_0 u0_1 u0_2 u0_3 u0_4 u0_5 u1_0 u1_1 u1_2 u1_3 u1_4 u1_5 u2_0 u2_1 u2_2 u2_3 u2_4 u2_5 u3_0 u3_1 u3_2 u3_3 u3_4 u3_5 u4_0 u4_1 u4_2 u4_3 u4_4 u4_5 u5_0 u5_1 u5_2 u5_3 u5_4 u5_5 u6_0 u6_1 u6_2 u6_3 u6_4 u6_5 u7_0 u7_1 u7_2 u7_3 u7_4 u7_5:Value} {fp0 fp1 fp2 fp3 fp4 fp5 fp6 fp7 fp0_0 fp0_1 fp0_2 fp0_3 fp0_4 fp0_5 fp1_0 fp1_1 fp1_2 fp1_3 fp1_4 fp1_5 F0:List Nat}
theorem Zhk (w:World):(ZG4 28 0 #[]).run ZFz w=.ok (.slice (some ⟨w.heap.size,0,none⟩) 0 0) (w.alloc (.cells (ZFw []) 55)):=by kernel_rfl
theorem Zhl (x0:Value) (hx0:Zc7 x0) (w:World):(ZG4 28 1 #[(0,.agg #[x0])]).run ZFz w=.ok (.slice (some ⟨w.heap.size,0,none⟩) 1 1) (w.alloc (.cells (ZFw [x0]) 55)):=by obtain ⟨_,_,_,rfl⟩:=hx0; kernel_rfl
theorem Zs1 (x0:Value) (x1:Value) (x2:Nat) (hx0:Zc7 x0) (hx1:Zc7 x1) (w:World):(Instr.build 97 #[(0,x0),(1,x1),(3,.map (some x2))]).run ZFz w=.ok (.agg #[x0,x1,.slice none 0 0,.map (some x2)]) w:=by obtain ⟨_,_,_,rfl⟩:=hx0; obtain ⟨_,_,_,rfl⟩:=hx1; kernel_rfl
theorem sc95:ScaT ZFz 95:=⟨⟨_,ZQd,rfl⟩,by kernel_rfl⟩
theorem Zs2 (x0:Nat) (w:World):(ZG4 95 1 #[(0,.map (some x0))]).run ZFz w=.ok (.slice (some ⟨w.heap.size,0,none⟩) 1 1) (w.alloc (.cells (ZFw [.map (some x0)]) 99)):=by kernel_rfl
theorem Zs3:J2 ZFz 99 (.map none) 1 8:=by unfold J2; kernel_rfl
theorem Zjc (x0:Int) (x1:Int) (w:World):(ZG4 22 2 #[(0,.int .i64 x0),(1,.int .i64 x1)]).run ZFz w=.ok (.slice (some ⟨w.heap.size,0,none⟩) 2 2) (w.alloc (.cells (ZFw ((EI .i64).encs [x0,x1])) 2)):=by kernel_rfl
theorem Zfu:AggT ZFz 25 2:=⟨⟨_,Tryz.underlying25,rfl⟩,by kernel_rfl⟩
def Zcn (a0:List Int) (a1:ZF1) (a2:Int) (K:ZF1→Prop):Prop :=
 Xx ZF2 1 (fun r10=>Xo (fun (s10:(List Term)×Int) nx10=>(if s10.2 > 0 then X4 a0 (⟨s10.1⟩:ZF1) a1 (fun r11=>nx10 (r11.terms,ZF9.wrap (s10.2 - 1))) else K (⟨s10.1⟩:ZF1))) (r10.terms,a2))
theorem Zs4 (a0:List Int) (a1:ZF1) (a2:Int)  {K:ZF1→Prop} (h:Zcn a0 a1 a2 K) (w0:World) (q0:TInts.rep a0 [u0_0] fp0 w0) (q1:ZGj.rep a1 [u1_0] fp1 w0) :
  Calls ZFz 61 #[u0_0,.agg #[u1_0],.int .u8 a2] w0 fun e w'=>∃ (r0:ZF1) (z0_0:Value) (fz0:List Nat),
   e=.returned (.agg #[z0_0])∧K r0∧(ZGc (Zn 90) r0 [z0_0] fz0).holds w'∧(∀ b,b∈fz0→w0.heap.size≤b)∧Bel w0 w':=by
 unfold Zcn at h
 refine cof Tryz.func61 rfl 19 Tryz.ntmps61 ?_
 have hC:=ZGi (X:=Nox) w0 [ZB9 TInts a0 [u0_0] fp0,ZB9 TForm a1 [u1_0] fp1] (alc q0 (al1 q1))
 have hp3:=(hC.getP 1 rfl)
 replace hC:=hC.derive 1 rfl (ZB9 ZFy.ty.sl a1.terms [u1_0] fp1) (fun _=>(Yn hp3)) (fun _ hb_=>hb_)
 refine sr (Yh (v:=.agg #[u1_0]) hC [u1_0] rfl rfl fun b5 w7 hB_ hC=>Z9 hC [.slice none 0 0] z55 rfl fun b8 w10 hB_ hC=>dn (sr (Xl [] rfl (Zda   _) (Zg [.agg (ZFw (ZFv .u8 ZF2)),vI 1] _ Tryz.func59 rfl rfl rfl (Za6 ZF2 1 h _) ?_))))
 rintro _ w11 ⟨r10,u10,f10,rfl,h,hr10,hf10,hB10⟩
 refine rt ?_
 replace hC:=hC.push hB10 (ZGc (Zn 90) r10 [u10] f10) hr10 hf10
 obtain ⟨ho10,hf11⟩:=Y6 (hC.getM 0 rfl)
 subst hf11
 replace hC:=hC.recast (c:=own 90 9 u10 r10.terms.length (ZFy.encs r10.terms)) (fun _ h_=>h_) (fun _=>ho10)
 refine Z9 hC [.slice none 0 0] z55 rfl fun b10 w12 hB_ hC=>Zu (v:=.agg #[u10]) hC 0 [u10] [u10] rfl ag55.size rfl rfl rfl rfl (Yo (Y8 (hC.getM 1 rfl)) rfl) (ZF6 rfl) rfl fun w13 hC=>dn (ZFx (ZF3 ?_))
 refine X7 (S:=(List Term)×Int) _ (fun s10 e_ w_=>∃ (v10:Value),Zy e_ [(0,u0_0),(2,.int .u8 s10.2),(4,vQ b5),(6,vQ b8),(7,vQ b10)]∧Ctx Nox w0 w_ [own 90 9 v10 s10.1.length (ZFy.encs s10.1),blk b10 55 [v10],blk b8 55 [.slice none 0 0],blk b5 55 [u1_0]] [ZB9 ZFy.ty.sl a1.terms [u1_0] fp1,ZB9 TInts a0 [u0_0] fp0,ZB9 TForm a1 [u1_0] fp1]) ?_ (s0:=(r10.terms,a2)) ?_ h
 ·clear hC h
  rintro s10 e_ w14 nx10 K10 ⟨v10,hS_,hC⟩ h hK10
  rw [ue hS_]
  refine ZFx (sr (Zb (v:=.int .u8 s10.2) rfl (Xn rfl rfl (dn ?_))))
  refine Zp rfl (fun hb10=>?_) (fun hb10=>?_)
  ·replace h:=ift h (ct hb10)
   refine ZF0 (Zd (ZFx (ZF3 (Zm (Zb (v:=u0_0) rfl (Yg hC 1 [v10] rfl ag55 rfl rfl rfl (Yg hC 3 [u1_0] rfl ag55 rfl rfl rfl (Zg [u0_0,.agg #[v10],.agg #[u1_0]] _ Tryz.func60 rfl rfl rfl (Zat a0 (⟨s10.1⟩:ZF1) a1 h _ (hC.getP 1 rfl) (Yj (Yy (hC.getM 0 rfl))) (Yj (hC.getP 0 rfl))) ?_))))))))
   rintro _ w15 ⟨r11,u11,f11,rfl,h,hr11,hf12,hB11⟩
   refine rt ?_
   replace hC:=hC.push hB11 (ZGc (Zn 90) r11 [u11] f11) hr11 hf12
   obtain ⟨ho11,hf13⟩:=Y6 (hC.getM 0 rfl)
   subst hf13
   replace hC:=hC.recast (c:=own 90 9 u11 r11.terms.length (ZFy.encs r11.terms)) (fun _ h_=>h_) (fun _=>ho11)
   refine Zu (v:=.agg #[u11]) hC 2 [u11] [u11] rfl ag55.size rfl rfl rfl rfl (Yo (Y8 (hC.getM 0 rfl)) rfl) (ZF6 rfl) rfl fun w16 hC=>done (Zs (Zd (Zm (Zb (v:=.int .u8 s10.2) rfl (Zbc rfl rfl (Zc (v:=.int .u8 (ZF9.wrap (s10.2 - 1))) rfl (done ?_)))))))
   exact hK10 (r11.terms,ZF9.wrap (s10.2 - 1)) _ _ ⟨u11,(slq rfl),(hC.xM [0,2,3,4] rfl)⟩ h
  ·replace h:=Zj h (cf hb10)
   refine ZGb (Zl (Zl (Z2 ?_)))
   refine Zd (sr (Yg hC 1 [v10] rfl ag55 rfl rfl rfl (Zu (v:=.agg #[v10]) hC 2 [v10] [v10] rfl ag55.size rfl rfl rfl rfl (Yo (Y8 (hC.getM 0 rfl)) rfl) (ZF6 rfl) rfl fun w17 hC=>dn (ZF5 ?_))))
   exact Zk rfl (Xp hC 2 rfl ag55 rfl rfl) ⟨(⟨s10.1⟩:ZF1),v10,(ZGu (Zva v10)),rfl,h,(Jf (Je (hC.getM 0 rfl))),(Jt hC 0 rfl),hC.below⟩ (.inl rfl)
 ·skip
  exact⟨u10,(slq rfl),(hC.xM [1,0,2,3] rfl)⟩
def Zfv (a0:List Int) (a1:List ZF1) (a2:ZF1) (K:ZF1→Prop):Prop :=
 Xo (fun (s10:(List Term)×Int) nx11=>(if s10.2 < (a2.terms.length:Int) then((0≤s10.2∧s10.2 < (a2.terms.length:Int))∧Xx ZF2 ((a2.terms.getD s10.2.toNat Zuo).factor) (fun r10=>Ye (fun i10 (s11:(List Term)) nx10=>((0≤s10.2∧s10.2 < (a2.terms.length:Int))∧((0≤(i10:Int)∧(i10:Int) < 8)∧(if((a2.terms.getD s10.2.toNat Zuo).mono).get i10 > 0 then((0≤s10.2∧s10.2 < (a2.terms.length:Int))∧((0≤(i10:Int)∧(i10:Int) < 8)∧Zcn a0 (a1.getD i10 Zuo) (((a2.terms.getD s10.2.toNat Zuo).mono).get i10) (fun r11=>X4 a0 (⟨s11⟩:ZF1) r11 (fun r12=>nx10 r12.terms)))) else nx10 s11)))) (fun (s11:(List Term))=>Jl (⟨s10.1⟩:ZF1) (⟨s11⟩:ZF1) 1 (fun r13=>nx11 (r13.terms,Zw2.wrap (s10.2+1)))) a1.length 0 r10.terms)) else K (⟨s10.1⟩:ZF1))) ([],0)
theorem Zs5 (a0:List Int) (a1:List ZF1) (a2:ZF1)  {K:ZF1→Prop} (h:Zfv a0 a1 a2 K) (w0:World) (q0:TInts.rep a0 [u0_0] fp0 w0) (q1:ZGj.sl.rep a1 [u1_0] fp1 w0) (q2:ZGj.rep a2 [u2_0] fp2 w0) :
  Calls ZFz 28 #[u0_0,u1_0,.agg #[u2_0]] w0 fun e w'=>∃ (r0:ZF1) (z0_0:Value) (fz0:List Nat),
   e=.returned (.agg #[z0_0])∧K r0∧(ZGc (Zn 90) r0 [z0_0] fz0).holds w'∧(∀ b,b∈fz0→w0.heap.size≤b)∧Bel w0 w':=by
 unfold Zfv at h
 refine cof Tryz.func28 rfl 63 Tryz.ntmps28 ?_
 have hC:=ZGi (X:=Nox) w0 [ZB9 TInts a0 [u0_0] fp0,ZB9 ZGj.sl a1 [u1_0] fp1,ZB9 TForm a2 [u2_0] fp2] (alc q0 (alc q1 (al1 q2)))
 have hp4:=(hC.getP 2 rfl)
 replace hC:=hC.derive 2 rfl (ZB9 ZFy.ty.sl a2.terms [u2_0] fp2) (fun _=>(Yn hp4)) (fun _ hb_=>hb_)
 refine sr (Yh (v:=.agg #[u2_0]) hC [u2_0] rfl rfl fun b6 w8 hB_ hC=>Z9 hC [.slice none 0 0] z55 rfl fun b9 w10 hB_ hC=>dn (sr (Xl [] rfl (Zas   _) (Z9 hC [.slice none 0 0] z55 rfl fun b10 w11 hB_ hC=>Zu (v:=.agg #[.slice none 0 0]) hC 0 [.slice none 0 0] [.slice none 0 0] rfl ag55.size rfl rfl rfl rfl rfl (ZF6 rfl) rfl fun w12 hC=>dn (ZFx (sr (Zc (v:=vI 0) rfl (dn (ZF3 ?_)))))))))
 refine X7 (S:=(List Term)×Int) _ (fun s10 e_ w_=>∃ (v10:Value),Zy e_ [(0,u0_0),(1,u1_0),(5,vQ b6),(6,vQ b9),(7,vQ b10),(8,vI s10.2)]∧Ctx Nox w0 w_ [own 90 9 v10 s10.1.length (ZFy.encs s10.1),blk b10 55 [v10],blk b9 55 [.slice none 0 0],blk b6 55 [u2_0]] [ZB9 ZFy.ty.sl a2.terms [u2_0] fp2,ZB9 TInts a0 [u0_0] fp0,ZB9 ZGj.sl a1 [u1_0] fp1,ZB9 TForm a2 [u2_0] fp2]) ?_ (s0:=([],0)) ?_ h
 ·clear hC h
  rintro s10 e_ w13 nx11 K11 ⟨v10,hS_,hC⟩ h hK11
  rw [ue hS_]
  refine ZFx (sr (Zb (v:=vI s10.2) rfl (Zz 0 ZF4 rfl sc53.size rfl rfl (Z6 hC 3 (u2_0) rfl sc53 rfl rfl (Zv hC 0 rfl ZF7 rfl (Zo rfl rfl (dn ?_)))))))
  refine Zp rfl (fun hb10=>?_) (fun hb10=>?_)
  ·replace h:=ift h (ct hb10)
   refine ZF0 (Zd (ZFx (ZF3 (sr (Xl [] rfl (Zda   _) (Zz 0 ZF4 rfl sc53.size rfl rfl (Z6 hC 3 (u2_0) rfl sc53 rfl rfl (Zb (v:=vI s10.2) rfl ?_))))))))
   obtain ⟨⟨h10,h11⟩,h⟩:=h
   obtain ⟨Ad12,c10,hv10⟩:=Z1 (hC.getP 0 rfl) s10.2.toNat (show s10.2.toNat < a2.terms.length by omega)
   refine Yp (len:=a2.terms.length) ZF7 ag90.size (tr rfl hv10) rfl h10 h11 (Zaf (s10.2.toNat * 9+8) ZGd rfl sc2.size rfl rfl (Xh (vI ((a2.terms.getD s10.2.toNat Zuo).factor)) (Xr (o:=8) (k:=1) (Yi (hC.getP 0 rfl) hv10 s10.2.toNat (show s10.2.toNat < a2.terms.length by omega)) rfl) sc2 rfl (Zg [.agg (ZFw (ZFv .u8 ZF2)),vI ((a2.terms.getD s10.2.toNat Zuo).factor)] _ Tryz.func59 rfl rfl rfl (Za6 ZF2 ((a2.terms.getD s10.2.toNat Zuo).factor) h _) ?_)))
   rintro _ w14 ⟨r10,u10,f10,rfl,h,hr11,hf10,hB10⟩
   refine rt ?_
   replace hC:=hC.push hB10 (ZGc (Zn 90) r10 [u10] f10) hr11 hf10
   obtain ⟨ho10,hf11⟩:=Y6 (hC.getM 0 rfl)
   subst hf11
   replace hC:=hC.recast (c:=own 90 9 u10 r10.terms.length (ZFy.encs r10.terms)) (fun _ h_=>h_) (fun _=>ho10)
   refine Z9 hC [.slice none 0 0] z55 rfl fun b11 w15 hB_ hC=>Zu (v:=.agg #[u10]) hC 0 [u10] [u10] rfl ag55.size rfl rfl rfl rfl (Yo (Y8 (hC.getM 1 rfl)) rfl) (ZF6 rfl) rfl fun w16 hC=>dn (ZFx (sr (Zc (v:=vI 0) rfl (dn (ZF3 ?_)))))
   have hN10:a1.length≤9223372036854775807:=Y5 (hC.getP 2 rfl)
   refine Yl (S:=(List Term)) _ _ (fun i10 s11 e_ w_=>∃ (v11:Value),Zy e_ [(0,u0_0),(1,u1_0),(5,vQ b6),(6,vQ b9),(7,vQ b10),(8,vI s10.2),(9,vQ b11),(10,vI (i10:Int))]∧Ctx Nox w0 w_ [own 90 9 v11 s11.length (ZFy.encs s11),blk b11 55 [v11],own 90 9 v10 s10.1.length (ZFy.encs s10.1),blk b10 55 [v10],blk b9 55 [.slice none 0 0],blk b6 55 [u2_0]] [ZB9 ZFy.ty.sl a2.terms [u2_0] fp2,ZB9 TInts a0 [u0_0] fp0,ZB9 ZGj.sl a1 [u1_0] fp1,ZB9 TForm a2 [u2_0] fp2]) a1.length ?_ ?_ (s0:=r10.terms) ?_ h
   ·clear hC h
    rintro i10 s11 e_ w17 nx10 K10 hi10 ⟨v11,hS_,hC⟩ h hK10
    rw [ue hS_]
    refine ZFx (sr (Zb (v:=vI (i10:Int)) rfl (Zb (v:=u1_0) rfl (Zv hC 2 rfl ZGl rfl (Zo rfl rfl (dn (Z8 rfl (decide_eq_true (by omega)) (ZF0 (Zd (ZFx (ZF3 (sr (Zz 0 ZF4 rfl sc53.size rfl rfl (Z6 hC 5 (u2_0) rfl sc53 rfl rfl (Zb (v:=vI s10.2) rfl (Zb (v:=vI (i10:Int)) rfl ?_))))))))))))))))
    obtain ⟨⟨h12,h13⟩,h⟩:=h
    obtain ⟨Ad13,c11,hv11⟩:=Z1 (hC.getP 0 rfl) s10.2.toNat (show s10.2.toNat < a2.terms.length by omega)
    refine Yp (len:=a2.terms.length) ZF7 ag90.size (tr rfl hv11) rfl h12 h13 (Zaf (s10.2.toNat * 9+0) ZGd rfl ag88.size rfl rfl ?_)
    obtain ⟨⟨h14,h15⟩,h⟩:=h
    refine Zku (s10.2.toNat * 9+0+i10) ZGf sc5.size rfl rfl h14 h15 (by omega) (Xh (.int .u8 (((a2.terms.getD s10.2.toNat Zuo).mono).get i10)) (Xr (o:=i10) (k:=1) (Yi (hC.getP 0 rfl) hv11 s10.2.toNat (show s10.2.toNat < a2.terms.length by omega)) (Zij (r:=_) (show i10 < 8 by omega))) sc5 rfl (Xn rfl rfl (dn ?_)))
    refine Zp rfl (fun hb11=>?_) (fun hb11=>?_)
    ·replace h:=ift h (ct hb11)
     refine cwd 16 mixed [0,0,0,0,0,24,56,0,128,0,0,896,2944,8064,16256,32764,65535,131071] [1,5,6,8,11,13,14] [0,2,3,4,7,9,10,12] (fun hM11 hM10 w18 hB_=>?_)
     replace hC:=hC.grow hB_
     refine bM 0 (u0_0) rfl hM10 (Za 18 1) (bL 1 (.agg #[v11]) rfl rfl hM11 (fun _ hB_=>by exact Y3 (hC.grow hB_) 1 [v11] rfl ag55 rfl rfl rfl) (Za 18 3) (bM 2 (u0_0) rfl hM10 (Za 18 7) (bM 3 (u1_0) rfl hM10 (Za 18 15) (bM 4 (vI (i10:Int)) rfl hM10 (Za 18 31) ?_))))
     obtain ⟨Ad11,c12,hv12⟩:=Z1 (hC.getP 2 rfl) i10 hi10
     refine bL 5 (.pointer (some (Ad11.add (i10 * 1)))) rfl rfl hM11 (fun _ hB_=>by exact Yx (len:=a1.length) ZGl ag55.size (by exact tr rfl hv12) rfl (ZGe _) (ZGw.2 hi10)) (Za 18 63) ?_
     obtain ⟨cs_,hl10,hc10,hr10⟩:=X1 (hC.getP 2 rfl) hv12 i10 hi10
     obtain ⟨u13,rfl⟩:=ZGv.1 hl10
     clear hl10
     rw [Xt _ _ hi10] at hr10
     have hp10:=hr10
     replace hC:=hC.derive 2 rfl (ZB9 ZFy.ty.sl ((a1.getD i10 Zuo).terms) [u13] fp1) (fun _=>(Yn hp10)) (fun _ hb_=>hb_)
     refine bL 6 (.agg #[u13]) rfl rfl hM11 (fun _ hB_=>by exact Xq [u13] (Zab hB_ hc10) ag55 rfl rfl) (Za 18 127) (bF 7 (vQ b6) rfl rfl hM10 (fun _=>by exact Yd 0 ZF4 rfl sc53.size rfl rfl) (Za 18 255) (bL 8 (u2_0) rfl rfl hM11 (fun _ hB_=>by exact Yc (hC.grow hB_) 5 (u2_0) rfl sc53 rfl rfl) (Za 18 511) (bM 9 (vI s10.2) rfl hM10 (Za 18 1023) (bM 10 (vI (i10:Int)) rfl hM10 (Za 18 2047) ?_))))
     obtain ⟨⟨h16,h17⟩,h⟩:=h
     obtain ⟨Ad10,c13,hv13⟩:=Z1 (hC.getP 1 rfl) s10.2.toNat (show s10.2.toNat < a2.terms.length by omega)
     refine bL 11 (.pointer (some (Ad10.add (s10.2.toNat * 9)))) rfl rfl hM11 (fun _ hB_=>by exact Yx (len:=a2.terms.length) ZF7 ag90.size (by exact tr rfl hv13) rfl h16 h17) (Za 18 4095) (bF 12 (.pointer (some (Ad10.add (s10.2.toNat * 9+0)))) rfl rfl hM10 (fun _=>by exact Jw (s10.2.toNat * 9+0) ZGd rfl ag88.size rfl rfl) (Za 18 8191) ?_)
     obtain ⟨⟨h18,h19⟩,h⟩:=h
     refine bL 13 (.pointer (some (Ad10.add (s10.2.toNat * 9+0+i10)))) rfl rfl hM11 (fun _ hB_=>by exact Zou (s10.2.toNat * 9+0+i10) ZGf sc5.size rfl rfl h18 h19 (by omega)) (Za 18 16383) (bL 14 (.int .u8 (((a2.terms.getD s10.2.toNat Zuo).mono).get i10)) rfl rfl hM11 (fun _ hB_=>by exact J3 (.int .u8 (((a2.terms.getD s10.2.toNat Zuo).mono).get i10)) (Xr (o:=i10) (k:=1) (Yi ((hC.grow hB_).getP 1 rfl) hv13 s10.2.toNat (show s10.2.toNat < a2.terms.length by omega)) (Zij (r:=_) (show i10 < 8 by omega))) sc5 rfl) (Za 18 32767) (aO 15 rfl (Zg [u0_0,.agg #[u13],.int .u8 (((a2.terms.getD s10.2.toNat Zuo).mono).get i10)] _ Tryz.func61 rfl rfl rfl (Zs4 a0 (a1.getD i10 Zuo) (((a2.terms.getD s10.2.toNat Zuo).mono).get i10) h _ (hC.getP 2 rfl) (Yj (hC.getP 0 rfl))) ?_)))
     rintro _ w19 ⟨r11,u14,f11,rfl,h,hr12,hf12,hB11⟩
     refine rt ?_
     replace hC:=hC.push hB11 (ZGc (Zn 90) r11 [u14] f11) hr12 hf12
     obtain ⟨ho11,hf13⟩:=Y6 (hC.getM 0 rfl)
     subst hf13
     replace hC:=hC.recast (c:=own 90 9 u14 r11.terms.length (ZFy.encs r11.terms)) (fun _ h_=>h_) (fun _=>ho11)
     refine done (aK (by assumption) (Za 18 65535) (Z3 16 (by decide) (by decide) (by kernel_rfl) (by kernel_rfl) rfl (Zg [u0_0,.agg #[v11],.agg #[u14]] _ Tryz.func60 rfl rfl rfl (Zat a0 (⟨s11⟩:ZF1) r11 h _ (hC.getP 2 rfl) (Yj (Yy (hC.getM 1 rfl))) (Yj (Yy (hC.getM 0 rfl)))) ?_)))
     rintro _ w20 ⟨r12,u11,f12,rfl,h,hr13,hf14,hB12⟩
     refine rt ?_
     replace hC:=hC.push hB12 (ZGc (Zn 90) r12 [u11] f12) hr13 hf14
     obtain ⟨ho12,hf15⟩:=Y6 (hC.getM 0 rfl)
     subst hf15
     replace hC:=hC.recast (c:=own 90 9 u11 r12.terms.length (ZFy.encs r12.terms)) (fun _ h_=>h_) (fun _=>ho12)
     refine Zu (v:=.agg #[u11]) hC 3 [u11] [u11] rfl ag55.size rfl rfl rfl rfl (Yo (Y8 (hC.getM 0 rfl)) rfl) (ZF6 rfl) rfl fun w21 hC=>done (Z4 (Zs (Zd (Zm (Zb (v:=vI (i10:Int)) rfl (Zr rfl rfl (Zc (v:=vI (Zw2.wrap ((i10:Int)+1))) rfl (done ?_))))))))
     exact hK10 r12.terms _ _ ⟨u11,(sl ⟨rfl,rfl,rfl,rfl,rfl,rfl,rfl,(tr rfl (congrArg _ (Ya hi10 hN10))),trivial⟩),((hC.xM [0,3,4,5,6,7] rfl).sP [1,2,3,4] rfl)⟩ h
    ·replace h:=Zj h (cf hb11)
     refine ZF0 (Zs (Zd (Zm (Zb (v:=vI (i10:Int)) rfl (Zr rfl rfl (Zc (v:=vI (Zw2.wrap ((i10:Int)+1))) rfl (done ?_)))))))
     exact hK10 s11 _ _ ⟨v11,(sl ⟨rfl,rfl,rfl,rfl,rfl,rfl,rfl,(tr rfl (congrArg _ (Ya hi10 hN10))),trivial⟩),hC⟩ h
   ·clear hC h
    rintro s11 e_ w22 K10 ⟨v11,hS_,hC⟩ h
    rw [ue hS_]
    refine ZFx (sr (Zb (v:=vI (a1.length:Int)) rfl (Zb (v:=u1_0) rfl (Zv hC 2 rfl ZGl rfl (Zo rfl rfl (dn (Yb rfl (decide_eq_false (by omega)) ?_)))))))
    refine ZGb (Zl (Zl (Z2 ?_)))
    refine Zd (Zm (Yg hC 3 [v10] rfl ag55 rfl rfl rfl (Yg hC 1 [v11] rfl ag55 rfl rfl rfl (Zg [.agg #[v10],.agg #[v11],vI 1] _ Tryz.func41 rfl rfl rfl (Zdb (⟨s10.1⟩:ZF1) (⟨s11⟩:ZF1) 1 h _ (Yj (Yy (hC.getM 2 rfl))) (Yj (Yy (hC.getM 0 rfl)))) ?_))))
    rintro _ w23 ⟨r13,u12,f13,rfl,h,hr14,hf16,hB13⟩
    refine rt ?_
    replace hC:=hC.push hB13 (ZGc (Zn 90) r13 [u12] f13) hr14 hf16
    obtain ⟨ho13,hf17⟩:=Y6 (hC.getM 0 rfl)
    subst hf17
    replace hC:=hC.recast (c:=own 90 9 u12 r13.terms.length (ZFy.encs r13.terms)) (fun _ h_=>h_) (fun _=>ho13)
    refine Zu (v:=.agg #[u12]) hC 4 [u12] [u12] rfl ag55.size rfl rfl rfl rfl (Yo (Y8 (hC.getM 0 rfl)) rfl) (ZF6 rfl) rfl fun w24 hC=>done (Zs (Zd (Zm (Zb (v:=vI s10.2) rfl (Zr rfl rfl (Zc (v:=vI (Zw2.wrap (s10.2+1))) rfl (done ?_)))))))
    exact hK11 (r13.terms,Zw2.wrap (s10.2+1)) _ _ ⟨u12,(slq rfl),(hC.xM [0,4,5,6] rfl)⟩ h
   ·skip
    exact⟨u10,(slq rfl),(hC.xM [1,0,2,3,4,5] rfl)⟩
  ·replace h:=Zj h (cf hb10)
   refine ZGb (Zl (Zl (Z2 ?_)))
   refine Zd (sr (Yg hC 1 [v10] rfl ag55 rfl rfl rfl (Zu (v:=.agg #[v10]) hC 2 [v10] [v10] rfl ag55.size rfl rfl rfl rfl (Yo (Y8 (hC.getM 0 rfl)) rfl) (ZF6 rfl) rfl fun w25 hC=>dn (ZF5 ?_))))
   exact Zk rfl (Xp hC 2 rfl ag55 rfl rfl) ⟨(⟨s10.1⟩:ZF1),v10,(ZGu (Zva v10)),rfl,h,(Jf (Je (hC.getM 0 rfl))),(Jt hC 0 rfl),hC.below⟩ (.inl rfl)
 ·skip
  replace hC:=hC.pushNil 90 9
  exact⟨.slice none 0 0,(slq rfl),hC⟩
def Zfw (a0:Alg) (a1:Alg) (a2:List ZF1) (K:Bool→Prop):Prop :=
 Zcc a0 (fun r16=>(if¬ (r16=true) then K false else Zcc a1 (fun r14=>(if¬ (r14=true) then K false else(if(a2.length:Int)≠(a0.degrees.length:Int) then K false else Ye (fun i10 (s10:Unit) nx10=>Zdc a1.degrees (a2.getD i10 Zuo) (fun r17=>(if¬ (r17=true) then K false else Zdd a1.degrees (a2.getD i10 Zuo) (fun r10 r11=>(if¬ (r11=true) then K false else(if(((a2.getD i10 Zuo).terms).length:Int) > 0 then((0≤(i10:Int)∧(i10:Int) < (a0.degrees.length:Int))∧(if r10≠a0.degrees.getD i10 Zuo then K false else nx10 ())) else nx10 ())))))) (fun (s10:Unit)=>Ye (fun i11 (s11:Unit) nx11=>((0≤(i11:Int)∧(i11:Int) < (a0.images.length:Int))∧Zfv a1.degrees a2 (a0.images.getD i11 Zuo) (fun r12=>Zde a1 (a2.getD i11 Zuo) (fun r13=>Jl r12 r13 10006 (fun r15=>(if(r15.terms.length:Int) > 0 then K false else nx11 ())))))) (fun (s11:Unit)=>K true) a2.length 0 ()) a2.length 0 ())))))
theorem Zs6 (a0 : Alg) (a1 : Alg) (a2 : List ZF1)  {K : Bool → Prop} (h : Zfw a0 a1 a2 K) (w0 : World) (q0 : TAlg.rep a0 [u0_0, u0_1] fp0 w0) (q1 : TAlg.rep a1 [u1_0, u1_1] fp1 w0) (q2 : ZGj.sl.rep a2 [u2_0] fp2 w0) :
  Calls ZFz 27 #[.agg #[u0_0,u0_1],.agg #[u1_0,u1_1],u2_0] w0 fun e w'=>∃ (r0:Bool),
   e=.returned (.bool r0)∧K r0∧Bel w0 w':=by
 unfold Zfw at h
 refine cof Tryz.func27 rfl 96 Tryz.ntmps27 ?_
 have hC:=ZGi (X:=Nox) w0 [ZB9 TAlg a0 [u0_0,u0_1] fp0,ZB9 TAlg a1 [u1_0,u1_1] fp1,ZB9 ZGj.sl a2 [u2_0] fp2] (alc q0 (alc q1 (al1 q2)))
 replace hC:=hC.dAlg 0 rfl
 replace hC:=hC.dAlg 3 rfl
 refine sr (Yh (v:=.agg #[u0_0,u0_1]) hC [u0_0,u0_1] rfl rfl fun b8 w10 hB_ hC=>Yh (v:=.agg #[u1_0,u1_1]) hC [u1_0,u1_1] rfl rfl fun b10 w11 hB_ hC=>Zc (v:=.bool false) rfl (dn (ZFx (sr (Yg hC 1 [u0_0,u0_1] rfl ag32 rfl rfl rfl (Zg [.agg #[u0_0,u0_1]] _ Tryz.func38 rfl rfl rfl (Zir a0 h _ (Xa (hC.getP 3 rfl) (hC.getP 2 rfl))) ?_))))))
 rintro _ w12 ⟨r16,rfl,h,hB10⟩
 refine rt ?_
 replace hC:=hC.grow hB10
 refine Yu rfl (Zb (v:=.bool (!r16)) rfl ?_)
 refine Yq (!r16) (fun hb13=>?_) (fun hb13=>?_)
 ·replace h:=ift h (Ym (Yz hb13))
  refine Zh (b:=true) 3 14 rfl (tr rfl (congrArg _ hb13)) (by decide) (Zh (b:=true) 3 14 rfl (tr rfl (congrArg _ hb13)) (by decide) (Zh (b:=true) 3 14 rfl (tr rfl (congrArg _ hb13)) (by decide) (Zx (v:=.bool true) (b:=true) (tr rfl (congrArg _ hb13)) rfl (Zb (v:=.bool true) rfl (Zh (b:=true) 8 19 rfl (tr rfl (congrArg _ rfl)) (by decide) (Zh (b:=true) 8 19 rfl (tr rfl (congrArg _ rfl)) (by decide) (Zh (b:=true) 8 19 rfl (tr rfl (congrArg _ rfl)) (by decide) (Zh (b:=true) 8 19 rfl (tr rfl (congrArg _ rfl)) (by decide) (Zh (b:=true) 8 19 rfl (tr rfl (congrArg _ rfl)) (by decide) (Zh (b:=true) 8 19 rfl (tr rfl (congrArg _ rfl)) (by decide) (Zx (v:=.bool true) (b:=true) rfl rfl (dn (Z8 rfl rfl (sr (Zc (v:=.bool false) rfl (dn ?_))))))))))))))))
  refine ZF5 (Ze ?_)
  exact Zk rfl (Zf rfl) ⟨false,rfl,h,hC.below⟩ (.inl rfl)
 ·replace h:=Zj h (not_not_intro ((Y0 hb13)))
  refine Zi 3 14 rfl rfl hb13 (Yg hC 0 [u1_0,u1_1] rfl ag32 rfl rfl rfl (Zi 3 14 rfl rfl hb13 (Zg [.agg #[u1_0,u1_1]] _ Tryz.func38 rfl rfl rfl (Zir a1 h _ (Xa (hC.getP 1 rfl) (hC.getP 0 rfl))) ?_)))
  rintro _ w13 ⟨r14,rfl,h,hB11⟩
  refine rt ?_
  replace hC:=hC.grow hB11
  refine Zi 3 14 rfl rfl hb13 (Yu rfl (Zx (v:=.bool (!r14)) (b:=false) (tr rfl (congrArg _ hb13)) rfl (Zb (v:=.bool (!r14)) rfl ?_)))
  refine Yq (!r14) (fun hb12=>?_) (fun hb12=>?_)
  ·replace h:=ift h (Ym (Yz hb12))
   refine Zh (b:=true) 8 19 rfl (tr rfl (congrArg _ hb12)) (by decide) (Zh (b:=true) 8 19 rfl (tr rfl (congrArg _ hb12)) (by decide) (Zh (b:=true) 8 19 rfl (tr rfl (congrArg _ hb12)) (by decide) (Zh (b:=true) 8 19 rfl (tr rfl (congrArg _ hb12)) (by decide) (Zh (b:=true) 8 19 rfl (tr rfl (congrArg _ hb12)) (by decide) (Zh (b:=true) 8 19 rfl (tr rfl (congrArg _ hb12)) (by decide) (Zx (v:=.bool true) (b:=true) (tr rfl (congrArg _ hb12)) rfl (dn (Z8 rfl rfl (sr (Zc (v:=.bool false) rfl (dn ?_)))))))))))
   refine ZF5 (Ze ?_)
   exact Zk rfl (Zf rfl) ⟨false,rfl,h,hC.below⟩ (.inl rfl)
  ·replace h:=Zj h (not_not_intro ((Y0 hb12)))
   refine Zi 8 19 rfl rfl hb12 (Zb (v:=u2_0) rfl (Zi 8 19 rfl rfl hb12 (Zv hC 6 rfl ZGl rfl (Zi 8 19 rfl rfl hb12 (Zz 0 ZGh rfl sc22.size rfl rfl (Zi 8 19 rfl rfl hb12 (Z6 hC 1 (u0_0) rfl sc22 rfl rfl (Zi 8 19 rfl rfl hb12 (Zv hC 3 rfl ZGg rfl (Zi 8 19 rfl rfl hb12 (Yw rfl rfl (Zx (v:=.bool (decide ((a2.length:Int)≠(a0.degrees.length:Int)))) (b:=false) (tr rfl (congrArg _ hb12)) rfl (dn ?_)))))))))))))
   refine Zp rfl (fun hb14=>?_) (fun hb14=>?_)
   ·replace h:=ift h (ct hb14)
    refine sr (Zc (v:=.bool false) rfl (dn ?_))
    refine ZF5 (Ze ?_)
    exact Zk rfl (Zf rfl) ⟨false,rfl,h,hC.below⟩ (.inl rfl)
   ·replace h:=Zj h (cf hb14)
    refine ZF0 (Zd (ZFx (sr (Zc (v:=vI 0) rfl (dn (ZF3 ?_))))))
    have hN10:a2.length≤9223372036854775807:=Y5 (hC.getP 6 rfl)
    refine Yl (S:=Unit) _ _ (fun i10 s10 e_ w_=>Zy e_ [(2,u2_0),(3,vQ b8),(4,vQ b10),(7,vI (i10:Int))]∧Ctx Nox w0 w_ [blk b10 32 [u1_0,u1_1],blk b8 32 [u0_0,u0_1]] [ZB9 ZGj.sl a1.images [u1_1] fp1,ZB9 TInts a1.degrees [u1_0] fp1,ZB9 ZGj.sl a0.images [u0_1] fp0,ZB9 TInts a0.degrees [u0_0] fp0,ZB9 TAlg a0 [u0_0,u0_1] fp0,ZB9 TAlg a1 [u1_0,u1_1] fp1,ZB9 ZGj.sl a2 [u2_0] fp2]) a2.length ?_ ?_ (s0:=()) ?_ h
    ·clear hC h
     rintro i10 s10 e_ w14 nx10 K10 hi10 ⟨hS_,hC⟩ h hK10
     rw [ue hS_]
     refine ZFx (sr (Zb (v:=vI (i10:Int)) rfl (Zb (v:=u2_0) rfl (Zv hC 6 rfl ZGl rfl (Zo rfl rfl (dn (Z8 rfl (decide_eq_true (by omega)) (ZF0 (Zd (ZFx (ZF3 (ZFx (ZFx ?_)))))))))))))
     refine cwd 6 mixed [0,1,0,0,12,28,63,127] [1,4,5] [0,2,3] (fun hM13 hM14 w15 hB_=>?_)
     replace hC:=hC.grow hB_
     refine bF 0 (vQ b10) rfl rfl hM14 (fun _=>by exact Yd 0 ZGh rfl sc22.size rfl rfl) (Za 8 1) (bL 1 (u1_0) rfl rfl hM13 (fun _ hB_=>by exact Yc (hC.grow hB_) 0 (u1_0) rfl sc22 rfl rfl) (Za 8 3) (bM 2 (u2_0) rfl hM14 (Za 8 7) (bM 3 (vI (i10:Int)) rfl hM14 (Za 8 15) ?_)))
     obtain ⟨Ad10,c10,hv10⟩:=Z1 (hC.getP 6 rfl) i10 hi10
     refine bL 4 (.pointer (some (Ad10.add (i10 * 1)))) rfl rfl hM13 (fun _ hB_=>by exact Yx (len:=a2.length) ZGl ag55.size (by exact tr rfl hv10) rfl (ZGe _) (ZGw.2 hi10)) (Za 8 31) ?_
     obtain ⟨cs_,hl10,hc10,hr10⟩:=X1 (hC.getP 6 rfl) hv10 i10 hi10
     obtain ⟨u10,rfl⟩:=ZGv.1 hl10
     clear hl10
     rw [Xt _ _ hi10] at hr10
     have hp10:=hr10
     replace hC:=hC.derive 6 rfl (ZB9 ZFy.ty.sl ((a2.getD i10 Zuo).terms) [u10] fp2) (fun _=>(Yn hp10)) (fun _ hb_=>hb_)
     refine bL 5 (.agg #[u10]) rfl rfl hM13 (fun _ hB_=>by exact Xq [u10] (Zab hB_ hc10) ag55 rfl rfl) (Za 8 63) (Z3 6 (by decide) (by decide) (by kernel_rfl) (by kernel_rfl) rfl (Zg [u1_0,.agg #[u10]] _ Tryz.func56 rfl rfl rfl (Zkz a1.degrees (a2.getD i10 Zuo) h _ (hC.getP 2 rfl) (Yj (hC.getP 0 rfl))) ?_))
     rintro _ w16 ⟨r17,rfl,h,hB12⟩
     refine rt ?_
     replace hC:=hC.grow hB12
     refine Yu rfl (done (Z4 (Zd ?_)))
     refine Zp rfl (fun hb15=>?_) (fun hb15=>?_)
     ·replace h:=ift h (Ym (Yz hb15))
      refine sr (Zc (v:=.bool false) rfl (dn ?_))
      refine ZF5 (Ze (Zw (Ze (Ze (Zw (Ze ?_))))))
      exact Zk rfl (Zf rfl) ⟨false,rfl,h,hC.below⟩ (.inl rfl)
     ·replace h:=Zj h (not_not_intro ((Y0 hb15)))
      refine ZF0 (Zd (ZFx ?_))
      refine cwd 11 mixed [0,1,0,0,12,28,63,127,255,255,511,2047] [1,4,5] [0,2,3,7,8,9,10] (fun hM15 hM10 w17 hB_=>?_)
      replace hC:=hC.grow hB_
      refine bF 0 (vQ b10) rfl rfl hM10 (fun _=>by exact Yd 0 ZGh rfl sc22.size rfl rfl) (Za 12 1) (bL 1 (u1_0) rfl rfl hM15 (fun _ hB_=>by exact Yc (hC.grow hB_) 0 (u1_0) rfl sc22 rfl rfl) (Za 12 3) (bM 2 (u2_0) rfl hM10 (Za 12 7) (bM 3 (vI (i10:Int)) rfl hM10 (Za 12 15) ?_)))
      obtain ⟨Ad11,c11,hv11⟩:=Z1 (hC.getP 7 rfl) i10 hi10
      refine bL 4 (.pointer (some (Ad11.add (i10 * 1)))) rfl rfl hM15 (fun _ hB_=>by exact Yx (len:=a2.length) ZGl ag55.size (by exact tr rfl hv11) rfl (ZGe _) (ZGw.2 hi10)) (Za 12 31) ?_
      obtain ⟨cs_,hl11,hc11,hr11⟩:=X1 (hC.getP 7 rfl) hv11 i10 hi10
      obtain ⟨u11,rfl⟩:=ZGv.1 hl11
      clear hl11
      rw [Xt _ _ hi10] at hr11
      have hp11:=hr11
      replace hC:=hC.derive 7 rfl (ZB9 ZFy.ty.sl ((a2.getD i10 Zuo).terms) [u11] fp2) (fun _=>(Yn hp11)) (fun _ hb_=>hb_)
      refine bL 5 (.agg #[u11]) rfl rfl hM15 (fun _ hB_=>by exact Xq [u11] (Zab hB_ hc11) ag55 rfl rfl) (Za 12 63) (aO 6 rfl (Zg [u1_0,.agg #[u11]] _ Tryz.func57 rfl rfl rfl (Zk0 a1.degrees (a2.getD i10 Zuo) h _ (hC.getP 3 rfl) (Yj (hC.getP 0 rfl))) ?_))
      rintro _ w18 ⟨r10,r11,rfl,h,hB13⟩
      refine rt ?_
      replace hC:=hC.grow hB13
      refine done (aK (by assumption) (Za 12 127) (bM 7 (.tuple #[vI r10,.bool r11]) rfl hM10 (Za 12 255) (bF 8 (vI r10) rfl rfl hM10 (fun _=>by exact J8 (v:=vI r10) rfl rfl) (Za 12 511) (bF 9 (.bool r11) rfl rfl hM10 (fun _=>by exact J8 (v:=.bool r11) rfl rfl) (Za 12 1023) (bA 10 (vI r10) rfl hM10 (Za 12 2047) (Z3 11 (by decide) (by decide) (by kernel_rfl) (by kernel_rfl) rfl (Zc (v:=.bool r11) rfl (done (Z4 (Zd (sr (Zb (v:=.bool r11) rfl (Yu rfl (Zb (v:=.bool (!r11)) rfl ?_))))))))))))))
      refine Yq (!r11) (fun hb10=>?_) (fun hb10=>?_)
      ·replace h:=ift h (Ym (Yz hb10))
       refine Zh (b:=true) 2 53 rfl (tr rfl (congrArg _ hb10)) (by decide) (Zh (b:=true) 2 53 rfl (tr rfl (congrArg _ hb10)) (by decide) (Zh (b:=true) 2 53 rfl (tr rfl (congrArg _ hb10)) (by decide) (Zh (b:=true) 2 53 rfl (tr rfl (congrArg _ hb10)) (by decide) (Zh (b:=true) 2 53 rfl (tr rfl (congrArg _ hb10)) (by decide) (Zh (b:=true) 2 53 rfl (tr rfl (congrArg _ hb10)) (by decide) (Zh (b:=true) 2 53 rfl (tr rfl (congrArg _ hb10)) (by decide) (Zh (b:=true) 2 53 rfl (tr rfl (congrArg _ hb10)) (by decide) (Xi 10 61 rfl rfl (Xi 10 61 rfl rfl (Xi 10 61 rfl rfl (Xi 10 61 rfl rfl (Xi 10 61 rfl rfl (Xi 10 61 rfl rfl (Xi 10 61 rfl rfl (Zh (b:=true) 2 53 rfl (tr rfl (congrArg _ hb10)) (by decide) (Zx (v:=.bool true) (b:=true) (tr rfl (congrArg _ hb10)) rfl (dn (Z8 rfl rfl (sr (Zc (v:=.bool false) rfl (dn ?_)))))))))))))))))))))
       refine ZF5 (Zw (Ze (Ze (Zw (Ze ?_)))))
       exact Zk rfl (Zf rfl) ⟨false,rfl,h,hC.below⟩ (.inl rfl)
      ·replace h:=Zj h (not_not_intro ((Y0 hb10)))
       refine Zi 2 53 rfl rfl hb10 (Zb (v:=u2_0) rfl (Zi 2 53 rfl rfl hb10 (Zb (v:=vI (i10:Int)) rfl (Zi 2 53 rfl rfl hb10 ?_))))
       obtain ⟨Ad14,c12,hv12⟩:=Z1 (hC.getP 8 rfl) i10 hi10
       refine Yp (len:=a2.length) ZGl ag55.size (tr rfl hv12) rfl (ZGe _) (ZGw.2 hi10) (Zi 2 53 rfl rfl hb10 (Zaf (i10 * 1+0) ZF4 rfl sc53.size rfl rfl (Zi 2 53 rfl rfl hb10 ?_)))
       obtain ⟨cs_,hl12,hc12,hr12⟩:=X1 (hC.getP 8 rfl) hv12 i10 hi10
       obtain ⟨u17,rfl⟩:=ZGv.1 hl12
       clear hl12
       rw [Xt _ _ hi10] at hr12
       have hp12:=hr12
       replace hC:=hC.derive 8 rfl (ZB9 ZFy.ty.sl ((a2.getD i10 Zuo).terms) [u17] fp2) (fun _=>(Yn hp12)) (fun _ hb_=>hb_)
       refine Xh (u17) (Xr (o:=0) (k:=1) hc12 rfl) sc53 rfl (Zi 2 53 rfl rfl hb10 (Zv hC 0 rfl ZF7 rfl (Zi 2 53 rfl rfl hb10 (Xn rfl rfl (Zi 2 53 rfl rfl hb10 (Zb (v:=.bool (decide ((((a2.getD i10 Zuo).terms).length:Int) > 0))) rfl ?_))))))
       refine Yq (decide ((((a2.getD i10 Zuo).terms).length:Int) > 0)) (fun hb11=>?_) (fun hb11=>?_)
       ·replace h:=ift h (ct hb11)
        refine Zi 10 61 rfl rfl hb11 (Zb (v:=vI r10) rfl (Zi 10 61 rfl rfl hb11 (Zz 0 ZGh rfl sc22.size rfl rfl (Zi 10 61 rfl rfl hb11 (Z6 hC 1 (u0_0) rfl sc22 rfl rfl (Zi 10 61 rfl rfl hb11 (Zb (v:=vI (i10:Int)) rfl (Zi 10 61 rfl rfl hb11 ?_))))))))
        obtain ⟨⟨h10,h11⟩,h⟩:=h
        obtain ⟨Ad15,c13,hv13⟩:=Z1 (hC.getP 6 rfl) i10 (show i10 < a0.degrees.length by omega)
        refine Yp (len:=a0.degrees.length) ZGg sc2.size (tr rfl hv13) rfl h10 h11 (Zi 10 61 rfl rfl hb11 (Xh (vI (a0.degrees.getD i10 Zuo)) (Yi (hC.getP 6 rfl) hv13 i10 (show i10 < a0.degrees.length by omega)) sc2 rfl (Zi 10 61 rfl rfl hb11 (Yw rfl rfl (Zi 2 53 rfl rfl hb10 (Zx (v:=.bool (decide (r10≠a0.degrees.getD i10 Zuo))) (b:=true) (tr rfl (congrArg _ hb11)) rfl (Zx (v:=.bool (decide (r10≠a0.degrees.getD i10 Zuo))) (b:=false) (tr rfl (congrArg _ hb10)) rfl (dn ?_))))))))
        refine Zp rfl (fun hb16=>?_) (fun hb16=>?_)
        ·replace h:=ift h (ct hb16)
         refine sr (Zc (v:=.bool false) rfl (dn ?_))
         refine ZF5 (Zw (Ze (Ze (Zw (Ze ?_)))))
         exact Zk rfl (Zf rfl) ⟨false,rfl,h,hC.below⟩ (.inl rfl)
        ·replace h:=Zj h (cf hb16)
         refine ZF0 (Zs (Zd (Zm (Zb (v:=vI (i10:Int)) rfl (Zr rfl rfl (Zc (v:=vI (Zw2.wrap ((i10:Int)+1))) rfl (done ?_)))))))
         exact hK10 () _ _ ⟨(sl ⟨rfl,rfl,rfl,(tr rfl (congrArg _ (Ya hi10 hN10))),trivial⟩),(hC.sP [3,4,5,6,7,8,9] rfl)⟩ h
       ·replace h:=Zj h (cf hb11)
        refine Zh (b:=false) 10 61 rfl (tr rfl (congrArg _ hb11)) (by decide) (Zh (b:=false) 10 61 rfl (tr rfl (congrArg _ hb11)) (by decide) (Zh (b:=false) 10 61 rfl (tr rfl (congrArg _ hb11)) (by decide) (Zh (b:=false) 10 61 rfl (tr rfl (congrArg _ hb11)) (by decide) (Zh (b:=false) 10 61 rfl (tr rfl (congrArg _ hb11)) (by decide) (Zh (b:=false) 10 61 rfl (tr rfl (congrArg _ hb11)) (by decide) (Zh (b:=false) 10 61 rfl (tr rfl (congrArg _ hb11)) (by decide) (Zi 2 53 rfl rfl hb10 (Zx (v:=.bool false) (b:=false) (tr rfl (congrArg _ hb11)) rfl (Zx (v:=.bool false) (b:=false) (tr rfl (congrArg _ hb10)) rfl (dn (Yb rfl rfl (ZF0 (Zs (Zd (Zm (Zb (v:=vI (i10:Int)) rfl (Zr rfl rfl (Zc (v:=vI (Zw2.wrap ((i10:Int)+1))) rfl (done ?_)))))))))))))))))))
        exact hK10 () _ _ ⟨(sl ⟨rfl,rfl,rfl,(tr rfl (congrArg _ (Ya hi10 hN10))),trivial⟩),(hC.sP [3,4,5,6,7,8,9] rfl)⟩ h
    ·clear hC h
     rintro s10 e_ w19 K10 ⟨hS_,hC⟩ h
     rw [ue hS_]
     refine ZFx (sr (Zb (v:=vI (a2.length:Int)) rfl (Zb (v:=u2_0) rfl (Zv hC 6 rfl ZGl rfl (Zo rfl rfl (dn (Yb rfl (decide_eq_false (by omega)) ?_)))))))
     refine ZGb (Zl (Zl (Z2 ?_)))
     refine Zd (ZFx (sr (Zc (v:=vI 0) rfl (dn (ZF3 ?_)))))
     have hN11:a2.length≤9223372036854775807:=Y5 (hC.getP 6 rfl)
     refine Yl (S:=Unit) _ _ (fun i11 s11 e_ w_=>Zy e_ [(2,u2_0),(3,vQ b8),(4,vQ b10),(10,vI (i11:Int))]∧Ctx Nox w0 w_ [blk b10 32 [u1_0,u1_1],blk b8 32 [u0_0,u0_1]] [ZB9 ZGj.sl a1.images [u1_1] fp1,ZB9 TInts a1.degrees [u1_0] fp1,ZB9 ZGj.sl a0.images [u0_1] fp0,ZB9 TInts a0.degrees [u0_0] fp0,ZB9 TAlg a0 [u0_0,u0_1] fp0,ZB9 TAlg a1 [u1_0,u1_1] fp1,ZB9 ZGj.sl a2 [u2_0] fp2]) a2.length ?_ ?_ (s0:=()) ?_ h
     ·clear hC h
      rintro i11 s11 e_ w20 nx11 K11 hi11 ⟨hS_,hC⟩ h hK11
      rw [ue hS_]
      refine ZFx (sr (Zb (v:=vI (i11:Int)) rfl (Zb (v:=u2_0) rfl (Zv hC 6 rfl ZGl rfl (Zo rfl rfl (dn (Z8 rfl (decide_eq_true (by omega)) (ZF0 (Zd (ZFx (ZF3 (ZFx ?_))))))))))))
      refine cwd 14 mixed [0,1,0,0,8,0,56,120,255,0,0,0,3072,7168,16383,32767,65535,131071,262143] [1,4,6,7,9,12,13] [0,2,3,5,10,11] (fun hM11 hM12 w21 hB_=>?_)
      replace hC:=hC.grow hB_
      refine bF 0 (vQ b10) rfl rfl hM12 (fun _=>by exact Yd 0 ZGh rfl sc22.size rfl rfl) (Za 19 1) (bL 1 (u1_0) rfl rfl hM11 (fun _ hB_=>by exact Yc (hC.grow hB_) 0 (u1_0) rfl sc22 rfl rfl) (Za 19 3) (bM 2 (u2_0) rfl hM12 (Za 19 7) (bF 3 (.pointer (some ⟨b8,1,none⟩)) rfl rfl hM12 (fun _=>by exact Yd 1 ZGh rfl sc28.size rfl rfl) (Za 19 15) (bL 4 (u0_1) rfl rfl hM11 (fun _ hB_=>by exact Yc (hC.grow hB_) 1 (u0_1) rfl sc28 rfl rfl) (Za 19 31) (bM 5 (vI (i11:Int)) rfl hM12 (Za 19 63) ?_)))))
      obtain ⟨⟨h12,h13⟩,h⟩:=h
      obtain ⟨Ad12,c14,hv14⟩:=Z1 (hC.getP 2 rfl) i11 (show i11 < a0.images.length by omega)
      refine bL 6 (.pointer (some (Ad12.add (i11 * 1)))) rfl rfl hM11 (fun _ hB_=>by exact Yx (len:=a0.images.length) ZGl ag55.size (by exact tr rfl hv14) rfl h12 h13) (Za 19 127) ?_
      obtain ⟨cs_,hl13,hc13,hr13⟩:=X1 (hC.getP 2 rfl) hv14 i11 (show i11 < a0.images.length by omega)
      obtain ⟨u12,rfl⟩:=ZGv.1 hl13
      clear hl13
      rw [Xt _ _ (show i11 < a0.images.length by omega)] at hr13
      have hp13:=hr13
      replace hC:=hC.derive 2 rfl (ZB9 ZFy.ty.sl ((a0.images.getD i11 Zuo).terms) [u12] fp0) (fun _=>(Yn hp13)) (fun _ hb_=>hb_)
      refine bL 7 (.agg #[u12]) rfl rfl hM11 (fun _ hB_=>by exact Xq [u12] (Zab hB_ hc13) ag55 rfl rfl) (Za 19 255) (bL 9 (.agg #[u1_0,u1_1]) rfl rfl hM11 (fun _ hB_=>by exact Y3 (hC.grow hB_) 0 [u1_0,u1_1] rfl ag32 rfl rfl rfl) (Za 19 767) (bM 10 (u2_0) rfl hM12 (Za 19 1791) (bM 11 (vI (i11:Int)) rfl hM12 (Za 19 3839) ?_)))
      obtain ⟨Ad13,c15,hv15⟩:=Z1 (hC.getP 7 rfl) i11 hi11
      refine bL 12 (.pointer (some (Ad13.add (i11 * 1)))) rfl rfl hM11 (fun _ hB_=>by exact Yx (len:=a2.length) ZGl ag55.size (by exact tr rfl hv15) rfl (ZGe _) (ZGw.2 hi11)) (Za 19 7935) ?_
      obtain ⟨cs_,hl14,hc14,hr14⟩:=X1 (hC.getP 7 rfl) hv15 i11 hi11
      obtain ⟨u13,rfl⟩:=ZGv.1 hl14
      clear hl14
      rw [Xt _ _ hi11] at hr14
      have hp14:=hr14
      replace hC:=hC.derive 7 rfl (ZB9 ZFy.ty.sl ((a2.getD i11 Zuo).terms) [u13] fp2) (fun _=>(Yn hp14)) (fun _ hb_=>hb_)
      refine bL 13 (.agg #[u13]) rfl rfl hM11 (fun _ hB_=>by exact Xq [u13] (Zab hB_ hc14) ag55 rfl rfl) (Za 19 16127) (aO 8 rfl (Zg [u1_0,u2_0,.agg #[u12]] _ Tryz.func28 rfl rfl rfl (Zs5 a1.degrees a2 (a0.images.getD i11 Zuo) h _ (hC.getP 3 rfl) (hC.getP 8 rfl) (Yj (hC.getP 1 rfl))) ?_))
      rintro _ w22 ⟨r12,u14,f10,rfl,h,hr15,hf10,hB14⟩
      refine rt ?_
      replace hC:=hC.push hB14 (ZGc (Zn 90) r12 [u14] f10) hr15 hf10
      obtain ⟨ho10,hf11⟩:=Y6 (hC.getM 0 rfl)
      subst hf11
      replace hC:=hC.recast (c:=own 90 9 u14 r12.terms.length (ZFy.encs r12.terms)) (fun _ h_=>h_) (fun _=>ho10)
      refine done (aK (by assumption) (Za 19 16383) (Z3 14 (by decide) (by decide) (by kernel_rfl) (by kernel_rfl) rfl (Zg [.agg #[u1_0,u1_1],.agg #[u13]] _ Tryz.func58 rfl rfl rfl (Zk1 a1 (a2.getD i11 Zuo) h _ (Xa (hC.getP 3 rfl) (hC.getP 2 rfl)) (Yj (hC.getP 0 rfl))) ?_)))
      rintro _ w23 ⟨r13,u15,f11,rfl,h,hr16,hf12,hB15⟩
      refine rt ?_
      replace hC:=hC.push hB15 (ZGc (Zn 90) r13 [u15] f11) hr16 hf12
      obtain ⟨ho11,hf13⟩:=Y6 (hC.getM 0 rfl)
      subst hf13
      replace hC:=hC.recast (c:=own 90 9 u15 r13.terms.length (ZFy.encs r13.terms)) (fun _ h_=>h_) (fun _=>ho11)
      refine Zg [.agg #[u14],.agg #[u15],vI 10006] _ Tryz.func41 rfl rfl rfl (Zdb r12 r13 10006 h _ (Yj (Yy (hC.getM 1 rfl))) (Yj (Yy (hC.getM 0 rfl)))) ?_
      rintro _ w24 ⟨r15,u16,f12,rfl,h,hr17,hf14,hB16⟩
      refine rt ?_
      replace hC:=hC.push hB16 (ZGc (Zn 90) r15 [u16] f12) hr17 hf14
      obtain ⟨ho12,hf15⟩:=Y6 (hC.getM 0 rfl)
      subst hf15
      replace hC:=hC.recast (c:=own 90 9 u16 r15.terms.length (ZFy.encs r15.terms)) (fun _ h_=>h_) (fun _=>ho12)
      refine Zkv (u16) ZF4 rfl sc53 rfl rfl (Zek hC 0 rfl ZF7 rfl (Xn rfl rfl (done (Z4 (Zd ?_)))))
      refine Zp rfl (fun hb17=>?_) (fun hb17=>?_)
      ·replace h:=ift h (ct hb17)
       refine sr (Zc (v:=.bool false) rfl (dn ?_))
       refine ZF5 (Zw (Ze (Ze (Zw (Ze ?_)))))
       exact Zk rfl (Zf rfl) ⟨false,rfl,h,hC.below⟩ (.inl rfl)
      ·replace h:=Zj h (cf hb17)
       refine ZF0 (Zs (Zd (Zm (Zb (v:=vI (i11:Int)) rfl (Zr rfl rfl (Zc (v:=vI (Zw2.wrap ((i11:Int)+1))) rfl (done ?_)))))))
       exact hK11 () _ _ ⟨(sl ⟨rfl,rfl,rfl,(tr rfl (congrArg _ (Ya hi11 hN11))),trivial⟩),((hC.xM [3,4] rfl).sP [2,3,4,5,6,7,8] rfl)⟩ h
     ·clear hC h
      rintro s11 e_ w25 K11 ⟨hS_,hC⟩ h
      rw [ue hS_]
      refine ZFx (sr (Zb (v:=vI (a2.length:Int)) rfl (Zb (v:=u2_0) rfl (Zv hC 6 rfl ZGl rfl (Zo rfl rfl (dn (Yb rfl (decide_eq_false (by omega)) ?_)))))))
      refine ZGb (Zl (Zl (Z2 ?_)))
      refine Zd (sr (Zc (v:=.bool true) rfl (dn (ZF5 ?_))))
      exact Zk rfl (Zf rfl) ⟨true,rfl,h,hC.below⟩ (.inl rfl)
     ·skip
      exact⟨(slq rfl),hC⟩
    ·skip
     exact⟨(slq rfl),hC⟩
def Zdz (a0:Int) (K:ZF1→Prop):Prop :=
 ((0≤a0∧a0 < 8)∧Xx (ZF2.set a0.toNat 1) 1 (fun r10=>K r10))
theorem Zs7 (a0:Int)  {K:ZF1→Prop} (h:Zdz a0 K) (w0:World)  :
  Calls ZFz 42 #[vI a0] w0 fun e w'=>∃ (r0:ZF1) (z0_0:Value) (fz0:List Nat),
   e=.returned (.agg #[z0_0])∧K r0∧(ZGc (Zn 90) r0 [z0_0] fz0).holds w'∧(∀ b,b∈fz0→w0.heap.size≤b)∧Bel w0 w':=by
 unfold Zdz at h
 refine cof Tryz.func42 rfl 9 Tryz.ntmps42 ?_
 have hC:=ZGi (X:=Nox) w0 [] (by simp)
 refine sr (Z9 hC [.slice none 0 0] z55 rfl fun b1 w3 hB_ hC=>dn (sr (Xl [] rfl (Zda   _) (Z9 hC (ZFv .u8 ZF2) z88 rfl fun b4 w6 hB_ hC=>Zu (v:=.agg (ZFw (ZFv .u8 ZF2))) hC 0 (ZFv .u8 ZF2) (ZFv .u8 ZF2) rfl ag88.size rfl rfl rfl rfl rfl (ZF6 rfl) rfl fun w7 hC=>dn (sr (Zb (v:=vI a0) rfl ?_))))))
 obtain ⟨⟨h0_8,h1_9⟩,h⟩:=h
 refine Y9 a0.toNat ZGf sc5.size rfl rfl h0_8 h1_9 (by omega) (Zu (v:=.int .u8 1) hC 0 [.int .u8 1] (ZFv .u8 (ZF2.set a0.toNat 1)) rfl sc5.size rfl rfl rfl rfl rfl (show a0.toNat < 8 by omega) (A8.enc_set _ _ _ (show a0.toNat < 8 by omega)) fun w10 hC=>dn (sr (Yg hC 0 (ZFv .u8 (ZF2.set a0.toNat 1)) rfl ag88 rfl rfl rfl (Zg [.agg (ZFw (ZFv .u8 (ZF2.set a0.toNat 1))),vI 1] _ Tryz.func59 rfl rfl rfl (Za6 (ZF2.set a0.toNat 1) 1 h _) ?_))))
 rintro _ w11 ⟨r10,u10,f10,rfl,h,hr10,hf10,hB10⟩
 refine rt ?_
 replace hC:=hC.push hB10 (ZGc (Zn 90) r10 [u10] f10) hr10 hf10
 obtain ⟨ho10,hf11⟩:=Y6 (hC.getM 0 rfl)
 subst hf11
 replace hC:=hC.recast (c:=own 90 9 u10 r10.terms.length (ZFy.encs r10.terms)) (fun _ h_=>h_) (fun _=>ho10)
 refine Zu (v:=.agg #[u10]) hC 2 [u10] [u10] rfl ag55.size rfl rfl rfl rfl (Yo (Y8 (hC.getM 0 rfl)) rfl) (ZF6 rfl) rfl fun w12 hC=>dn (ZF5 ?_)
 exact Zk rfl (Xp hC 2 rfl ag55 rfl rfl) ⟨r10,u10,(ZGu (Zva u10)),rfl,h,(Jf (Je (hC.getM 0 rfl))),(Jt hC 0 rfl),hC.below⟩ (.inl rfl)
def Zfx (a0:Alg) (a1:List Int) (a2:Int) (K:List ZF1→Int→Prop):Prop :=
 Zcc a0 (fun r14=>(if¬ (r14=true) then K [] 1 else(if(a1.length:Int)≠(a0.degrees.length:Int) then K [] 2 else Zbh a2 1 10006 (fun r13=>(if¬ (r13=true) then K [] 2 else Ye (fun i10 (s11:(List ZF1)) nx10=>Zbh (a1.getD i10 Zuo) 0 1000 (fun r15=>(if¬ (r15=true) then K [] 2 else Xo (fun (s10:Int×Int) nx11=>(if s10.2 > 0 then Xw (Zw2.wrap (s10.1 * a2)) (fun r12=>nx11 (r12,Zw2.wrap (s10.2 - 1))) else Zdz (i10:Int) (fun r10=>Jl (⟨[]⟩:ZF1) r10 s10.1 (fun r11=>(X5 (s11.length+1) 24∧nx10 (s11++[r11])))))) (1,a1.getD i10 Zuo)))) (fun (s11:(List ZF1))=>Zfw (⟨a0.degrees,a0.images⟩:Alg) (⟨a0.degrees,a0.images⟩:Alg) s11 (fun r16=>(if¬ (r16=true) then K [] 5 else K s11 0))) a1.length 0 [])))))
theorem Zs8 (a0 : Alg) (a1 : List Int) (a2 : Int)  {K : List ZF1 → Int → Prop} (h : Zfx a0 a1 a2 K) (w0 : World) (q0 : TAlg.rep a0 [u0_0, u0_1] fp0 w0) (q1 : TInts.rep a1 [u1_0] fp1 w0) :
  Calls ZFz 17 #[.agg #[u0_0,u0_1],u1_0,vI a2] w0 fun e w'=>∃ (r0:List ZF1) (z0_0:Value) (fz0:List Nat) (r1:Int),
   e=.returned (.tuple #[z0_0,vI r1])∧K r0 r1∧(ZGc (ZMb 55 (Zn 90)) r0 [z0_0] fz0).holds w'∧(∀ b,b∈fz0→w0.heap.size≤b)∧Bel w0 w':=by
 unfold Zfx at h
 refine cof Tryz.func17 rfl 65 Tryz.ntmps17 ?_
 have hC:=ZGi (X:=Nox) w0 [ZB9 TAlg a0 [u0_0,u0_1] fp0,ZB9 TInts a1 [u1_0] fp1] (alc q0 (al1 q1))
 replace hC:=hC.dAlg 0 rfl
 refine sr (Yh (v:=.agg #[u0_0,u0_1]) hC [u0_0,u0_1] rfl rfl fun b5 w7 hB_ hC=>Zc (v:=.slice none 0 0) rfl (Zc (v:=vI 0) rfl (dn (ZFx (sr (Yg hC 0 [u0_0,u0_1] rfl ag32 rfl rfl rfl (Zg [.agg #[u0_0,u0_1]] _ Tryz.func38 rfl rfl rfl (Zir a0 h _ (Xa (hC.getP 1 rfl) (hC.getP 0 rfl))) ?_)))))))
 rintro _ w10 ⟨r14,rfl,h,hB10⟩
 refine rt ?_
 replace hC:=hC.grow hB10
 refine Yu rfl (dn ?_)
 refine Zp rfl (fun hb11=>?_) (fun hb11=>?_)
 ·replace h:=ift h (Ym (Yz hb11))
  refine sr (Zc (v:=.slice none 0 0) rfl (Zc (v:=vI 1) rfl (dn ?_)))
  refine ZF5 (Ze ?_)
  exact Xg rfl (Zf rfl) (Zf rfl) ⟨[],.slice none 0 0,[],1,rfl,h,(Jo _ _ _),(fun b hb=>absurd hb (by simp)),hC.below⟩ (.inl rfl)
 ·replace h:=Zj h (not_not_intro ((Y0 hb11)))
  refine ZF0 (Zd (ZFx (sr (Zb (v:=u1_0) rfl (Zv hC 3 rfl ZGg rfl (Zz 0 ZGh rfl sc22.size rfl rfl (Z6 hC 0 (u0_0) rfl sc22 rfl rfl (Zv hC 1 rfl ZGg rfl (Yw rfl rfl (Zb (v:=.bool (decide ((a1.length:Int)≠(a0.degrees.length:Int)))) rfl ?_))))))))))
  refine Yq (decide ((a1.length:Int)≠(a0.degrees.length:Int))) (fun hb10=>?_) (fun hb10=>?_)
  ·replace h:=ift h (ct hb10)
   refine Zh (b:=true) 6 21 rfl (tr rfl (congrArg _ hb10)) (by decide) (Zh (b:=true) 6 21 rfl (tr rfl (congrArg _ hb10)) (by decide) (Zh (b:=true) 6 21 rfl (tr rfl (congrArg _ hb10)) (by decide) (Zx (v:=.bool true) (b:=true) (tr rfl (congrArg _ hb10)) rfl (dn (Z8 rfl rfl (sr (Zc (v:=.slice none 0 0) rfl (Zc (v:=vI 2) rfl (dn ?_)))))))))
   refine ZF5 (Ze ?_)
   exact Xg rfl (Zf rfl) (Zf rfl) ⟨[],.slice none 0 0,[],2,rfl,h,(Jo _ _ _),(fun b hb=>absurd hb (by simp)),hC.below⟩ (.inl rfl)
  ·replace h:=Zj h (cf hb10)
   refine Zi 6 21 rfl rfl hb10 (Zb (v:=vI a2) rfl (Zi 6 21 rfl rfl hb10 (Zg [vI a2,vI 1,vI 10006] _ Tryz.func39 rfl rfl rfl (Zgo a2 1 10006 h _) ?_)))
   rintro _ w11 ⟨r13,rfl,h,hB11⟩
   refine rt ?_
   replace hC:=hC.grow hB11
   refine Zi 6 21 rfl rfl hb10 (Yu rfl (Zx (v:=.bool (!r13)) (b:=false) (tr rfl (congrArg _ hb10)) rfl (dn ?_)))
   refine Zp rfl (fun hb12=>?_) (fun hb12=>?_)
   ·replace h:=ift h (Ym (Yz hb12))
    refine sr (Zc (v:=.slice none 0 0) rfl (Zc (v:=vI 2) rfl (dn ?_)))
    refine ZF5 (Ze ?_)
    exact Xg rfl (Zf rfl) (Zf rfl) ⟨[],.slice none 0 0,[],2,rfl,h,(Jo _ _ _),(fun b hb=>absurd hb (by simp)),hC.below⟩ (.inl rfl)
   ·replace h:=Zj h (not_not_intro ((Y0 hb12)))
    refine ZF0 (Zd (sr (Jc (sz:=1) hC [] [] rfl (fun _=>Zhk _) rfl (by decide) fun b11 w12 hB_ hC=>?_)))
    replace hC:=hC.pushM0 (Yk (Zn 90) ([]:List ZF1) [] []) (Zar _ _) rfl
    replace hC:=hC.gather (c:=ZGc (ZMb 55 (Zn 90)) [] [.slice (some ⟨b11,0,none⟩) 0 0] ((ZGu (Zva (.slice (some ⟨b11,0,none⟩) 0 0)))++([]:List (List Nat)).flatten)) (fun x_ hx_=>(Zu1.1 hx_).symm) (fun h1_ h2_ hd_=>J5 h2_ h1_ (fun b_ hb_ hb2_=>hd_ b_ hb2_ hb_))
    refine Zc (v:=.slice (some ⟨b11,0,none⟩) 0 0) rfl (dn (ZFx (sr (Zc (v:=vI 0) rfl (dn (ZF3 ?_))))))
    have hN10:a1.length≤9223372036854775807:=Y5 (hC.getP 3 rfl)
    refine Yl (S:=(List ZF1)) _ _ (fun i10 s11 e_ w_=>∃ (v10:Value),∃ (f10:List Nat),Zy e_ [(1,u1_0),(2,vI a2),(3,vQ b5),(8,v10),(9,vI (i10:Int))]∧Ctx Nox w0 w_ [ZGc (ZMb 55 (Zn 90)) s11 [v10] f10,blk b5 32 [u0_0,u0_1]] [ZB9 ZGj.sl a0.images [u0_1] fp0,ZB9 TInts a0.degrees [u0_0] fp0,ZB9 TAlg a0 [u0_0,u0_1] fp0,ZB9 TInts a1 [u1_0] fp1]) a1.length ?_ ?_ (s0:=[]) ?_ h
    ·clear hC h
     rintro i10 s11 e_ w13 nx10 K10 hi10 ⟨v10,f10,hS_,hC⟩ h hK10
     rw [ue hS_]
     refine ZFx (sr (Zb (v:=vI (i10:Int)) rfl (Zb (v:=u1_0) rfl (Zv hC 3 rfl ZGg rfl (Zo rfl rfl (dn (Z8 rfl (decide_eq_true (by omega)) (ZF0 (Zd (ZFx (ZF3 (ZFx (sr (Zb (v:=u1_0) rfl (Zb (v:=vI (i10:Int)) rfl ?_)))))))))))))))
     obtain ⟨Ad10,c10,hv10⟩:=Z1 (hC.getP 3 rfl) i10 hi10
     refine Yp (len:=a1.length) ZGg sc2.size (tr rfl hv10) rfl (ZGe _) (ZGw.2 hi10) (Xh (vI (a1.getD i10 Zuo)) (Yi (hC.getP 3 rfl) hv10 i10 hi10) sc2 rfl (Zg [vI (a1.getD i10 Zuo),vI 0,vI 1000] _ Tryz.func39 rfl rfl rfl (Zgo (a1.getD i10 Zuo) 0 1000 h _) ?_))
     rintro _ w14 ⟨r15,rfl,h,hB12⟩
     refine rt ?_
     replace hC:=hC.grow hB12
     refine Yu rfl (dn ?_)
     refine Zp rfl (fun hb13=>?_) (fun hb13=>?_)
     ·replace h:=ift h (Ym (Yz hb13))
      refine sr (Zc (v:=.slice none 0 0) rfl (Zc (v:=vI 2) rfl (dn ?_)))
      refine ZF5 (Ze (Zw (Ze (Ze (Zw (Ze ?_))))))
      exact Xg rfl (Zf rfl) (Zf rfl) ⟨[],.slice none 0 0,[],2,rfl,h,(Jo _ _ _),(fun b hb=>absurd hb (by simp)),hC.below⟩ (.inl rfl)
     ·replace h:=Zj h (not_not_intro ((Y0 hb13)))
      refine ZF0 (Zd (sr (Zc (v:=vI 1) rfl (dn (ZFx (sr (Zb (v:=u1_0) rfl (Zb (v:=vI (i10:Int)) rfl ?_))))))))
      obtain ⟨Ad11,c11,hv11⟩:=Z1 (hC.getP 3 rfl) i10 hi10
      refine Yp (len:=a1.length) ZGg sc2.size (tr rfl hv11) rfl (ZGe _) (ZGw.2 hi10) (Xh (vI (a1.getD i10 Zuo)) (Yi (hC.getP 3 rfl) hv11 i10 hi10) sc2 rfl (Zc (v:=vI (a1.getD i10 Zuo)) rfl (dn (ZF3 ?_))))
      refine X7 (S:=Int×Int) _ (fun s10 e_ w_=>Zy e_ [(1,u1_0),(2,vI a2),(3,vQ b5),(8,v10),(9,vI (i10:Int)),(10,vI s10.1),(11,vI s10.2)]∧Ctx Nox w0 w_ [ZGc (ZMb 55 (Zn 90)) s11 [v10] f10,blk b5 32 [u0_0,u0_1]] [ZB9 ZGj.sl a0.images [u0_1] fp0,ZB9 TInts a0.degrees [u0_0] fp0,ZB9 TAlg a0 [u0_0,u0_1] fp0,ZB9 TInts a1 [u1_0] fp1]) ?_ (s0:=(1,a1.getD i10 Zuo)) ?_ h
      ·clear hC h
       rintro s10 e_ w15 nx11 K11 ⟨hS_,hC⟩ h hK11
       rw [ue hS_]
       refine ZFx (sr (Zb (v:=vI s10.2) rfl (Xn rfl rfl (dn ?_))))
       refine Zp rfl (fun hb14=>?_) (fun hb14=>?_)
       ·replace h:=ift h (ct hb14)
        refine ZF0 (Zd (ZFx (ZF3 (Zm (Zb (v:=vI s10.1) rfl (Zb (v:=vI a2) rfl (J7 rfl rfl (Zg [vI (Zw2.wrap (s10.1 * a2))] _ Tryz.func40 rfl rfl rfl (Za5 (Zw2.wrap (s10.1 * a2)) h _) ?_))))))))
        rintro _ w16 ⟨r12,rfl,h,hB13⟩
        refine rt ?_
        replace hC:=hC.grow hB13
        refine Zc (v:=vI r12) rfl (done (Zs (Zd (Zm (Zb (v:=vI s10.2) rfl (Zbc rfl rfl (Zc (v:=vI (Zw2.wrap (s10.2 - 1))) rfl (done ?_))))))))
        exact hK11 (r12,Zw2.wrap (s10.2 - 1)) _ _ ⟨(slq rfl),hC⟩ h
       ·replace h:=Zj h (cf hb14)
        refine ZGb (Zl (Zl (Z2 ?_)))
        refine Zd (Zm (Zb (v:=v10) rfl (Xl [] rfl (Zas   _) (Zb (v:=vI (i10:Int)) rfl (Zg [vI (i10:Int)] _ Tryz.func42 rfl rfl rfl (Zs7 (i10:Int) h _) ?_)))))
        rintro _ w17 ⟨r10,u11,f11,rfl,h,hr10,hf10,hB14⟩
        refine rt ?_
        replace hC:=hC.push hB14 (ZGc (Zn 90) r10 [u11] f11) hr10 hf10
        obtain ⟨ho10,hf11⟩:=Y6 (hC.getM 0 rfl)
        subst hf11
        replace hC:=hC.recast (c:=own 90 9 u11 r10.terms.length (ZFy.encs r10.terms)) (fun _ h_=>h_) (fun _=>ho10)
        refine Zb (v:=vI s10.1) rfl (Zg [.agg #[.slice none 0 0],.agg #[u11],vI s10.1] _ Tryz.func41 rfl rfl rfl (Zdb (⟨[]⟩:ZF1) r10 s10.1 h _ (Yj (Zh0 _ _)) (Yj (Yy (hC.getM 0 rfl)))) ?_)
        rintro _ w18 ⟨r11,u10,f12,rfl,h,hr11,hf12,hB15⟩
        refine rt ?_
        replace hC:=hC.push hB15 (ZGc (Zn 90) r11 [u10] f12) hr11 hf12
        obtain ⟨ho11,hf13⟩:=Y6 (hC.getM 0 rfl)
        subst hf13
        replace hC:=hC.recast (c:=own 90 9 u10 r11.terms.length (ZFy.encs r11.terms)) (fun _ h_=>h_) (fun _=>ho11)
        refine Jc (sz:=1) hC [(0,.agg #[u10])] [u10] rfl (fun _=>Zhl u10 (Zeg (hC.getM 0 rfl)) _) rfl (by decide) fun b10 w19 hB_ hC=>?_
        replace hC:=hC.pushM0 (Yk (Zn 90) [] [] []) (Zar _ _) rfl
        replace hC:=hC.sM [2,0,1,3,4,5] (M':=[own 90 9 u10 r11.terms.length (ZFy.encs r11.terms),Yk (Zn 90) [] [] [],own 55 1 (.slice (some ⟨b10,0,none⟩) 1 1) 1 [u10],own 90 9 u11 r10.terms.length (ZFy.encs r10.terms),ZGc (ZMb 55 (Zn 90)) s11 [v10] f10,blk b5 32 [u0_0,u0_1]]) (by decide) rfl
        replace hC:=hC.gather (c:=Yk (Zn 90) [r11] [u10] [(ZGu (Zva u10))]) (fun x_ hx_=>Zej hx_) (fun h1_ h2_ hd_=>Zc6 (c:=[u10]) (Jf (Je h1_)) h2_ hd_)
        replace hC:=hC.sM [1,0,2,3,4] (M':=[own 55 1 (.slice (some ⟨b10,0,none⟩) 1 1) 1 [u10],Yk (Zn 90) [r11] [u10] [(ZGu (Zva u10))],own 90 9 u11 r10.terms.length (ZFy.encs r10.terms),ZGc (ZMb 55 (Zn 90)) s11 [v10] f10,blk b5 32 [u0_0,u0_1]]) (by decide) rfl
        replace hC:=hC.gather (c:=ZGc (ZMb 55 (Zn 90)) [r11] [.slice (some ⟨b10,0,none⟩) 1 1] ((ZGu (Zva (.slice (some ⟨b10,0,none⟩) 1 1)))++([(ZGu (Zva u10))]:List (List Nat)).flatten)) (fun x_ hx_=>Zu1.1 hx_) (fun h1_ h2_ hd_=>J5 h1_ h2_ hd_)
        replace hC:=hC.sM [2,0,1,3] (M':=[ZGc (ZMb 55 (Zn 90)) s11 [v10] f10,ZGc (ZMb 55 (Zn 90)) [r11] [.slice (some ⟨b10,0,none⟩) 1 1] ((ZGu (Zva (.slice (some ⟨b10,0,none⟩) 1 1)))++([(ZGu (Zva u10))]:List (List Nat)).flatten),own 90 9 u11 r10.terms.length (ZFy.encs r10.terms),blk b5 32 [u0_0,u0_1]]) (by decide) rfl
        obtain ⟨hm10,h⟩:=h
        refine Zei hC ZGl Zfh rfl (by decide) (by decide) rfl rfl hm10 fun v11 f13 w20 hC=>Zc (v:=v11) rfl (done (Zs (Zd (Zm (Zb (v:=vI (i10:Int)) rfl (Zr rfl rfl (Zc (v:=vI (Zw2.wrap ((i10:Int)+1))) rfl (done ?_))))))))
        exact hK10 (s11++[r11]) _ _ ⟨v11,f13,(sl ⟨rfl,rfl,rfl,rfl,(tr rfl (congrArg _ (Ya hi10 hN10))),trivial⟩),(hC.xM [0,2] rfl)⟩ h
      ·skip
       exact⟨(slq rfl),hC⟩
    ·clear hC h
     rintro s11 e_ w21 K10 ⟨v10,f10,hS_,hC⟩ h
     rw [ue hS_]
     refine ZFx (sr (Zb (v:=vI (a1.length:Int)) rfl (Zb (v:=u1_0) rfl (Zv hC 3 rfl ZGg rfl (Zo rfl rfl (dn (Yb rfl (decide_eq_false (by omega)) ?_)))))))
     refine ZGb (Zl (Zl (Z2 ?_)))
     refine Zd (ZFx (sr (Yg hC 1 [u0_0,u0_1] rfl ag32 rfl rfl rfl (Yg hC 1 [u0_0,u0_1] rfl ag32 rfl rfl rfl (Zb (v:=v10) rfl (Zg [.agg #[u0_0,u0_1],.agg #[u0_0,u0_1],v10] _ Tryz.func27 rfl rfl rfl (Zs6 (⟨a0.degrees,a0.images⟩:Alg) (⟨a0.degrees,a0.images⟩:Alg) s11 h _ (Xa (hC.getP 1 rfl) (hC.getP 0 rfl)) (Xa (hC.getP 1 rfl) (hC.getP 0 rfl)) (ZP3 _ (hC.getM 0 rfl).1)) ?_))))))
     rintro _ w22 ⟨r16,rfl,h,hB16⟩
     refine rt ?_
     replace hC:=hC.grow hB16
     refine Yu rfl (dn ?_)
     refine Zp rfl (fun hb15=>?_) (fun hb15=>?_)
     ·replace h:=ift h (Ym (Yz hb15))
      refine sr (Zc (v:=.slice none 0 0) rfl (Zc (v:=vI 5) rfl (dn ?_)))
      refine ZF5 (Ze ?_)
      exact Xg rfl (Zf rfl) (Zf rfl) ⟨[],.slice none 0 0,[],5,rfl,h,(Jo _ _ _),(fun b hb=>absurd hb (by simp)),hC.below⟩ (.inl rfl)
     ·replace h:=Zj h (not_not_intro ((Y0 hb15)))
      refine ZF0 (Zd (sr (Zb (v:=v10) rfl (Zc (v:=v10) rfl (Zc (v:=vI 0) rfl (dn (ZF5 ?_)))))))
      exact Xg rfl (Zf rfl) (Zf rfl) ⟨s11,v10,f10,0,rfl,h,(hC.getM 0 rfl),(Zc5 hC 0 rfl),hC.below⟩ (.inl rfl)
    ·skip
     exact⟨.slice (some ⟨b11,0,none⟩) 0 0,((ZGu (Zva (.slice (some ⟨b11,0,none⟩) 0 0)))++([]:List (List Nat)).flatten),(slq rfl),hC⟩
def Zd0 (a0:Int) (K:Bool→Prop):Prop :=
 Zcd a0 0 1000 (fun r4=>K (!r4))
theorem Zs9 (a0:Int)  {K:Bool→Prop} (h:Zd0 a0 K) (w0:World)  :
  Calls ZFz 44 #[vI a0] w0 fun e w'=>∃ (r0:Bool),
   e=.returned (.bool r0)∧K r0∧Bel w0 w':=by
 unfold Zd0 at h
 refine cof Tryz.func44 rfl 6 Tryz.ntmps44 ?_
 have hC:=ZGi (X:=Nox) w0 [] (by simp)
 refine sr (Zc (v:=.bool false) rfl (dn (sr (Zb (v:=vI a0) rfl (Zg [vI a0,vI 0,vI 1000] _ Tryz.func45 rfl rfl rfl (Zis a0 0 1000 h _) ?_)))))
 rintro _ w3 ⟨r4,rfl,h,hB5⟩
 refine rt ?_
 replace hC:=hC.grow hB5
 refine Yu rfl (Zc (v:=.bool (!r4)) rfl (dn (ZF5 ?_)))
 exact Zk rfl (Zf rfl) ⟨!r4,rfl,h,hC.below⟩ (.inl rfl)
def Zhm (a0:Int) (K:A8→Prop):Prop :=
 ((0≤a0∧a0 < 8)∧K (ZF2.set a0.toNat 1))
theorem Zta (a0:Int)  {K:A8→Prop} (h:Zhm a0 K) (w0:World)  :
  Calls ZFz 75 #[vI a0] w0 fun e w'=>∃ (r0:A8),
   e=.returned (.agg (ZFw (ZFv .i64 r0)))∧K r0∧Bel w0 w':=by
 unfold Zhm at h
 refine cof Tryz.func75 rfl 8 Tryz.ntmps75 ?_
 have hC:=ZGi (X:=Nox) w0 [] (by simp)
 refine sr (Z9 hC (ZFv .i64 ZF2) Jq rfl fun b1 w3 hB_ hC=>dn (sr (Xl [] rfl (Zem   _) (Z9 hC (ZFv .i64 ZF2) Jq rfl fun b4 w6 hB_ hC=>Zu (v:=.agg (ZFw (ZFv .i64 ZF2))) hC 0 (ZFv .i64 ZF2) (ZFv .i64 ZF2) rfl ag110.size rfl rfl rfl rfl rfl (ZF6 rfl) rfl fun w7 hC=>dn (sr (Zb (v:=vI a0) rfl ?_))))))
 obtain ⟨⟨h0_8,h1_9⟩,h⟩:=h
 refine Y9 a0.toNat Tryz.underlying110 sc3.size rfl rfl h0_8 h1_9 (by omega) (Zu (v:=vI 1) hC 0 [vI 1] (ZFv .i64 (ZF2.set a0.toNat 1)) rfl sc3.size rfl rfl rfl rfl rfl (show a0.toNat < 8 by omega) (A8.enc_set _ _ _ (show a0.toNat < 8 by omega)) fun w10 hC=>dn (sr (Yg hC 0 (ZFv .i64 (ZF2.set a0.toNat 1)) rfl ag110 rfl rfl rfl (Zu (v:=.agg (ZFw (ZFv .i64 (ZF2.set a0.toNat 1)))) hC 1 (ZFv .i64 (ZF2.set a0.toNat 1)) (ZFv .i64 (ZF2.set a0.toNat 1)) rfl ag110.size rfl rfl rfl rfl rfl (ZF6 rfl) rfl fun w11 hC=>dn (ZF5 ?_)))))
 exact Zk rfl (Xp hC 1 rfl ag110 rfl rfl) ⟨ZF2.set a0.toNat 1,rfl,h,hC.below⟩ (.inl rfl)
def Zbs (a0:Int) (a1:Int) (K:ZF1→Prop):Prop :=
 Zhm a0 (fun r11=>Zdg (Yf ([]:List (A8×Int)) r11 a1) (fun r10 r12=>K r10))
theorem Zjd (a0:Int) (a1:Int)  {K:ZF1→Prop} (h:Zbs a0 a1 K) (w0:World)  :
  Calls ZFz 49 #[vI a0,vI a1] w0 fun e w'=>∃ (r0:ZF1) (z0_0:Value) (fz0:List Nat),
   e=.returned (.agg #[z0_0])∧K r0∧(ZGc (Zn 90) r0 [z0_0] fz0).holds w'∧(∀ b,b∈fz0→w0.heap.size≤b)∧Bel w0 w':=by
 unfold Zbs at h
 refine cof ZP7 rfl 17 Tryz.ntmps49 ?_
 have hC:=ZGi (X:=Nox) w0 [] (by simp)
 refine sr (Z9 hC [.slice none 0 0] z55 rfl fun b1 w3 hB_ hC=>dn (sr (Zbg hC (kvA .i64) (vvI .i64) fun b4 w6 hB_ hC=>Zb (v:=vI a0) rfl (Zg [vI a0] _ Tryz.func75 rfl rfl rfl (Zta a0 h _) ?_))))
 rintro _ w9 ⟨r11,rfl,h,hB10⟩
 refine rt ?_
 replace hC:=hC.grow hB10
 refine Zb (v:=vI a1) rfl ?_
 refine Zef hC 0 r11 a1 rfl X3 Tryz.underlying99 rfl rfl rfl (fun w10 hC=>?_) (.inr rfl)
 refine Zb (v:=.map (some b4)) rfl (Zg [.map (some b4)] _ Tryz.func66 rfl rfl rfl (Zpr (Yf ([]:List (A8×Int)) r11 a1) h _ (hC.getM 0 rfl)) ?_)
 rintro _ w11 ⟨r10,u10,f10,r12,rfl,h,hr10,hf10,hB11⟩
 refine rt ?_
 replace hC:=hC.push hB11 (ZGc (Zn 90) r10 [u10] f10) hr10 hf10
 obtain ⟨ho10,hf11⟩:=Y6 (hC.getM 0 rfl)
 subst hf11
 replace hC:=hC.recast (c:=own 90 9 u10 r10.terms.length (ZFy.encs r10.terms)) (fun _ h_=>h_) (fun _=>ho10)
 refine Zb (v:=.tuple #[.agg #[u10],vI r12]) rfl (Y7 (v:=.agg #[u10]) rfl rfl (Y7 (v:=vI r12) rfl rfl (Z9 hC [.slice none 0 0] z55 rfl fun b10 w12 hB_ hC=>Zu (v:=.agg #[u10]) hC 0 [u10] [u10] rfl ag55.size rfl rfl rfl rfl (Yo (Y8 (hC.getM 1 rfl)) rfl) (ZF6 rfl) rfl fun w13 hC=>Zc (v:=vI r12) rfl (dn (sr (Yg hC 0 [u10] rfl ag55 rfl rfl rfl (Zu (v:=.agg #[u10]) hC 3 [u10] [u10] rfl ag55.size rfl rfl rfl rfl (Yo (Y8 (hC.getM 1 rfl)) rfl) (ZF6 rfl) rfl fun w14 hC=>dn (ZF5 ?_))))))))
 exact Zk rfl (Xp hC 3 rfl ag55 rfl rfl) ⟨r10,u10,(ZGu (Zva u10)),rfl,h,(Jf (Je (hC.getM 1 rfl))),(Jt hC 1 rfl),hC.below⟩ (.inl rfl)
def Zfy (a0:List Int) (a1:List Int) (a2:List ZF1) (K:Bool→Prop):Prop :=
 (if(a2.length:Int)≠(a0.length:Int) then K false else Ye (fun i10 (s10:Unit) nx10=>Zcf a1 (a2.getD i10 Zuo) (fun r10=>(if¬ (r10=true) then K false else((0≤(i10:Int)∧(i10:Int) < (a0.length:Int))∧Zdh a1 (a2.getD i10 Zuo) (a0.getD i10 Zuo) (fun r11=>(if¬ (r11=true) then K false else nx10 ())))))) (fun (s10:Unit)=>K true) a2.length 0 ())
theorem Ztb (a0:List Int) (a1:List Int) (a2:List ZF1)  {K:Bool→Prop} (h:Zfy a0 a1 a2 K) (w0:World) (q0:TInts.rep a0 [u0_0] fp0 w0) (q1:TInts.rep a1 [u1_0] fp1 w0) (q2:ZGj.sl.rep a2 [u2_0] fp2 w0) :
  Calls ZFz 76 #[u0_0,u1_0,u2_0] w0 fun e w'=>∃ (r0:Bool),
   e=.returned (.bool r0)∧K r0∧Bel w0 w':=by
 unfold Zfy at h
 refine cof Tryz.func76 rfl 36 Tryz.ntmps76 ?_
 have hC:=ZGi (X:=Nox) w0 [ZB9 TInts a0 [u0_0] fp0,ZB9 TInts a1 [u1_0] fp1,ZB9 ZGj.sl a2 [u2_0] fp2] (alc q0 (alc q1 (al1 q2)))
 refine sr (Zc (v:=.bool false) rfl (dn (ZFx (sr (Zb (v:=u2_0) rfl (Zv hC 2 rfl ZGl rfl (Zb (v:=u0_0) rfl (Zv hC 0 rfl ZGg rfl (Yw rfl rfl (dn ?_))))))))))
 refine Zp rfl (fun hb11=>?_) (fun hb11=>?_)
 ·replace h:=ift h (ct hb11)
  refine sr (Zc (v:=.bool false) rfl (dn ?_))
  refine ZF5 (Ze ?_)
  exact Zk rfl (Zf rfl) ⟨false,rfl,h,hC.below⟩ (.inl rfl)
 ·replace h:=Zj h (cf hb11)
  refine ZF0 (Zd (ZFx (sr (Zb (v:=u2_0) rfl (Zv hC 2 rfl ZGl rfl (Zb (v:=vI 0) rfl (dn (ZF3 ?_))))))))
  have hN10:a2.length≤9223372036854775807:=Y5 (hC.getP 2 rfl)
  refine Yl (S:=Unit) _ _ (fun i10 s10 e_ w_=>Zy e_ [(0,u0_0),(1,u1_0),(14,u2_0),(15,vI (a2.length:Int)),(16,vI (i10:Int))]∧Ctx Nox w0 w_ [] [ZB9 TInts a0 [u0_0] fp0,ZB9 TInts a1 [u1_0] fp1,ZB9 ZGj.sl a2 [u2_0] fp2]) a2.length ?_ ?_ (s0:=()) ?_ h
  ·clear hC h
   rintro i10 s10 e_ w10 nx10 K10 hi10 ⟨hS_,hC⟩ h hK10
   rw [ue hS_]
   refine sr (Zo rfl rfl (dn (ZFx (Z8 rfl (decide_eq_true (by omega)) (ZF0 (Zd (ZFx (ZF3 (sr (Zb (v:=vI (i10:Int)) rfl ?_))))))))))
   obtain ⟨Ad11,c10,hv10⟩:=Z1 (hC.getP 2 rfl) i10 hi10
   refine Yp (len:=a2.length) ZGl ag55.size (tr rfl hv10) rfl (ZGe _) (ZGw.2 hi10) ?_
   obtain ⟨cs_,hl10,hc10,hr10⟩:=X1 (hC.getP 2 rfl) hv10 i10 hi10
   obtain ⟨u10,rfl⟩:=ZGv.1 hl10
   clear hl10
   rw [Xt _ _ hi10] at hr10
   have hp10:=hr10
   replace hC:=hC.derive 2 rfl (ZB9 ZFy.ty.sl ((a2.getD i10 Zuo).terms) [u10] fp2) (fun _=>(Yn hp10)) (fun _ hb_=>hb_)
   refine Jm [u10] hc10 ag55 rfl rfl (Z9 hC [.slice none 0 0] z55 rfl fun b10 w11 hB_ hC=>Zc (v:=vI (i10:Int)) rfl (Zu (v:=.agg #[u10]) hC 0 [u10] [u10] rfl ag55.size rfl rfl rfl rfl (Yo (Za3 (hC.getP 0 rfl)) rfl) (ZF6 rfl) rfl fun w12 hC=>dn (ZFx ?_)))
   refine cwd 11 mixed [0,0,3,7,15,31,31,31,31,415,927,2047,4095,8191] [1,6,9,10] [0,3,4,5,6,7,8,9,10] (fun hM11 hM10 w13 hB_=>?_)
   replace hC:=hC.grow hB_
   refine bM 0 (u1_0) rfl hM10 (Za 14 1) (bL 1 (.agg #[u10]) rfl rfl hM11 (fun _ hB_=>by exact Y3 (hC.grow hB_) 0 [u10] rfl ag55 rfl rfl rfl) (Za 14 3) (aO 2 rfl (Zg [u1_0,.agg #[u10]] _ Tryz.func74 rfl rfl rfl (Zit a1 (a2.getD i10 Zuo) h _ (hC.getP 2 rfl) (Yj (hC.getP 0 rfl))) ?_)))
   rintro _ w14 ⟨r10,rfl,h,hB10⟩
   refine rt ?_
   replace hC:=hC.grow hB10
   refine done (aK (by assumption) (Za 14 7) (bF 3 (.bool (!r10)) rfl rfl hM10 (fun _=>by exact Zf2 rfl) (Za 14 15) (bM 4 (.bool (!r10)) rfl hM10 (Za 14 31) ?_)))
   refine Yq (!r10) (fun hb10=>?_) (fun hb10=>?_)
   ·replace h:=ift h (Ym (Yz hb10))
    refine Zq Zt 5 undef rfl rfl (by kernel_rfl) (hM10 5 rfl) (fun w_=>.inr ⟨Z5 (b:=true) 4 25 rfl (tr rfl (congrArg _ hb10)) (by decide),rfl⟩) (l9:=(Za 14 63)) (by kernel_rfl) (Zq Zt 6 undef rfl rfl (by kernel_rfl) (hM10 6 rfl) (fun w_=>.inr ⟨Z5 (b:=true) 4 25 rfl (tr rfl (congrArg _ hb10)) (by decide),rfl⟩) (l9:=(Za 14 127)) (by kernel_rfl) (Zq Zt 7 undef rfl rfl (by kernel_rfl) (hM10 7 rfl) (fun w_=>.inr ⟨Z5 (b:=true) 4 25 rfl (tr rfl (congrArg _ hb10)) (by decide),rfl⟩) (l9:=(Za 14 255)) (by kernel_rfl) (Zq Zt 8 undef rfl rfl (by kernel_rfl) (hM10 8 rfl) (fun w_=>.inr ⟨Z5 (b:=true) 4 25 rfl (tr rfl (congrArg _ hb10)) (by decide),rfl⟩) (l9:=(Za 14 511)) (by kernel_rfl) (Zq Zt 9 undef rfl rfl (by kernel_rfl) (hM10 9 rfl) (fun w_=>.inr ⟨Z5 (b:=true) 4 25 rfl (tr rfl (congrArg _ hb10)) (by decide),rfl⟩) (l9:=(Za 14 1023)) (by kernel_rfl) (Zq Zt 10 undef rfl rfl (by kernel_rfl) (hM10 10 rfl) (fun w_=>.inr ⟨Z5 (b:=true) 4 25 rfl (tr rfl (congrArg _ hb10)) (by decide),rfl⟩) (l9:=(Za 14 2047)) (by kernel_rfl) (Z3 11 (by decide) (by decide) (by kernel_rfl) (by kernel_rfl) rfl (Zh (b:=true) 4 25 rfl (tr rfl (congrArg _ hb10)) (by decide) (Zh (b:=true) 4 25 rfl (tr rfl (congrArg _ hb10)) (by decide) (Zx (v:=.bool true) (b:=true) (tr rfl (congrArg _ hb10)) rfl (done (Z4 (Zd (Z8 rfl rfl (sr (Zc (v:=.bool false) rfl (dn ?_))))))))))))))))
    refine ZF5 (Zw (Ze (Ze (Zw (Ze ?_)))))
    exact Zk rfl (Zf rfl) ⟨false,rfl,h,hC.below⟩ (.inl rfl)
   ·replace h:=Zj h (not_not_intro ((Y0 hb10)))
    refine aF 5 (u1_0) rfl rfl (hM10 5 rfl) (Z7 4 25 rfl rfl hb10) (fun _=>by exact X0 (v:=u1_0) rfl) (Za 14 63) (aL 6 (.agg #[u10]) rfl rfl (hM11 6 rfl) (Z7 4 25 rfl rfl hb10) (fun _ hB_=>by exact Y3 (hC.grow hB_) 0 [u10] rfl ag55 rfl rfl rfl) (Za 14 127) (aF 7 (u0_0) rfl rfl (hM10 7 rfl) (Z7 4 25 rfl rfl hb10) (fun _=>by exact X0 (v:=u0_0) rfl) (Za 14 255) (aF 8 (vI (i10:Int)) rfl rfl (hM10 8 rfl) (Z7 4 25 rfl rfl hb10) (fun _=>by exact X0 (v:=vI (i10:Int)) rfl) (Za 14 511) ?_)))
    obtain ⟨⟨h10,h11⟩,h⟩:=h
    obtain ⟨Ad10,c11,hv11⟩:=Z1 (hC.getP 1 rfl) i10 (show i10 < a0.length by omega)
    refine aL 9 (.pointer (some (Ad10.add (i10 * 1)))) rfl rfl (hM11 9 rfl) (Z7 4 25 rfl rfl hb10) (fun _ hB_=>by exact Yx (len:=a0.length) ZGg sc2.size (by exact tr rfl hv11) rfl h10 h11) (Za 14 1023) (aL 10 (vI (a0.getD i10 Zuo)) rfl rfl (hM11 10 rfl) (Z7 4 25 rfl rfl hb10) (fun _ hB_=>by exact J3 (vI (a0.getD i10 Zuo)) (Yi ((hC.grow hB_).getP 1 rfl) hv11 i10 (show i10 < a0.length by omega)) sc2 rfl) (Za 14 2047) (Z3 11 (by decide) (by decide) (by kernel_rfl) (by kernel_rfl) rfl (Zi 4 25 rfl rfl hb10 (Zg [u1_0,.agg #[u10],vI (a0.getD i10 Zuo)] _ Tryz.func93 rfl rfl rfl (Zk7 a1 (a2.getD i10 Zuo) (a0.getD i10 Zuo) h _ (hC.getP 2 rfl) (Yj (hC.getP 0 rfl))) ?_))))
    rintro _ w15 ⟨r11,rfl,h,hB11⟩
    refine rt ?_
    replace hC:=hC.grow hB11
    refine Zi 4 25 rfl rfl hb10 (Yu rfl (Zx (v:=.bool (!r11)) (b:=false) (tr rfl (congrArg _ hb10)) rfl (done (Z4 (Zd ?_)))))
    refine Zp rfl (fun hb12=>?_) (fun hb12=>?_)
    ·replace h:=ift h (Ym (Yz hb12))
     refine sr (Zc (v:=.bool false) rfl (dn ?_))
     refine ZF5 (Zw (Ze (Ze (Zw (Ze ?_)))))
     exact Zk rfl (Zf rfl) ⟨false,rfl,h,hC.below⟩ (.inl rfl)
    ·replace h:=Zj h (not_not_intro ((Y0 hb12)))
     refine ZF0 (Zs (Zd (Zm (Zr rfl rfl (Zb (v:=vI (Zw2.wrap ((i10:Int)+1))) rfl (done ?_))))))
     exact hK10 () _ _ ⟨(sl ⟨rfl,rfl,rfl,rfl,(tr rfl (congrArg _ (Ya hi10 hN10))),trivial⟩),((hC.xM [] rfl).sP [1,2,3] rfl)⟩ h
  ·clear hC h
   rintro s10 e_ w16 K10 ⟨hS_,hC⟩ h
   rw [ue hS_]
   refine sr (Zo rfl rfl (dn (ZFx (Yb rfl (decide_eq_false (by omega)) ?_))))
   refine ZGb (Zl (Zl (Z2 ?_)))
   refine Zd (sr (Zc (v:=.bool true) rfl (dn (ZF5 ?_))))
   exact Zk rfl (Zf rfl) ⟨true,rfl,h,hC.below⟩ (.inl rfl)
  ·skip
   exact⟨(slq rfl),hC⟩
def Zfz (a0:List (A8×Int)) (a1:List (A8×Int)) (K:Bool→Prop):Prop :=
 Zau ([]:List (A8×Int)) a0 1 (fun m11=>Zau m11 a1 10006 (fun m10=>K (decide ((m10.length:Int)=0))))
theorem Ztc (a0:List (A8×Int)) (a1:List (A8×Int))  {K:Bool→Prop} (h:Zfz a0 a1 K) (w0:World) (q0:(mapS b0 a0).holds w0) (q1:(mapS b1 a1).holds w0) :
  Calls ZFz 99 #[.map (some b0),.map (some b1)] w0 fun e w'=>∃ (r0:Bool),
   e=.returned (.bool r0)∧K r0∧Bel w0 w':=by
 unfold Zfz at h
 refine cof Tryz.func99 rfl 16 Tryz.ntmps99 ?_
 have hC:=ZGi (X:=Nox) w0 [mapS b0 a0,mapS b1 a1] (alc q0 (al1 q1))
 refine sr (Zc (v:=.bool false) rfl (dn (sr (Zbg hC (kvA .i64) (vvI .i64) fun b3 w5 hB_ hC=>Zc (v:=.map (some b3)) rfl (dn (sr (Zb (v:=.map (some b3)) rfl (Zb (v:=.map (some b0)) rfl (Zg [.map (some b3),.map (some b0),vI 1] _ Tryz.func89 rfl rfl rfl (Zgs ([]:List (A8×Int)) a0 1 h _ (hC.getM 0 rfl) (fun c_ hc_ e_=>hC.pdk 0 0 rfl rfl c_ hc_ (Zwb.2 e_)) (hC.getP 0 rfl)) ?_)))))))))
 rintro _ w8 ⟨m11,rfl,h,hm10,hB9⟩
 refine rt ?_
 replace hC:=hC.turnB 0 rfl hB9 rfl rfl hm10
 refine dn (sr (Zb (v:=.map (some b3)) rfl (Zb (v:=.map (some b1)) rfl (Zg [.map (some b3),.map (some b1),vI 10006] _ Tryz.func89 rfl rfl rfl (Zgs m11 a1 10006 h _ (hC.getM 0 rfl) (fun c_ hc_ e_=>hC.pdk 1 0 rfl rfl c_ hc_ (Zwb.2 e_)) (hC.getP 1 rfl)) ?_))))
 rintro _ w10 ⟨m10,rfl,h,hm11,hB10⟩
 refine rt ?_
 replace hC:=hC.turnB 0 rfl hB10 rfl rfl hm11
 refine dn (sr (Zb (v:=.map (some b3)) rfl (Zh9 (hC.getM 0 rfl) Tryz.underlying99 rfl rfl (Jj rfl rfl (Zc (v:=.bool (decide ((m10.length:Int)=0))) rfl (dn (ZF5 ?_)))))))
 exact Zk rfl (Zf rfl) ⟨decide ((m10.length:Int)=0),rfl,h,hC.below⟩ (.inl rfl)
def Zf0 (a0:Alg) (a1:Alg) (a2:List ZF1) (K:Bool→Prop):Prop :=
 Ye (fun i11 (s10:(List (List (A8×Int)))) nx10=>Zbl (a2.getD i11 Zuo) (fun r10=>(X5 (s10.length+1) 8∧nx10 (s10++[r10])))) (fun (s10:(List (List (A8×Int))))=>(∃ (Cl152:Int→Int→List (A8×Int)→Prop),Ye (fun i10 (s11:Unit) nx11=>((0≤(i10:Int)∧(i10:Int) < (s10.length:Int))∧Zbl (a0.images.getD i10 Zuo) (fun r11=>Zft Cl152 a0.degrees a1.degrees s10 r11 (fun r12=>Zdi a1 (s10.getD i10 []) (fun r13=>Zfz r12 r13 (fun r14=>(if¬ (r14=true) then K false else nx11 ()))))))) (fun (s11:Unit)=>K true) a0.images.length 0 ())) a2.length 0 []
theorem Ztd (a0:Alg) (a1:Alg) (a2:List ZF1)  {K:Bool→Prop} (h:Zf0 a0 a1 a2 K) (w0:World) (q0:TAlg.rep a0 [u0_0,u0_1] fp0 w0) (qb0:(blk b0 32 [u0_0,u0_1]).holds w0) (q1:TAlg.rep a1 [u1_0,u1_1] fp1 w0) (qb1:(blk b1 32 [u1_0,u1_1]).holds w0) (q2:ZGj.sl.rep a2 [u2_0] fp2 w0) :
  Calls ZFz 77 #[vQ b0,vQ b1,u2_0] w0 fun e w'=>∃ (r0:Bool),
   e=.returned (.bool r0)∧K r0∧Bel w0 w':=by
 unfold Zf0 at h
 refine cof Tryz.func77 rfl 46 Tryz.ntmps77 ?_
 have hC:=ZGi (X:=Nox) w0 [ZB9 TAlg a0 [u0_0,u0_1] fp0,ZB9 TAlg a1 [u1_0,u1_1] fp1,ZB9 ZGj.sl a2 [u2_0] fp2,blk b0 32 [u0_0,u0_1],blk b1 32 [u1_0,u1_1]] (alc q0 (alc q1 (alc q2 (alc qb0 (al1 qb1)))))
 replace hC:=hC.dAlg 0 rfl
 replace hC:=hC.dAlg 3 rfl
 refine sr (Zc (v:=.bool false) rfl (dn (ZFx ?_)))
 refine cwd 9 mixed [0,1,3,7,0,16,48,112,0,511,1023] [3,7] [0,1,2,4,5,6,8] (fun hM14 hM10 w10 hB_=>?_)
 replace hC:=hC.grow hB_
 refine bM 0 (vQ b0) rfl hM10 (Za 11 1) (bF 1 (vQ b0) rfl rfl hM10 (fun _=>by exact Jv rfl) (Za 11 3) (bF 2 (vQ b0) rfl rfl hM10 (fun _=>by exact Yd 0 ZGh rfl sc22.size rfl rfl) (Za 11 7) (bL 3 (u0_0) rfl rfl hM14 (fun _ hB_=>by exact Jx (u0_0) ((hC.grow hB_).getP 7 rfl) sc22 rfl rfl) (Za 11 15) (bM 4 (vQ b1) rfl hM10 (Za 11 31) (bF 5 (vQ b1) rfl rfl hM10 (fun _=>by exact Jv rfl) (Za 11 63) (bF 6 (vQ b1) rfl rfl hM10 (fun _=>by exact Yd 0 ZGh rfl sc22.size rfl rfl) (Za 11 127) (bL 7 (u1_0) rfl rfl hM14 (fun _ hB_=>by exact Jx (u1_0) ((hC.grow hB_).getP 8 rfl) sc22 rfl rfl) (Za 11 255) (bM 8 (u2_0) rfl hM10 (Za 11 511) (Z3 9 (by decide) (by decide) (by kernel_rfl) (by kernel_rfl) rfl (Zsl [u0_0,u1_0,u2_0] Tryz.func33 rfl rfl 34 Tryz.ntmps33 (ZF6 rfl) rfl (sr (Zc (v:=.pointer none) rfl (dn (sr (Zb (v:=u0_0) rfl (Zb (v:=u1_0) rfl (Zbg hC kv2 vvM fun b10 w11 hB_ hC=>?_)))))))))))))))))
 replace hC:=hC.recast (c:=Z0 kv2 vvM b10 (([]:List Kp).map ZP5)) (fun _ h_=>h_) (fun h_=>h_)
 refine Xl [(0,u0_0),(1,u1_0),(3,.map (some b10))] rfl (Zs1 u0_0 u1_0 b10 (Zkt (hC.getP 3 rfl)) (Zkt (hC.getP 1 rfl)) _) (Yh (v:=.agg #[u0_0,u1_0,.slice none 0 0,.map (some b10)]) hC [u0_0,u1_0,.slice none 0 0,.map (some b10)] rfl rfl fun b11 w12 hB_ hC=>Zc (v:=vQ b11) rfl (dn (ZFx (sr (Zb (v:=u2_0) rfl (Zv hC 6 rfl ZGl rfl (Zb (v:=vI 0) rfl (dn (ZF3 ?_)))))))))
 have hN10:a2.length≤9223372036854775807:=Y5 (hC.getP 6 rfl)
 refine Yl (S:=(List (List (A8×Int)))) _ _ (fun i11 s10 e_ w_=>∃ (v10:Value),∃ (f10:List Nat),Zy e_ [(7,vQ b11),(15,u2_0),(16,vI (a2.length:Int)),(17,vI (i11:Int))]∧Ctx Nox w0 w_ [ZGc (ZMb 99 (Jg (kvA .i64) (vvI .i64))) s10 [v10] f10,blk b11 97 [u0_0,u1_0,v10,.map (some b10)],Z0 kv2 vvM b10 (([]:List Kp).map ZP5)] [ZB9 ZGj.sl a1.images [u1_1] fp1,ZB9 TInts a1.degrees [u1_0] fp1,ZB9 ZGj.sl a0.images [u0_1] fp0,ZB9 TInts a0.degrees [u0_0] fp0,ZB9 TAlg a0 [u0_0,u0_1] fp0,ZB9 TAlg a1 [u1_0,u1_1] fp1,ZB9 ZGj.sl a2 [u2_0] fp2,blk b0 32 [u0_0,u0_1],blk b1 32 [u1_0,u1_1]]) a2.length ?_ ?_ (s0:=[]) ?_ h
 ·clear hC h
  rintro i11 s10 e_ w13 nx10 K10 hi10 ⟨v10,f10,hS_,hC⟩ h hK10
  rw [ue hS_]
  refine sr (Zo rfl rfl (dn (ZFx (Z8 rfl (decide_eq_true (by omega)) (ZF0 (Zd (ZFx (ZF3 (sr ?_)))))))))
  obtain ⟨Ad10,c10,hv10⟩:=Z1 (hC.getP 6 rfl) i11 hi10
  refine Yp (len:=a2.length) ZGl ag55.size (tr rfl hv10) rfl (ZGe _) (ZGw.2 hi10) ?_
  obtain ⟨cs_,hl10,hc10,hr10⟩:=X1 (hC.getP 6 rfl) hv10 i11 hi10
  obtain ⟨u10,rfl⟩:=ZGv.1 hl10
  clear hl10
  rw [Xt _ _ hi10] at hr10
  have hp10:=hr10
  replace hC:=hC.derive 6 rfl (ZB9 ZFy.ty.sl ((a2.getD i11 Zuo).terms) [u10] fp2) (fun _=>(Yn hp10)) (fun _ hb_=>hb_)
  refine Jm [u10] hc10 ag55 rfl rfl (Z9 hC [.slice none 0 0] z55 rfl fun b14 w14 hB_ hC=>Zu (v:=.agg #[u10]) hC 0 [u10] [u10] rfl ag55.size rfl rfl rfl rfl (Yo (Za3 (hC.getP 0 rfl)) rfl) (ZF6 rfl) rfl fun w15 hC=>dn ?_)
  refine cwd 8 mixed [0,0,2,6,14,0,32,96,254,511,1023,2047] [4,5] [0,1,2,3] (fun hM15 hM12 w16 hB_=>?_)
  replace hC:=hC.grow hB_
  refine bM 0 (vQ b11) rfl hM12 (Za 12 1) (bM 1 (vQ b11) rfl hM12 (Za 12 3) (bF 2 (vQ b11) rfl rfl hM12 (fun _=>by exact Jv rfl) (Za 12 7) (bF 3 (.pointer (some ⟨b11,2,none⟩)) rfl rfl hM12 (fun _=>by exact Yd 2 ZMm rfl sc95.size rfl rfl) (Za 12 15) (bL 4 (v10) rfl rfl hM15 (fun _ hB_=>by exact Yc (hC.grow hB_) 2 (v10) rfl sc95 rfl rfl) (Za 12 31) (bL 5 (.agg #[u10]) rfl rfl hM15 (fun _ hB_=>by exact Y3 (hC.grow hB_) 0 [u10] rfl ag55 rfl rfl rfl) (Za 12 63) (aO 6 rfl (Zg [.agg #[u10]] _ Tryz.func64 rfl rfl rfl (Zgq (a2.getD i11 Zuo) h _ (Yj (hC.getP 0 rfl))) ?_)))))))
  rintro _ w17 ⟨r10,b12,rfl,h,hr12,hf11,hB10⟩
  refine rt ?_
  replace hC:=hC.push hB10 (mapS b12 r10) hr12 (fun b_ hb_=>by obtain rfl:=Zwb.1 hb_; exact hf11)
  refine done (aK (by assumption) (Za 12 127) (aO 7 rfl (Jc (sz:=1) hC [(0,.map (some b12))] [.map (some b12)] rfl (fun _=>Zs2 b12  _) rfl (by decide) fun b13 w18 hB_ hC=>?_)))
  replace hC:=hC.pushM0 (Yk (Jg (kvA .i64) (vvI .i64)) [] [] []) (Zar _ _) rfl
  replace hC:=hC.sM [2,0,1,3,4,5,6] (M':=[mapS b12 r10,Yk (Jg (kvA .i64) (vvI .i64)) [] [] [],own 99 1 (.slice (some ⟨b13,0,none⟩) 1 1) 1 [.map (some b12)],blk b14 55 [u10],ZGc (ZMb 99 (Jg (kvA .i64) (vvI .i64))) s10 [v10] f10,blk b11 97 [u0_0,u1_0,v10,.map (some b10)],Z0 kv2 vvM b10 (([]:List Kp).map ZP5)]) (by decide) rfl
  replace hC:=hC.gather (c:=Yk (Jg (kvA .i64) (vvI .i64)) [r10] [.map (some b12)] [[b12]]) (fun x_ hx_=>Zej hx_) (fun h1_ h2_ hd_=>Zc6 (c:=[.map (some b12)]) (Zsf h1_) h2_ hd_)
  replace hC:=hC.sM [1,0,2,3,4,5] (M':=[own 99 1 (.slice (some ⟨b13,0,none⟩) 1 1) 1 [.map (some b12)],Yk (Jg (kvA .i64) (vvI .i64)) [r10] [.map (some b12)] [[b12]],blk b14 55 [u10],ZGc (ZMb 99 (Jg (kvA .i64) (vvI .i64))) s10 [v10] f10,blk b11 97 [u0_0,u1_0,v10,.map (some b10)],Z0 kv2 vvM b10 (([]:List Kp).map ZP5)]) (by decide) rfl
  replace hC:=hC.gather (c:=ZGc (ZMb 99 (Jg (kvA .i64) (vvI .i64))) [r10] [.slice (some ⟨b13,0,none⟩) 1 1] ((ZGu (Zva (.slice (some ⟨b13,0,none⟩) 1 1)))++([[b12]]:List (List Nat)).flatten)) (fun x_ hx_=>Zu1.1 hx_) (fun h1_ h2_ hd_=>J5 h1_ h2_ hd_)
  refine done (aK (by assumption) (Za 12 255) (aO 8 rfl ?_))
  replace hC:=hC.sM [2,0,1,3,4] (M':=[ZGc (ZMb 99 (Jg (kvA .i64) (vvI .i64))) s10 [v10] f10,ZGc (ZMb 99 (Jg (kvA .i64) (vvI .i64))) [r10] [.slice (some ⟨b13,0,none⟩) 1 1] ((ZGu (Zva (.slice (some ⟨b13,0,none⟩) 1 1)))++([[b12]]:List (List Nat)).flatten),blk b14 55 [u10],blk b11 97 [u0_0,u1_0,v10,.map (some b10)],Z0 kv2 vvM b10 (([]:List Kp).map ZP5)]) (by decide) rfl
  obtain ⟨hm10,h⟩:=h
  refine Zei hC ZQd Zs3 rfl (by decide) (by decide) rfl rfl hm10 fun v11 f11 w19 hC=>done (Zh5 (by decide) (l9:=(Za 12 511)) (by kernel_rfl) (Z3 9 (by decide) (by decide) (by kernel_rfl) (by kernel_rfl) rfl (Za1 rfl (Zz 2 ZMm rfl sc95.size rfl rfl (Zu (v:=v11) hC 2 [v11] [u0_0,u1_0,v11,.map (some b10)] rfl sc95.size rfl rfl (Zkb (ZP3 _ (hC.getM 0 rfl).1)) rfl (Yo (Za3 (ZP3 _ (hC.getM 0 rfl).1)) rfl) (ZF6 rfl) rfl fun w20 hC=>done (Z4 (Zs (Zd (Zm (Zr rfl rfl (Zb (v:=vI (Zw2.wrap ((i11:Int)+1))) rfl (done ?_))))))))))))
  exact hK10 (s10++[r10]) _ _ ⟨v11,f11,(sl ⟨rfl,rfl,rfl,(tr rfl (congrArg _ (Ya hi10 hN10))),trivial⟩),((hC.xM [0,2,3] rfl).sP [1,2,3,4,5,6,7,8,9] rfl)⟩ h
 ·clear hC h
  rintro s10 e_ w21 K10 ⟨v10,f10,hS_,hC⟩ h
  rw [ue hS_]
  refine sr (Zo rfl rfl (dn (ZFx (Yb rfl (decide_eq_false (by omega)) ?_))))
  refine ZGb (Zl (Zl (Z2 ?_)))
  refine Zd (sr (Zb (v:=vQ b11) rfl (Zc (v:=vQ b11) rfl (dn (ZF5 ?_)))))
  refine Zk (fn:=Tryz.f33) (v:=vQ b11) rfl (Zf rfl) ⟨_,rfl,?_⟩ (.inl rfl)
  refine Zc (v:=vQ b11) rfl (done (Z4 (Zd (ZFx (sr (Zb (v:=vQ b0) rfl (Za1 rfl (Zz 1 ZGh rfl sc28.size rfl rfl (Zb2 (u0_1) (hC.getP 7 rfl) sc28 rfl rfl (Zv hC 2 rfl ZGl rfl (Zb (v:=vI 0) rfl (dn (ZF3 ?_)))))))))))))
  obtain ⟨Cl152,h⟩:=h
  replace hC:=hC.pushE (ldE Cl152 ([]:List Kp) []) (Zsu _ _) rfl
  have hN11:a0.images.length≤9223372036854775807:=Y5 (hC.getP 3 rfl)
  refine Yl (S:=Unit) _ _ (fun i10 s11 e_ w_=>∃ (D291:List Kp),∃ (E292:List (Nat×List (A8×Int))),Zy e_ [(1,vQ b1),(7,vQ b11),(23,u0_1),(24,vI (a0.images.length:Int)),(25,vI (i10:Int))]∧LdLe w0 [] E292∧Ctx Nox w0 w_ [ZGc (ZMb 99 (Jg (kvA .i64) (vvI .i64))) s10 [v10] f10,blk b11 97 [u0_0,u1_0,v10,.map (some b10)],Z0 kv2 vvM b10 (D291.map ZP5)] [ldE Cl152 D291 E292,ZB9 ZGj.sl a1.images [u1_1] fp1,ZB9 TInts a1.degrees [u1_0] fp1,ZB9 ZGj.sl a0.images [u0_1] fp0,ZB9 TInts a0.degrees [u0_0] fp0,ZB9 TAlg a0 [u0_0,u0_1] fp0,ZB9 TAlg a1 [u1_0,u1_1] fp1,ZB9 ZGj.sl a2 [u2_0] fp2,blk b0 32 [u0_0,u0_1],blk b1 32 [u1_0,u1_1]]) a0.images.length ?_ ?_ (s0:=()) ?_ h
  ·clear hC h
   rintro i10 s11 e_ w22 nx11 K11 hi11 ⟨D291,E292,hS_,hq10,hC⟩ h hK11
   rw [ue hS_]
   refine sr (Zo rfl rfl (dn (ZFx (Z8 rfl (decide_eq_true (by omega)) (ZF0 (Zd (ZFx (ZF3 (sr (Zb (v:=vI (i10:Int)) rfl ?_))))))))))
   obtain ⟨Ad11,c11,hv11⟩:=Z1 (hC.getP 3 rfl) i10 hi11
   refine Yp (len:=a0.images.length) ZGl ag55.size (tr rfl hv11) rfl (ZGe _) (ZGw.2 hi11) ?_
   obtain ⟨cs_,hl11,hc11,hr11⟩:=X1 (hC.getP 3 rfl) hv11 i10 hi11
   obtain ⟨u11,rfl⟩:=ZGv.1 hl11
   clear hl11
   rw [Xt _ _ hi11] at hr11
   have hp11:=hr11
   replace hC:=hC.derive 3 rfl (ZB9 ZFy.ty.sl ((a0.images.getD i10 Zuo).terms) [u11] fp0) (fun _=>(Yn hp11)) (fun _ hb_=>hb_)
   refine Jm [u11] hc11 ag55 rfl rfl (Z9 hC [.slice none 0 0] z55 rfl fun b18 w23 hB_ hC=>Zc (v:=vI (i10:Int)) rfl (Zu (v:=.agg #[u11]) hC 0 [u11] [u11] rfl ag55.size rfl rfl rfl rfl (Yo (Za3 (hC.getP 0 rfl)) rfl) (ZF6 rfl) rfl fun w24 hC=>dn (ZFx ?_)))
   refine Zjb b10 12 mixed [0,0,2,7,0,0,32,96,224,0,992,2016,4095,8191,16383] [1,8,10,11] [0,4,5,6,7,9] (by kernel_rfl) (by kernel_rfl) (by kernel_rfl) (fun hM13 hM11 w25 hB_=>?_)
   replace hC:=hC.grow hB_
   refine bMR (Y4 b10) 0 (vQ b11) rfl hM11 (Za 15 1) (Jd (Y4 b10) 1 (.agg #[u11]) rfl rfl (by kernel_rfl) (hM13 1 rfl) (fun w_ hB_=>.inl ⟨rfl,by exact Y3 (hC.growC 3 rfl (ZMc _) hB_) 0 [u11] rfl ag55 rfl rfl rfl⟩) (l9:=(Za 15 3)) (by kernel_rfl) (bMR (Y4 b10) 4 (vQ b1) rfl hM11 (Za 15 19) (bMR (Y4 b10) 5 (vQ b11) rfl hM11 (Za 15 51) (Zq (Y4 b10) 6 (vQ b11) rfl rfl (by kernel_rfl) (hM11 6 rfl) (fun w_=>.inl ⟨rfl,by exact Jv rfl⟩) (l9:=(Za 15 115)) (by kernel_rfl) (Zq (Y4 b10) 7 (.pointer (some ⟨b11,2,none⟩)) rfl rfl (by kernel_rfl) (hM11 7 rfl) (fun w_=>.inl ⟨rfl,by exact Yd 2 ZMm rfl sc95.size rfl rfl⟩) (l9:=(Za 15 243)) (by kernel_rfl) (Jd (Y4 b10) 8 (v10) rfl rfl (by kernel_rfl) (hM13 8 rfl) (fun w_ hB_=>.inl ⟨rfl,by exact Yc (hC.growC 3 rfl (ZMc _) hB_) 2 (v10) rfl sc95 rfl rfl⟩) (l9:=(Za 15 499)) (by kernel_rfl) (bMR (Y4 b10) 9 (vI (i10:Int)) rfl hM11 (Za 15 1011) ?_)))))))
   replace hC:=hC.sM [1,0,2,3] (M':=[ZGc (ZMb 99 (Jg (kvA .i64) (vvI .i64))) s10 [v10] f10,blk b18 55 [u11],blk b11 97 [u0_0,u1_0,v10,.map (some b10)],Z0 kv2 vvM b10 (D291.map ZP5)]) (by decide) rfl
   obtain ⟨bs316,ho10,hf10⟩:=Zsi (hC.getM 0 rfl)
   replace hC:=hC.recast (c:=Zcl 99 (kvA .i64) (vvI .i64) v10 bs316 s10) (fun x_ hx_=>by have e_:=hf10; exact e_ ▸ hx_) (fun _=>ho10)
   obtain ⟨⟨h10,h11⟩,h⟩:=h
   obtain ⟨g10,cap10,hv12⟩:=Za2 (hC.getM 0 rfl).1 (Nat.lt_of_le_of_lt (Nat.zero_le _) (show i10 < s10.length by omega))
   refine Jd (Y4 b10) 10 (.pointer (some ⟨g10,i10 * 1,none⟩)) rfl rfl (by kernel_rfl) (hM13 10 rfl) (fun w_ hB_=>.inl ⟨rfl,by exact Zj6 (i10 * 1) ZQd sc99.size (by exact tr rfl hv12) rfl h10 h11 rfl⟩) (l9:=(Za 15 2035)) (by kernel_rfl) (Jd (Y4 b10) 11 (.map (some (bs316.getD i10 0))) rfl rfl (by kernel_rfl) (hM13 11 rfl) (fun w_ hB_=>.inl ⟨rfl,by exact J3 (.map (some (bs316.getD i10 0))) (Zsj ((hC.growC 3 rfl (ZMc _) hB_).getM 0 rfl) hv12 (show i10 < s10.length by omega)) sc99 rfl⟩) (l9:=(Za 15 4083)) (by kernel_rfl) (aO 2 rfl (Zg [.agg #[u11]] _ Tryz.func64 rfl rfl rfl (Zgq (a0.images.getD i10 Zuo) h _ (Yj (hC.getP 0 rfl))) ?_)))
   rintro _ w26 ⟨r11,b15,rfl,h,hr13,hf12,hB11⟩
   refine rt ?_
   replace hC:=hC.push hB11 (mapS b15 r11) hr13 (fun b_ hb_=>by obtain rfl:=Zwb.1 hb_; exact hf12)
   refine done (aK (by first | assumption | exact Zfs (by assumption)) (Za 15 4087) (aO 3 rfl (Zg [vQ b11,.map (some b15)] _ Tryz.func65 rfl rfl rfl (Zs0 Cl152 a0.degrees a1.degrees s10 r11 h _ (hC.getP 5 rfl) (hC.getP 3 rfl) (ZP3 _ (Zmp (hC.getM 1 rfl)).1) (hC.getM 3 rfl) (hC.getM 4 rfl) (hC.getP 1 rfl) (hC.ldOff 4 1 rfl rfl) (fun e_=>hC.mm 3 4 rfl rfl (by decide) _ (ZMc _) (Zwb.2 e_)) (fun c_ hc_ e_=>hC.pdk 5 4 rfl rfl c_ hc_ (Zwb.2 e_)) (fun c_ hc_ e_=>hC.pdk 3 4 rfl rfl c_ hc_ (Zwb.2 e_)) (fun c_ hc_ e_=>hC.mm 1 4 rfl rfl (by decide) c_ hc_ (Zwb.2 e_)) (hC.getM 0 rfl) (fun c_ hc_ e_=>hC.mm 0 4 rfl rfl (by decide) c_ hc_ (Zwb.2 e_))) ?_)))
   rintro _ w27 ⟨r12,b16,D335,E336,rfl,h,hr14,hf13,hj10,hj11,hj12,hle340,hnd346,hB12⟩
   refine rt ?_
   have hs10:=hC.size
   replace hC:=hC.ldTurnP 4 1 rfl rfl hB12 hj10 hj11 hj12 hle340 (nt:=mapS b16 r12) hr14 (fun b_ hb_=>by obtain rfl:=Zwb.1 hb_; exact hf13) (fun b_ hb_=>by obtain rfl:=Zwb.1 hb_; exact hnd346)
   refine done (aK (by first | assumption | exact Zfs (by assumption)) (Za 15 4095) (Z3 12 (by decide) (by decide) (by kernel_rfl) (by kernel_rfl) rfl (Zg [vQ b1,.map (some (bs316.getD i10 0))] _ Tryz.func95 rfl rfl rfl (Zk8 a1 (s10.getD i10 []) h _ (Xa (hC.getP 3 rfl) (hC.getP 2 rfl)) (hC.getP 10 rfl) (Zsk (hC.getM 2 rfl) (show i10 < s10.length by omega)).1) ?_)))
   rintro _ w28 ⟨r13,b17,rfl,h,hr15,hf14,hB13⟩
   refine rt ?_
   replace hC:=hC.push hB13 (mapS b17 r13) hr15 (fun b_ hb_=>by obtain rfl:=Zwb.1 hb_; exact hf14)
   refine Zg [.map (some b16),.map (some b17)] _ Tryz.func99 rfl rfl rfl (Ztc r12 r13 h _ (hC.getM 1 rfl) (hC.getM 0 rfl)) ?_
   rintro _ w29 ⟨r14,rfl,h,hB14⟩
   refine rt ?_
   replace hC:=hC.grow hB14
   refine Yu rfl (done (Z4 (Zd ?_)))
   refine Zp rfl (fun hb10=>?_) (fun hb10=>?_)
   ·replace h:=ift h (Ym (Yz hb10))
    refine sr (Zc (v:=.bool false) rfl (dn ?_))
    refine ZF5 (Zw (Ze (Ze (Zw (Ze ?_)))))
    exact Zk rfl (Zf rfl) ⟨false,rfl,h,hC.below⟩ (.inl rfl)
   ·replace h:=Zj h (not_not_intro ((Y0 hb10)))
    refine ZF0 (Zs (Zd (Zm (Zr rfl rfl (Zb (v:=vI (Zw2.wrap ((i10:Int)+1))) rfl (done ?_))))))
    replace hC:=hC.sM [3,0,1,2,4,5,6] (M':=[Zcl 99 (kvA .i64) (vvI .i64) v10 bs316 s10,mapS b17 r13,mapS b16 r12,mapS b15 r11,blk b18 55 [u11],blk b11 97 [u0_0,u1_0,v10,.map (some b10)],Z0 kv2 vvM b10 (D335.map ZP5)]) (by decide) rfl
    replace hC:=hC.recast (c:=ZGc (ZMb 99 (Jg (kvA .i64) (vvI .i64))) s10 [v10] ((ZGu (Zva v10))++bs316)) (fun x_ hx_=>hx_) (fun h_=>Zmp h_)
    rw [← hf10] at hC
    exact hK11 () _ _ ⟨D335,E336,(sl ⟨rfl,rfl,rfl,rfl,(tr rfl (congrArg _ (Ya hi11 hN11))),trivial⟩),(hq10.step hs10 hle340),((hC.xM [0,5,6] rfl).sP [1,2,3,4,5,6,7,8,9,10] rfl)⟩ h
  ·clear hC h
   rintro s11 e_ w30 K11 ⟨D291,E292,hS_,hq10,hC⟩ h
   rw [ue hS_]
   refine sr (Zo rfl rfl (dn (ZFx (Yb rfl (decide_eq_false (by omega)) ?_))))
   refine ZGb (Zl (Zl (Z2 ?_)))
   refine Zd (sr (Zc (v:=.bool true) rfl (dn (ZF5 ?_))))
   exact Zk rfl (Zf rfl) ⟨true,rfl,h,hC.below⟩ (.inl rfl)
  ·skip
   exact⟨([]:List Kp),[],(slq rfl),(LdLe.refl _ _),hC⟩
 ·skip
  replace hC:=hC.pushM0 (ZGc (ZMb 99 (Jg (kvA .i64) (vvI .i64))) [] [.slice none 0 0] []) (Jo _ _ _) rfl
  exact⟨.slice none 0 0,[],(slq rfl),hC⟩
def Zco (a0:Alg) (a1:Alg) (a2:List ZF1) (K:Bool→Prop):Prop :=
 Zfy a0.degrees a1.degrees a2 (fun r11=>(if r11=true then Zf0 a0 a1 a2 (fun r10=>K r10) else K false))
theorem Zje (a0:Alg) (a1:Alg) (a2:List ZF1)  {K:Bool→Prop} (h:Zco a0 a1 a2 K) (w0:World) (q0:TAlg.rep a0 [u0_0,u0_1] fp0 w0) (qb0:(blk b0 32 [u0_0,u0_1]).holds w0) (q1:TAlg.rep a1 [u1_0,u1_1] fp1 w0) (qb1:(blk b1 32 [u1_0,u1_1]).holds w0) (q2:ZGj.sl.rep a2 [u2_0] fp2 w0) :
  Calls ZFz 50 #[vQ b0,vQ b1,u2_0] w0 fun e w'=>∃ (r0:Bool),
   e=.returned (.bool r0)∧K r0∧Bel w0 w':=by
 unfold Zco at h
 refine cof ZP8 rfl 23 Tryz.ntmps50 ?_
 have hC:=ZGi (X:=Nox) w0 [ZB9 TAlg a0 [u0_0,u0_1] fp0,ZB9 TAlg a1 [u1_0,u1_1] fp1,ZB9 ZGj.sl a2 [u2_0] fp2,blk b0 32 [u0_0,u0_1],blk b1 32 [u1_0,u1_1]] (alc q0 (alc q1 (alc q2 (alc qb0 (al1 qb1)))))
 replace hC:=hC.dAlg 0 rfl
 replace hC:=hC.dAlg 3 rfl
 refine sr (Zc (v:=.bool false) rfl (dn (ZFx ?_)))
 refine cwd 14 mixed [0,1,3,7,0,16,48,112,0,511,1023,2047,2047,2047,16383,32767,65535] [3,7] [0,1,2,4,5,6,8,10,11,12,13] (fun hM11 hM10 w10 hB_=>?_)
 replace hC:=hC.grow hB_
 refine bM 0 (vQ b0) rfl hM10 (Za 17 1) (bF 1 (vQ b0) rfl rfl hM10 (fun _=>by exact Jv rfl) (Za 17 3) (bF 2 (vQ b0) rfl rfl hM10 (fun _=>by exact Yd 0 ZGh rfl sc22.size rfl rfl) (Za 17 7) (bL 3 (u0_0) rfl rfl hM11 (fun _ hB_=>by exact Jx (u0_0) ((hC.grow hB_).getP 7 rfl) sc22 rfl rfl) (Za 17 15) (bM 4 (vQ b1) rfl hM10 (Za 17 31) (bF 5 (vQ b1) rfl rfl hM10 (fun _=>by exact Jv rfl) (Za 17 63) (bF 6 (vQ b1) rfl rfl hM10 (fun _=>by exact Yd 0 ZGh rfl sc22.size rfl rfl) (Za 17 127) (bL 7 (u1_0) rfl rfl hM11 (fun _ hB_=>by exact Jx (u1_0) ((hC.grow hB_).getP 8 rfl) sc22 rfl rfl) (Za 17 255) (bM 8 (u2_0) rfl hM10 (Za 17 511) (aO 9 rfl (Zg [u0_0,u1_0,u2_0] _ Tryz.func76 rfl rfl rfl (Ztb a0.degrees a1.degrees a2 h _ (hC.getP 3 rfl) (hC.getP 1 rfl) (hC.getP 6 rfl)) ?_))))))))))
 rintro _ w11 ⟨r11,rfl,h,hB10⟩
 refine rt ?_
 replace hC:=hC.grow hB10
 refine done (aK (by assumption) (Za 17 1023) (bM 10 (.bool r11) rfl hM10 (Za 17 2047) ?_))
 refine Yq r11 (fun hb10=>?_) (fun hb10=>?_)
 ·replace h:=ift h (hb10)
  refine aF 11 (vQ b0) rfl rfl (hM10 11 rfl) (Z7 10 17 rfl rfl hb10) (fun _=>by exact X0 (v:=vQ b0) rfl) (Za 17 4095) (aF 12 (vQ b1) rfl rfl (hM10 12 rfl) (Z7 10 17 rfl rfl hb10) (fun _=>by exact X0 (v:=vQ b1) rfl) (Za 17 8191) (aF 13 (u2_0) rfl rfl (hM10 13 rfl) (Z7 10 17 rfl rfl hb10) (fun _=>by exact X0 (v:=u2_0) rfl) (Za 17 16383) (Z3 14 (by decide) (by decide) (by kernel_rfl) (by kernel_rfl) rfl (Zi 10 17 rfl rfl hb10 (Zg [vQ b0,vQ b1,u2_0] _ Tryz.func77 rfl rfl rfl (Ztd a0 a1 a2 h _ (Xa (hC.getP 3 rfl) (hC.getP 2 rfl)) (hC.getP 7 rfl) (Xa (hC.getP 1 rfl) (hC.getP 0 rfl)) (hC.getP 8 rfl) (hC.getP 6 rfl)) ?_)))))
  rintro _ w12 ⟨r10,rfl,h,hB11⟩
  refine rt ?_
  replace hC:=hC.grow hB11
  refine Zx (v:=.bool r10) (b:=true) (tr rfl (congrArg _ hb10)) rfl (Zc (v:=.bool r10) rfl (done (Z4 (Zd (ZF5 ?_)))))
  exact Zk rfl (Zf rfl) ⟨r10,rfl,h,hC.below⟩ (.inl rfl)
 ·replace h:=Zj h (Ym hb10)
  refine Zq Zt 11 undef rfl rfl (by kernel_rfl) (hM10 11 rfl) (fun w_=>.inr ⟨Z5 (b:=false) 10 17 rfl (tr rfl (congrArg _ hb10)) (by decide),rfl⟩) (l9:=(Za 17 4095)) (by kernel_rfl) (Zq Zt 12 undef rfl rfl (by kernel_rfl) (hM10 12 rfl) (fun w_=>.inr ⟨Z5 (b:=false) 10 17 rfl (tr rfl (congrArg _ hb10)) (by decide),rfl⟩) (l9:=(Za 17 8191)) (by kernel_rfl) (Zq Zt 13 undef rfl rfl (by kernel_rfl) (hM10 13 rfl) (fun w_=>.inr ⟨Z5 (b:=false) 10 17 rfl (tr rfl (congrArg _ hb10)) (by decide),rfl⟩) (l9:=(Za 17 16383)) (by kernel_rfl) (Z3 14 (by decide) (by decide) (by kernel_rfl) (by kernel_rfl) rfl (Zh (b:=false) 10 17 rfl (tr rfl (congrArg _ hb10)) (by decide) (Zx (v:=.bool false) (b:=false) (tr rfl (congrArg _ hb10)) rfl (Zc (v:=.bool false) rfl (done (Z4 (Zd (ZF5 ?_))))))))))
  exact Zk rfl (Zf rfl) ⟨false,rfl,h,hC.below⟩ (.inl rfl)
def Zcp (a0:Alg) (a1:List Int) (a2:Int) (K:List ZF1→Int→Prop):Prop :=
 Zce a1 Zd0 (fun r17=>Zdn a0 [] (fun r10=>(if r17=true then Zav true 2 (fun r18=>Zbo [r10,r18] (fun r14=>(if r14≠0 then K [] r14 else Ye (fun i10 (s10:(List ZF1)) nx10=>Xo (fun (s11:Int×Int) nx11=>(if s11.2 < a1.getD i10 Zuo then nx11 (Zu9 (Zw2.wrap (s11.1 * a2)) 10007,Zw2.wrap (s11.2+1)) else Zbs (i10:Int) s11.1 (fun r11=>(X5 (s10.length+1) 24∧nx10 (s10++[r11]))))) (1,0)) (fun (s10:(List ZF1))=>Zco (⟨a0.degrees,a0.images⟩:Alg) (⟨a0.degrees,a0.images⟩:Alg) s10 (fun r22=>(if¬ (r22=true) then K [] 5 else K s10 0))) a1.length 0 []))) else(if(a1.length:Int)≠(a0.degrees.length:Int) then Zav true 2 (fun r19=>Zbo [r10,r19] (fun r15=>(if r15≠0 then K [] r15 else Ye (fun i11 (s12:(List ZF1)) nx12=>Xo (fun (s13:Int×Int) nx13=>(if s13.2 < a1.getD i11 Zuo then nx13 (Zu9 (Zw2.wrap (s13.1 * a2)) 10007,Zw2.wrap (s13.2+1)) else Zbs (i11:Int) s13.1 (fun r12=>(X5 (s12.length+1) 24∧nx12 (s12++[r12]))))) (1,0)) (fun (s12:(List ZF1))=>Zco (⟨a0.degrees,a0.images⟩:Alg) (⟨a0.degrees,a0.images⟩:Alg) s12 (fun r23=>(if¬ (r23=true) then K [] 5 else K s12 0))) a1.length 0 []))) else Zex a2 (fun r21=>Zav (!r21) 2 (fun r20=>Zbo [r10,r20] (fun r16=>(if r16≠0 then K [] r16 else Ye (fun i12 (s14:(List ZF1)) nx14=>Xo (fun (s15:Int×Int) nx15=>(if s15.2 < a1.getD i12 Zuo then nx15 (Zu9 (Zw2.wrap (s15.1 * a2)) 10007,Zw2.wrap (s15.2+1)) else Zbs (i12:Int) s15.1 (fun r13=>(X5 (s14.length+1) 24∧nx14 (s14++[r13]))))) (1,0)) (fun (s14:(List ZF1))=>Zco (⟨a0.degrees,a0.images⟩:Alg) (⟨a0.degrees,a0.images⟩:Alg) s14 (fun r24=>(if¬ (r24=true) then K [] 5 else K s14 0))) a1.length 0 []))))))))
theorem Zms (a0:Alg) (a1:List Int) (a2:Int)  {K:List ZF1→Int→Prop} (h:Zcp a0 a1 a2 K) (w0:World) (q0:TAlg.rep a0 [u0_0,u0_1] fp0 w0) (q1:TInts.rep a1 [u1_0] fp1 w0) :
  Calls ZFz 19 #[.agg #[u0_0,u0_1],u1_0,vI a2] w0 fun e w'=>∃ (r0:List ZF1) (z0_0:Value) (fz0:List Nat) (r1:Int),
   e=.returned (.tuple #[z0_0,vI r1])∧K r0 r1∧(ZGc (ZMb 55 (Zn 90)) r0 [z0_0] fz0).holds w'∧(∀ b,b∈fz0→w0.heap.size≤b)∧Bel w0 w':=by
 unfold Zcp at h
 refine cof Tryz.func19 rfl 64 Tryz.ntmps19 ?_
 have hC:=ZGi (X:=Nox) w0 [ZB9 TAlg a0 [u0_0,u0_1] fp0,ZB9 TInts a1 [u1_0] fp1] (alc q0 (al1 q1))
 replace hC:=hC.dAlg 0 rfl
 refine sr (Yh (v:=.agg #[u0_0,u0_1]) hC [u0_0,u0_1] rfl rfl fun b5 w7 hB_ hC=>Zc (v:=.slice none 0 0) rfl (Zc (v:=vI 0) rfl (dn (sr (Zb (v:=u1_0) rfl (Zg [u1_0,.func (.func 44) #[] (ZFw [])] _ Tryz.func43 rfl rfl rfl (Zk5 a1 Zd0 h _ (hC.getP 3 rfl) Tryz.func44 rfl rfl (fun x0_ K_ w_ _ hq_=>Zs9 x0_ hq_ w_)) ?_))))))
 rintro _ w10 ⟨r17,rfl,h,hB10⟩
 refine rt ?_
 replace hC:=hC.grow hB10
 refine Zc (v:=.bool r17) rfl (dn (ZFx (sr (Zg [vQ b5,.slice none 0 0] _ Tryz.func46 rfl rfl rfl (Zq1 a0 [] h _ (Xa (hC.getP 1 rfl) (hC.getP 0 rfl)) (hC.getM 0 rfl) (Zh0 _ _)) ?_))))
 rintro _ w11 ⟨r10,rfl,h,hB11⟩
 refine rt ?_
 replace hC:=hC.grow hB11
 refine Zb (v:=.bool r17) rfl (Zb (v:=.bool r17) rfl ?_)
 refine Yq r17 (fun hb10=>?_) (fun hb10=>?_)
 ·replace h:=ift h (hb10)
  refine Zh (b:=true) 2 18 rfl (tr rfl (congrArg _ hb10)) (by decide) (Zh (b:=true) 2 18 rfl (tr rfl (congrArg _ hb10)) (by decide) (Zh (b:=true) 2 18 rfl (tr rfl (congrArg _ hb10)) (by decide) (Zh (b:=true) 2 18 rfl (tr rfl (congrArg _ hb10)) (by decide) (Zh (b:=true) 2 18 rfl (tr rfl (congrArg _ hb10)) (by decide) (Zh (b:=true) 2 18 rfl (tr rfl (congrArg _ hb10)) (by decide) (Zx (v:=.bool true) (b:=true) (tr rfl (congrArg _ hb10)) rfl (Zb (v:=.bool true) rfl (Zh (b:=true) 10 26 rfl (tr rfl (congrArg _ rfl)) (by decide) (Zh (b:=true) 10 26 rfl (tr rfl (congrArg _ rfl)) (by decide) (Zh (b:=true) 10 26 rfl (tr rfl (congrArg _ rfl)) (by decide) (Zx (v:=.bool true) (b:=true) rfl rfl (Zg [.bool true,vI 2] _ Tryz.func47 rfl rfl rfl (Zfb true 2 h _) ?_))))))))))))
  rintro _ w12 ⟨r18,rfl,h,hB12⟩
  refine rt ?_
  replace hC:=hC.grow hB12
  refine Jc (sz:=1) hC [(0,vI r10),(1,vI r18)] (eI.encs [r10,r18]) rfl (fun _=>Zjc r10 r18 _) rfl (by decide) fun b16 w13 hB_ hC=>Zg [.slice (some ⟨b16,0,none⟩) 2 2] _ Tryz.func31 rfl rfl rfl (Ziy [r10,r18] h _ (Yy (hC.getM 0 rfl))) ?_
  rintro _ w14 ⟨r14,rfl,h,hB13⟩
  refine rt ?_
  replace hC:=hC.grow hB13
  refine Zc (v:=vI r14) rfl (dn (sr (Zb (v:=vI r14) rfl (Yw rfl rfl (dn ?_)))))
  refine Zp rfl (fun hb12=>?_) (fun hb12=>?_)
  ·replace h:=ift h (ct hb12)
   refine sr (Zb (v:=vI r14) rfl (Zc (v:=.slice none 0 0) rfl (Zc (v:=vI r14) rfl (dn ?_))))
   refine ZF5 (Ze ?_)
   exact Xg rfl (Zf rfl) (Zf rfl) ⟨[],.slice none 0 0,[],r14,rfl,h,(Jo _ _ _),(fun b hb=>absurd hb (by simp)),hC.below⟩ (.inl rfl)
  ·replace h:=Zj h (cf hb12)
   refine ZF0 (Zd (sr (Jc (sz:=1) hC [] [] rfl (fun _=>Zhk _) rfl (by decide) fun b13 w15 hB_ hC=>?_)))
   replace hC:=hC.pushM0 (Yk (Zn 90) ([]:List ZF1) [] []) (Zar _ _) rfl
   replace hC:=hC.gather (c:=ZGc (ZMb 55 (Zn 90)) [] [.slice (some ⟨b13,0,none⟩) 0 0] ((ZGu (Zva (.slice (some ⟨b13,0,none⟩) 0 0)))++([]:List (List Nat)).flatten)) (fun x_ hx_=>(Zu1.1 hx_).symm) (fun h1_ h2_ hd_=>J5 h2_ h1_ (fun b_ hb_ hb2_=>hd_ b_ hb2_ hb_))
   refine Zc (v:=.slice (some ⟨b13,0,none⟩) 0 0) rfl (dn (ZFx (sr (Zb (v:=u1_0) rfl (Zv hC 3 rfl ZGg rfl (Zb (v:=vI 0) rfl (dn (ZF3 ?_))))))))
   have hN10:a1.length≤9223372036854775807:=Y5 (hC.getP 3 rfl)
   refine Yl (S:=(List ZF1)) _ _ (fun i10 s10 e_ w_=>∃ (v10:Value),∃ (f10:List Nat),Zy e_ [(2,vI a2),(3,vQ b5),(10,v10),(38,u1_0),(39,vI (a1.length:Int)),(40,vI (i10:Int))]∧Ctx Nox w0 w_ [ZGc (ZMb 55 (Zn 90)) s10 [v10] f10,blk b5 32 [u0_0,u0_1]] [ZB9 ZGj.sl a0.images [u0_1] fp0,ZB9 TInts a0.degrees [u0_0] fp0,ZB9 TAlg a0 [u0_0,u0_1] fp0,ZB9 TInts a1 [u1_0] fp1]) a1.length ?_ ?_ (s0:=[]) ?_ h
   ·clear hC h
    rintro i10 s10 e_ w16 nx10 K10 hi10 ⟨v10,f10,hS_,hC⟩ h hK10
    rw [ue hS_]
    refine sr (Zo rfl rfl (dn (ZFx (Z8 rfl (decide_eq_true (by omega)) (ZF0 (Zd (ZFx (ZF3 (sr (Zb (v:=vI (i10:Int)) rfl ?_))))))))))
    obtain ⟨Ad10,c10,hv10⟩:=Z1 (hC.getP 3 rfl) i10 hi10
    refine Yp (len:=a1.length) ZGg sc2.size (tr rfl hv10) rfl (ZGe _) (ZGw.2 hi10) (Xh (vI (a1.getD i10 Zuo)) (Yi (hC.getP 3 rfl) hv10 i10 hi10) sc2 rfl (Zc (v:=vI (i10:Int)) rfl (Zc (v:=vI (a1.getD i10 Zuo)) rfl (dn (sr (Zc (v:=vI 1) rfl (dn (ZFx (sr (Zb (v:=vI (a1.getD i10 Zuo)) rfl (Zb (v:=vI 0) rfl (dn (ZF3 ?_)))))))))))))
    refine X7 (S:=Int×Int) _ (fun s11 e_ w_=>Zy e_ [(2,vI a2),(3,vQ b5),(10,v10),(11,vI (i10:Int)),(13,vI s11.1),(38,u1_0),(39,vI (a1.length:Int)),(40,vI (i10:Int)),(45,vI (a1.getD i10 Zuo)),(46,vI s11.2)]∧Ctx Nox w0 w_ [ZGc (ZMb 55 (Zn 90)) s10 [v10] f10,blk b5 32 [u0_0,u0_1]] [ZB9 ZGj.sl a0.images [u0_1] fp0,ZB9 TInts a0.degrees [u0_0] fp0,ZB9 TAlg a0 [u0_0,u0_1] fp0,ZB9 TInts a1 [u1_0] fp1]) ?_ (s0:=(1,0)) ?_ h
    ·clear hC h
     rintro s11 e_ w17 nx11 K13 ⟨hS_,hC⟩ h hK11
     rw [ue hS_]
     refine sr (Zo rfl rfl (dn (ZFx ?_)))
     refine Zp rfl (fun hb13=>?_) (fun hb13=>?_)
     ·replace h:=ift h (ct hb13)
      refine ZF0 (Zd (ZFx (ZF3 (Zm (Zb (v:=vI s11.1) rfl (Zb (v:=vI a2) rfl (J7 rfl rfl (Jb rfl rfl (by decide) (Zc (v:=vI (Zu9 (Zw2.wrap (s11.1 * a2)) 10007)) rfl (done (Zs (Zd (Zm (Zr rfl rfl (Zb (v:=vI (Zw2.wrap (s11.2+1))) rfl (done ?_))))))))))))))))
      exact hK11 (Zu9 (Zw2.wrap (s11.1 * a2)) 10007,Zw2.wrap (s11.2+1)) _ _ ⟨(slq rfl),hC⟩ h
     ·replace h:=Zj h (cf hb13)
      refine ZGb (Zl (Zl (Z2 ?_)))
      refine Zd (Zm (Zb (v:=v10) rfl (Zb (v:=vI (i10:Int)) rfl (Zb (v:=vI s11.1) rfl (Zg [vI (i10:Int),vI s11.1] _ ZP7 rfl rfl rfl (Zjd (i10:Int) s11.1 h _) ?_)))))
      rintro _ w18 ⟨r11,u10,f13,rfl,h,hr10,hf10,hB14⟩
      refine rt ?_
      replace hC:=hC.push hB14 (ZGc (Zn 90) r11 [u10] f13) hr10 hf10
      obtain ⟨ho10,hf11⟩:=Y6 (hC.getM 0 rfl)
      subst hf11
      replace hC:=hC.recast (c:=own 90 9 u10 r11.terms.length (ZFy.encs r11.terms)) (fun _ h_=>h_) (fun _=>ho10)
      refine Jc (sz:=1) hC [(0,.agg #[u10])] [u10] rfl (fun _=>Zhl u10 (Zeg (hC.getM 0 rfl)) _) rfl (by decide) fun b10 w19 hB_ hC=>?_
      replace hC:=hC.pushM0 (Yk (Zn 90) [] [] []) (Zar _ _) rfl
      replace hC:=hC.sM [2,0,1,3,4] (M':=[own 90 9 u10 r11.terms.length (ZFy.encs r11.terms),Yk (Zn 90) [] [] [],own 55 1 (.slice (some ⟨b10,0,none⟩) 1 1) 1 [u10],ZGc (ZMb 55 (Zn 90)) s10 [v10] f10,blk b5 32 [u0_0,u0_1]]) (by decide) rfl
      replace hC:=hC.gather (c:=Yk (Zn 90) [r11] [u10] [(ZGu (Zva u10))]) (fun x_ hx_=>Zej hx_) (fun h1_ h2_ hd_=>Zc6 (c:=[u10]) (Jf (Je h1_)) h2_ hd_)
      replace hC:=hC.sM [1,0,2,3] (M':=[own 55 1 (.slice (some ⟨b10,0,none⟩) 1 1) 1 [u10],Yk (Zn 90) [r11] [u10] [(ZGu (Zva u10))],ZGc (ZMb 55 (Zn 90)) s10 [v10] f10,blk b5 32 [u0_0,u0_1]]) (by decide) rfl
      replace hC:=hC.gather (c:=ZGc (ZMb 55 (Zn 90)) [r11] [.slice (some ⟨b10,0,none⟩) 1 1] ((ZGu (Zva (.slice (some ⟨b10,0,none⟩) 1 1)))++([(ZGu (Zva u10))]:List (List Nat)).flatten)) (fun x_ hx_=>Zu1.1 hx_) (fun h1_ h2_ hd_=>J5 h1_ h2_ hd_)
      replace hC:=hC.sM [1,0,2] (M':=[ZGc (ZMb 55 (Zn 90)) s10 [v10] f10,ZGc (ZMb 55 (Zn 90)) [r11] [.slice (some ⟨b10,0,none⟩) 1 1] ((ZGu (Zva (.slice (some ⟨b10,0,none⟩) 1 1)))++([(ZGu (Zva u10))]:List (List Nat)).flatten),blk b5 32 [u0_0,u0_1]]) (by decide) rfl
      obtain ⟨hm10,h⟩:=h
      refine Zei hC ZGl Zfh rfl (by decide) (by decide) rfl rfl hm10 fun v13 f14 w20 hC=>Zc (v:=v13) rfl (done (Zs (Zd (Zm (Zr rfl rfl (Zb (v:=vI (Zw2.wrap ((i10:Int)+1))) rfl (done ?_)))))))
      exact hK10 (s10++[r11]) _ _ ⟨v13,f14,(sl ⟨rfl,rfl,rfl,rfl,rfl,(tr rfl (congrArg _ (Ya hi10 hN10))),trivial⟩),hC⟩ h
    ·skip
     exact⟨(slq rfl),hC⟩
   ·clear hC h
    rintro s10 e_ w21 K10 ⟨v10,f10,hS_,hC⟩ h
    rw [ue hS_]
    refine sr (Zo rfl rfl (dn (ZFx (Yb rfl (decide_eq_false (by omega)) ?_))))
    refine ZGb (Zl (Zl (Z2 ?_)))
    refine Zd (ZFx (sr (Zb (v:=v10) rfl (Zg [vQ b5,vQ b5,v10] _ ZP8 rfl rfl rfl (Zje (⟨a0.degrees,a0.images⟩:Alg) (⟨a0.degrees,a0.images⟩:Alg) s10 h _ (Xa (hC.getP 1 rfl) (hC.getP 0 rfl)) (hC.getM 1 rfl) (Xa (hC.getP 1 rfl) (hC.getP 0 rfl)) (hC.getM 1 rfl) (ZP3 _ (hC.getM 0 rfl).1)) ?_))))
    rintro _ w22 ⟨r22,rfl,h,hB15⟩
    refine rt ?_
    replace hC:=hC.grow hB15
    refine Yu rfl (dn ?_)
    refine Zp rfl (fun hb14=>?_) (fun hb14=>?_)
    ·replace h:=ift h (Ym (Yz hb14))
     refine sr (Zc (v:=.slice none 0 0) rfl (Zc (v:=vI 5) rfl (dn ?_)))
     refine ZF5 (Ze ?_)
     exact Xg rfl (Zf rfl) (Zf rfl) ⟨[],.slice none 0 0,[],5,rfl,h,(Jo _ _ _),(fun b hb=>absurd hb (by simp)),hC.below⟩ (.inl rfl)
    ·replace h:=Zj h (not_not_intro ((Y0 hb14)))
     refine ZF0 (Zd (sr (Zb (v:=v10) rfl (Zc (v:=v10) rfl (Zc (v:=vI 0) rfl (dn (ZF5 ?_)))))))
     exact Xg rfl (Zf rfl) (Zf rfl) ⟨s10,v10,f10,0,rfl,h,(hC.getM 0 rfl),(Zc5 hC 0 rfl),hC.below⟩ (.inl rfl)
   ·skip
    exact⟨.slice (some ⟨b13,0,none⟩) 0 0,((ZGu (Zva (.slice (some ⟨b13,0,none⟩) 0 0)))++([]:List (List Nat)).flatten),(slq rfl),(hC.xM [0,2] rfl)⟩
 ·replace h:=Zj h (Ym hb10)
  refine Zi 2 18 rfl rfl hb10 (Zb (v:=u1_0) rfl (Zi 2 18 rfl rfl hb10 (Zv hC 3 rfl ZGg rfl (Zi 2 18 rfl rfl hb10 (Zz 0 ZGh rfl sc22.size rfl rfl (Zi 2 18 rfl rfl hb10 (Z6 hC 0 (u0_0) rfl sc22 rfl rfl (Zi 2 18 rfl rfl hb10 (Zv hC 1 rfl ZGg rfl (Zi 2 18 rfl rfl hb10 (Yw rfl rfl (Zx (v:=.bool (decide ((a1.length:Int)≠(a0.degrees.length:Int)))) (b:=false) (tr rfl (congrArg _ hb10)) rfl (Zb (v:=.bool (decide ((a1.length:Int)≠(a0.degrees.length:Int)))) rfl ?_)))))))))))))
  refine Yq (decide ((a1.length:Int)≠(a0.degrees.length:Int))) (fun hb11=>?_) (fun hb11=>?_)
  ·replace h:=ift h (ct hb11)
   refine Zh (b:=true) 10 26 rfl (tr rfl (congrArg _ hb11)) (by decide) (Zh (b:=true) 10 26 rfl (tr rfl (congrArg _ hb11)) (by decide) (Zh (b:=true) 10 26 rfl (tr rfl (congrArg _ hb11)) (by decide) (Zx (v:=.bool true) (b:=true) (tr rfl (congrArg _ hb11)) rfl (Zg [.bool true,vI 2] _ Tryz.func47 rfl rfl rfl (Zfb true 2 h _) ?_))))
   rintro _ w23 ⟨r19,rfl,h,hB16⟩
   refine rt ?_
   replace hC:=hC.grow hB16
   refine Jc (sz:=1) hC [(0,vI r10),(1,vI r19)] (eI.encs [r10,r19]) rfl (fun _=>Zjc r10 r19 _) rfl (by decide) fun b17 w24 hB_ hC=>Zg [.slice (some ⟨b17,0,none⟩) 2 2] _ Tryz.func31 rfl rfl rfl (Ziy [r10,r19] h _ (Yy (hC.getM 0 rfl))) ?_
   rintro _ w25 ⟨r15,rfl,h,hB17⟩
   refine rt ?_
   replace hC:=hC.grow hB17
   refine Zc (v:=vI r15) rfl (dn (sr (Zb (v:=vI r15) rfl (Yw rfl rfl (dn ?_)))))
   refine Zp rfl (fun hb15=>?_) (fun hb15=>?_)
   ·replace h:=ift h (ct hb15)
    refine sr (Zb (v:=vI r15) rfl (Zc (v:=.slice none 0 0) rfl (Zc (v:=vI r15) rfl (dn ?_))))
    refine ZF5 (Ze ?_)
    exact Xg rfl (Zf rfl) (Zf rfl) ⟨[],.slice none 0 0,[],r15,rfl,h,(Jo _ _ _),(fun b hb=>absurd hb (by simp)),hC.below⟩ (.inl rfl)
   ·replace h:=Zj h (cf hb15)
    refine ZF0 (Zd (sr (Jc (sz:=1) hC [] [] rfl (fun _=>Zhk _) rfl (by decide) fun b14 w26 hB_ hC=>?_)))
    replace hC:=hC.pushM0 (Yk (Zn 90) ([]:List ZF1) [] []) (Zar _ _) rfl
    replace hC:=hC.gather (c:=ZGc (ZMb 55 (Zn 90)) [] [.slice (some ⟨b14,0,none⟩) 0 0] ((ZGu (Zva (.slice (some ⟨b14,0,none⟩) 0 0)))++([]:List (List Nat)).flatten)) (fun x_ hx_=>(Zu1.1 hx_).symm) (fun h1_ h2_ hd_=>J5 h2_ h1_ (fun b_ hb_ hb2_=>hd_ b_ hb2_ hb_))
    refine Zc (v:=.slice (some ⟨b14,0,none⟩) 0 0) rfl (dn (ZFx (sr (Zb (v:=u1_0) rfl (Zv hC 3 rfl ZGg rfl (Zb (v:=vI 0) rfl (dn (ZF3 ?_))))))))
    have hN11:a1.length≤9223372036854775807:=Y5 (hC.getP 3 rfl)
    refine Yl (S:=(List ZF1)) _ _ (fun i11 s12 e_ w_=>∃ (v11:Value),∃ (f11:List Nat),Zy e_ [(2,vI a2),(3,vQ b5),(10,v11),(38,u1_0),(39,vI (a1.length:Int)),(40,vI (i11:Int))]∧Ctx Nox w0 w_ [ZGc (ZMb 55 (Zn 90)) s12 [v11] f11,blk b5 32 [u0_0,u0_1]] [ZB9 ZGj.sl a0.images [u0_1] fp0,ZB9 TInts a0.degrees [u0_0] fp0,ZB9 TAlg a0 [u0_0,u0_1] fp0,ZB9 TInts a1 [u1_0] fp1]) a1.length ?_ ?_ (s0:=[]) ?_ h
    ·clear hC h
     rintro i11 s12 e_ w27 nx12 K11 hi11 ⟨v11,f11,hS_,hC⟩ h hK12
     rw [ue hS_]
     refine sr (Zo rfl rfl (dn (ZFx (Z8 rfl (decide_eq_true (by omega)) (ZF0 (Zd (ZFx (ZF3 (sr (Zb (v:=vI (i11:Int)) rfl ?_))))))))))
     obtain ⟨Ad11,c11,hv11⟩:=Z1 (hC.getP 3 rfl) i11 hi11
     refine Yp (len:=a1.length) ZGg sc2.size (tr rfl hv11) rfl (ZGe _) (ZGw.2 hi11) (Xh (vI (a1.getD i11 Zuo)) (Yi (hC.getP 3 rfl) hv11 i11 hi11) sc2 rfl (Zc (v:=vI (i11:Int)) rfl (Zc (v:=vI (a1.getD i11 Zuo)) rfl (dn (sr (Zc (v:=vI 1) rfl (dn (ZFx (sr (Zb (v:=vI (a1.getD i11 Zuo)) rfl (Zb (v:=vI 0) rfl (dn (ZF3 ?_)))))))))))))
     refine X7 (S:=Int×Int) _ (fun s13 e_ w_=>Zy e_ [(2,vI a2),(3,vQ b5),(10,v11),(11,vI (i11:Int)),(13,vI s13.1),(38,u1_0),(39,vI (a1.length:Int)),(40,vI (i11:Int)),(45,vI (a1.getD i11 Zuo)),(46,vI s13.2)]∧Ctx Nox w0 w_ [ZGc (ZMb 55 (Zn 90)) s12 [v11] f11,blk b5 32 [u0_0,u0_1]] [ZB9 ZGj.sl a0.images [u0_1] fp0,ZB9 TInts a0.degrees [u0_0] fp0,ZB9 TAlg a0 [u0_0,u0_1] fp0,ZB9 TInts a1 [u1_0] fp1]) ?_ (s0:=(1,0)) ?_ h
     ·clear hC h
      rintro s13 e_ w28 nx13 K14 ⟨hS_,hC⟩ h hK13
      rw [ue hS_]
      refine sr (Zo rfl rfl (dn (ZFx ?_)))
      refine Zp rfl (fun hb16=>?_) (fun hb16=>?_)
      ·replace h:=ift h (ct hb16)
       refine ZF0 (Zd (ZFx (ZF3 (Zm (Zb (v:=vI s13.1) rfl (Zb (v:=vI a2) rfl (J7 rfl rfl (Jb rfl rfl (by decide) (Zc (v:=vI (Zu9 (Zw2.wrap (s13.1 * a2)) 10007)) rfl (done (Zs (Zd (Zm (Zr rfl rfl (Zb (v:=vI (Zw2.wrap (s13.2+1))) rfl (done ?_))))))))))))))))
       exact hK13 (Zu9 (Zw2.wrap (s13.1 * a2)) 10007,Zw2.wrap (s13.2+1)) _ _ ⟨(slq rfl),hC⟩ h
      ·replace h:=Zj h (cf hb16)
       refine ZGb (Zl (Zl (Z2 ?_)))
       refine Zd (Zm (Zb (v:=v11) rfl (Zb (v:=vI (i11:Int)) rfl (Zb (v:=vI s13.1) rfl (Zg [vI (i11:Int),vI s13.1] _ ZP7 rfl rfl rfl (Zjd (i11:Int) s13.1 h _) ?_)))))
       rintro _ w29 ⟨r12,u11,f15,rfl,h,hr11,hf12,hB18⟩
       refine rt ?_
       replace hC:=hC.push hB18 (ZGc (Zn 90) r12 [u11] f15) hr11 hf12
       obtain ⟨ho11,hf13⟩:=Y6 (hC.getM 0 rfl)
       subst hf13
       replace hC:=hC.recast (c:=own 90 9 u11 r12.terms.length (ZFy.encs r12.terms)) (fun _ h_=>h_) (fun _=>ho11)
       refine Jc (sz:=1) hC [(0,.agg #[u11])] [u11] rfl (fun _=>Zhl u11 (Zeg (hC.getM 0 rfl)) _) rfl (by decide) fun b11 w30 hB_ hC=>?_
       replace hC:=hC.pushM0 (Yk (Zn 90) [] [] []) (Zar _ _) rfl
       replace hC:=hC.sM [2,0,1,3,4] (M':=[own 90 9 u11 r12.terms.length (ZFy.encs r12.terms),Yk (Zn 90) [] [] [],own 55 1 (.slice (some ⟨b11,0,none⟩) 1 1) 1 [u11],ZGc (ZMb 55 (Zn 90)) s12 [v11] f11,blk b5 32 [u0_0,u0_1]]) (by decide) rfl
       replace hC:=hC.gather (c:=Yk (Zn 90) [r12] [u11] [(ZGu (Zva u11))]) (fun x_ hx_=>Zej hx_) (fun h1_ h2_ hd_=>Zc6 (c:=[u11]) (Jf (Je h1_)) h2_ hd_)
       replace hC:=hC.sM [1,0,2,3] (M':=[own 55 1 (.slice (some ⟨b11,0,none⟩) 1 1) 1 [u11],Yk (Zn 90) [r12] [u11] [(ZGu (Zva u11))],ZGc (ZMb 55 (Zn 90)) s12 [v11] f11,blk b5 32 [u0_0,u0_1]]) (by decide) rfl
       replace hC:=hC.gather (c:=ZGc (ZMb 55 (Zn 90)) [r12] [.slice (some ⟨b11,0,none⟩) 1 1] ((ZGu (Zva (.slice (some ⟨b11,0,none⟩) 1 1)))++([(ZGu (Zva u11))]:List (List Nat)).flatten)) (fun x_ hx_=>Zu1.1 hx_) (fun h1_ h2_ hd_=>J5 h1_ h2_ hd_)
       replace hC:=hC.sM [1,0,2] (M':=[ZGc (ZMb 55 (Zn 90)) s12 [v11] f11,ZGc (ZMb 55 (Zn 90)) [r12] [.slice (some ⟨b11,0,none⟩) 1 1] ((ZGu (Zva (.slice (some ⟨b11,0,none⟩) 1 1)))++([(ZGu (Zva u11))]:List (List Nat)).flatten),blk b5 32 [u0_0,u0_1]]) (by decide) rfl
       obtain ⟨hm11,h⟩:=h
       refine Zei hC ZGl Zfh rfl (by decide) (by decide) rfl rfl hm11 fun v14 f16 w31 hC=>Zc (v:=v14) rfl (done (Zs (Zd (Zm (Zr rfl rfl (Zb (v:=vI (Zw2.wrap ((i11:Int)+1))) rfl (done ?_)))))))
       exact hK12 (s12++[r12]) _ _ ⟨v14,f16,(sl ⟨rfl,rfl,rfl,rfl,rfl,(tr rfl (congrArg _ (Ya hi11 hN11))),trivial⟩),hC⟩ h
     ·skip
      exact⟨(slq rfl),hC⟩
    ·clear hC h
     rintro s12 e_ w32 K11 ⟨v11,f11,hS_,hC⟩ h
     rw [ue hS_]
     refine sr (Zo rfl rfl (dn (ZFx (Yb rfl (decide_eq_false (by omega)) ?_))))
     refine ZGb (Zl (Zl (Z2 ?_)))
     refine Zd (ZFx (sr (Zb (v:=v11) rfl (Zg [vQ b5,vQ b5,v11] _ ZP8 rfl rfl rfl (Zje (⟨a0.degrees,a0.images⟩:Alg) (⟨a0.degrees,a0.images⟩:Alg) s12 h _ (Xa (hC.getP 1 rfl) (hC.getP 0 rfl)) (hC.getM 1 rfl) (Xa (hC.getP 1 rfl) (hC.getP 0 rfl)) (hC.getM 1 rfl) (ZP3 _ (hC.getM 0 rfl).1)) ?_))))
     rintro _ w33 ⟨r23,rfl,h,hB19⟩
     refine rt ?_
     replace hC:=hC.grow hB19
     refine Yu rfl (dn ?_)
     refine Zp rfl (fun hb17=>?_) (fun hb17=>?_)
     ·replace h:=ift h (Ym (Yz hb17))
      refine sr (Zc (v:=.slice none 0 0) rfl (Zc (v:=vI 5) rfl (dn ?_)))
      refine ZF5 (Ze ?_)
      exact Xg rfl (Zf rfl) (Zf rfl) ⟨[],.slice none 0 0,[],5,rfl,h,(Jo _ _ _),(fun b hb=>absurd hb (by simp)),hC.below⟩ (.inl rfl)
     ·replace h:=Zj h (not_not_intro ((Y0 hb17)))
      refine ZF0 (Zd (sr (Zb (v:=v11) rfl (Zc (v:=v11) rfl (Zc (v:=vI 0) rfl (dn (ZF5 ?_)))))))
      exact Xg rfl (Zf rfl) (Zf rfl) ⟨s12,v11,f11,0,rfl,h,(hC.getM 0 rfl),(Zc5 hC 0 rfl),hC.below⟩ (.inl rfl)
    ·skip
     exact⟨.slice (some ⟨b14,0,none⟩) 0 0,((ZGu (Zva (.slice (some ⟨b14,0,none⟩) 0 0)))++([]:List (List Nat)).flatten),(slq rfl),(hC.xM [0,2] rfl)⟩
  ·replace h:=Zj h (cf hb11)
   refine Zi 10 26 rfl rfl hb11 (Zb (v:=vI a2) rfl (Zi 10 26 rfl rfl hb11 (Zg [vI a2] _ Tryz.func48 rfl rfl rfl (Zk6 a2 h _) ?_)))
   rintro _ w34 ⟨r21,rfl,h,hB20⟩
   refine rt ?_
   replace hC:=hC.grow hB20
   refine Zi 10 26 rfl rfl hb11 (Yu rfl (Zx (v:=.bool (!r21)) (b:=false) (tr rfl (congrArg _ hb11)) rfl (Zg [.bool (!r21),vI 2] _ Tryz.func47 rfl rfl rfl (Zfb (!r21) 2 h _) ?_)))
   rintro _ w35 ⟨r20,rfl,h,hB21⟩
   refine rt ?_
   replace hC:=hC.grow hB21
   refine Jc (sz:=1) hC [(0,vI r10),(1,vI r20)] (eI.encs [r10,r20]) rfl (fun _=>Zjc r10 r20 _) rfl (by decide) fun b18 w36 hB_ hC=>Zg [.slice (some ⟨b18,0,none⟩) 2 2] _ Tryz.func31 rfl rfl rfl (Ziy [r10,r20] h _ (Yy (hC.getM 0 rfl))) ?_
   rintro _ w37 ⟨r16,rfl,h,hB22⟩
   refine rt ?_
   replace hC:=hC.grow hB22
   refine Zc (v:=vI r16) rfl (dn (sr (Zb (v:=vI r16) rfl (Yw rfl rfl (dn ?_)))))
   refine Zp rfl (fun hb18=>?_) (fun hb18=>?_)
   ·replace h:=ift h (ct hb18)
    refine sr (Zb (v:=vI r16) rfl (Zc (v:=.slice none 0 0) rfl (Zc (v:=vI r16) rfl (dn ?_))))
    refine ZF5 (Ze ?_)
    exact Xg rfl (Zf rfl) (Zf rfl) ⟨[],.slice none 0 0,[],r16,rfl,h,(Jo _ _ _),(fun b hb=>absurd hb (by simp)),hC.below⟩ (.inl rfl)
   ·replace h:=Zj h (cf hb18)
    refine ZF0 (Zd (sr (Jc (sz:=1) hC [] [] rfl (fun _=>Zhk _) rfl (by decide) fun b15 w38 hB_ hC=>?_)))
    replace hC:=hC.pushM0 (Yk (Zn 90) ([]:List ZF1) [] []) (Zar _ _) rfl
    replace hC:=hC.gather (c:=ZGc (ZMb 55 (Zn 90)) [] [.slice (some ⟨b15,0,none⟩) 0 0] ((ZGu (Zva (.slice (some ⟨b15,0,none⟩) 0 0)))++([]:List (List Nat)).flatten)) (fun x_ hx_=>(Zu1.1 hx_).symm) (fun h1_ h2_ hd_=>J5 h2_ h1_ (fun b_ hb_ hb2_=>hd_ b_ hb2_ hb_))
    refine Zc (v:=.slice (some ⟨b15,0,none⟩) 0 0) rfl (dn (ZFx (sr (Zb (v:=u1_0) rfl (Zv hC 3 rfl ZGg rfl (Zb (v:=vI 0) rfl (dn (ZF3 ?_))))))))
    have hN12:a1.length≤9223372036854775807:=Y5 (hC.getP 3 rfl)
    refine Yl (S:=(List ZF1)) _ _ (fun i12 s14 e_ w_=>∃ (v12:Value),∃ (f12:List Nat),Zy e_ [(2,vI a2),(3,vQ b5),(10,v12),(38,u1_0),(39,vI (a1.length:Int)),(40,vI (i12:Int))]∧Ctx Nox w0 w_ [ZGc (ZMb 55 (Zn 90)) s14 [v12] f12,blk b5 32 [u0_0,u0_1]] [ZB9 ZGj.sl a0.images [u0_1] fp0,ZB9 TInts a0.degrees [u0_0] fp0,ZB9 TAlg a0 [u0_0,u0_1] fp0,ZB9 TInts a1 [u1_0] fp1]) a1.length ?_ ?_ (s0:=[]) ?_ h
    ·clear hC h
     rintro i12 s14 e_ w39 nx14 K12 hi12 ⟨v12,f12,hS_,hC⟩ h hK14
     rw [ue hS_]
     refine sr (Zo rfl rfl (dn (ZFx (Z8 rfl (decide_eq_true (by omega)) (ZF0 (Zd (ZFx (ZF3 (sr (Zb (v:=vI (i12:Int)) rfl ?_))))))))))
     obtain ⟨Ad12,c12,hv12⟩:=Z1 (hC.getP 3 rfl) i12 hi12
     refine Yp (len:=a1.length) ZGg sc2.size (tr rfl hv12) rfl (ZGe _) (ZGw.2 hi12) (Xh (vI (a1.getD i12 Zuo)) (Yi (hC.getP 3 rfl) hv12 i12 hi12) sc2 rfl (Zc (v:=vI (i12:Int)) rfl (Zc (v:=vI (a1.getD i12 Zuo)) rfl (dn (sr (Zc (v:=vI 1) rfl (dn (ZFx (sr (Zb (v:=vI (a1.getD i12 Zuo)) rfl (Zb (v:=vI 0) rfl (dn (ZF3 ?_)))))))))))))
     refine X7 (S:=Int×Int) _ (fun s15 e_ w_=>Zy e_ [(2,vI a2),(3,vQ b5),(10,v12),(11,vI (i12:Int)),(13,vI s15.1),(38,u1_0),(39,vI (a1.length:Int)),(40,vI (i12:Int)),(45,vI (a1.getD i12 Zuo)),(46,vI s15.2)]∧Ctx Nox w0 w_ [ZGc (ZMb 55 (Zn 90)) s14 [v12] f12,blk b5 32 [u0_0,u0_1]] [ZB9 ZGj.sl a0.images [u0_1] fp0,ZB9 TInts a0.degrees [u0_0] fp0,ZB9 TAlg a0 [u0_0,u0_1] fp0,ZB9 TInts a1 [u1_0] fp1]) ?_ (s0:=(1,0)) ?_ h
     ·clear hC h
      rintro s15 e_ w40 nx15 K15 ⟨hS_,hC⟩ h hK15
      rw [ue hS_]
      refine sr (Zo rfl rfl (dn (ZFx ?_)))
      refine Zp rfl (fun hb19=>?_) (fun hb19=>?_)
      ·replace h:=ift h (ct hb19)
       refine ZF0 (Zd (ZFx (ZF3 (Zm (Zb (v:=vI s15.1) rfl (Zb (v:=vI a2) rfl (J7 rfl rfl (Jb rfl rfl (by decide) (Zc (v:=vI (Zu9 (Zw2.wrap (s15.1 * a2)) 10007)) rfl (done (Zs (Zd (Zm (Zr rfl rfl (Zb (v:=vI (Zw2.wrap (s15.2+1))) rfl (done ?_))))))))))))))))
       exact hK15 (Zu9 (Zw2.wrap (s15.1 * a2)) 10007,Zw2.wrap (s15.2+1)) _ _ ⟨(slq rfl),hC⟩ h
      ·replace h:=Zj h (cf hb19)
       refine ZGb (Zl (Zl (Z2 ?_)))
       refine Zd (Zm (Zb (v:=v12) rfl (Zb (v:=vI (i12:Int)) rfl (Zb (v:=vI s15.1) rfl (Zg [vI (i12:Int),vI s15.1] _ ZP7 rfl rfl rfl (Zjd (i12:Int) s15.1 h _) ?_)))))
       rintro _ w41 ⟨r13,u12,f17,rfl,h,hr12,hf14,hB23⟩
       refine rt ?_
       replace hC:=hC.push hB23 (ZGc (Zn 90) r13 [u12] f17) hr12 hf14
       obtain ⟨ho12,hf15⟩:=Y6 (hC.getM 0 rfl)
       subst hf15
       replace hC:=hC.recast (c:=own 90 9 u12 r13.terms.length (ZFy.encs r13.terms)) (fun _ h_=>h_) (fun _=>ho12)
       refine Jc (sz:=1) hC [(0,.agg #[u12])] [u12] rfl (fun _=>Zhl u12 (Zeg (hC.getM 0 rfl)) _) rfl (by decide) fun b12 w42 hB_ hC=>?_
       replace hC:=hC.pushM0 (Yk (Zn 90) [] [] []) (Zar _ _) rfl
       replace hC:=hC.sM [2,0,1,3,4] (M':=[own 90 9 u12 r13.terms.length (ZFy.encs r13.terms),Yk (Zn 90) [] [] [],own 55 1 (.slice (some ⟨b12,0,none⟩) 1 1) 1 [u12],ZGc (ZMb 55 (Zn 90)) s14 [v12] f12,blk b5 32 [u0_0,u0_1]]) (by decide) rfl
       replace hC:=hC.gather (c:=Yk (Zn 90) [r13] [u12] [(ZGu (Zva u12))]) (fun x_ hx_=>Zej hx_) (fun h1_ h2_ hd_=>Zc6 (c:=[u12]) (Jf (Je h1_)) h2_ hd_)
       replace hC:=hC.sM [1,0,2,3] (M':=[own 55 1 (.slice (some ⟨b12,0,none⟩) 1 1) 1 [u12],Yk (Zn 90) [r13] [u12] [(ZGu (Zva u12))],ZGc (ZMb 55 (Zn 90)) s14 [v12] f12,blk b5 32 [u0_0,u0_1]]) (by decide) rfl
       replace hC:=hC.gather (c:=ZGc (ZMb 55 (Zn 90)) [r13] [.slice (some ⟨b12,0,none⟩) 1 1] ((ZGu (Zva (.slice (some ⟨b12,0,none⟩) 1 1)))++([(ZGu (Zva u12))]:List (List Nat)).flatten)) (fun x_ hx_=>Zu1.1 hx_) (fun h1_ h2_ hd_=>J5 h1_ h2_ hd_)
       replace hC:=hC.sM [1,0,2] (M':=[ZGc (ZMb 55 (Zn 90)) s14 [v12] f12,ZGc (ZMb 55 (Zn 90)) [r13] [.slice (some ⟨b12,0,none⟩) 1 1] ((ZGu (Zva (.slice (some ⟨b12,0,none⟩) 1 1)))++([(ZGu (Zva u12))]:List (List Nat)).flatten),blk b5 32 [u0_0,u0_1]]) (by decide) rfl
       obtain ⟨hm12,h⟩:=h
       refine Zei hC ZGl Zfh rfl (by decide) (by decide) rfl rfl hm12 fun v15 f18 w43 hC=>Zc (v:=v15) rfl (done (Zs (Zd (Zm (Zr rfl rfl (Zb (v:=vI (Zw2.wrap ((i12:Int)+1))) rfl (done ?_)))))))
       exact hK14 (s14++[r13]) _ _ ⟨v15,f18,(sl ⟨rfl,rfl,rfl,rfl,rfl,(tr rfl (congrArg _ (Ya hi12 hN12))),trivial⟩),hC⟩ h
     ·skip
      exact⟨(slq rfl),hC⟩
    ·clear hC h
     rintro s14 e_ w44 K12 ⟨v12,f12,hS_,hC⟩ h
     rw [ue hS_]
     refine sr (Zo rfl rfl (dn (ZFx (Yb rfl (decide_eq_false (by omega)) ?_))))
     refine ZGb (Zl (Zl (Z2 ?_)))
     refine Zd (ZFx (sr (Zb (v:=v12) rfl (Zg [vQ b5,vQ b5,v12] _ ZP8 rfl rfl rfl (Zje (⟨a0.degrees,a0.images⟩:Alg) (⟨a0.degrees,a0.images⟩:Alg) s14 h _ (Xa (hC.getP 1 rfl) (hC.getP 0 rfl)) (hC.getM 1 rfl) (Xa (hC.getP 1 rfl) (hC.getP 0 rfl)) (hC.getM 1 rfl) (ZP3 _ (hC.getM 0 rfl).1)) ?_))))
     rintro _ w45 ⟨r24,rfl,h,hB24⟩
     refine rt ?_
     replace hC:=hC.grow hB24
     refine Yu rfl (dn ?_)
     refine Zp rfl (fun hb20=>?_) (fun hb20=>?_)
     ·replace h:=ift h (Ym (Yz hb20))
      refine sr (Zc (v:=.slice none 0 0) rfl (Zc (v:=vI 5) rfl (dn ?_)))
      refine ZF5 (Ze ?_)
      exact Xg rfl (Zf rfl) (Zf rfl) ⟨[],.slice none 0 0,[],5,rfl,h,(Jo _ _ _),(fun b hb=>absurd hb (by simp)),hC.below⟩ (.inl rfl)
     ·replace h:=Zj h (not_not_intro ((Y0 hb20)))
      refine ZF0 (Zd (sr (Zb (v:=v12) rfl (Zc (v:=v12) rfl (Zc (v:=vI 0) rfl (dn (ZF5 ?_)))))))
      exact Xg rfl (Zf rfl) (Zf rfl) ⟨s14,v12,f12,0,rfl,h,(hC.getM 0 rfl),(Zc5 hC 0 rfl),hC.below⟩ (.inl rfl)
    ·skip
     exact⟨.slice (some ⟨b15,0,none⟩) 0 0,((ZGu (Zva (.slice (some ⟨b15,0,none⟩) 0 0)))++([]:List (List Nat)).flatten),(slq rfl),(hC.xM [0,2] rfl)⟩
def Zhn (a0:Alg) (a1:List Int) (a2:Int) (K:Bool→Prop):Prop :=
 (if(a1.length:Int) > 1048576 then K true else Zfl a0 1048576 (fun r29=>(if r29 < 0 then K true else Zbn a0 (fun r10=>Za7 a1 (fun r12=>Zfx r10 r12 a2 (fun r16 r13=>Zbn a0 (fun r17=>Za7 a1 (fun r14=>Zcp r17 r14 a2 (fun r18 r19=>Zbm r18 r16 (fun r30=>(if¬ (r30=true) then K false else(if r19≠r13 then K false else Zbn a0 (fun r11=>Zdp r17 r11 (fun r33=>(if¬ (r33=true) then K false else Za7 a1 (fun r15=>Zcg r14 r15 (fun r34=>(if¬ (r34=true) then K false else Zfn r17 1 (fun r22 m10=>Zdq r14 r22 (fun r23 m12=>(if r23 < 0 then K false else Zbm r18 r16 (fun r28=>(if¬ (r28=true) then K false else Zbp r18 1 (fun r24 m11=>Zdr m11 1 (fun r25=>(if r25 < 0 then K false else(if r25≠r24 then K false else Zbn (⟨a0.degrees,a0.images⟩:Alg) (fun r20=>Za7 a1 (fun r26=>Zcp r20 r26 a2 (fun r31 r21=>Zbm r31 r16 (fun r32=>(if¬ (r32=true) then K false else(if r21≠r13 then K false else Zdr m11 1 (fun r27=>(if r27 < 0 then K false else(if r27≠r24 then K false else K true))))))))))))))))))))))))))))))))))))
theorem Zte (a0 : Alg) (a1 : List Int) (a2 : Int)  {K : Bool → Prop} (h : Zhn a0 a1 a2 K) (w0 : World) (q0 : TAlg.rep a0 [u0_0, u0_1] fp0 w0) (q1 : TInts.rep a1 [u1_0] fp1 w0) :
  Calls ZFz 4 #[.agg #[u0_0,u0_1],u1_0,vI a2] w0 fun e w'=>∃ (r0:Bool),
   e=.returned (.bool r0)∧K r0∧Bel w0 w':=by
 unfold Zhn at h
 refine cof Tryz.func4 rfl 122 Tryz.ntmps4 ?_
 have hC:=ZGi (X:=Nox) w0 [ZB9 TAlg a0 [u0_0,u0_1] fp0,ZB9 TInts a1 [u1_0] fp1] (alc q0 (al1 q1))
 replace hC:=hC.dAlg 0 rfl
 refine sr (Yh (v:=.agg #[u0_0,u0_1]) hC [u0_0,u0_1] rfl rfl fun b5 w7 hB_ hC=>Zc (v:=.bool false) rfl (dn (ZFx (sr (Zb (v:=u1_0) rfl (Zv hC 3 rfl ZGg rfl (Xn rfl rfl (dn ?_))))))))
 refine Zp rfl (fun hb15=>?_) (fun hb15=>?_)
 ·replace h:=ift h (ct hb15)
  refine sr (Zc (v:=.bool true) rfl (dn ?_))
  refine ZF5 (Ze ?_)
  exact Zk rfl (Zf rfl) ⟨true,rfl,h,hC.below⟩ (.inl rfl)
 ·replace h := Zj h (cf hb15)
  refine ZF0 (Zd (sr (Zc (v:=vI 1048576) rfl (dn (sr (Yg hC 0 [u0_0,u0_1] rfl Zfu rfl rfl rfl (Zb (v:=vI 1048576) rfl (Zg [.agg #[u0_0,u0_1],vI 1048576] _ Tryz.func6 rfl rfl rfl (Zq6 a0 1048576 h _ (Xa (hC.getP 1 rfl) (hC.getP 0 rfl))) ?_))))))))
  rintro _ w10 ⟨r29,rfl,h,hB13⟩
  refine rt ?_
  replace hC:=hC.grow hB13
  refine Zc (v:=vI r29) rfl (dn (ZFx (sr (Zb (v:=vI r29) rfl (Zo rfl rfl (dn ?_))))))
  refine Zp rfl (fun hb16=>?_) (fun hb16=>?_)
  ·replace h:=ift h (ct hb16)
   refine sr (Zc (v:=.bool true) rfl (dn ?_))
   refine ZF5 (Ze ?_)
   exact Zk rfl (Zf rfl) ⟨true,rfl,h,hC.below⟩ (.inl rfl)
  ·replace h := Zj h (cf hb16)
   refine ZF0 (Zd (sr (Yg hC 0 [u0_0,u0_1] rfl Zfu rfl rfl rfl (Zg [.agg #[u0_0,u0_1]] _ ZP9 rfl rfl rfl (Zg4 a0 h _ (Xa (hC.getP 1 rfl) (hC.getP 0 rfl))) ?_))))
   rintro _ w11 ⟨r10,u15,u16,f15,rfl,h,hr10,hf10,hB14⟩
   refine rt ?_
   replace hC:=hC.push hB14 (ZGc (Zb8 2 90 55) r10 [u15,u16] f15) hr10 hf10
   obtain ⟨f10,ho10,ho11,hs10,hs11,hd10⟩:=Zgl (hC.getM 0 rfl)
   replace hC:=hC.split (a:=own 2 1 u15 r10.degrees.length (eI.encs r10.degrees)) (b:=ZGc (ZMb 55 (Zn 90)) r10.images [u16] f10) hs10 hs11 ⟨ho10,ho11,hd10⟩
   refine Zb (v:=u1_0) rfl (Zg [u1_0] _ ZQa rfl rfl rfl (Ze2 a1 h _ (hC.getP 3 rfl)) ?_)
   rintro _ w12 ⟨r12,u17,f16,rfl,h,hr11,hf11,hB15⟩
   refine rt ?_
   replace hC:=hC.push hB15 (ZGc (ZMb 2 (eI.tr)) r12 [u17] f16) hr11 hf11
   obtain ⟨ho12,hf12⟩:=Zaq (hC.getM 0 rfl).1
   subst hf12
   replace hC:=hC.recast (c:=own 2 1 u17 r12.length (eI.encs r12)) (fun _ h_=>h_) (fun _=>ho12)
   refine Zb (v:=vI a2) rfl (Zg [.agg #[u15,u16],u17,vI a2] _ Tryz.func17 rfl rfl rfl (Zs8 r10 r12 a2 h _ (Xa (Yy (hC.getM 1 rfl)) (ZP3 _ (hC.getM 2 rfl).1)) (Yy (hC.getM 0 rfl))) ?_)
   rintro _ w13 ⟨r16,u13,f11,r13,rfl,h,hr12,hf13,hB16⟩
   refine rt ?_
   replace hC:=hC.push hB16 (ZGc (ZMb 55 (Zn 90)) r16 [u13] f11) hr12 hf13
   refine Zb (v:=.tuple #[u13,vI r13]) rfl (Y7 (v:=u13) rfl rfl (Y7 (v:=vI r13) rfl rfl (Zc (v:=u13) rfl (Zc (v:=vI r13) rfl (dn (sr (Yg hC 4 [u0_0,u0_1] rfl Zfu rfl rfl rfl (Zg [.agg #[u0_0,u0_1]] _ ZP9 rfl rfl rfl (Zg4 a0 h _ (Xa (hC.getP 1 rfl) (hC.getP 0 rfl))) ?_))))))))
   rintro _ w14 ⟨r17,u10,u11,f17,rfl,h,hr13,hf14,hB17⟩
   refine rt ?_
   replace hC:=hC.push hB17 (ZGc (Zb8 2 90 55) r17 [u10,u11] f17) hr13 hf14
   obtain ⟨f12,ho13,ho14,hs12,hs13,hd11⟩:=Zgl (hC.getM 0 rfl)
   replace hC:=hC.split (a:=own 2 1 u10 r17.degrees.length (eI.encs r17.degrees)) (b:=ZGc (ZMb 55 (Zn 90)) r17.images [u11] f12) hs12 hs13 ⟨ho13,ho14,hd11⟩
   refine Z9 hC [.slice none 0 0,.slice none 0 0] z32 rfl fun b10 w15 hB_ hC=>Zu (v:=.agg #[u10,u11]) hC 0 [u10,u11] [u10,u11] rfl ag32.size rfl rfl rfl rfl (Yo (Y8 (hC.getM 1 rfl)) (Yo (Za3 (ZP3 _ (hC.getM 2 rfl).1)) rfl)) (ZF6 rfl) rfl fun w16 hC=>dn (sr (Zb (v:=u1_0) rfl (Zg [u1_0] _ ZQa rfl rfl rfl (Ze2 a1 h _ (hC.getP 3 rfl)) ?_)))
   rintro _ w17 ⟨r14,u14,f18,rfl,h,hr14,hf15,hB18⟩
   refine rt ?_
   replace hC:=hC.push hB18 (ZGc (ZMb 2 (eI.tr)) r14 [u14] f18) hr14 hf15
   obtain ⟨ho15,hf16⟩:=Zaq (hC.getM 0 rfl).1
   subst hf16
   replace hC:=hC.recast (c:=own 2 1 u14 r14.length (eI.encs r14)) (fun _ h_=>h_) (fun _=>ho15)
   refine Zc (v:=u14) rfl (dn (sr (Yg hC 1 [u10,u11] rfl ag32 rfl rfl rfl (Zb (v:=u14) rfl (Zb (v:=vI a2) rfl (Zg [.agg #[u10,u11],u14,vI a2] _ Tryz.func19 rfl rfl rfl (Zms r17 r14 a2 h _ (Xa (Yy (hC.getM 2 rfl)) (ZP3 _ (hC.getM 3 rfl).1)) (Yy (hC.getM 0 rfl))) ?_))))))
   rintro _ w18 ⟨r18,u12,f13,r19,rfl,h,hr15,hf17,hB19⟩
   refine rt ?_
   replace hC:=hC.push hB19 (ZGc (ZMb 55 (Zn 90)) r18 [u12] f13) hr15 hf17
   refine Zb (v:=.tuple #[u12,vI r19]) rfl (Y7 (v:=u12) rfl rfl (Y7 (v:=vI r19) rfl rfl (Zc (v:=u12) rfl (Zc (v:=vI r19) rfl (dn (ZFx (sr (Zb (v:=u12) rfl (Zb (v:=u13) rfl (Zg [u12,u13] _ Tryz.func12 rfl rfl rfl (Zgu r18 r16 h _ (ZP3 _ (hC.getM 0 rfl).1) (ZP3 _ (hC.getM 5 rfl).1)) ?_))))))))))
   rintro _ w19 ⟨r30,rfl,h,hB20⟩
   refine rt ?_
   replace hC:=hC.grow hB20
   refine Yu rfl (Zb (v:=.bool (!r30)) rfl ?_)
   refine Yq (!r30) (fun hb11=>?_) (fun hb11=>?_)
   ·replace h:=ift h (Ym (Yz hb11))
    refine Zh (b:=true) 4 51 rfl (tr rfl (congrArg _ hb11)) (by decide) (Zh (b:=true) 4 51 rfl (tr rfl (congrArg _ hb11)) (by decide) (Zh (b:=true) 4 51 rfl (tr rfl (congrArg _ hb11)) (by decide) (Zx (v:=.bool true) (b:=true) (tr rfl (congrArg _ hb11)) rfl (dn (Z8 rfl rfl (sr (Zc (v:=.bool false) rfl (dn ?_))))))))
    refine ZF5 (Ze ?_)
    exact Zk rfl (Zf rfl) ⟨false,rfl,h,hC.below⟩ (.inl rfl)
   ·replace h := Zj h (not_not_intro ((Y0 hb11)))
    refine Zi 4 51 rfl rfl hb11 (Zb (v:=vI r19) rfl (Zi 4 51 rfl rfl hb11 (Zb (v:=vI r13) rfl (Zi 4 51 rfl rfl hb11 (Yw rfl rfl (Zx (v:=.bool (decide (r19≠r13))) (b:=false) (tr rfl (congrArg _ hb11)) rfl (dn ?_)))))))
    refine Zp rfl (fun hb14=>?_) (fun hb14=>?_)
    ·replace h:=ift h (ct hb14)
     refine sr (Zc (v:=.bool false) rfl (dn ?_))
     refine ZF5 (Ze ?_)
     exact Zk rfl (Zf rfl) ⟨false,rfl,h,hC.below⟩ (.inl rfl)
    ·replace h := Zj h (cf hb14)
     refine ZF0 (Zd (ZFx (ZFx ?_)))
     refine cwd 3 mixed [0,0,2,7,15] [0,1] [] (fun hM10 hM11 w20 hB_=>?_)
     replace hC:=hC.grow hB_
     refine bL 0 (.agg #[u10,u11]) rfl rfl hM10 (fun _ hB_=>by exact Y3 (hC.grow hB_) 2 [u10,u11] rfl ag32 rfl rfl rfl) (Za 5 1) (bL 1 (.agg #[u0_0,u0_1]) rfl rfl hM10 (fun _ hB_=>by exact Y3 (hC.grow hB_) 9 [u0_0,u0_1] rfl Zfu rfl rfl rfl) (Za 5 3) (aO 2 rfl (Zg [.agg #[u0_0,u0_1]] _ ZP9 rfl rfl rfl (Zg4 a0 h _ (Xa (hC.getP 1 rfl) (hC.getP 0 rfl))) ?_)))
     rintro _ w21 ⟨r11,u18,u19,f19,rfl,h,hr16,hf18,hB21⟩
     refine rt ?_
     replace hC:=hC.push hB21 (ZGc (Zb8 2 90 55) r11 [u18,u19] f19) hr16 hf18
     obtain ⟨f14,ho16,ho17,hs14,hs15,hd12⟩:=Zgl (hC.getM 0 rfl)
     replace hC:=hC.split (a:=own 2 1 u18 r11.degrees.length (eI.encs r11.degrees)) (b:=ZGc (ZMb 55 (Zn 90)) r11.images [u19] f14) hs14 hs15 ⟨ho16,ho17,hd12⟩
     refine done (aK (by assumption) (Za 5 7) (Z3 3 (by decide) (by decide) (by kernel_rfl) (by kernel_rfl) rfl (Zg [.agg #[u10,u11],.agg #[u18,u19]] _ Tryz.func13 rfl rfl rfl (Zq8 r17 r11 h _ (Xa (Yy (hC.getM 5 rfl)) (ZP3 _ (hC.getM 6 rfl).1)) (Xa (Yy (hC.getM 0 rfl)) (ZP3 _ (hC.getM 1 rfl).1))) ?_)))
     rintro _ w22 ⟨r33,rfl,h,hB22⟩
     refine rt ?_
     replace hC:=hC.grow hB22
     refine Yu rfl (done (Z4 (Zd ?_)))
     refine Zp rfl (fun hb17=>?_) (fun hb17=>?_)
     ·replace h:=ift h (Ym (Yz hb17))
      refine sr (Zc (v:=.bool false) rfl (dn ?_))
      refine ZF5 (Ze ?_)
      exact Zk rfl (Zf rfl) ⟨false,rfl,h,hC.below⟩ (.inl rfl)
     ·replace h := Zj h (not_not_intro ((Y0 hb17)))
      refine ZF0 (Zd (ZFx (sr (Zb (v:=u14) rfl (Zb (v:=u1_0) rfl (Zg [u1_0] _ ZQa rfl rfl rfl (Ze2 a1 h _ (hC.getP 3 rfl)) ?_))))))
      rintro _ w23 ⟨r15,u20,f20,rfl,h,hr17,hf19,hB23⟩
      refine rt ?_
      replace hC:=hC.push hB23 (ZGc (ZMb 2 (eI.tr)) r15 [u20] f20) hr17 hf19
      obtain ⟨ho18,hf20⟩:=Zaq (hC.getM 0 rfl).1
      subst hf20
      replace hC:=hC.recast (c:=own 2 1 u20 r15.length (eI.encs r15)) (fun _ h_=>h_) (fun _=>ho18)
      refine Zg [u14,u20] _ Tryz.func20 rfl rfl rfl (Zk9 r14 r15 h _ (Yy (hC.getM 4 rfl)) (Yy (hC.getM 0 rfl))) ?_
      rintro _ w24 ⟨r34,rfl,h,hB24⟩
      refine rt ?_
      replace hC:=hC.grow hB24
      refine Yu rfl (dn ?_)
      refine Zp rfl (fun hb18=>?_) (fun hb18=>?_)
      ·replace h:=ift h (Ym (Yz hb18))
       refine sr (Zc (v:=.bool false) rfl (dn ?_))
       refine ZF5 (Ze ?_)
       exact Zk rfl (Zf rfl) ⟨false,rfl,h,hC.below⟩ (.inl rfl)
      ·replace h := Zj h (not_not_intro ((Y0 hb18)))
       refine ZF0 (Zd (sr (Zc (v:=vI 1) rfl (dn (sr (Yg hC 5 [u10,u11] rfl ag32 rfl rfl rfl (Zb (v:=vI 1) rfl (Zg [.agg #[u10,u11],vI 1] _ Tryz.func14 rfl rfl rfl (Zq9 r17 1 h _ (hC.getM 6 rfl) (hC.getM 7 rfl) (hC.mm 6 7 rfl rfl (by decide))) ?_))))))))
       rintro _ w25 ⟨r22,m10,rfl,h,hm10,hm11,hB12⟩
       refine rt ?_
       replace hC:=hC.turnL hB12 (M':=[own 2 1 u20 r15.length (eI.encs r15),own 2 1 u18 r11.degrees.length (eI.encs r11.degrees),ZGc (ZMb 55 (Zn 90)) r11.images [u19] f14,ZGc (ZMb 55 (Zn 90)) r18 [u12] f13,own 2 1 u14 r14.length (eI.encs r14),blk b10 32 [u10,u11],own 2 1 u10 m10.degrees.length (eI.encs m10.degrees),ZGc (ZMb 55 (Zn 90)) m10.images [u11] f12,ZGc (ZMb 55 (Zn 90)) r16 [u13] f11,own 2 1 u17 r12.length (eI.encs r12),own 2 1 u15 r10.degrees.length (eI.encs r10.degrees),ZGc (ZMb 55 (Zn 90)) r10.images [u16] f10,blk b5 25 [u0_0,u0_1]]) rfl (fun x_ hx_=>(Zu1.1 hx_).elim (fun hx_=>⟨_,mg 6 rfl,hx_⟩) (fun hx_=>⟨_,mg 7 rfl,hx_⟩)) (by simp only [Zuk,Zwq,or_false,forall_eq_or_imp,forall_eq]; exact⟨(hC.stay 0 rfl hB12 (fun x_ hq_ hx_=>(Zu1.1 hx_).elim (fun hx_=>hC.mm 0 6 rfl rfl (by decide) x_ hq_ hx_) (fun hx_=>hC.mm 0 7 rfl rfl (by decide) x_ hq_ hx_))),(hC.stay 1 rfl hB12 (fun x_ hq_ hx_=>(Zu1.1 hx_).elim (fun hx_=>hC.mm 1 6 rfl rfl (by decide) x_ hq_ hx_) (fun hx_=>hC.mm 1 7 rfl rfl (by decide) x_ hq_ hx_))),(hC.stay 2 rfl hB12 (fun x_ hq_ hx_=>(Zu1.1 hx_).elim (fun hx_=>hC.mm 2 6 rfl rfl (by decide) x_ hq_ hx_) (fun hx_=>hC.mm 2 7 rfl rfl (by decide) x_ hq_ hx_))),(hC.stay 3 rfl hB12 (fun x_ hq_ hx_=>(Zu1.1 hx_).elim (fun hx_=>hC.mm 3 6 rfl rfl (by decide) x_ hq_ hx_) (fun hx_=>hC.mm 3 7 rfl rfl (by decide) x_ hq_ hx_))),(hC.stay 4 rfl hB12 (fun x_ hq_ hx_=>(Zu1.1 hx_).elim (fun hx_=>hC.mm 4 6 rfl rfl (by decide) x_ hq_ hx_) (fun hx_=>hC.mm 4 7 rfl rfl (by decide) x_ hq_ hx_))),(hC.stay 5 rfl hB12 (fun x_ hq_ hx_=>(Zu1.1 hx_).elim (fun hx_=>hC.mm 5 6 rfl rfl (by decide) x_ hq_ hx_) (fun hx_=>hC.mm 5 7 rfl rfl (by decide) x_ hq_ hx_))),hm10,hm11,(hC.stay 8 rfl hB12 (fun x_ hq_ hx_=>(Zu1.1 hx_).elim (fun hx_=>hC.mm 8 6 rfl rfl (by decide) x_ hq_ hx_) (fun hx_=>hC.mm 8 7 rfl rfl (by decide) x_ hq_ hx_))),(hC.stay 9 rfl hB12 (fun x_ hq_ hx_=>(Zu1.1 hx_).elim (fun hx_=>hC.mm 9 6 rfl rfl (by decide) x_ hq_ hx_) (fun hx_=>hC.mm 9 7 rfl rfl (by decide) x_ hq_ hx_))),(hC.stay 10 rfl hB12 (fun x_ hq_ hx_=>(Zu1.1 hx_).elim (fun hx_=>hC.mm 10 6 rfl rfl (by decide) x_ hq_ hx_) (fun hx_=>hC.mm 10 7 rfl rfl (by decide) x_ hq_ hx_))),(hC.stay 11 rfl hB12 (fun x_ hq_ hx_=>(Zu1.1 hx_).elim (fun hx_=>hC.mm 11 6 rfl rfl (by decide) x_ hq_ hx_) (fun hx_=>hC.mm 11 7 rfl rfl (by decide) x_ hq_ hx_))),(hC.stay 12 rfl hB12 (fun x_ hq_ hx_=>(Zu1.1 hx_).elim (fun hx_=>hC.mm 12 6 rfl rfl (by decide) x_ hq_ hx_) (fun hx_=>hC.mm 12 7 rfl rfl (by decide) x_ hq_ hx_)))⟩)
       refine Zc (v:=vI r22) rfl (dn (sr (Zb (v:=u14) rfl (Zb (v:=vI r22) rfl (Zg [u14,vI r22] _ Tryz.func21 rfl rfl rfl (Zls r14 r22 h _ (hC.getM 4 rfl)) ?_)))))
       rintro _ w26 ⟨r23,m12,rfl,h,hm12,hB10⟩
       refine rt ?_
       replace hC:=hC.turnL hB10 (M':=[own 2 1 u20 r15.length (eI.encs r15),own 2 1 u18 r11.degrees.length (eI.encs r11.degrees),ZGc (ZMb 55 (Zn 90)) r11.images [u19] f14,ZGc (ZMb 55 (Zn 90)) r18 [u12] f13,own 2 1 u14 m12.length (eI.encs m12),blk b10 32 [u10,u11],own 2 1 u10 m10.degrees.length (eI.encs m10.degrees),ZGc (ZMb 55 (Zn 90)) m10.images [u11] f12,ZGc (ZMb 55 (Zn 90)) r16 [u13] f11,own 2 1 u17 r12.length (eI.encs r12),own 2 1 u15 r10.degrees.length (eI.encs r10.degrees),ZGc (ZMb 55 (Zn 90)) r10.images [u16] f10,blk b5 25 [u0_0,u0_1]]) rfl (fun x_ hx_=>⟨_,mg 4 rfl,hx_⟩) (by simp only [Zuk,Zwq,or_false,forall_eq_or_imp,forall_eq]; exact⟨(hC.stay 0 rfl hB10 (fun x_ hq_ hx_=>hC.mm 0 4 rfl rfl (by decide) x_ hq_ hx_)),(hC.stay 1 rfl hB10 (fun x_ hq_ hx_=>hC.mm 1 4 rfl rfl (by decide) x_ hq_ hx_)),(hC.stay 2 rfl hB10 (fun x_ hq_ hx_=>hC.mm 2 4 rfl rfl (by decide) x_ hq_ hx_)),(hC.stay 3 rfl hB10 (fun x_ hq_ hx_=>hC.mm 3 4 rfl rfl (by decide) x_ hq_ hx_)),hm12,(hC.stay 5 rfl hB10 (fun x_ hq_ hx_=>hC.mm 5 4 rfl rfl (by decide) x_ hq_ hx_)),(hC.stay 6 rfl hB10 (fun x_ hq_ hx_=>hC.mm 6 4 rfl rfl (by decide) x_ hq_ hx_)),(hC.stay 7 rfl hB10 (fun x_ hq_ hx_=>hC.mm 7 4 rfl rfl (by decide) x_ hq_ hx_)),(hC.stay 8 rfl hB10 (fun x_ hq_ hx_=>hC.mm 8 4 rfl rfl (by decide) x_ hq_ hx_)),(hC.stay 9 rfl hB10 (fun x_ hq_ hx_=>hC.mm 9 4 rfl rfl (by decide) x_ hq_ hx_)),(hC.stay 10 rfl hB10 (fun x_ hq_ hx_=>hC.mm 10 4 rfl rfl (by decide) x_ hq_ hx_)),(hC.stay 11 rfl hB10 (fun x_ hq_ hx_=>hC.mm 11 4 rfl rfl (by decide) x_ hq_ hx_)),(hC.stay 12 rfl hB10 (fun x_ hq_ hx_=>hC.mm 12 4 rfl rfl (by decide) x_ hq_ hx_))⟩)
       refine Zc (v:=vI r23) rfl (dn (ZFx (sr (Zb (v:=vI r23) rfl (Zo rfl rfl (Zb (v:=.bool (decide (r23 < 0))) rfl ?_))))))
       refine Yq (decide (r23 < 0)) (fun hb10=>?_) (fun hb10=>?_)
       ·replace h:=ift h (ct hb10)
        refine Zh (b:=true) 2 74 rfl (tr rfl (congrArg _ hb10)) (by decide) (Zh (b:=true) 2 74 rfl (tr rfl (congrArg _ hb10)) (by decide) (Zh (b:=true) 2 74 rfl (tr rfl (congrArg _ hb10)) (by decide) (Zh (b:=true) 2 74 rfl (tr rfl (congrArg _ hb10)) (by decide) (Zx (v:=.bool true) (b:=true) (tr rfl (congrArg _ hb10)) rfl (Zb (v:=.bool true) rfl (Zh (b:=true) 8 80 rfl (tr rfl (congrArg _ rfl)) (by decide) (Zh (b:=true) 8 80 rfl (tr rfl (congrArg _ rfl)) (by decide) (Zh (b:=true) 8 80 rfl (tr rfl (congrArg _ rfl)) (by decide) (Zx (v:=.bool true) (b:=true) rfl rfl (dn (Z8 rfl rfl (sr (Zc (v:=.bool false) rfl (dn ?_))))))))))))))
        refine ZF5 (Ze ?_)
        exact Zk rfl (Zf rfl) ⟨false,rfl,h,hC.below⟩ (.inl rfl)
       ·replace h:=Zj h (cf hb10)
        refine Zi 2 74 rfl rfl hb10 (Zb (v:=u12) rfl (Zi 2 74 rfl rfl hb10 (Zb (v:=u13) rfl (Zi 2 74 rfl rfl hb10 (Zg [u12,u13] _ Tryz.func12 rfl rfl rfl (Zgu r18 r16 h _ (ZP3 _ (hC.getM 3 rfl).1) (ZP3 _ (hC.getM 8 rfl).1)) ?_)))))
        rintro _ w27 ⟨r28,rfl,h,hB25⟩
        refine rt ?_
        replace hC:=hC.grow hB25
        refine Zi 2 74 rfl rfl hb10 (Yu rfl (Zx (v:=.bool (!r28)) (b:=false) (tr rfl (congrArg _ hb10)) rfl (Zb (v:=.bool (!r28)) rfl ?_)))
        refine Yq (!r28) (fun hb12=>?_) (fun hb12=>?_)
        ·replace h:=ift h (Ym (Yz hb12))
         refine Zh (b:=true) 8 80 rfl (tr rfl (congrArg _ hb12)) (by decide) (Zh (b:=true) 8 80 rfl (tr rfl (congrArg _ hb12)) (by decide) (Zh (b:=true) 8 80 rfl (tr rfl (congrArg _ hb12)) (by decide) (Zx (v:=.bool true) (b:=true) (tr rfl (congrArg _ hb12)) rfl (dn (Z8 rfl rfl (sr (Zc (v:=.bool false) rfl (dn ?_))))))))
         refine ZF5 (Ze ?_)
         exact Zk rfl (Zf rfl) ⟨false,rfl,h,hC.below⟩ (.inl rfl)
        ·replace h:=Zj h (not_not_intro ((Y0 hb12)))
         refine Zi 8 80 rfl rfl hb12 (Zb (v:=vI r19) rfl (Zi 8 80 rfl rfl hb12 (Zb (v:=vI r13) rfl (Zi 8 80 rfl rfl hb12 (Yw rfl rfl (Zx (v:=.bool (decide (r19≠r13))) (b:=false) (tr rfl (congrArg _ hb12)) rfl (dn (Yb rfl hb14 (ZF0 (Zd (sr (Zc (v:=vI 1) rfl (dn (sr (Zb (v:=u12) rfl (Zb (v:=vI 1) rfl (Zg [u12,vI 1] _ Tryz.func15 rfl rfl rfl (Zlt r18 1 h _ (hC.getM 3 rfl)) ?_)))))))))))))))))
         rintro _ w28 ⟨r24,m11,rfl,h,hm13,hB11⟩
         refine rt ?_
         replace hC:=hC.turnL hB11 (M':=[own 2 1 u20 r15.length (eI.encs r15),own 2 1 u18 r11.degrees.length (eI.encs r11.degrees),ZGc (ZMb 55 (Zn 90)) r11.images [u19] f14,ZGc (ZMb 55 (Zn 90)) m11 [u12] f13,own 2 1 u14 m12.length (eI.encs m12),blk b10 32 [u10,u11],own 2 1 u10 m10.degrees.length (eI.encs m10.degrees),ZGc (ZMb 55 (Zn 90)) m10.images [u11] f12,ZGc (ZMb 55 (Zn 90)) r16 [u13] f11,own 2 1 u17 r12.length (eI.encs r12),own 2 1 u15 r10.degrees.length (eI.encs r10.degrees),ZGc (ZMb 55 (Zn 90)) r10.images [u16] f10,blk b5 25 [u0_0,u0_1]]) rfl (fun x_ hx_=>⟨_,mg 3 rfl,hx_⟩) (by simp only [Zuk,Zwq,or_false,forall_eq_or_imp,forall_eq]; exact⟨(hC.stay 0 rfl hB11 (fun x_ hq_ hx_=>hC.mm 0 3 rfl rfl (by decide) x_ hq_ hx_)),(hC.stay 1 rfl hB11 (fun x_ hq_ hx_=>hC.mm 1 3 rfl rfl (by decide) x_ hq_ hx_)),(hC.stay 2 rfl hB11 (fun x_ hq_ hx_=>hC.mm 2 3 rfl rfl (by decide) x_ hq_ hx_)),hm13,(hC.stay 4 rfl hB11 (fun x_ hq_ hx_=>hC.mm 4 3 rfl rfl (by decide) x_ hq_ hx_)),(hC.stay 5 rfl hB11 (fun x_ hq_ hx_=>hC.mm 5 3 rfl rfl (by decide) x_ hq_ hx_)),(hC.stay 6 rfl hB11 (fun x_ hq_ hx_=>hC.mm 6 3 rfl rfl (by decide) x_ hq_ hx_)),(hC.stay 7 rfl hB11 (fun x_ hq_ hx_=>hC.mm 7 3 rfl rfl (by decide) x_ hq_ hx_)),(hC.stay 8 rfl hB11 (fun x_ hq_ hx_=>hC.mm 8 3 rfl rfl (by decide) x_ hq_ hx_)),(hC.stay 9 rfl hB11 (fun x_ hq_ hx_=>hC.mm 9 3 rfl rfl (by decide) x_ hq_ hx_)),(hC.stay 10 rfl hB11 (fun x_ hq_ hx_=>hC.mm 10 3 rfl rfl (by decide) x_ hq_ hx_)),(hC.stay 11 rfl hB11 (fun x_ hq_ hx_=>hC.mm 11 3 rfl rfl (by decide) x_ hq_ hx_)),(hC.stay 12 rfl hB11 (fun x_ hq_ hx_=>hC.mm 12 3 rfl rfl (by decide) x_ hq_ hx_))⟩)
         refine Zc (v:=vI r24) rfl (dn (sr (Zc (v:=vI 1) rfl (dn (sr (Zb (v:=u12) rfl (Zb (v:=vI 1) rfl (Zg [u12,vI 1] _ Tryz.func16 rfl rfl rfl (Zlu m11 1 h _ (ZP3 _ (hC.getM 3 rfl).1)) ?_))))))))
         rintro _ w29 ⟨r25,rfl,h,hB26⟩
         refine rt ?_
         replace hC:=hC.grow hB26
         refine Zc (v:=vI r25) rfl (dn (ZFx (sr (Zb (v:=vI r25) rfl (Zo rfl rfl (dn ?_))))))
         refine Zp rfl (fun hb19=>?_) (fun hb19=>?_)
         ·replace h:=ift h (ct hb19)
          refine sr (Zc (v:=.bool false) rfl (dn ?_))
          refine ZF5 (Ze ?_)
          exact Zk rfl (Zf rfl) ⟨false,rfl,h,hC.below⟩ (.inl rfl)
         ·replace h:=Zj h (cf hb19)
          refine ZF0 (Zd (ZFx (sr (Zb (v:=vI r25) rfl (Zb (v:=vI r24) rfl (Yw rfl rfl (dn ?_)))))))
          refine Zp rfl (fun hb20=>?_) (fun hb20=>?_)
          ·replace h:=ift h (ct hb20)
           refine sr (Zc (v:=.bool false) rfl (dn ?_))
           refine ZF5 (Ze ?_)
           exact Zk rfl (Zf rfl) ⟨false,rfl,h,hC.below⟩ (.inl rfl)
          ·replace h:=Zj h (cf hb20)
           refine ZF0 (Zd (sr (Yg hC 12 [u0_0,u0_1] rfl Zfu rfl rfl rfl (Zg [.agg #[u0_0,u0_1]] _ ZP9 rfl rfl rfl (Zg4 (⟨a0.degrees,a0.images⟩:Alg) h _ (Xa (hC.getP 1 rfl) (hC.getP 0 rfl))) ?_))))
           rintro _ w30 ⟨r20,u22,u23,f21,rfl,h,hr18,hf21,hB27⟩
           refine rt ?_
           replace hC:=hC.push hB27 (ZGc (Zb8 2 90 55) r20 [u22,u23] f21) hr18 hf21
           obtain ⟨f22,ho19,ho20,hs16,hs17,hd13⟩:=Zgl (hC.getM 0 rfl)
           replace hC:=hC.split (a:=own 2 1 u22 r20.degrees.length (eI.encs r20.degrees)) (b:=ZGc (ZMb 55 (Zn 90)) r20.images [u23] f22) hs16 hs17 ⟨ho19,ho20,hd13⟩
           refine Zb (v:=u1_0) rfl (Zg [u1_0] _ ZQa rfl rfl rfl (Ze2 a1 h _ (hC.getP 3 rfl)) ?_)
           rintro _ w31 ⟨r26,u24,f23,rfl,h,hr19,hf22,hB28⟩
           refine rt ?_
           replace hC:=hC.push hB28 (ZGc (ZMb 2 (eI.tr)) r26 [u24] f23) hr19 hf22
           obtain ⟨ho21,hf23⟩:=Zaq (hC.getM 0 rfl).1
           subst hf23
           replace hC:=hC.recast (c:=own 2 1 u24 r26.length (eI.encs r26)) (fun _ h_=>h_) (fun _=>ho21)
           refine Zb (v:=vI a2) rfl (Zg [.agg #[u22,u23],u24,vI a2] _ Tryz.func19 rfl rfl rfl (Zms r20 r26 a2 h _ (Xa (Yy (hC.getM 1 rfl)) (ZP3 _ (hC.getM 2 rfl).1)) (Yy (hC.getM 0 rfl))) ?_)
           rintro _ w32 ⟨r31,u21,f24,r21,rfl,h,hr20,hf24,hB29⟩
           refine rt ?_
           replace hC:=hC.push hB29 (ZGc (ZMb 55 (Zn 90)) r31 [u21] f24) hr20 hf24
           refine Zb (v:=.tuple #[u21,vI r21]) rfl (Y7 (v:=u21) rfl rfl (Y7 (v:=vI r21) rfl rfl (Zc (v:=u21) rfl (Zc (v:=vI r21) rfl (dn (ZFx (sr (Zb (v:=u21) rfl (Zb (v:=u13) rfl (Zg [u21,u13] _ Tryz.func12 rfl rfl rfl (Zgu r31 r16 h _ (ZP3 _ (hC.getM 0 rfl).1) (ZP3 _ (hC.getM 12 rfl).1)) ?_))))))))))
           rintro _ w33 ⟨r32,rfl,h,hB30⟩
           refine rt ?_
           replace hC:=hC.grow hB30
           refine Yu rfl (Zb (v:=.bool (!r32)) rfl ?_)
           refine Yq (!r32) (fun hb13=>?_) (fun hb13=>?_)
           ·replace h:=ift h (Ym (Yz hb13))
            refine Zh (b:=true) 4 109 rfl (tr rfl (congrArg _ hb13)) (by decide) (Zh (b:=true) 4 109 rfl (tr rfl (congrArg _ hb13)) (by decide) (Zh (b:=true) 4 109 rfl (tr rfl (congrArg _ hb13)) (by decide) (Zx (v:=.bool true) (b:=true) (tr rfl (congrArg _ hb13)) rfl (dn (Z8 rfl rfl (sr (Zc (v:=.bool false) rfl (dn ?_))))))))
            refine ZF5 (Ze ?_)
            exact Zk rfl (Zf rfl) ⟨false,rfl,h,hC.below⟩ (.inl rfl)
           ·replace h:=Zj h (not_not_intro ((Y0 hb13)))
            refine Zi 4 109 rfl rfl hb13 (Zb (v:=vI r21) rfl (Zi 4 109 rfl rfl hb13 (Zb (v:=vI r13) rfl (Zi 4 109 rfl rfl hb13 (Yw rfl rfl (Zx (v:=.bool (decide (r21≠r13))) (b:=false) (tr rfl (congrArg _ hb13)) rfl (dn ?_)))))))
            refine Zp rfl (fun hb21=>?_) (fun hb21=>?_)
            ·replace h:=ift h (ct hb21)
             refine sr (Zc (v:=.bool false) rfl (dn ?_))
             refine ZF5 (Ze ?_)
             exact Zk rfl (Zf rfl) ⟨false,rfl,h,hC.below⟩ (.inl rfl)
            ·replace h:=Zj h (cf hb21)
             refine ZF0 (Zd (sr (Zc (v:=vI 1) rfl (dn (sr (Zb (v:=u12) rfl (Zb (v:=vI 1) rfl (Zg [u12,vI 1] _ Tryz.func16 rfl rfl rfl (Zlu m11 1 h _ (ZP3 _ (hC.getM 7 rfl).1)) ?_))))))))
             rintro _ w34 ⟨r27,rfl,h,hB31⟩
             refine rt ?_
             replace hC:=hC.grow hB31
             refine Zc (v:=vI r27) rfl (dn (ZFx (sr (Zb (v:=vI r27) rfl (Zo rfl rfl (dn ?_))))))
             refine Zp rfl (fun hb22=>?_) (fun hb22=>?_)
             ·replace h:=ift h (ct hb22)
              refine sr (Zc (v:=.bool false) rfl (dn ?_))
              refine ZF5 (Ze ?_)
              exact Zk rfl (Zf rfl) ⟨false,rfl,h,hC.below⟩ (.inl rfl)
             ·replace h:=Zj h (cf hb22)
              refine ZF0 (Zd (ZFx (sr (Zb (v:=vI r27) rfl (Zb (v:=vI r24) rfl (Yw rfl rfl (dn ?_)))))))
              refine Zp rfl (fun hb23=>?_) (fun hb23=>?_)
              ·replace h:=ift h (ct hb23)
               refine sr (Zc (v:=.bool false) rfl (dn ?_))
               refine ZF5 (Ze ?_)
               exact Zk rfl (Zf rfl) ⟨false,rfl,h,hC.below⟩ (.inl rfl)
              ·replace h:=Zj h (cf hb23)
               refine ZF0 (Zd (sr (Zc (v:=.bool true) rfl (dn (ZF5 ?_)))))
               exact Zk rfl (Zf rfl) ⟨true,rfl,h,hC.below⟩ (.inl rfl)
end Go.Proofs.YtheenipahifleaaGreat
namespace Go.Proofs.YtheenipahifleaaGreat
open Go Vc
structure HomM (ds:List Int) (w:Int) (s:List (A8×Int)):Prop where
  ok:MapOk s
  hom:∀ q,q∈s→WM ds w q.1
theorem Zmt {ds:List Int} {v w:Int} {s t:List (A8×Int)} {K:List (A8×Int)→Prop} (hd:OkDeg ds) (hs:HomM ds v s) (ht:HomM ds w t) (hv:v≤13) (hw:w≤13) (h:∀ out,HomM ds (v+w) out→(∀ x,co out x % 10007=prM ds s t x % 10007)→K out):Jz s ds t K :=
  Zi2 hd hs.ok (fun q hq => ((hs.hom q hq).wk hd (by omega)).1) (fun q hq => (hs.hom q hq).pos) ht.ok (fun q hq => ((ht.hom q hq).wk hd (by omega)).1) (fun q hq => (ht.hom q hq).pos) fun out ho =>
    h out ⟨ho.ok, fun q hq => by
      obtain ⟨a,b,ha,hb,e,hc⟩:=ho.ks q hq
      rw [e]; exact(hs.hom a ha).add (ht.hom b hb) hc hd.1⟩ ho.cf
theorem Zho:∀ i:Nat,ZF2.get i=0
  | 0 | 1 | 2 | 3 | 4 | 5 | 6 | 7=>rfl
  | _+8=>rfl
def Zhp:List Term:=[⟨ZF2,1⟩]
theorem Zhq {ds:List Int} (h8:ds.length≤8):WM ds 0 ZF2 where
  pos i hi:=by rw [Zho]; omega
  odd i hi o:=by rw [Zho]; omega
  out i hi hl:=Zho i
  wt:=by
    have:∀ k,wtU ds ZF2 k=0:=fun k=>by
      induction k with
      | zero=>rfl
      | succ k ih=>simp only [wtU]; rw [ih,Zho]; simp
    exact this _
def PwL (ds:List Int) (img:List Term):Nat→List Term
  | 0=>Zhp
  | k+1=>Zcj ds (PwL ds img k) img
theorem Ztf {ds : List Int} {d : Int} {f : List Term} {K : ZF1 → Prop} (hd : OkDeg ds) (hf : HomF ds d f) (h0 : 1 ≤ d) (k : Nat) (hk : (k : Int) * d ≤ 13) (h : ∀ out, HomF ds ((k : Int) * d) out → (∀ x, coT out x % 10007 = coT (PwL ds f k) x % 10007) → K ⟨out⟩) : Zcn ds ⟨f⟩ (k : Int) K := by
  have kb:(k:Int)≤13:=by
    have:=ZQ0 h0 (ZGe k)
    omega
  unfold Zcn
  refine Zhf ?_
  refine X8 (fun (s:List Term×Int)=>0≤s.2∧s.2≤k∧HomF ds (((k:Int) - s.2) * d) s.1∧∀ x,coT s.1 x % 10007=coT (PwL ds f ((k:Int) - s.2).toNat) x % 10007) (fun s=>s.2.toNat) ?_ ⟨by dsimp only; omega,by dsimp only; omega,?_,fun x=>?_⟩
  · rintro ⟨l,j⟩ next ⟨g1,g2,g3,g4⟩ hnx
    dsimp only at g1 g2 g3 g4 hnx ⊢
    by_cases c:j > 0
    · have w1:((k:Int) - j) * d≤13∧((k:Int) - (j - 1)) * d≤13∧((k:Int) - j) * d+d=((k:Int) - (j - 1)) * d∧d≤13:=by
        have e1:((k:Int) - j) * d+d=((k:Int) - (j - 1)) * d:=by rw [show (k:Int) - (j - 1)=((k:Int) - j)+1 by omega,Int.add_mul,ZMs]
        have e2:((k:Int) - (j - 1)) * d≤(k:Int) * d:=ZNv (by omega) (by omega)
        have e3:0≤((k:Int) - j) * d:=Int.mul_nonneg (by omega) (by omega)
        omega
      refine Xd c (Zmo hd g3 hf w1.1 w1.2.2.2 (by rw [w1.2.2.1]; exact w1.2.1) fun out ho hh=>?_)
      have wu:ZF9.wrap (j - 1)=j - 1:=Zgj _ (by omega)
      rw [wu]
      refine hnx _ ⟨by dsimp only; omega,by dsimp only; omega,by dsimp only; rw [← w1.2.2.1]; exact hh,fun x=>?_⟩ (by dsimp only; omega)
      dsimp only
      have en:((k:Int) - (j - 1)).toNat=((k:Int) - j).toNat+1:=by omega
      rw [en,ho.cf,PwL]
      have:=Zja (ds:=ds) 1 (f:=l) (f':=PwL ds f ((k:Int) - j).toNat) (g:=f) (g':=f) (fun x=>by rw [ZMs]; exact g4 x) (fun _=>rfl) x
      rwa [ZMs] at this
    · have e:j=0:=by omega
      subst e
      rw [Int.sub_zero] at g3 g4
      rw [ZP6] at g4
      exact Xb c (h l g3 g4)
  · dsimp only
    rw [Int.sub_self,ZQj]
    exact⟨Zi8 _,fun t ht=>by obtain rfl:=Zwb.1 ht; exact Zhq hd.1⟩
  · dsimp only
    rw [Int.sub_self]; rfl
def Zd1 (ds:List Int) (deg:List Int) (m:List (List Term)) (i k:Int) (s:List (A8×Int)):Prop:=HomM ds (k * deg.getD i.toNat Zuo) s∧∀ x,co s x % 10007=coT (PwL ds (m.getD i.toNat Zuo) k.toNat) x % 10007
theorem Ztg {ds deg:List Int} {m:List (List Term)} {imgs:List (List (A8×Int))} (hd:OkDeg ds) {i:Nat} (hi:HomM ds (deg.getD i Zuo) (imgs.getD i [])) (hc:∀ x,co (imgs.getD i []) x=coT (m.getD i Zuo) x) (h0:1≤deg.getD i Zuo) {e:Nat} (he:(e:Int) * deg.getD i Zuo≤13) (h1:deg.getD i Zuo≤13):Zdy (Zd1 ds deg m) ds imgs i e:=by
  refine⟨?_,fun k hk r hr=>?_⟩
  · unfold Zcm Zd1
    refine⟨⟨Zhh _,fun q hq=>?_⟩,fun x=>?_⟩
    · obtain rfl:=Zwb.1 hq
      rw [ZQj]; exact Zhq hd.1
    · rfl
  · obtain ⟨h2,h3⟩:=hr
    rw [ZP6] at h2 h3
    have ek:((k:Int)+1) * deg.getD i Zuo=(k:Int) * deg.getD i Zuo+deg.getD i Zuo:=by rw [Int.add_mul,ZMs]
    have kb:(k:Int) * deg.getD i Zuo≤13:=Int.le_trans (ZNv (by omega) (by omega)) he
    refine Zmt hd h2 hi kb h1 fun out ho hco=>⟨by rw [ZP6,ek]; exact ho,fun x=>?_⟩
    have en:((k:Int)+1).toNat=k+1:=by omega
    rw [en,ZP6,PwL,hco]
    rw [ZP6] at h3
    have:=Zmk (ds:=ds) 1 (s:=r) (t:=imgs.getD i []) (f':=PwL ds (m.getD i Zuo) k) (g':=m.getD i Zuo) (fun x=>by rw [ZMs]; exact h3 x) (fun x=>by rw [hc]) x
    rwa [ZMs] at this
end Go.Proofs.YtheenipahifleaaGreat
namespace Go.Proofs.YtheenipahifleaaGreat
open Go Vc
theorem Zmu {ds:List Int} {m:A8} (hd:OkDeg ds) (hp:∀ i,i < 8→0≤m.get i) {j:Nat}:∀ k,j≤k→k≤ds.length→wtU ds m j≤wtU ds m k:=fun k=>by
  induction k with
  | zero=>intro h _; rw [Nat.le_zero.1 h]; exact ZMg _
  | succ k ih =>
    intro h hk
    by_cases e:j=k+1
    · rw [e]; exact ZMg _
    · have h1:=ih (by omega) (by omega)
      have h8:=hd.1
      have:=Int.mul_nonneg (show 0≤ds.getD k Zuo by have:=hd.2 k (by omega); omega) (hp k (by omega))
      simp only [wtU]; omega
def LdL (ds:List Int) (m:List (List Term)) (p:A8):Nat→List Term
  | 0=>Zhp
  | i+1=>if 0 < p.get i then Zcj ds (LdL ds m p i) (PwL ds (m.getD i Zuo) (p.get i).toNat) else LdL ds m p i
structure ImgOf (deg ds:List Int) (m:List (List Term)):Prop where
  len:m.length=deg.length
  hom:∀ i,i < deg.length→HomF ds (deg.getD i Zuo) (m.getD i Zuo)
structure MapOf (deg ds:List Int) (m:List (List Term)) (imgs:List (List (A8×Int))):Prop where
  len:imgs.length=deg.length
  hom:∀ i,i < deg.length→HomM ds (deg.getD i Zuo) (imgs.getD i [])
  co:∀ i,i < deg.length→∀ x,co (imgs.getD i []) x=coT (m.getD i Zuo) x
section
variable {deg ds:List Int} {m:List (List Term)}
theorem Zmv (hg:OkDeg deg) {p:A8} {W:Int} (hp:WM deg W p) (hW:W≤13) {i:Nat} (hi:i < deg.length) (h0:0 < p.get i):1≤deg.getD i Zuo∧deg.getD i Zuo≤13∧p.get i * deg.getD i Zuo≤13∧p.get i≤13∧wtU deg p (i+1)=wtU deg p i+p.get i * deg.getD i Zuo∧wtU deg p (i+1)≤13∧0≤wtU deg p i∧wtU deg p i≤13:=by
  have h1:=hg.2 i hi
  have h2:=(Zfr hg hp.pos deg.length (Zun _)).2 i hi
  rw [hp.wt,Int.mul_comm] at h2
  have a1:p.get i * 1≤p.get i * deg.getD i Zuo:=ZQ0 h1.1 (by omega)
  have a2:1 * deg.getD i Zuo≤p.get i * deg.getD i Zuo:=ZNv (by omega) (by omega)
  have m1:=Zmu hg hp.pos (j:=i+1) deg.length (by omega) (Zun _)
  have m2:=Zmu hg hp.pos (j:=i) deg.length (by omega) (Zun _)
  rw [hp.wt] at m1 m2
  have m3:=(Zfr hg hp.pos i (by omega)).1
  refine⟨h1.1,by omega,by omega,by omega,?_,by omega,m3,by omega⟩
  simp only [wtU]; rw [Int.mul_comm]
theorem Zth {imgs : List (List (A8 × Int))} {K : List (A8 × Int) → Prop} (hg : OkDeg deg) (hd : OkDeg ds) (hm : MapOf deg ds m imgs) {p : A8} {W : Int} (hp : WM deg W p) (hW : W ≤ 13) (h : ∀ t, HomM ds W t → (∀ x, co t x % 10007 = coT (LdL ds m p deg.length) x % 10007) → K t) :
    Zcm (fun r11=>Ye (fun i10 (s10:(List (A8×Int))) nx10=>((0≤(i10:Int)∧(i10:Int) < 8)∧(if p.get i10 > 0 then((0≤(i10:Int)∧(i10:Int) < 8)∧(((i10 < imgs.length∧0≤p.get i10∧p.get i10≤1000)∧Zdy (Zd1 ds deg m) ds imgs i10 (p.get i10).toNat)∧∀ (r10:List (A8×Int)),Zd1 ds deg m (i10:Int) (p.get i10) r10→Jz s10 ds r10 (fun r12=>nx10 r12))) else nx10 s10))) K deg.length 0 r11):=by
  have h8:=hg.1
  unfold Zcm
  refine Ys (fun i (t:List (A8×Int))=>HomM ds (wtU deg p i) t∧∀ x,co t x % 10007=coT (LdL ds m p i) x % 10007) deg.length ?_ ?_ _ _ _ (by omega) ⟨⟨Zhh _,fun q hq=>by obtain rfl:=Zwb.1 hq; exact Zhq hd.1⟩,fun x=>rfl⟩
  · rintro i t next hi ⟨g1,g2⟩ hnx
    refine⟨by omega,?_⟩
    by_cases c:0 < p.get i
    · obtain ⟨d1,d2,d3,d4,d5,d6,d7,d8⟩:=Zmv hg hp hW hi c
      refine Xd c ⟨by omega,⟨⟨⟨by rw [hm.len]; omega,by omega,by omega⟩,?_⟩,fun r hr=>?_⟩⟩
      · exact Ztg hd (hm.hom i hi) (hm.co i hi) d1 (by rw [Int.toNat_of_nonneg (by omega)]; exact d3) d2
      · obtain ⟨r1,r2⟩:=hr
        rw [ZP6] at r1 r2
        refine Zmt hd g1 r1 d8 d3 fun out ho hco=>hnx _ ⟨by rw [d5]; exact ho,fun x=>?_⟩
        rw [hco,LdL,if_pos c]
        have:=Zmk (ds:=ds) 1 (s:=t) (t:=r) (f':=LdL ds m p i) (g':=PwL ds (m.getD i Zuo) (p.get i).toNat) (fun x=>by rw [ZMs]; exact g2 x) r2 x
        rwa [ZMs] at this
    · have z:p.get i=0:=by have:=hp.pos i (by omega); omega
      refine Xb (by omega) (hnx _ ⟨?_,fun x=>by rw [LdL,if_neg c]; exact g2 x⟩)
      have:wtU deg p (i+1)=wtU deg p i:=by simp only [wtU]; rw [z,Int.mul_zero,ZMe]
      rw [this]; exact g1
  · rintro t ⟨g1,g2⟩
    rw [hp.wt] at g1
    exact h t g1 g2
def ApC (ds:List Int) (m:List (List Term)) (n:Nat) (f:List Term) (x:A8):Int:=tot (fun t=>t.factor * coT (LdL ds m t.mono n) x) f
theorem Zti {imgs:List (List (A8×Int))} {s:List (A8×Int)} {f:List Term} {K:List (A8×Int)→Prop} (hg:OkDeg deg) (hd:OkDeg ds) (hm:MapOf deg ds m imgs) {W:Int} (hf:HomF deg W f) (hs:IsMap f s) (hW:W≤13) (h:∀ out,HomM ds W out→(∀ x,co out x % 10007=ApC ds m deg.length f x % 10007)→K out):Zft (Zd1 ds deg m) deg ds imgs s K:=by
  unfold Zft
  have key:∀ x,tot (fun q:A8×Int=>q.2 * coT (LdL ds m q.1 deg.length) x) s=ApC ds m deg.length f x:=fun x =>
    Zfo hs hf.can (fun a n=>n * coT (LdL ds m a deg.length) x) (fun a=>ZQj _)
  have hsW:∀ q,q∈s→WM deg W q.1:=fun q hq=>by
    obtain ⟨t,ht,e⟩:=hs.ks q hq
    rw [← e]; exact hf.hom t ht
  refine Zc3 (fun l' (out:List (A8×Int))=>(∀ q,q∈l'→q∈s)∧HomM ds W out∧∀ x,(co out x+tot (fun q:A8×Int=>q.2 * coT (LdL ds m q.1 deg.length) x) l') % 10007=ApC ds m deg.length f x % 10007) ?_ ?_ s [] ⟨fun _ h=>h,⟨MapOk.nil,fun q hq=>by cases hq⟩,fun x=>by rw [Za8,Int.zero_add,key]⟩
  · rintro l' q l'' out next hp ⟨h0,h1,h2⟩ hnx
    have hperm:=Zc4 hp
    have hq:q∈s:=h0 q (hperm.mem_iff.2 (by simp))
    have hqf:=hs.ok.2 q hq
    refine Zth hg hd hm (hsW q hq) hW fun t ht hco=>?_
    refine Zg9 h1.ok ht.ok (by omega) fun o2 ho=>hnx _ ⟨fun z hz=>h0 z (hperm.mem_iff.2 (by simp [hz])),⟨ho.ok,fun z hz=>?_⟩,fun x=>?_⟩
    · obtain ⟨y,hy | hy,e⟩:=ho.ks z hz
      · rw [← e]; exact h1.hom y hy
      · rw [← e]; exact ht.hom y hy
    · have e1:=ho.cf x
      have e2:=h2 x
      have e3:=hco x
      have e4:tot (fun q:A8×Int=>q.2 * coT (LdL ds m q.1 deg.length) x) l'=q.2 * coT (LdL ds m q.1 deg.length) x+tot (fun q:A8×Int=>q.2 * coT (LdL ds m q.1 deg.length) x) l'':=by rw [Zch _ hperm]; rfl
      have e5:(q.2 * co t x) % 10007=(q.2 * coT (LdL ds m q.1 deg.length) x) % 10007:=by rw [Int.mul_emod,e3,← Int.mul_emod]
      omega
  · rintro out ⟨_,h1,h2⟩
    exact h out h1 fun x=>by have:=h2 x; simpa [tot] using this
end
end Go.Proofs.YtheenipahifleaaGreat
namespace Go.Proofs.YtheenipahifleaaGreat
open Go Vc
def tms (l:List ZF1):List (List Term):=l.map Vc.Form.terms
theorem Zhr (l:List ZF1) (i:Nat):(tms l).getD i Zuo=(l.getD i Zuo).terms:=by
  unfold tms
  by_cases h:i < l.length
  · simp [Zuv,h]
  · simp [Zuv,List.getElem?_eq_none (Nat.le_of_not_lt h)]; rfl
theorem Ztj {m:A8} {v:Int} {K:ZF1→Prop} (hv:1≤v∧v≤10006) (h:K ⟨[⟨m,v⟩]⟩):Xx m v K:=by
  unfold Xx
  refine Zaz ?_
  rw [show v % 10007=v by omega,if_neg (by omega)]
  refine Zaz ?_
  rw [show v % 10007=v by omega]
  exact h
section
variable {deg ds:List Int} {ms:List ZF1}
theorem Ztk {p : A8} {v : Int} {A : Prop} {K : List Term → Prop} (hg : OkDeg deg) (hd : OkDeg ds) (hm : ImgOf deg ds (tms ms)) {W : Int} (hp : WM deg W p) (hW : W ≤ 13) (hv : 1 ≤ v ∧ v ≤ 10006) (hA : A) (h : ∀ l, HomF ds W l → (∀ x, coT l x % 10007 = (v * coT (LdL ds (tms ms) p deg.length) x) % 10007) → K l) :
    Xx ZF2 v (fun r10=>Ye (fun i10 (s11:(List Term)) nx10=>(A∧((0≤(i10:Int)∧(i10:Int) < 8)∧(if p.get i10 > 0 then(A∧((0≤(i10:Int)∧(i10:Int) < 8)∧Zcn ds (ms.getD i10 Zuo) (p.get i10) (fun r11=>X4 ds (⟨s11⟩:ZF1) r11 (fun r12=>nx10 r12.terms)))) else nx10 s11)))) K ms.length 0 r10.terms):=by
  have h8:=hg.1
  have hl:ms.length=deg.length:=by have:=hm.len; rwa [tms,List.length_map] at this
  refine Ztj hv ?_
  rw [hl]
  refine Ys (fun i (t:List Term)=>HomF ds (wtU deg p i) t∧∀ x,coT t x % 10007=(v * coT (LdL ds (tms ms) p i) x) % 10007) deg.length ?_ ?_ _ _ _ (by omega) ⟨⟨⟨by simp,fun t ht=>by obtain rfl:=Zwb.1 ht; exact hv⟩,fun t ht=>by obtain rfl:=Zwb.1 ht; exact Zhq hd.1⟩,fun x=>?_⟩
  · rintro i t next hi ⟨g1,g2⟩ hnx
    refine⟨hA,by omega,?_⟩
    by_cases c:0 < p.get i
    · obtain ⟨d1,d2,d3,d4,d5,d6,d7,d8⟩:=Zmv hg hp hW hi c
      refine Xd c ⟨hA,by omega,?_⟩
      have hf:=hm.hom i hi
      have en:((p.get i).toNat:Int)=p.get i:=Int.toNat_of_nonneg (by omega)
      have go:∀ K':ZF1→Prop,(∀ out,HomF ds (p.get i * deg.getD i Zuo) out→(∀ x,coT out x % 10007=coT (PwL ds ((tms ms).getD i Zuo) (p.get i).toNat) x % 10007)→K' ⟨out⟩)→Zcn ds (ms.getD i Zuo) (p.get i) K':=fun K' hK=>by
        rw [Zhr] at hf hK
        have:=Ztf (K:=K') hd hf d1 (p.get i).toNat (by rw [en]; exact d3) fun out h1 h2=>hK out (by rwa [en] at h1) h2
        rwa [en] at this
      refine go _ fun r r1 r2=>?_
      refine Zmo hd g1 r1 d8 d3 (by rw [← d5]; exact d6) fun out ho hh=>hnx _ ⟨by rw [d5]; exact hh,fun x=>?_⟩
      rw [ho.cf,LdL,if_pos c]
      exact Zja v g2 r2 x
    · have z:p.get i=0:=by have:=hp.pos i (by omega); omega
      refine Xb (by omega) (hnx _ ⟨?_,fun x=>by rw [LdL,if_neg c]; exact g2 x⟩)
      have:wtU deg p (i+1)=wtU deg p i:=by simp only [wtU]; rw [z,Int.mul_zero,ZMe]
      rw [this]; exact g1
  · rintro t ⟨g1,g2⟩
    rw [hp.wt] at g1
    exact h t g1 g2
  · show coT [⟨ZF2,v⟩] x % 10007=(v * coT Zhp x) % 10007
    rw [Zak,Zax,Zhp,Zak,Zax]
    dsimp only
    split <;> simp
theorem Ztl {f : List Term} {K : ZF1 → Prop} (hg : OkDeg deg) (hd : OkDeg ds) (hm : ImgOf deg ds (tms ms)) {W : Int} (hf : HomF deg W f) (hW : W ≤ 13) (h : ∀ out, HomF ds W out → (∀ x, coT out x % 10007 = ApC ds (tms ms) deg.length f x % 10007) → K ⟨out⟩) : Zfv ds ms ⟨f⟩ K := by
  have lf:=Zck hg hW hf.can hf.hom
  unfold Zfv
  refine X8 (fun (s:List Term×Int)=>0≤s.2∧s.2≤f.length∧HomF ds W s.1∧∀ x,coT s.1 x % 10007=ApC ds (tms ms) deg.length (f.take s.2.toNat) x % 10007) (fun s=>(f.length - s.2.toNat)) ?_ ⟨by dsimp only; omega,by dsimp only; omega,⟨Canon.nil,fun t ht=>by cases ht⟩,fun x=>rfl⟩
  rintro ⟨l,j⟩ next ⟨g1,g2,g3,g4⟩ hnx
  dsimp only at g1 g2 g3 g4 hnx ⊢
  by_cases c:j < (f.length:Int)
  · have hj:j.toNat < f.length:=by omega
    have ht:=Ja hj
    refine Xd c ⟨⟨g1,c⟩,?_⟩
    refine Ztk hg hd hm (hf.hom _ ht) hW (hf.can.2 _ ht) ⟨g1,c⟩ fun own h1 h2=>?_
    have l1:=Zck hd hW g3.can g3.hom
    have l2:=Zck hd hW h1.can h1.hom
    refine Zdt g3.can h1.can (by omega) (by omega) (by omega) fun o2 ho=>?_
    rw [i64_in (j+1) (by omega)]
    refine hnx _ ⟨by dsimp only; omega,by dsimp only; omega,⟨ho.can,fun x hx=>?_⟩,fun x=>?_⟩ (by dsimp only; omega)
    · obtain ⟨y,hy | hy,e⟩:=ho.mo x hx
      · rw [← e]; exact g3.hom y hy
      · rw [← e]; exact h1.hom y hy
    · dsimp only
      have e1:=ho.cf x
      have e2:=g4 x
      have e3:=h2 x
      have e4:(j+1).toNat=j.toNat+1:=by omega
      have e5:ApC ds (tms ms) deg.length (f.take (j.toNat+1)) x=ApC ds (tms ms) deg.length (f.take j.toNat) x+(f.getD j.toNat Zuo).factor * coT (LdL ds (tms ms) (f.getD j.toNat Zuo).mono deg.length) x:=by
        rw [J6 hj]; unfold ApC; rw [Zdj]; simp only [tot,ZMe]
      rw [e4,e5]
      omega
  · have e:j.toNat=f.length:=by omega
    rw [e,List.take_length] at g4
    exact Xb c (h l g3 g4)
end
end Go.Proofs.YtheenipahifleaaGreat
namespace Go.Proofs.YtheenipahifleaaGreat
open Go Vc
def Zd2 (m:List ZF1):Prop:=∀ i,i < m.length→FitT (m.getD i Zuo).terms∧(m.getD i Zuo).terms.length≤1048576
def Zal (a b:Alg) (m:List ZF1):Prop:=m.length=a.degrees.length∧∀ i,i < m.length→OkForm b.degrees (m.getD i Zuo).terms∧Hom b.degrees (m.getD i Zuo).terms (a.degrees.getD i Zuo)
theorem Zmw {ds : List Int} {w : Int} {f : List Term} (of : OkForm ds f) (ff : FitT f) (hh : Hom ds f w) : HomF ds w f := ⟨of.canon, fun t ht => by
  obtain ⟨i,hi,e⟩:=List.getElem_of_mem ht
  have h1:=hh i hi
  rw [show f.getD i Zuo=t by simp [Zuv,hi,e]] at h1
  have hp:=ff.pos t ht
  exact ⟨fun i hi => (hp i hi).1, fun i hi o => by
    by_cases h8:i < 8
    · exact((of.mono ht i h8).1 hi).2 o
    · have:t.mono.get i=0:=by
        match i,h8 with
        | n+8,_=>rfl
      omega,fun i hi hl=>(of.mono ht i hi).2 hl,h1⟩⟩
def DC (b:Alg) (f:List Term) (x:A8):Int:=tot (fun t=>dT b.degrees (imgsT b) t.mono t.factor x) f
def Zbt (a b:Alg) (m:List ZF1):Prop:=∀ i,i < m.length→∀ x,ApC b.degrees (tms m) a.degrees.length (a.images.getD i Zuo).terms x % 10007=DC b (m.getD i Zuo).terms x % 10007
theorem Ztm {s:List (A8×Int)} (h:MapOk s) (h0:∀ x,co s x % 10007=0):s=[]:=by
  cases s with
  | nil=>rfl
  | cons q l =>
    have h1:=h0 q.1
    have hn:q.1∉l.map Prod.fst:=(List.nodup_cons.1 h.1).1
    rw [J0,if_pos rfl,Zba fun t ht e=>hn (List.mem_map.2 ⟨t,ht,e⟩)] at h1
    have:=h.2 q (by simp)
    omega
theorem Ztn {s t:List (A8×Int)} {K:Bool→Prop} (hs:MapOk s) (ht:MapOk t) (h1:(∀ x,co s x % 10007=co t x % 10007)→K true) (h0:¬ (∀ x,co s x % 10007=co t x % 10007)→K false):Zfz s t K:=by
  unfold Zfz
  refine Zg9 MapOk.nil hs (by omega) fun o1 ho1=>Zg9 ho1.ok ht (by omega) fun o2 ho2=>?_
  have e:∀ x,co o2 x % 10007=(co s x+10006 * co t x) % 10007:=fun x=>by
    have e1:=ho1.cf x
    have e2:=ho2.cf x
    rw [Za8] at e1
    omega
  by_cases c:∀ x,co s x % 10007=co t x % 10007
  · have:o2=[]:=Ztm ho2.ok fun x=>by rw [e]; have:=c x; omega
    rw [this]; exact h1 c
  · have ne:¬ ((o2.length:Int)=0):=fun z=>c fun x=>by
      have hz:o2=[]:=List.eq_nil_of_length_eq_zero (by omega)
      have:=e x
      rw [hz,Za8] at this
      omega
    rw [decide_eq_false ne]; exact h0 c
section
variable {a b:Alg} {m:List ZF1}
theorem Zmx (ak:Zal a b m) (fm:Zd2 m):ImgOf a.degrees b.degrees (tms m):=⟨by rw [tms,List.length_map]; exact ak.1,fun i hi=>by
  rw [Zhr]
  have h1:=ak.2 i (by rw [ak.1]; exact hi)
  exact Zmw h1.1 (fm i (by rw [ak.1]; exact hi)).1 h1.2⟩
theorem Zmy (ok:OkAlg a) (hf:J1 a) {i:Nat} (hi:i < a.images.length):HomF a.degrees (a.degrees.getD i Zuo+1) (a.images.getD i Zuo).terms∧a.degrees.getD i Zuo+1≤13 :=
  ⟨Zmw (ok.frm i hi) (hf i hi).1 (ok.hom i hi),by have:=(ok.deg.2 i (by rw [← ok.len]; exact hi)).2; omega⟩
theorem Zto {K : Bool → Prop} (oka : OkAlg a) (hfa : J1 a) (okb : OkAlg b) (hfb : J1 b) (ak : Zal a b m) (fm : Zd2 m) (h1 : Zbt a b m → K true) (h0 : ¬ Zbt a b m → K false) : Zf0 a b m K := by
  have hl:m.length=a.images.length:=by rw [ak.1,oka.len]
  have h8:=oka.deg.1
  unfold Zf0
  refine Ys (fun i (s:List (List (A8×Int)))=>s.length=i∧∀ j,j < i→IsMap (m.getD j Zuo).terms (s.getD j [])) m.length ?_ ?_ _ _ _ (by omega) ⟨rfl,fun j hj=>by omega⟩
  · rintro i s next hi ⟨g1,g2⟩ hnx
    refine Zg8 (ak.2 i hi).1.canon (fm i hi).1 fun r hr=>⟨by unfold X5; have:=ak.1; omega,hnx _ ⟨by simp [g1],fun j hj=>?_⟩⟩
    by_cases e:j < s.length
    · have:(s++[r]).getD j []=s.getD j []:=by simp only [Zuv]; rw [List.getElem?_append_left e]
      rw [this]; exact g2 j (by omega)
    · obtain rfl:j=i:=by omega
      have:(s++[r]).getD j []=r:=by rw [← g1]; simp [Zuv]
      rw [this]; exact hr
  · rintro imgs ⟨g1,g2⟩
    have im:=Zmx ak fm
    have hm:MapOf a.degrees b.degrees (tms m) imgs:=⟨by rw [g1,ak.1],fun i hi=>by
      have q:=g2 i (by rw [ak.1]; exact hi)
      have f:=im.hom i hi
      rw [Zhr] at f
      exact⟨q.ok,fun z hz=>by
        obtain ⟨t,ht,e⟩:=q.ks z hz
        rw [← e]; exact f.hom t ht⟩,fun i hi x=>by rw [Zhr]; exact(g2 i (by rw [ak.1]; exact hi)).cf x⟩
    refine⟨Zd1 b.degrees a.degrees (tms m),?_⟩
    refine Ys (fun i (_:Unit)=>∀ j,j < i→∀ x,ApC b.degrees (tms m) a.degrees.length (a.images.getD j Zuo).terms x % 10007=DC b (m.getD j Zuo).terms x % 10007) a.images.length ?_ ?_ _ _ _ (by omega) (fun j hj=>by omega)
    · intro i _ next hi g hnx
      obtain ⟨sh,sw⟩:=Zmy oka hfa hi
      have him:i < m.length:=by omega
      refine⟨by omega,Zg8 sh.can (hfa i hi).1 fun r hr=>Zti oka.deg okb.deg hm sh hr sw fun r12 hw hco=>?_⟩
      refine m_d (okb.algF hfb) (g2 i him) (ak.2 i him).1 (fm i him).1 fun r13 hD=>?_
      have eD:∀ x,co r13 x % 10007=DC b (m.getD i Zuo).terms x % 10007:=fun x=>by
        rw [hD.cf,Zfo (g2 i him) (ak.2 i him).1.canon (fun y n=>dT b.degrees (imgsT b) y n x) (fun y=>Zi4 _ _ y x)]; rfl
      refine Ztn hw.ok hD.ok (fun c=>Xb (by decide) (hnx _ fun j hj x=>?_)) fun c=>Xd (by decide) (h0 fun z=>c fun x=>by rw [hco,eD]; exact z i him x)
      by_cases e:j=i
      · subst e
        rw [← hco,← eD]; exact c x
      · exact g j (by omega) x
    · intro _ g
      exact h1 fun i hi x=>g i (by omega) x
theorem Ztp {K : Bool → Prop} (okb : OkAlg b) (hda : a.degrees.length ≤ 8) (fm : Zd2 m) (h1 : Zal a b m → K true) (h0 : ¬ Zal a b m → K false) : Zfy a.degrees b.degrees m K := by
  unfold Zfy
  by_cases hl:m.length=a.degrees.length
  · refine Xb (by omega) ?_
    refine Ys (fun i (_:Unit)=>∀ j,j < i→OkForm b.degrees (m.getD j Zuo).terms∧Hom b.degrees (m.getD j Zuo).terms (a.degrees.getD j Zuo)) m.length ?_ ?_ _ _ _ (by omega) (fun j hj=>by omega)
    · intro i _ next hi g hnx
      refine Zl1 (l:=(m.getD i Zuo).terms) okb.deg (fm i hi).1 ?_
      by_cases c:OkForm b.degrees (m.getD i Zuo).terms
      · rw [decide_eq_true c]
        refine Xb (by decide) ⟨by omega,Zmf (l:=(m.getD i Zuo).terms) okb.deg (fm i hi).1 ?_⟩
        by_cases d:Hom b.degrees (m.getD i Zuo).terms (a.degrees.getD i Zuo)
        · rw [decide_eq_true d]
          refine Xb (by decide) (hnx _ fun j hj=>?_)
          by_cases e:j=i
          · subst e; exact⟨c,d⟩
          · exact g j (by omega)
        · rw [decide_eq_false d]
          exact Xd (by decide) (h0 fun z=>d (z.2 i hi).2)
      · rw [decide_eq_false c]
        exact Xd (by decide) (h0 fun z=>c (z.2 i hi).1)
    · intro _ g; exact h1 ⟨hl,g⟩
  · exact Xd (by omega) (h0 fun z=>hl z.1)
theorem Ztq {K:Bool→Prop} (oka:OkAlg a) (hfa:J1 a) (okb:OkAlg b) (hfb:J1 b) (fm:Zd2 m) (h1:Zal a b m→Zbt a b m→K true) (h0:¬ (Zal a b m∧Zbt a b m)→K false):Zco a b m K:=by
  unfold Zco
  exact Ztp okb oka.deg.1 fm (fun ak=>Xd rfl (Zto oka hfa okb hfb ak fm (h1 ak) fun z=>h0 fun q=>z q.2)) fun z=>Xb (by decide) (h0 fun q=>z q.1)
end
end Go.Proofs.YtheenipahifleaaGreat
namespace Go.Proofs.YtheenipahifleaaGreat
open Go Vc
theorem Ztr {l:List Term} (hc:Canon l) (h0:∀ x,coT l x % 10007=0):l=[]:=by
  cases l with
  | nil=>rfl
  | cons t l =>
    have h1:=h0 t.mono
    rw [Zak,if_pos rfl,Zdk fun s hs e=>by have:=hc.head s hs; rw [e] at this; exact absurd this (by rw [Zld]; omega)] at h1
    have:=hc.2 t (by simp)
    omega
theorem Zts {a b : Alg} {m : List ZF1} {K : Bool → Prop} (fa : J1 a) (fb : J1 b) (fm : Zd2 m) (h1 : OkAlg a → OkAlg b → Zal a b m → Zbt a b m → K true) (h0 : ¬ (OkAlg a ∧ OkAlg b ∧ Zal a b m ∧ Zbt a b m) → K false) : Zfw a b m K := by
  unfold Zfw
  refine Zi9 fa (fun oka=>Xb (by decide) ?_) fun z=>Xd (by decide) (h0 fun q=>z q.1)
  refine Zi9 fb (fun okb=>Xb (by decide) ?_) fun z=>Xd (by decide) (h0 fun q=>z q.2.1)
  have h8:=oka.deg.1
  by_cases hl:m.length=a.degrees.length
  · refine Xb (by omega) ?_
    refine Ys (fun i (_:Unit)=>∀ j,j < i→OkForm b.degrees (m.getD j Zuo).terms∧Hom b.degrees (m.getD j Zuo).terms (a.degrees.getD j Zuo)) m.length ?_ ?_ _ _ _ (by omega) (fun j hj=>by omega)
    · intro i _ next hi g hnx
      refine Zlw (l:=(m.getD i Zuo).terms) okb.deg.1 (fm i hi).1.pos (by have:=(fm i hi).2; omega) ?_
      by_cases c:OkForm b.degrees (m.getD i Zuo).terms
      · rw [decide_eq_true c]
        refine Xb (by decide) ?_
        have yes:Hom b.degrees (m.getD i Zuo).terms (a.degrees.getD i Zuo)→next ():=fun d=>hnx _ fun j hj=>by
          by_cases e:j=i
          · subst e; exact⟨c,d⟩
          · exact g j (by omega)
        refine Zmg (l:=(m.getD i Zuo).terms) okb.deg (fm i hi).1.pos (by have:=(fm i hi).2; omega) (fun e=>?_) (fun e hh=>?_) fun hno=>?_
        · refine Xb (by decide) (Xb (by omega) (yes fun j hj=>by omega))
        · refine Xb (by decide) (Xd (by omega) ⟨by omega,?_⟩)
          by_cases d:wtU b.degrees ((m.getD i Zuo).terms.getD 0 Zuo).mono b.degrees.length=a.degrees.getD i Zuo
          · exact Xb (fun q=>q d) (yes (d ▸ hh))
          · exact Xd d (h0 fun z=>d ((z.2.2.1.2 i hi).2 0 e))
        · exact Xd (by decide) (h0 fun z=>hno _ (z.2.2.1.2 i hi).2)
      · rw [decide_eq_false c]
        exact Xd (by decide) (h0 fun z=>c (z.2.2.1.2 i hi).1)
    · intro _ g
      have ak:Zal a b m:=⟨hl,g⟩
      have im:=Zmx ak fm
      refine Ys (fun i (_:Unit)=>∀ j,j < i→∀ x,ApC b.degrees (tms m) a.degrees.length (a.images.getD j Zuo).terms x % 10007=DC b (m.getD j Zuo).terms x % 10007) m.length ?_ ?_ _ _ _ (by omega) (fun j hj=>by omega)
      · intro i _ next hi g hnx
        have hl2:=oka.len
        obtain ⟨sh,sw⟩:=Zmy oka fa (i:=i) (by omega)
        refine⟨by omega,Ztl (f:=(a.images.getD i Zuo).terms) oka.deg okb.deg im sh sw fun out hw hco=>?_⟩
        refine Zme (f:=(m.getD i Zuo).terms) (okb.algF fb) (ak.2 i hi).1 (fm i hi).1 fun o2 hD l2=>?_
        have l1:=Zck okb.deg sw hw.can hw.hom
        refine Zdt hw.can hD.can (by omega) (by omega) (by omega) fun o3 ho=>?_
        have e3:∀ x,coT o3 x % 10007=(ApC b.degrees (tms m) a.degrees.length (a.images.getD i Zuo).terms x+10006 * DC b (m.getD i Zuo).terms x) % 10007:=fun x=>by
          have e1:=ho.cf x
          have e2:=hco x
          have e4:=hD.cf x
          unfold DC
          omega
        by_cases c:o3=[]
        · subst c
          refine Xb (by simp) (hnx _ fun j hj x=>?_)
          by_cases e:j=i
          · subst e
            have:=e3 x
            rw [Zax] at this
            omega
          · exact g j (by omega) x
        · have:0 < o3.length:=List.length_pos_iff.2 c
          exact Xd (by dsimp only; omega) (h0 fun z=>c (Ztr ho.can fun x=>by
            have q:=z.2.2.2 i hi x
            rw [e3]; omega))
      · intro _ g
        exact h1 oka okb ak fun i hi x=>g i hi x
  · exact Xd (by omega) (h0 fun z=>hl z.2.2.1.1)
end Go.Proofs.YtheenipahifleaaGreat
namespace Go.Proofs.YtheenipahifleaaGreat
open Go Vc
def Big (n:Nat):Prop:=n < 9223372036854775808
structure LenAlg (a:Alg):Prop where
  deg:Big a.degrees.length
  img:Big a.images.length
  trm:∀ f,f∈a.images→Big f.terms.length
theorem Ztt {x:Alg} {u v:Value} {fp:List Nat} {w:World} (h:TAlg.rep x [u,v] fp w):LenAlg x:=by
  have h1:=Y5 (Zea h).1
  have h2:=Y5 (Zea h).2
  refine⟨by unfold Big; omega,by unfold Big; omega,fun f hf=>?_⟩
  obtain ⟨i,hi,rfl⟩:=List.getElem_of_mem hf
  obtain ⟨A,c,hv,cs,hl,hc,hr⟩:=Zd7 (Zea h).2 i hi
  obtain ⟨z,rfl⟩:=ZGv.1 (show cs.length=1 from hl)
  have h3:=Y5 (Yn hr)
  unfold Big; omega
theorem Ztu {f:ZF1} {n:Int} {K:Int→Prop} (hl:Big f.terms.length) (hn:0≤n∧n≤1048576) (h1:(f.terms.length:Int)≤n→K (n - f.terms.length)) (h2:∀ r,r < 0→K r):Zdo f n K:=Zrn (by unfold Big at hl; omega) hn h1 h2
theorem Ztv {l:List ZF1} {n:Int} {K:Int→Prop} (hl:Big l.length) (ht:∀ f,f∈l→Big f.terms.length) (hn:0≤n∧n≤1048576) (h1:∀ r,0≤r→r≤n→(l.length:Int)≤n→(∀ i,i < l.length→(l.getD i Zuo).terms.length≤1048576)→K r) (h2:∀ r,r < 0→K r):Zfk l n K:=by
  unfold Zfk
  unfold Big at hl
  rw [i64_in _ (by omega)]
  split
  · exact h2 _ (by omega)
  · rename_i q
    refine Ys (fun i (s:Int)=>0≤s∧s≤n∧∀ j,j < i→(l.getD j Zuo).terms.length≤1048576) l.length ?_ ?_ _ _ _ (by omega) ⟨by omega,by omega,by intro j hj; omega⟩
    · intro i s next hi ⟨g1,g2,g3⟩ hn'
      refine Ztu (ht _ (Ja hi)) (by omega) (fun hle=>?_) (fun r hr=>by rw [if_pos hr]; exact h2 _ (by omega))
      rw [if_neg (by omega)]
      refine hn' _ ⟨by omega,by omega,fun j hj=>?_⟩
      by_cases e:j=i
      · subst e; omega
      · exact g3 j (by omega)
    · intro s ⟨g1,g2,g3⟩
      exact h1 s g1 g2 (by omega) g3
theorem Ztw {a:Alg} {K:Int→Prop} (hb:LenAlg a) (h1:∀ r,0≤r→a.degrees.length≤1048576→a.images.length≤1048576→(∀ i,i < a.images.length→(a.images.getD i Zuo).terms.length≤1048576)→K r) (h2:∀ r,r < 0→K r):Zfl a 1048576 K:=by
  unfold Zfl Zg3
  have hd:=hb.deg
  unfold Big at hd
  rw [i64_in _ (by omega)]
  split
  · dsimp only; rw [if_pos (by omega)]; exact h2 _ (by omega)
  · dsimp only; rw [if_neg (by omega)]
    refine Ztv hb.img hb.trm (by omega) (fun r g1 g2 g3 g4=>?_) (fun r hr=>by rw [if_pos hr]; exact h2 _ (by omega))
    rw [if_neg (by omega)]
    exact h1 r g1 (by omega) (by omega) g4
theorem Ztx {l:List ZF1} {K:List ZF1→Prop} (hl:l.length≤1048576) (ht:∀ i,i < l.length→(l.getD i Zuo).terms.length≤1048576) (h:K l):Zfm l K:=by
  unfold Zfm
  refine⟨by omega,?_⟩
  refine Ys (fun i (s:List ZF1)=>s.length=l.length∧∀ j,j < i→s.getD j Zuo=l.getD j Zuo) l.length ?_ ?_ _ _ _ (by omega) ⟨by simp,by intro j hj; omega⟩
  · intro i s next hi ⟨h1,h2⟩ hn
    refine Zrm (ht i hi) ⟨by omega,hn _ ⟨by simpa using h1,fun j hj=>?_⟩⟩
    rw [Zbq (by omega)]
    by_cases e:j=i
    · rw [if_pos e,e]
    · rw [if_neg e]; exact h2 j (by omega)
  · intro s ⟨h1,h2⟩
    have:s=l:=List.ext_getElem h1 fun j hj hj'=>by have:=h2 j (by omega); simpa [Zuv,hj,hj'] using this
    rw [this]; exact h
theorem Zhs {a:Alg} {K:Alg→Prop} (h1:a.degrees.length≤1048576) (h2:a.images.length≤1048576) (h3:∀ i,i < a.images.length→(a.images.getD i Zuo).terms.length≤1048576) (h:K a):Zbn a K:=by
  unfold Zbn
  exact Zfc h1 (Ztx h2 h3 h)
theorem Zty {a:Alg} {K:Bool→Prop} (h:K true):Zdp a a K:=Zri (by simpa using h)
def GoodAlg (a:Alg):Prop:=(∀ x,x∈a.degrees→Fit .i64 x)∧∀ f,f∈a.images→∀ t,t∈f.terms→Jy .u8 t.mono∧Fit .i64 t.factor
theorem GoodAlg.fit {a:Alg} (h:GoodAlg a) (h3:∀ i,i < a.images.length→(a.images.getD i Zuo).terms.length≤1048576):J1 a:=fun i hi=>⟨fun t ht=>(h.2 _ (Ja hi) t ht).1,h3 i hi⟩
end Go.Proofs.YtheenipahifleaaGreat
namespace Go.Proofs.YtheenipahifleaaGreat
open Go Vc
def cnt (fs:List ZF1):Nat:=(fs.map (fun f=>f.terms.length)).sum
theorem Ztz {fs : List ZF1} {m : Int} {K : Int → List ZF1 → Prop} (hm : 0 ≤ m ∧ m + 9 * cnt fs ≤ 4611686018427387904) (h : ∀ x' n, 0 ≤ n → n ≤ m + 9 * cnt fs → (∀ K' : Int → Prop, K' n → Zdr x' m K') → K n x') (hl : fs.length ≤ 1000000) : Zbp fs m K := by
  unfold Zbp
  let part (i:Nat):Int:=m+9 * cnt (fs.take i)
  have hp0:part 0=m:=by simp [part,cnt]
  have hps:∀ i,i < fs.length→part (i+1)=part i+9 * (fs.getD i Zuo).terms.length:=by
    intro i hi
    simp only [part,cnt,List.take_add_one,List.getElem?_eq_getElem hi,ZQ8,ZQb,ZQc,Zvp,List.map_nil,ZQk,List.sum_nil,Zuv,Option.getD_some]
    omega
  have hpl:part fs.length=m+9 * cnt fs:=by simp [part]
  have hmono:∀ i,i≤fs.length→m≤part i∧part i≤m+9 * cnt fs:=by
    intro i hi
    have:cnt fs=cnt (fs.take i)+cnt (fs.drop i):=by
      unfold cnt; rw [← ZQc,← ZQb,Zyf]
    simp only [part]; omega
  refine X8 (fun (s:List ZF1×Int×Int)=>s.1.length=fs.length∧(0≤s.2.2∧s.2.2≤fs.length)∧s.2.1=part s.2.2.toNat∧(∀ j:Nat,(j:Int) < s.2.2→(s.1.getD j Zuo).terms.length=(fs.getD j Zuo).terms.length∧∀ q,q < (s.1.getD j Zuo).terms.length→Zfp ((s.1.getD j Zuo).terms.getD q Zuo) (part j+9 * q))∧∀ j:Nat,s.2.2≤(j:Int)→s.1.getD j Zuo=fs.getD j Zuo) (fun s=>fs.length - s.2.2.toNat) ?_ ⟨rfl,by dsimp only; omega,by dsimp only; exact hp0.symm,by intro j hj; dsimp only at hj; omega,fun _ _=>rfl⟩
  rintro ⟨x,c,i⟩ next ⟨h1,h2,h3,h4,h5⟩ hn
  dsimp only at h1 h2 h3 h4 h5 ⊢
  split
  · rename_i hi
    refine⟨by omega,?_⟩
    have hin:i.toNat < fs.length:=by omega
    have hxi:x.getD i.toNat Zuo=fs.getD i.toNat Zuo:=h5 _ (by omega)
    have hs:=hps i.toNat hin
    have hb:=hmono (i.toNat+1) (by omega)
    have hb0:=hmono i.toNat (by omega)
    rw [hxi]
    refine Zma (by rw [h3]; omega) fun y hy ht=>?_
    rw [i64_in (i+1) (by omega)]
    refine hn _ ⟨by simpa using h1,by dsimp only; omega,by dsimp only; rw [show (i+1).toNat=i.toNat+1 by omega,hs,h3],fun j hj=>?_,fun j hj=>?_⟩ (by dsimp only; omega)
    · dsimp only at hj ⊢
      rw [Zbq (by omega)]
      split
      · rename_i e
        subst e
        refine⟨hy,fun q hq=>?_⟩
        have:=ht q hq
        rwa [h3] at this
      · exact h4 j (by omega)
    · dsimp only at hj ⊢
      rw [Zbq (by omega),if_neg (by omega)]
      exact h5 j (by omega)
  · rename_i hi
    have hie:i.toNat=fs.length:=by omega
    have hc:c=part fs.length:=by rw [h3,hie]
    have hb:=hmono fs.length (Zun _)
    rw [hc]
    refine h x _ (by omega) hb.2 fun K' hK'=>?_
    unfold Zdr
    refine Ys (fun j (s:Int)=>s=part j) x.length ?_ ?_ _ _ _ (by omega) hp0.symm
    · intro j s next hj hs hn'
      obtain ⟨g1,g2⟩:=h4 j (by omega)
      have hsj:=hps j (by omega)
      have hb1:=hmono (j+1) (by omega)
      have hb0:=hmono j (by omega)
      refine Zrj (by rw [hs,g1]; omega) (fun q hq=>by rw [hs]; exact g2 q hq) ?_
      rw [if_neg (by rw [hs,g1]; omega)]
      exact hn' _ (by rw [hs,g1,hsj])
    · intro s hs
      rw [hs,h1]; exact hK'
theorem Zmz {l:List Int} {m:Int} {K:Int→List Int→Prop} (hm:0≤m∧m+l.length≤4611686018427387904) (h:∀ x',K (m+l.length) x'):Zdq l m K:=by
  unfold Zdq
  refine X8 (fun (s:List Int×Int×Int)=>s.1.length=l.length∧(0≤s.2.2∧s.2.2≤l.length)∧s.2.1=m+s.2.2) (fun s=>l.length - s.2.2.toNat) ?_ ⟨rfl,by dsimp only; omega,by simp⟩
  rintro ⟨x,c,i⟩ next ⟨h1,h2,h3⟩ hn
  dsimp only at h1 h2 h3 ⊢
  split
  · rename_i hi
    refine⟨by omega,?_⟩
    rw [i64_in (c+1) (by omega),i64_in (i+1) (by omega)]
    exact hn _ ⟨by simpa using h1,by dsimp only; omega,by dsimp only; omega⟩ (by dsimp only; omega)
  · rename_i hi
    have hc:c=m+l.length:=by omega
    rw [hc]
    exact h x
theorem Zt0 {fs:List ZF1} {B:Nat} (h:∀ i,i < fs.length→(fs.getD i Zuo).terms.length≤B):cnt fs≤fs.length * B:=by
  induction fs with
  | nil=>simp [cnt]
  | cons f fs ih =>
    have h0:=h 0 (by simp)
    have h1:=ih fun i hi=>by have:=h (i+1) (by simpa using hi); simpa using this
    simp only [List.getD_cons_zero] at h0
    simp only [cnt,Zvp,ZQk,List.length_cons,Nat.add_mul,Nat.one_mul] at h1 ⊢
    omega
theorem Zt1 {fs:List ZF1} {m:Int} {K:Int→List ZF1→Prop} (hm:0≤m∧m+9 * cnt fs≤4611686018427387904) (h:∀ x' n,0≤n→n≤m+9 * cnt fs→K n x') (hl:fs.length≤1048576):Zbp fs m K:=by
  unfold Zbp
  let part (i:Nat):Int:=m+9 * cnt (fs.take i)
  have hp0:part 0=m:=by simp [part,cnt]
  have hps:∀ i,i < fs.length→part (i+1)=part i+9 * (fs.getD i Zuo).terms.length:=by
    intro i hi
    simp only [part,cnt,List.take_add_one,List.getElem?_eq_getElem hi,ZQ8,ZQb,ZQc,Zvp,List.map_nil,ZQk,List.sum_nil,Zuv,Option.getD_some]
    omega
  have hpl:part fs.length=m+9 * cnt fs:=by simp [part]
  have hmono:∀ i,i≤fs.length→m≤part i∧part i≤m+9 * cnt fs:=by
    intro i hi
    have:cnt fs=cnt (fs.take i)+cnt (fs.drop i):=by
      unfold cnt; rw [← ZQc,← ZQb,Zyf]
    simp only [part]; omega
  refine X8 (fun (s:List ZF1×Int×Int)=>s.1.length=fs.length∧(0≤s.2.2∧s.2.2≤fs.length)∧s.2.1=part s.2.2.toNat∧∀ j:Nat,s.2.2≤(j:Int)→s.1.getD j Zuo=fs.getD j Zuo) (fun s=>fs.length - s.2.2.toNat) ?_ ⟨rfl,by dsimp only; omega,by dsimp only; exact hp0.symm,fun _ _=>rfl⟩
  rintro ⟨x,c,i⟩ next ⟨h1,h2,h3,h5⟩ hn
  dsimp only at h1 h2 h3 h5 ⊢
  split
  · rename_i hi
    refine⟨by omega,?_⟩
    have hin:i.toNat < fs.length:=by omega
    have hxi:x.getD i.toNat Zuo=fs.getD i.toNat Zuo:=h5 _ (by omega)
    have hs:=hps i.toNat hin
    have hb:=hmono (i.toNat+1) (by omega)
    have hb0:=hmono i.toNat (by omega)
    rw [hxi]
    refine Zma (by rw [h3]; omega) fun y hy ht=>?_
    rw [i64_in (i+1) (by omega)]
    refine hn _ ⟨by simpa using h1,by dsimp only; omega,by dsimp only; rw [show (i+1).toNat=i.toNat+1 by omega,hs,h3],fun j hj=>?_⟩ (by dsimp only; omega)
    · dsimp only at hj ⊢
      rw [Zbq (by omega),if_neg (by omega)]
      exact h5 j (by omega)
  · rename_i hi
    have hie:i.toNat=fs.length:=by omega
    have hc:c=part fs.length:=by rw [h3,hie]
    have hb:=hmono fs.length (Zun _)
    rw [hc]
    exact h x _ (by omega) hb.2
theorem Zt2 {a:Alg} {m:Int} {K:Int→Alg→Prop} (hm:0≤m∧m≤100000000000000000) (h1:a.degrees.length≤1048576) (h2:a.images.length≤1048576) (h3:∀ i,i < a.images.length→(a.images.getD i Zuo).terms.length≤1048576) (h:∀ x' n,0≤n→n≤m+10000000000000→K n x'):Zfn a m K:=by
  unfold Zfn
  have hc:=Zt0 h3
  have hc2:a.images.length * 1048576≤1048576 * 1048576:=Nat.mul_le_mul_right _ h2
  refine Zmz (by omega) fun d=>?_
  exact Zt1 (by omega) (fun fs n h0 hn=>h _ n h0 (by omega)) (by omega)
theorem Zjf {l:List ZF1} {K:Bool→Prop} (h:K true):Zbm l l K:=Zl9 (by simpa using h)
end Go.Proofs.YtheenipahifleaaGreat
namespace Go.Proofs.YtheenipahifleaaGreat
open Go Vc
def Zt3 (a:Nat):Bool:=(List.range 101).all fun b=>(101 * a+b == 0) || Nat.blt 10006 (101 * a+b) || Nat.gcd 10007 (101 * a+b) == 1
theorem Zt4:(List.range 100).all Zt3=true:=by decide +kernel
theorem Zt5 {x:Nat} (h1:1≤x) (h2:x≤10006):Nat.gcd 10007 x=1:=by
  have h:=List.all_eq_true.1 Zt4 (x / 101) (List.mem_range.2 (by omega))
  have h':=List.all_eq_true.1 h (x % 101) (List.mem_range.2 (by omega))
  have e:101 * (x / 101)+x % 101=x:=Nat.div_add_mod x 101
  rw [e] at h'
  simp only [Bool.or_eq_true,beq_iff_eq] at h'
  rcases h' with (q | q) | q
  · omega
  · rw [Nat.blt_eq] at q; omega
  · exact q
def kp (k:Int):Nat→Int
  | 0=>1
  | n+1=>kp k n * k % 10007
theorem Zjg {k:Int} (hk:1≤k∧k≤10006):∀ n,1≤kp k n∧kp k n≤10006
  | 0=>by unfold kp; omega
  | n + 1 => by
    have ih:=Zjg hk n
    unfold kp
    have h0:=Int.emod_nonneg (kp k n * k) (show (10007:Int)≠0 by omega)
    have h1:=Int.emod_lt_of_pos (kp k n * k) (show (0:Int) < 10007 by omega)
    by_cases c:kp k n * k % 10007=0
    · exfalso
      obtain ⟨a,ha⟩:∃ a:Nat,kp k n=a:=⟨(kp k n).toNat,by omega⟩
      obtain ⟨b,hb⟩:∃ b:Nat,k=b:=⟨k.toNat,by omega⟩
      rw [ha,hb] at c
      rw [ha] at ih
      rw [hb] at hk
      have c:a * b % 10007=0:=by omega
      have d:10007 ∣ a:=Nat.Coprime.dvd_of_dvd_mul_right (Zt5 (x:=b) (by omega) (by omega)) (Nat.dvd_of_mod_eq_zero c)
      have:=Nat.le_of_dvd (by omega) d
      omega
    · omega
theorem Zm0 {x k:Int} (hx:1≤x∧x≤10006) (hk:1≤k∧k≤10006):1≤x * k∧x * k≤100120036:=by
  have h1:1 * 1≤x * k:=Int.mul_le_mul hx.1 hk.1 (by omega) (by omega)
  have h2:x * k≤10006 * 10006:=Int.mul_le_mul hx.2 hk.2 (by omega) (by omega)
  omega
def gF (i:Nat) (v:Int):ZF1:=⟨[⟨ZF2.set i 1,v⟩]⟩
def grL (ws:List Int) (k:Int) (n:Nat):List ZF1:=(List.range n).map fun i=>gF i (kp k (ws.getD i Zuo).toNat)
theorem Zjh (ws:List Int) (k:Int) (n:Nat):grL ws k (n+1)=grL ws k n++[gF n (kp k (ws.getD n Zuo).toNat)]:=by simp [grL,List.range_succ]
theorem Zht (ws:List Int) (k:Int) (n:Nat):(grL ws k n).length=n:=by simp [grL]
theorem Zt6 (ws:List Int) (k:Int) (n:Nat):cnt (grL ws k n)=n:=by
  induction n with
  | zero=>rfl
  | succ n ih=>rw [Zjh]; unfold cnt at *; simp [ih,gF]
theorem Zt7 (ws:List Int) (k:Int) {n i:Nat} (h:i < n):(grL ws k n).getD i Zuo=gF i (kp k (ws.getD i Zuo).toNat):=by
  simp [grL,Zuv,h]
theorem Zm1 {j:Nat} (hj:j < 8) (i:Nat) (hi:i < 8):0≤(ZF2.set j 1).get i∧(ZF2.set j 1).get i≤20:=by
  rw [A8.get_set hj]
  split
  · omega
  · rw [A8.get_zero]; omega
theorem Zm2 (ws:List Int) (k:Int) {n:Nat} (h:n≤8):Zd2 (grL ws k n):=fun i hi=>by
  rw [Zht] at hi
  rw [Zt7 ws k hi]
  refine⟨fun t ht=>?_,by simp [gF]⟩
  obtain rfl:=Zwb.1 ht
  intro x hx
  obtain ⟨j,hj,rfl⟩:=A8.mem_list.1 hx
  have:=Zm1 (show i < 8 by omega) j hj
  rw [A8.get_set (by omega)] at this ⊢
  split
  · exact(rfl:(Lit.int .u8 1).wf=true)
  · rw [A8.get_zero]; exact(rfl:(Lit.int .u8 0).wf=true)
theorem Zm3 {p:A8} {v:Int} (hv:1≤v∧v≤10006):Canon [⟨p,v⟩]:=⟨by simp,fun t ht=>by obtain rfl:=Zwb.1 ht; exact hv⟩
theorem Zt8 {p:A8} {v:Int} {K:ZF1→Int→Prop} (hp:∀ i,i < 8→0≤p.get i∧p.get i≤20) (h:K ⟨[⟨p,v⟩]⟩ 0):Zdg (Yf ([]:List (A8×Int)) p v) K:=by
  refine Zqj (by simp [Yf]) ?_ ?_ ?_
  · intro q hq
    obtain rfl:q=(p,v):=by simpa [Yf] using hq
    intro x hx
    obtain ⟨i,hi,rfl⟩:=A8.mem_list.1 hx
    have:=hp i hi
    dsimp only; omega
  · rintro ⟨q,hq,i,hi,hgt⟩
    obtain rfl:q=(p,v):=by simpa [Yf] using hq
    have:=hp i hi
    dsimp only at hgt; omega
  · intro hle xs hperm hw
    obtain rfl:xs=[p]:=by simpa [Yf] using hperm
    simpa [Yf,Y1] using h
theorem Zt9 {i v:Int} {K:ZF1→Prop} (hi:0≤i∧i < 8) (h:K (gF i.toNat v)):Zbs i v K:=by
  unfold Zbs Zhm
  exact⟨hi,Zt8 (Zm1 (by omega)) h⟩
theorem Zua {i v:Int} {K:ZF1→Prop} (hi:0≤i∧i < 8) (hv:1≤v∧v≤10006) (h:K (gF i.toNat v)):Zdz i (fun r10=>Jl (⟨[]⟩:ZF1) r10 v K):=by
  unfold Zdz
  refine⟨hi,Zhf (Zdt Canon.nil (Zm3 (by omega)) (by omega) (by simp) (by simp) fun out ho=>?_)⟩
  have:out=[⟨ZF2.set i.toNat 1,v⟩]:=Zli ho.can (Zm3 hv) fun x=>by
    rw [ho.cf,Zax,Zak,Zak,Zax]
    dsimp only
    split <;> simp
  rw [this]; exact h
section
variable {a:Alg} {ws:List Int} {k:Int}
def WsOk (ws:List Int):Prop:=∀ i,i < ws.length→0≤ws.getD i Zuo∧ws.getD i Zuo≤1000
instance (ws:List Int):Decidable (WsOk ws):=inferInstanceAs (Decidable (∀ i,i < ws.length→_))
theorem Zub {w:Int} {i:Nat} {K:ZF1→Prop} (hk:1≤k∧k≤10006) (hi:i < 8) (hw:0≤w∧w≤1000) (h:K (gF i (kp k w.toNat))) :
    Xo (fun (s10:Int×Int) nx11=>(if s10.2 > 0 then Xw (Zw2.wrap (s10.1 * k)) (fun r12=>nx11 (r12,Zw2.wrap (s10.2 - 1))) else Zdz (i:Int) (fun r10=>Jl (⟨[]⟩:ZF1) r10 s10.1 K))) (1,w):=by
  refine X8 (fun (s:Int×Int)=>0≤s.2∧s.2≤w∧s.1=kp k (w - s.2).toNat) (fun s=>s.2.toNat) ?_ ⟨hw.1,ZMg _,by dsimp only; rw [show (w - w).toNat=0 by omega]; rfl⟩
  rintro ⟨x,n⟩ next ⟨g1,g2,g3⟩ hnx
  dsimp only at g1 g2 g3 hnx ⊢
  have hx:=Zjg hk (w - n).toNat
  rw [← g3] at hx
  by_cases c:n > 0
  · have hm:=Zm0 hx hk
    refine Xd c ?_
    rw [i64_in _ (by omega),i64_in (n - 1) (by omega)]
    refine Zaz (hnx _ ⟨by dsimp only; omega,by dsimp only; omega,?_⟩ (by dsimp only; omega))
    dsimp only
    rw [show (w - (n - 1)).toNat=(w - n).toNat+1 by omega,kp,g3]
  · refine Xb c (Zua (by omega) hx ?_)
    rw [ZP6,g3,show (w - n).toNat=w.toNat by omega]; exact h
theorem Zuc {w:Int} {i:Nat} {K:ZF1→Prop} (hk:1≤k∧k≤10006) (hi:i < 8) (hw:0≤w∧w≤1000) (h:K (gF i (kp k w.toNat))) :
    Xo (fun (s11:Int×Int) nx11=>(if s11.2 < w then nx11 (Zu9 (Zw2.wrap (s11.1 * k)) 10007,Zw2.wrap (s11.2+1)) else Zbs (i:Int) s11.1 K)) (1,0):=by
  refine X8 (fun (s:Int×Int)=>0≤s.2∧s.2≤w∧s.1=kp k s.2.toNat) (fun s=>(w - s.2).toNat) ?_ ⟨ZMg _,hw.1,rfl⟩
  rintro ⟨x,n⟩ next ⟨g1,g2,g3⟩ hnx
  dsimp only at g1 g2 g3 hnx ⊢
  have hx:=Zjg hk n.toNat
  rw [← g3] at hx
  by_cases c:n < w
  · have hm:=Zm0 hx hk
    refine Xd c ?_
    rw [i64_in _ (by omega),i64_in (n+1) (by omega),Int.tmod_eq_emod_of_nonneg (by omega)]
    refine hnx _ ⟨by dsimp only; omega,by dsimp only; omega,?_⟩ (by dsimp only; omega)
    dsimp only
    rw [show (n+1).toNat=n.toNat+1 by omega,kp,g3]
  · refine Xb c (Zt9 (by omega) ?_)
    rw [ZP6,g3,show n=w by omega]; exact h
end
end Go.Proofs.YtheenipahifleaaGreat
namespace Go.Proofs.YtheenipahifleaaGreat
open Go Vc
section
variable {a:Alg} {ws:List Int} {k:Int}
def GrRes (a:Alg) (ws:List Int) (k:Int) (l:List ZF1) (c:Int):Prop :=
  (¬ OkAlg a∧l=[]∧c=1)∨(OkAlg a∧¬ (ws.length=a.degrees.length∧(1≤k∧k≤10006)∧WsOk ws)∧l=[]∧c=2) ∨
  (OkAlg a∧(ws.length=a.degrees.length∧(1≤k∧k≤10006)∧WsOk ws)∧((Zal a a (grL ws k ws.length)∧Zbt a a (grL ws k ws.length)∧l=grL ws k ws.length∧c=0)∨(¬ (Zal a a (grL ws k ws.length)∧Zbt a a (grL ws k ws.length))∧l=[]∧c=5)))
theorem GrRes.unique {l l':List ZF1} {c c':Int} (h:GrRes a ws k l c) (h':GrRes a ws k l' c'):l=l'∧c=c':=by
  rcases h with ⟨p,rfl,rfl⟩ | ⟨p,q,rfl,rfl⟩ | ⟨p,q,⟨r,s,rfl,rfl⟩ | ⟨r,rfl,rfl⟩⟩ <;> rcases h' with ⟨p',rfl,rfl⟩ | ⟨p',q',rfl,rfl⟩ | ⟨p',q',⟨r',s',rfl,rfl⟩ | ⟨r',rfl,rfl⟩⟩ <;> first | exact⟨rfl,rfl⟩ | contradiction | (exfalso; exact r' ⟨r,s⟩) | (exfalso; exact r ⟨r',s'⟩)
theorem GrRes.small {l:List ZF1} {c:Int} (h:GrRes a ws k l c):l.length≤8∧cnt l≤8:=by
  rcases h with ⟨_,rfl,_⟩ | ⟨_,_,rfl,_⟩ | ⟨p,q,⟨_,_,rfl,_⟩ | ⟨_,rfl,_⟩⟩
  · simp [cnt]
  · simp [cnt]
  · have:=p.deg.1
    rw [Zht,Zt6]; omega
  · simp [cnt]
theorem Zud {K : List ZF1 → Int → Prop} (hf : J1 a) (h : ∀ l c, GrRes a ws k l c → K l c) : Zfx a ws k K := by
  unfold Zfx
  refine Zi9 hf (fun ok=>Xb (by decide) ?_) fun no=>Xd (by decide) (h _ _ (.inl ⟨no,rfl,rfl⟩))
  have h8:=ok.deg.1
  by_cases hl:ws.length=a.degrees.length
  · refine Xb (by omega) (Zgv ?_)
    by_cases hk:1≤k∧k≤10006
    · rw [decide_eq_true hk]
      refine Xb (by decide) ?_
      refine Ys (fun i (s:List ZF1)=>(∀ j,j < i→0≤ws.getD j Zuo∧ws.getD j Zuo≤1000)∧s=grL ws k i) ws.length ?_ ?_ _ _ _ (by omega) ⟨fun j hj=>by omega,rfl⟩
      · rintro i s next hi ⟨g1,g2⟩ hnx
        refine Zgv ?_
        by_cases c:0≤ws.getD i Zuo∧ws.getD i Zuo≤1000
        · rw [decide_eq_true c]
          refine Xb (by decide) (Zub hk (by omega) c ⟨by rw [g2,Zht]; unfold X5; omega,hnx _ ⟨fun j hj=>?_,by rw [Zjh,g2]⟩⟩)
          by_cases e:j=i
          · subst e; exact c
          · exact g1 j (by omega)
        · rw [decide_eq_false c]
          exact Xd (by decide) (h _ _ (.inr (.inl ⟨ok,fun z=>c (z.2.2 i hi),rfl,rfl⟩)))
      · rintro s ⟨g1,rfl⟩
        refine Zts (a:=a) (b:=a) hf hf (Zm2 ws k (by omega)) (fun _ _ p q=>Xb (by decide) (h _ _ (.inr (.inr ⟨ok,⟨hl,hk,g1⟩,.inl ⟨p,q,rfl,rfl⟩⟩)))) fun z=>Xd (by decide) (h _ _ (.inr (.inr ⟨ok,⟨hl,hk,g1⟩,.inr ⟨fun q=>z ⟨ok,ok,q.1,q.2⟩,rfl,rfl⟩⟩)))
    · rw [decide_eq_false hk]
      exact Xd (by decide) (h _ _ (.inr (.inl ⟨ok,fun z=>hk z.2.1,rfl,rfl⟩)))
  · exact Xd (by omega) (h _ _ (.inr (.inl ⟨ok,fun z=>hl z.1,rfl,rfl⟩)))
theorem Zue {K:Bool→Prop} (h:K (decide (¬ WsOk ws))):Zce ws Zd0 K:=by
  unfold Zce Zet
  refine Ys (fun i _=>∀ j,j < i→0≤ws.getD j Zuo∧ws.getD j Zuo≤1000) ws.length ?_ ?_ _ _ _ (by omega) (by intro j hj; omega)
  · intro i s next hi hI hn
    unfold Zd0
    refine Ziu ?_
    by_cases c:0≤ws.getD i Zuo∧ws.getD i Zuo≤1000
    · rw [decide_eq_true c]
      refine Xb (by decide) (hn _ fun j hj=>?_)
      by_cases e:j=i
      · subst e; exact c
      · exact hI j (by omega)
    · rw [decide_eq_false c]
      refine Xd (by decide) ?_
      have n1:¬ WsOk ws:=fun z=>c (z i hi)
      rw [decide_eq_true n1] at h
      show K (decide ((i:Int)≥0))
      rw [decide_eq_true (show (i:Int)≥0 by omega)]
      exact h
  · intro s hI
    have n1:¬ ¬ WsOk ws:=fun z=>z hI
    rw [decide_eq_false n1] at h
    exact h
theorem Zm4 {r10 r18:Int} {K:Int→Prop} (h:K (if r10≠0 then r10 else r18)):Zbo [r10,r18] K:=by
  unfold Zbo
  by_cases c:r10=0
  · subst c
    by_cases d:r18=0
    · subst d; simpa [Ye] using h
    · simpa [Ye,d] using h
  · simpa [Ye,c] using h
theorem Zuf {K : List ZF1 → Int → Prop} (hf : J1 a) (h : ∀ l c, GrRes a ws k l c → K l c) : Zcp a ws k K := by
  unfold Zcp
  have code:∀ K':Int→Prop,(∀ x,(OkAlg a∧x=0)∨(¬ OkAlg a∧x=1)→K' x)→Zdn a [] K':=fun K' hK=>Zr4 hf (fun ok=>hK 0 (.inl ⟨ok,rfl⟩)) fun no=>hK 1 (.inr ⟨no,rfl⟩)
  have bad:∀ (x:Int) (A:Prop),((OkAlg a∧x=0)∨(¬ OkAlg a∧x=1))→¬ (ws.length=a.degrees.length∧(1≤k∧k≤10006)∧WsOk ws)→Zav true 2 (fun r18=>Zbo [x,r18] (fun r14=>(if r14≠0 then K [] r14 else A))):=fun x A hx hw=>by
    refine Zhc (Zm4 ?_)
    rcases hx with ⟨ok,rfl⟩ | ⟨no,rfl⟩
    · exact h _ _ (.inr (.inl ⟨ok,hw,rfl,rfl⟩))
    · exact h _ _ (.inl ⟨no,rfl,rfl⟩)
  refine Zue (code _ fun x hx=>?_)
  by_cases cw:WsOk ws
  · have n1 : ¬ ¬ WsOk ws := fun z => z cw
    rw [decide_eq_false n1]
    refine Xb (by decide) ?_
    by_cases hl:ws.length=a.degrees.length
    · refine Xb (by omega) (Zl0 ?_)
      by_cases hk:1≤k∧k≤10006
      · rw [decide_eq_true hk]
        refine Zhc (Zm4 ?_)
        rcases hx with ⟨ok,rfl⟩ | ⟨no,rfl⟩
        · refine Xb (by decide) ?_
          have h8:=ok.deg.1
          refine Ys (fun i (s:List ZF1)=>s=grL ws k i) ws.length ?_ ?_ _ _ _ (by omega) rfl
          · rintro i s next hi rfl hnx
            exact Zuc hk (by omega) (cw i hi) ⟨by rw [Zht]; unfold X5; omega,hnx _ (Zjh ws k i).symm⟩
          · rintro s rfl
            refine Ztq (a:=a) (b:=a) ok hf ok hf (Zm2 ws k (by omega)) (fun p q=>Xb (by decide) (h _ _ (.inr (.inr ⟨ok,⟨hl,hk,cw⟩,.inl ⟨p,q,rfl,rfl⟩⟩)))) fun z=>Xd (by decide) (h _ _ (.inr (.inr ⟨ok,⟨hl,hk,cw⟩,.inr ⟨z,rfl,rfl⟩⟩)))
        · exact Xd (by decide) (h _ _ (.inl ⟨no,rfl,rfl⟩))
      · rw [decide_eq_false hk]
        exact bad x _ hx fun z=>hk z.2.1
    · exact Xd (by omega) (bad x _ hx fun z=>hl z.1)
  · rw [decide_eq_true cw]
    exact Xd rfl (bad x _ hx fun z=>cw z.2.2)
end
theorem Zug (a0:Alg) (a1:List Int) (a2:Int) (hg:GoodAlg a0) (g1:∀ x,x∈a1→Fit .i64 x) (g2:(Lit.int .i64 a2).wf=true) (hb:LenAlg a0):Zhn a0 a1 a2 (fun r=>r=true):=by
  unfold Zhn
  by_cases hl:(a1.length:Int) > 1048576
  · exact Xd hl rfl
  refine Xb hl (Ztw hb (fun r hr d1 d2 d3=>?_) (fun r hr=>by rw [if_pos hr]))
  rw [if_neg (by omega)]
  have hf:=hg.fit d3
  have l1:a1.length≤1048576:=by omega
  refine Zhs d1 d2 d3 (Zfc l1 (Zud hf fun l c R=>?_))
  have him:∀ K:List ZF1→Int→Prop,K l c→Zcp a0 a1 a2 K:=fun K hK=>Zuf hf fun l' c' R'=>by
    obtain ⟨rfl,rfl⟩:=R'.unique R
    exact hK
  obtain ⟨s1,s2⟩:=R.small
  refine Zhs d1 d2 d3 (Zfc l1 (him _ (Zjf (Zfq (Zhd (Zhs d1 d2 d3 (Zty (Zfq (Zfc l1 (Zro (Zfq ?_)))))))))))
  refine Zt2 (by omega) d1 d2 d3 fun x0 n0 n1 n2=>?_
  refine Zmz (by omega) fun x1=>?_
  refine Zi6 (by omega) (Zjf (Zfq ?_))
  refine Ztz (by omega) (fun x3 n3 n4 n5 hh=>?_) (by omega)
  refine hh _ (Zi6 (by omega) (Zhd ?_))
  refine Zhs (a:=a0) d1 d2 d3 (Zfc l1 (him _ (Zjf (Zfq (Zhd ?_)))))
  exact hh _ (Zi6 (by omega) (Zhd rfl))
end Go.Proofs.YtheenipahifleaaGreat
