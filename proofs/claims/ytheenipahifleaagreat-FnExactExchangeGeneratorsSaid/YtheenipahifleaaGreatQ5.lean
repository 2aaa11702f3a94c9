import Derived.Test.YtheenipahifleaaGreatQ4
set_option linter.unusedSectionVars false
set_option linter.unusedSimpArgs false
set_option linter.unusedVariables false
open Go renaming wp_seq→ZF5,wp_ret→ZGd,wp_skip→ZF8,wp_block→ZGb,wp_exit→ZGj
open Go.Instr renaming buildSlice→ZHc,build→ZG0
open Go.IntKind renaming i64→Zxa,u8→ZGh
open Go.Proofs.Tryz renaming prog→ZF7,underlying22→ZGo,underlying32→ZGp,underlying28→ZGt,underlying115→ZQl,underlying55→ZGc,underlying53→ZGf,func80→ZQn,func66→ZQo,func9→ZQp,func18→ZQq,func13→ZQr,underlying78→ZQu,underlying88→ZGn,underlying90→ZGl
open Go.Value renaming ownBlock→Zvi,int→ZI3
open Inhabited renaming default→Zuw
open Int renaming toNat_natCast→ZQi,natCast_nonneg→ZGm,ofNat_lt→ZG4,toNat_of_nonneg→ZI4,one_mul→ZM1,mul_le_mul_of_nonneg_right→ZN3,zero_mul→ZQx,add_zero→ZMm,mul_le_mul_of_nonneg_left→ZRg
open List renaming mem_append→Zu9,replicate→Zur,getD→Zu3,mem_singleton→Zwj,toArray→ZF4,length_eq_one_iff→ZG3,mem_append_left→Zvo,mem_append_right→Zvj,map_append→ZQs,sum_append→ZQt,length_replicate→ZQv,mem_cons→Zus,not_mem_nil→Zwy,length_map→ZMw,take_length→ZQy,getElem_of_mem→Zvb,map_cons→Zvx,sum_cons→ZQz,length_take→Zxh,take_append_drop→Zyn,pairwise_iff_getElem→Zuz
open Nat renaming le_of_ble_eq_true→ZGe,le_refl→Zuv,le_trans→Zux
open Option renaming toList→ZG2,getD_some→Zxk,toList_some→ZRl
open Vc renaming Form→ZF9,ETerm→ZF6,TForm→ZGr,TInts→ZIv
open Vc.A8 renaming zero→ZGa,enc→ZF3,encB→ZQk
open Vc.Ctx renaming start→ZGq
open Vc.Enc renaming encs_append→ZGu
open Vc.Tr renaming item→ZGk,sl→ZMj,trep→ZQh
open Vc.Ty renaming item→ZCh,allItem→ZQm
set_option maxRecDepth 4000
set_option maxHeartbeats 4000000
namespace Go.Proofs.YtheenipahifleaaGreat
open Go Go.RowKit Vc
variable {b0 bp0 b1 bp1 b2 bp2 b3 bp3 b4 bp4 b5 bp5 b6 bp6 b7 bp7 mb0:Nat} {Dk0:List Kp} {Ek0:List (Nat×List (A8×Int))} {u0_0 u0_1 u0_2 u0_3 u0_4 u0_5 u1_0 u1_1 u1_2 u1_3 u1_4 u1_5 u2_0 u2_1 u2_2 u2_3 u2_4 u2_5 u3_0 u3_1 u3_2 u3_3 u3_4 u3_5 u4_0 u4_1 u4_2 u4_3 u4_4 u4_5 u5_0 u5_1 u5_2 u5_3 u5_4 u5_5 u6_0 u6_1 u6_2 u6_3 u6_4 u6_5 u7_0 u7_1 u7_2 u7_3 u7_4 u7_5:Value} {fp0 fp1 fp2 fp3 fp4 fp5 fp6 fp7 fp0_0 fp0_1 fp0_2 fp0_3 fp0_4 fp0_5 fp1_0 fp1_1 fp1_2 fp1_3 fp1_4 fp1_5 F0:List Nat}
theorem Zmm (x0:Value) (hx0:Zbh x0) (w:World):(ZG0 32 #[(0,x0)]).run ZF7 w=.ok (.agg #[x0,.slice none 0 0]) w:=by obtain ⟨_,_,_,rfl⟩:=hx0; kernel_rfl
theorem Zji (x0:Value) (hx0:Zbh x0) (w:World):(ZHc 28 1 #[(0,.agg #[x0])]).run ZF7 w=.ok (.slice (some ⟨w.heap.size,0,none⟩) 1 1) (w.alloc (.cells (ZF4 [x0]) 55)):=by obtain ⟨_,_,_,rfl⟩:=hx0; kernel_rfl
theorem Zbt  (w:World):(ZG0 32 #[]).run ZF7 w=.ok (.agg #[.slice none 0 0,.slice none 0 0]) w:=by kernel_rfl
theorem Zmn (x0:Int) (w:World):(ZHc 22 1 #[(0,.int .i64 x0)]).run ZF7 w=.ok (.slice (some ⟨w.heap.size,0,none⟩) 1 1) (w.alloc (.cells (ZF4 ((EI .i64).encs [x0])) 2)):=by kernel_rfl
theorem Ztb  (w:World):(ZG0 78 #[]).run ZF7 w=.ok (.agg (ZF4 (ZQk ZGa))) w:=by kernel_rfl
theorem z78:Xc ZF7 78 (.agg (ZF4 (ZQk ZGa))):=by unfold Xc; kernel_rfl
theorem ag78:AggT ZF7 78 8:=⟨⟨_,ZQu,rfl⟩,by kernel_rfl⟩
theorem sc4:ScaT ZF7 4:=⟨⟨_,Tryz.underlying4,rfl⟩,by kernel_rfl⟩
theorem kt2:KeyT ZF7 2 (vvI .i64):=Zsv Tryz.underlying2
theorem z4:Xc ZF7 4 (.bool false):=by unfold Xc; kernel_rfl
theorem Ztc (w:World):(ZHc 95 0 #[]).run ZF7 w=.ok (.slice (some ⟨w.heap.size,0,none⟩) 0 0) (w.alloc (.cells (ZF4 []) 99)):=by kernel_rfl
theorem Zmo (x0:Nat) (w:World):(ZHc 95 1 #[(0,.map (some x0))]).run ZF7 w=.ok (.slice (some ⟨w.heap.size,0,none⟩) 1 1) (w.alloc (.cells (ZF4 [.map (some x0)]) 99)):=by kernel_rfl
theorem Zmp:Ju ZF7 99 (.map none) 1 8:=by unfold Ju; kernel_rfl
theorem Ztd (x0:Value) (x1:Value) (x2:Value) (x3:Nat) (hx0:Zbh x0) (hx1:Zbh x1) (hx2:Zbh x2) (w:World):(ZG0 97 #[(0,x0),(1,x1),(2,x2),(3,.map (some x3))]).run ZF7 w=.ok (.agg #[x0,x1,x2,.map (some x3)]) w:=by obtain ⟨_,_,_,rfl⟩:=hx0; obtain ⟨_,_,_,rfl⟩:=hx1; obtain ⟨_,_,_,rfl⟩:=hx2; kernel_rfl
theorem el3:Ju ZF7 3 (.int .i64 0) 1 8:=by unfold Ju; kernel_rfl
theorem Zte  (w:World):(ZHc 22 0 #[]).run ZF7 w=.ok (.slice (some ⟨w.heap.size,0,none⟩) 0 0) (w.alloc (.cells (ZF4 ((EI .i64).encs [])) 2)):=by kernel_rfl
theorem Ztf (x0:Int) (x1:Int) (w:World):(ZHc 22 2 #[(0,.int .i64 x0),(1,.int .i64 x1)]).run ZF7 w=.ok (.slice (some ⟨w.heap.size,0,none⟩) 2 2) (w.alloc (.cells (ZF4 ((EI .i64).encs [x0,x1])) 2)):=by kernel_rfl
theorem Zfr:AggT ZF7 25 2:=⟨⟨_,Tryz.underlying25,rfl⟩,by kernel_rfl⟩
def Zdv (a0:Int) (K:ZF9→Prop):Prop :=
 ((0≤a0∧a0 < 8)∧Xs (ZGa.set a0.toNat 1) 1 (fun r10=>K r10))
theorem Ztg (a0:Int)  {K:ZF9→Prop} (h:Zdv a0 K) (w0:World)  :
  Calls ZF7 42 #[vI a0] w0 fun e w'=>∃ (r0:ZF9) (z0_0:Value) (fz0:List Nat),
   e=.returned (.agg #[z0_0])∧K r0∧(ZGk (Zr 90) r0 [z0_0] fz0).holds w'∧(∀ b,b∈fz0→w0.heap.size≤b)∧Bel w0 w':=by
 unfold Zdv at h
 refine cof Tryz.func42 rfl 9 Tryz.ntmps42 ?_
 have hC:=ZGq (X:=Nox) w0 [] (by simp)
 refine sr (Z1 hC [.slice none 0 0] z55 rfl fun b1 w3 hB_ hC=>dn (sr (Y5 [] rfl (Zdf   _) (Z1 hC (ZF3 .u8 ZGa) z88 rfl fun b4 w6 hB_ hC=>Zo (v:=.agg (ZF4 (ZF3 .u8 ZGa))) hC 0 (ZF3 .u8 ZGa) (ZF3 .u8 ZGa) rfl ag88.size rfl rfl rfl rfl rfl (ZGe rfl) rfl fun w7 hC=>dn (sr (Zb (v:=vI a0) rfl ?_))))))
 obtain ⟨⟨h0_8,h1_9⟩,h⟩:=h
 refine Y6 a0.toNat ZGn sc5.size rfl rfl h0_8 h1_9 (by omega) (Zo (v:=.int .u8 1) hC 0 [.int .u8 1] (ZF3 .u8 (ZGa.set a0.toNat 1)) rfl sc5.size rfl rfl rfl rfl rfl (show a0.toNat < 8 by omega) (A8.enc_set _ _ _ (show a0.toNat < 8 by omega)) fun w10 hC=>dn (sr (Yb hC 0 (ZF3 .u8 (ZGa.set a0.toNat 1)) rfl ag88 rfl rfl rfl (Zf [.agg (ZF4 (ZF3 .u8 (ZGa.set a0.toNat 1))),vI 1] _ Tryz.func59 rfl rfl rfl (Za6 (ZGa.set a0.toNat 1) 1 h _) ?_))))
 rintro _ w11 ⟨r10,u10,f10,rfl,h,hr10,hf10,hB10⟩
 refine rt ?_
 replace hC:=hC.push hB10 (ZGk (Zr 90) r10 [u10] f10) hr10 hf10
 obtain ⟨ho10,hf11⟩:=Y8 (hC.getM 0 rfl)
 subst hf11
 replace hC:=hC.recast (c:=own 90 9 u10 r10.terms.length (ZF6.encs r10.terms)) (fun _ h_=>h_) (fun _=>ho10)
 refine Zo (v:=.agg #[u10]) hC 2 [u10] [u10] rfl ag55.size rfl rfl rfl rfl (Ye (Yr (hC.getM 0 rfl)) rfl) (ZGe rfl) rfl fun w12 hC=>dn (ZGd ?_)
 exact Zj rfl (Y2 hC 2 rfl ag55 rfl rfl) ⟨r10,u10,(ZG2 (Zvi u10)),rfl,h,(X5 (Jc (hC.getM 0 rfl))),(X3 hC 0 rfl),hC.below⟩ (.inl rfl)
def Zcs (a0:List Int) (a1:ZF9) (a2:Int) (K:ZF9→Prop):Prop :=
 Xs ZGa 1 (fun r10=>X8 (fun (s10:(List Term)×Int) nx10=>(if s10.2 > 0 then Xx a0 (⟨s10.1⟩:ZF9) a1 (fun r11=>nx10 (r11.terms,ZGh.wrap (s10.2 - 1))) else K (⟨s10.1⟩:ZF9))) (r10.terms,a2))
theorem Zth (a0:List Int) (a1:ZF9) (a2:Int)  {K:ZF9→Prop} (h:Zcs a0 a1 a2 K) (w0:World) (q0:ZIv.rep a0 [u0_0] fp0 w0) (q1:ZGr.rep a1 [u1_0] fp1 w0) :
  Calls ZF7 61 #[u0_0,.agg #[u1_0],.int .u8 a2] w0 fun e w'=>∃ (r0:ZF9) (z0_0:Value) (fz0:List Nat),
   e=.returned (.agg #[z0_0])∧K r0∧(ZGk (Zr 90) r0 [z0_0] fz0).holds w'∧(∀ b,b∈fz0→w0.heap.size≤b)∧Bel w0 w':=by
 unfold Zcs at h
 refine cof Tryz.func61 rfl 19 Tryz.ntmps61 ?_
 have hC:=ZGq (X:=Nox) w0 [ZCh TInts a0 [u0_0] fp0,ZCh TForm a1 [u1_0] fp1] (alc q0 (al1 q1))
 have hp3:=(hC.getP 1 rfl)
 replace hC:=hC.derive 1 rfl (ZCh ZF6.ty.sl a1.terms [u1_0] fp1) (fun _=>(Yx hp3)) (fun _ hb_=>hb_)
 refine sr (Yj (v:=.agg #[u1_0]) hC [u1_0] rfl rfl fun b5 w7 hB_ hC=>Z1 hC [.slice none 0 0] z55 rfl fun b8 w10 hB_ hC=>dn (sr (Y5 [] rfl (Zdf   _) (Zf [.agg (ZF4 (ZF3 .u8 ZGa)),vI 1] _ Tryz.func59 rfl rfl rfl (Za6 ZGa 1 h _) ?_))))
 rintro _ w11 ⟨r10,u10,f10,rfl,h,hr10,hf10,hB10⟩
 refine rt ?_
 replace hC:=hC.push hB10 (ZGk (Zr 90) r10 [u10] f10) hr10 hf10
 obtain ⟨ho10,hf11⟩:=Y8 (hC.getM 0 rfl)
 subst hf11
 replace hC:=hC.recast (c:=own 90 9 u10 r10.terms.length (ZF6.encs r10.terms)) (fun _ h_=>h_) (fun _=>ho10)
 refine Z1 hC [.slice none 0 0] z55 rfl fun b10 w12 hB_ hC=>Zo (v:=.agg #[u10]) hC 0 [u10] [u10] rfl ag55.size rfl rfl rfl rfl (Ye (Yr (hC.getM 1 rfl)) rfl) (ZGe rfl) rfl fun w13 hC=>dn (ZF5 (ZGb ?_))
 refine Jj (S:=(List Term)×Int) _ (fun s10 e_ w_=>∃ (v10:Value),Zy e_ [(0,u0_0),(2,.int .u8 s10.2),(4,vQ b5),(6,vQ b8),(7,vQ b10)]∧Ctx Nox w0 w_ [own 90 9 v10 s10.1.length (ZF6.encs s10.1),blk b10 55 [v10],blk b8 55 [.slice none 0 0],blk b5 55 [u1_0]] [ZCh ZF6.ty.sl a1.terms [u1_0] fp1,ZCh TInts a0 [u0_0] fp0,ZCh TForm a1 [u1_0] fp1]) ?_ (s0:=(r10.terms,a2)) ?_ h
 ·clear hC h
  rintro s10 e_ w14 nx10 K10 ⟨v10,hS_,hC⟩ h hK10
  rw [ue hS_]
  refine ZF5 (sr (Zb (v:=.int .u8 s10.2) rfl (Xy rfl rfl (dn ?_))))
  refine Zq rfl (fun hb10=>?_) (fun hb10=>?_)
  ·replace h:=ift h (ct hb10)
   refine ZF8 (Zd (ZF5 (ZGb (Zm (Zb (v:=u0_0) rfl (Yb hC 1 [v10] rfl ag55 rfl rfl rfl (Yb hC 3 [u1_0] rfl ag55 rfl rfl rfl (Zf [u0_0,.agg #[v10],.agg #[u1_0]] _ Tryz.func60 rfl rfl rfl (Zau a0 (⟨s10.1⟩:ZF9) a1 h _ (hC.getP 1 rfl) (Yl (Yp (hC.getM 0 rfl))) (Yl (hC.getP 0 rfl))) ?_))))))))
   rintro _ w15 ⟨r11,u11,f11,rfl,h,hr11,hf12,hB11⟩
   refine rt ?_
   replace hC:=hC.push hB11 (ZGk (Zr 90) r11 [u11] f11) hr11 hf12
   obtain ⟨ho11,hf13⟩:=Y8 (hC.getM 0 rfl)
   subst hf13
   replace hC:=hC.recast (c:=own 90 9 u11 r11.terms.length (ZF6.encs r11.terms)) (fun _ h_=>h_) (fun _=>ho11)
   refine Zo (v:=.agg #[u11]) hC 2 [u11] [u11] rfl ag55.size rfl rfl rfl rfl (Ye (Yr (hC.getM 0 rfl)) rfl) (ZGe rfl) rfl fun w16 hC=>done (Zs (Zd (Zm (Zb (v:=.int .u8 s10.2) rfl (Zaz rfl rfl (Zc (v:=.int .u8 (ZGh.wrap (s10.2 - 1))) rfl (done ?_)))))))
   exact hK10 (r11.terms,ZGh.wrap (s10.2 - 1)) _ _ ⟨u11,(slq rfl),(hC.xM [0,2,3,4] rfl)⟩ h
  ·replace h:=Zk h (cf hb10)
   refine ZGj (Zl (Zl (Z5 ?_)))
   refine Zd (sr (Yb hC 1 [v10] rfl ag55 rfl rfl rfl (Zo (v:=.agg #[v10]) hC 2 [v10] [v10] rfl ag55.size rfl rfl rfl rfl (Ye (Yr (hC.getM 0 rfl)) rfl) (ZGe rfl) rfl fun w17 hC=>dn (ZGd ?_))))
   exact Zj rfl (Y2 hC 2 rfl ag55 rfl rfl) ⟨(⟨s10.1⟩:ZF9),v10,(ZG2 (Zvi v10)),rfl,h,(X5 (Jc (hC.getM 0 rfl))),(X3 hC 0 rfl),hC.below⟩ (.inl rfl)
 ·skip
  exact⟨u10,(slq rfl),(hC.xM [1,0,2,3] rfl)⟩
def Zfs (a0:List Int) (a1:List ZF9) (a2:ZF9) (K:ZF9→Prop):Prop :=
 X8 (fun (s10:(List Term)×Int) nx11=>(if s10.2 < (a2.terms.length:Int) then((0≤s10.2∧s10.2 < (a2.terms.length:Int))∧Xs ZGa ((a2.terms.getD s10.2.toNat Zuw).factor) (fun r10=>Yi (fun i10 (s11:(List Term)) nx10=>((0≤s10.2∧s10.2 < (a2.terms.length:Int))∧((0≤(i10:Int)∧(i10:Int) < 8)∧(if((a2.terms.getD s10.2.toNat Zuw).mono).get i10 > 0 then((0≤s10.2∧s10.2 < (a2.terms.length:Int))∧((0≤(i10:Int)∧(i10:Int) < 8)∧Zcs a0 (a1.getD i10 Zuw) (((a2.terms.getD s10.2.toNat Zuw).mono).get i10) (fun r11=>Xx a0 (⟨s11⟩:ZF9) r11 (fun r12=>nx10 r12.terms)))) else nx10 s11)))) (fun (s11:(List Term))=>J2 (⟨s10.1⟩:ZF9) (⟨s11⟩:ZF9) 1 (fun r13=>nx11 (r13.terms,Zxa.wrap (s10.2+1)))) a1.length 0 r10.terms)) else K (⟨s10.1⟩:ZF9))) ([],0)
theorem Zti (a0:List Int) (a1:List ZF9) (a2:ZF9)  {K:ZF9→Prop} (h:Zfs a0 a1 a2 K) (w0:World) (q0:ZIv.rep a0 [u0_0] fp0 w0) (q1:ZGr.sl.rep a1 [u1_0] fp1 w0) (q2:ZGr.rep a2 [u2_0] fp2 w0) :
  Calls ZF7 28 #[u0_0,u1_0,.agg #[u2_0]] w0 fun e w'=>∃ (r0:ZF9) (z0_0:Value) (fz0:List Nat),
   e=.returned (.agg #[z0_0])∧K r0∧(ZGk (Zr 90) r0 [z0_0] fz0).holds w'∧(∀ b,b∈fz0→w0.heap.size≤b)∧Bel w0 w':=by
 unfold Zfs at h
 refine cof Tryz.func28 rfl 63 Tryz.ntmps28 ?_
 have hC:=ZGq (X:=Nox) w0 [ZCh TInts a0 [u0_0] fp0,ZCh ZGr.sl a1 [u1_0] fp1,ZCh TForm a2 [u2_0] fp2] (alc q0 (alc q1 (al1 q2)))
 have hp4:=(hC.getP 2 rfl)
 replace hC:=hC.derive 2 rfl (ZCh ZF6.ty.sl a2.terms [u2_0] fp2) (fun _=>(Yx hp4)) (fun _ hb_=>hb_)
 refine sr (Yj (v:=.agg #[u2_0]) hC [u2_0] rfl rfl fun b6 w8 hB_ hC=>Z1 hC [.slice none 0 0] z55 rfl fun b9 w10 hB_ hC=>dn (sr (Y5 [] rfl (Za5   _) (Z1 hC [.slice none 0 0] z55 rfl fun b10 w11 hB_ hC=>Zo (v:=.agg #[.slice none 0 0]) hC 0 [.slice none 0 0] [.slice none 0 0] rfl ag55.size rfl rfl rfl rfl rfl (ZGe rfl) rfl fun w12 hC=>dn (ZF5 (sr (Zc (v:=vI 0) rfl (dn (ZGb ?_)))))))))
 refine Jj (S:=(List Term)×Int) _ (fun s10 e_ w_=>∃ (v10:Value),Zy e_ [(0,u0_0),(1,u1_0),(5,vQ b6),(6,vQ b9),(7,vQ b10),(8,vI s10.2)]∧Ctx Nox w0 w_ [own 90 9 v10 s10.1.length (ZF6.encs s10.1),blk b10 55 [v10],blk b9 55 [.slice none 0 0],blk b6 55 [u2_0]] [ZCh ZF6.ty.sl a2.terms [u2_0] fp2,ZCh TInts a0 [u0_0] fp0,ZCh ZGr.sl a1 [u1_0] fp1,ZCh TForm a2 [u2_0] fp2]) ?_ (s0:=([],0)) ?_ h
 ·clear hC h
  rintro s10 e_ w13 nx11 K11 ⟨v10,hS_,hC⟩ h hK11
  rw [ue hS_]
  refine ZF5 (sr (Zb (v:=vI s10.2) rfl (Zx 0 ZGc rfl sc53.size rfl rfl (Z4 hC 3 (u2_0) rfl sc53 rfl rfl (Zv hC 0 rfl ZGf rfl (Zn rfl rfl (dn ?_)))))))
  refine Zq rfl (fun hb10=>?_) (fun hb10=>?_)
  ·replace h:=ift h (ct hb10)
   refine ZF8 (Zd (ZF5 (ZGb (sr (Y5 [] rfl (Zdf   _) (Zx 0 ZGc rfl sc53.size rfl rfl (Z4 hC 3 (u2_0) rfl sc53 rfl rfl (Zb (v:=vI s10.2) rfl ?_))))))))
   obtain ⟨⟨h10,h11⟩,h⟩:=h
   obtain ⟨Ad12,c10,hv10⟩:=Zz (hC.getP 0 rfl) s10.2.toNat (show s10.2.toNat < a2.terms.length by omega)
   refine Yq (len:=a2.terms.length) ZGf ag90.size (tr rfl hv10) rfl h10 h11 (Zao (s10.2.toNat * 9+8) ZGl rfl sc2.size rfl rfl (Xb (vI ((a2.terms.getD s10.2.toNat Zuw).factor)) (Xp (o:=8) (k:=1) (Yf (hC.getP 0 rfl) hv10 s10.2.toNat (show s10.2.toNat < a2.terms.length by omega)) rfl) sc2 rfl (Zf [.agg (ZF4 (ZF3 .u8 ZGa)),vI ((a2.terms.getD s10.2.toNat Zuw).factor)] _ Tryz.func59 rfl rfl rfl (Za6 ZGa ((a2.terms.getD s10.2.toNat Zuw).factor) h _) ?_)))
   rintro _ w14 ⟨r10,u10,f10,rfl,h,hr11,hf10,hB10⟩
   refine rt ?_
   replace hC:=hC.push hB10 (ZGk (Zr 90) r10 [u10] f10) hr11 hf10
   obtain ⟨ho10,hf11⟩:=Y8 (hC.getM 0 rfl)
   subst hf11
   replace hC:=hC.recast (c:=own 90 9 u10 r10.terms.length (ZF6.encs r10.terms)) (fun _ h_=>h_) (fun _=>ho10)
   refine Z1 hC [.slice none 0 0] z55 rfl fun b11 w15 hB_ hC=>Zo (v:=.agg #[u10]) hC 0 [u10] [u10] rfl ag55.size rfl rfl rfl rfl (Ye (Yr (hC.getM 1 rfl)) rfl) (ZGe rfl) rfl fun w16 hC=>dn (ZF5 (sr (Zc (v:=vI 0) rfl (dn (ZGb ?_)))))
   have hN10:a1.length≤9223372036854775807:=Y3 (hC.getP 2 rfl)
   refine Yn (S:=(List Term)) _ _ (fun i10 s11 e_ w_=>∃ (v11:Value),Zy e_ [(0,u0_0),(1,u1_0),(5,vQ b6),(6,vQ b9),(7,vQ b10),(8,vI s10.2),(9,vQ b11),(10,vI (i10:Int))]∧Ctx Nox w0 w_ [own 90 9 v11 s11.length (ZF6.encs s11),blk b11 55 [v11],own 90 9 v10 s10.1.length (ZF6.encs s10.1),blk b10 55 [v10],blk b9 55 [.slice none 0 0],blk b6 55 [u2_0]] [ZCh ZF6.ty.sl a2.terms [u2_0] fp2,ZCh TInts a0 [u0_0] fp0,ZCh ZGr.sl a1 [u1_0] fp1,ZCh TForm a2 [u2_0] fp2]) a1.length ?_ ?_ (s0:=r10.terms) ?_ h
   ·clear hC h
    rintro i10 s11 e_ w17 nx10 K10 hi10 ⟨v11,hS_,hC⟩ h hK10
    rw [ue hS_]
    refine ZF5 (sr (Zb (v:=vI (i10:Int)) rfl (Zb (v:=u1_0) rfl (Zv hC 2 rfl ZGt rfl (Zn rfl rfl (dn (Z8 rfl (decide_eq_true (by omega)) (ZF8 (Zd (ZF5 (ZGb (sr (Zx 0 ZGc rfl sc53.size rfl rfl (Z4 hC 5 (u2_0) rfl sc53 rfl rfl (Zb (v:=vI s10.2) rfl (Zb (v:=vI (i10:Int)) rfl ?_))))))))))))))))
    obtain ⟨⟨h12,h13⟩,h⟩:=h
    obtain ⟨Ad13,c11,hv11⟩:=Zz (hC.getP 0 rfl) s10.2.toNat (show s10.2.toNat < a2.terms.length by omega)
    refine Yq (len:=a2.terms.length) ZGf ag90.size (tr rfl hv11) rfl h12 h13 (Zao (s10.2.toNat * 9+0) ZGl rfl ag88.size rfl rfl ?_)
    obtain ⟨⟨h14,h15⟩,h⟩:=h
    refine Zkz (s10.2.toNat * 9+0+i10) ZGn sc5.size rfl rfl h14 h15 (by omega) (Xb (.int .u8 (((a2.terms.getD s10.2.toNat Zuw).mono).get i10)) (Xp (o:=i10) (k:=1) (Yf (hC.getP 0 rfl) hv11 s10.2.toNat (show s10.2.toNat < a2.terms.length by omega)) (Ziq (r:=_) (show i10 < 8 by omega))) sc5 rfl (Xy rfl rfl (dn ?_)))
    refine Zq rfl (fun hb11=>?_) (fun hb11=>?_)
    ·replace h:=ift h (ct hb11)
     refine cwd 16 mixed [0,0,0,0,0,24,56,0,128,0,0,896,2944,8064,16256,32764,65535,131071] [1,5,6,8,11,13,14] [0,2,3,4,7,9,10,12] (fun hM11 hM10 w18 hB_=>?_)
     replace hC:=hC.grow hB_
     refine bM 0 (u0_0) rfl hM10 (Za 18 1) (bL 1 (.agg #[v11]) rfl rfl hM11 (fun _ hB_=>by exact Y9 (hC.grow hB_) 1 [v11] rfl ag55 rfl rfl rfl) (Za 18 3) (bM 2 (u0_0) rfl hM10 (Za 18 7) (bM 3 (u1_0) rfl hM10 (Za 18 15) (bM 4 (vI (i10:Int)) rfl hM10 (Za 18 31) ?_))))
     obtain ⟨Ad11,c12,hv12⟩:=Zz (hC.getP 2 rfl) i10 hi10
     refine bL 5 (.pointer (some (Ad11.add (i10 * 1)))) rfl rfl hM11 (fun _ hB_=>by exact Yw (len:=a1.length) ZGt ag55.size (by exact tr rfl hv12) rfl (ZGm _) (ZG4.2 hi10)) (Za 18 63) ?_
     obtain ⟨cs_,hl10,hc10,hr10⟩:=Jg (hC.getP 2 rfl) hv12 i10 hi10
     obtain ⟨u13,rfl⟩:=ZG3.1 hl10
     clear hl10
     rw [Jb _ _ hi10] at hr10
     have hp10:=hr10
     replace hC:=hC.derive 2 rfl (ZCh ZF6.ty.sl ((a1.getD i10 Zuw).terms) [u13] fp1) (fun _=>(Yx hp10)) (fun _ hb_=>hb_)
     refine bL 6 (.agg #[u13]) rfl rfl hM11 (fun _ hB_=>by exact Xn [u13] (Zaf hB_ hc10) ag55 rfl rfl) (Za 18 127) (bF 7 (vQ b6) rfl rfl hM10 (fun _=>by exact Yh 0 ZGc rfl sc53.size rfl rfl) (Za 18 255) (bL 8 (u2_0) rfl rfl hM11 (fun _ hB_=>by exact Yd (hC.grow hB_) 5 (u2_0) rfl sc53 rfl rfl) (Za 18 511) (bM 9 (vI s10.2) rfl hM10 (Za 18 1023) (bM 10 (vI (i10:Int)) rfl hM10 (Za 18 2047) ?_))))
     obtain ⟨⟨h16,h17⟩,h⟩:=h
     obtain ⟨Ad10,c13,hv13⟩:=Zz (hC.getP 1 rfl) s10.2.toNat (show s10.2.toNat < a2.terms.length by omega)
     refine bL 11 (.pointer (some (Ad10.add (s10.2.toNat * 9)))) rfl rfl hM11 (fun _ hB_=>by exact Yw (len:=a2.terms.length) ZGf ag90.size (by exact tr rfl hv13) rfl h16 h17) (Za 18 4095) (bF 12 (.pointer (some (Ad10.add (s10.2.toNat * 9+0)))) rfl rfl hM10 (fun _=>by exact Jz (s10.2.toNat * 9+0) ZGl rfl ag88.size rfl rfl) (Za 18 8191) ?_)
     obtain ⟨⟨h18,h19⟩,h⟩:=h
     refine bL 13 (.pointer (some (Ad10.add (s10.2.toNat * 9+0+i10)))) rfl rfl hM11 (fun _ hB_=>by exact Zos (s10.2.toNat * 9+0+i10) ZGn sc5.size rfl rfl h18 h19 (by omega)) (Za 18 16383) (bL 14 (.int .u8 (((a2.terms.getD s10.2.toNat Zuw).mono).get i10)) rfl rfl hM11 (fun _ hB_=>by exact Jw (.int .u8 (((a2.terms.getD s10.2.toNat Zuw).mono).get i10)) (Xp (o:=i10) (k:=1) (Yf ((hC.grow hB_).getP 1 rfl) hv13 s10.2.toNat (show s10.2.toNat < a2.terms.length by omega)) (Ziq (r:=_) (show i10 < 8 by omega))) sc5 rfl) (Za 18 32767) (aO 15 rfl (Zf [u0_0,.agg #[u13],.int .u8 (((a2.terms.getD s10.2.toNat Zuw).mono).get i10)] _ Tryz.func61 rfl rfl rfl (Zth a0 (a1.getD i10 Zuw) (((a2.terms.getD s10.2.toNat Zuw).mono).get i10) h _ (hC.getP 2 rfl) (Yl (hC.getP 0 rfl))) ?_)))
     rintro _ w19 ⟨r11,u14,f11,rfl,h,hr12,hf12,hB11⟩
     refine rt ?_
     replace hC:=hC.push hB11 (ZGk (Zr 90) r11 [u14] f11) hr12 hf12
     obtain ⟨ho11,hf13⟩:=Y8 (hC.getM 0 rfl)
     subst hf13
     replace hC:=hC.recast (c:=own 90 9 u14 r11.terms.length (ZF6.encs r11.terms)) (fun _ h_=>h_) (fun _=>ho11)
     refine done (aK (by assumption) (Za 18 65535) (Z2 16 (by decide) (by decide) (by kernel_rfl) (by kernel_rfl) rfl (Zf [u0_0,.agg #[v11],.agg #[u14]] _ Tryz.func60 rfl rfl rfl (Zau a0 (⟨s11⟩:ZF9) r11 h _ (hC.getP 2 rfl) (Yl (Yp (hC.getM 1 rfl))) (Yl (Yp (hC.getM 0 rfl)))) ?_)))
     rintro _ w20 ⟨r12,u11,f12,rfl,h,hr13,hf14,hB12⟩
     refine rt ?_
     replace hC:=hC.push hB12 (ZGk (Zr 90) r12 [u11] f12) hr13 hf14
     obtain ⟨ho12,hf15⟩:=Y8 (hC.getM 0 rfl)
     subst hf15
     replace hC:=hC.recast (c:=own 90 9 u11 r12.terms.length (ZF6.encs r12.terms)) (fun _ h_=>h_) (fun _=>ho12)
     refine Zo (v:=.agg #[u11]) hC 3 [u11] [u11] rfl ag55.size rfl rfl rfl rfl (Ye (Yr (hC.getM 0 rfl)) rfl) (ZGe rfl) rfl fun w21 hC=>done (Z3 (Zs (Zd (Zm (Zb (v:=vI (i10:Int)) rfl (Zp rfl rfl (Zc (v:=vI (Zxa.wrap ((i10:Int)+1))) rfl (done ?_))))))))
     exact hK10 r12.terms _ _ ⟨u11,(sl ⟨rfl,rfl,rfl,rfl,rfl,rfl,rfl,(tr rfl (congrArg _ (Z6 hi10 hN10))),trivial⟩),((hC.xM [0,3,4,5,6,7] rfl).sP [1,2,3,4] rfl)⟩ h
    ·replace h:=Zk h (cf hb11)
     refine ZF8 (Zs (Zd (Zm (Zb (v:=vI (i10:Int)) rfl (Zp rfl rfl (Zc (v:=vI (Zxa.wrap ((i10:Int)+1))) rfl (done ?_)))))))
     exact hK10 s11 _ _ ⟨v11,(sl ⟨rfl,rfl,rfl,rfl,rfl,rfl,rfl,(tr rfl (congrArg _ (Z6 hi10 hN10))),trivial⟩),hC⟩ h
   ·clear hC h
    rintro s11 e_ w22 K10 ⟨v11,hS_,hC⟩ h
    rw [ue hS_]
    refine ZF5 (sr (Zb (v:=vI (a1.length:Int)) rfl (Zb (v:=u1_0) rfl (Zv hC 2 rfl ZGt rfl (Zn rfl rfl (dn (Z9 rfl (decide_eq_false (by omega)) ?_)))))))
    refine ZGj (Zl (Zl (Z5 ?_)))
    refine Zd (Zm (Yb hC 3 [v10] rfl ag55 rfl rfl rfl (Yb hC 1 [v11] rfl ag55 rfl rfl rfl (Zf [.agg #[v10],.agg #[v11],vI 1] _ Tryz.func41 rfl rfl rfl (Zgp (⟨s10.1⟩:ZF9) (⟨s11⟩:ZF9) 1 h _ (Yl (Yp (hC.getM 2 rfl))) (Yl (Yp (hC.getM 0 rfl)))) ?_))))
    rintro _ w23 ⟨r13,u12,f13,rfl,h,hr14,hf16,hB13⟩
    refine rt ?_
    replace hC:=hC.push hB13 (ZGk (Zr 90) r13 [u12] f13) hr14 hf16
    obtain ⟨ho13,hf17⟩:=Y8 (hC.getM 0 rfl)
    subst hf17
    replace hC:=hC.recast (c:=own 90 9 u12 r13.terms.length (ZF6.encs r13.terms)) (fun _ h_=>h_) (fun _=>ho13)
    refine Zo (v:=.agg #[u12]) hC 4 [u12] [u12] rfl ag55.size rfl rfl rfl rfl (Ye (Yr (hC.getM 0 rfl)) rfl) (ZGe rfl) rfl fun w24 hC=>done (Zs (Zd (Zm (Zb (v:=vI s10.2) rfl (Zp rfl rfl (Zc (v:=vI (Zxa.wrap (s10.2+1))) rfl (done ?_)))))))
    exact hK11 (r13.terms,Zxa.wrap (s10.2+1)) _ _ ⟨u12,(slq rfl),(hC.xM [0,4,5,6] rfl)⟩ h
   ·skip
    exact⟨u10,(slq rfl),(hC.xM [1,0,2,3,4,5] rfl)⟩
  ·replace h:=Zk h (cf hb10)
   refine ZGj (Zl (Zl (Z5 ?_)))
   refine Zd (sr (Yb hC 1 [v10] rfl ag55 rfl rfl rfl (Zo (v:=.agg #[v10]) hC 2 [v10] [v10] rfl ag55.size rfl rfl rfl rfl (Ye (Yr (hC.getM 0 rfl)) rfl) (ZGe rfl) rfl fun w25 hC=>dn (ZGd ?_))))
   exact Zj rfl (Y2 hC 2 rfl ag55 rfl rfl) ⟨(⟨s10.1⟩:ZF9),v10,(ZG2 (Zvi v10)),rfl,h,(X5 (Jc (hC.getM 0 rfl))),(X3 hC 0 rfl),hC.below⟩ (.inl rfl)
 ·skip
  replace hC:=hC.pushNil 90 9
  exact⟨.slice none 0 0,(slq rfl),hC⟩
def Zhp (a0:List Int) (a1:List ZF9) (K:List ZF9→Int→Prop):Prop :=
 Yi (fun i10 (s10:Unit) nx10=>Zdg a0 (a1.getD i10 Zuw) (fun r10=>(if¬ (r10=true) then K [] 3 else nx10 ()))) (fun (s10:Unit)=>K a1 0) a1.length 0 ()
theorem Ztj (a0:List Int) (a1:List ZF9)  {K:List ZF9→Int→Prop} (h:Zhp a0 a1 K) (w0:World) (q0:ZIv.rep a0 [u0_0] fp0 w0) (q1:ZGr.sl.rep a1 [u1_0] fp1 w0) :
  Calls ZF7 29 #[u0_0,u1_0] w0 fun e w'=>∃ (r0:List ZF9) (z0_0:Value) (fz0:List Nat) (r1:Int),
   e=.returned (.tuple #[z0_0,vI r1])∧K r0 r1∧ZGr.sl.rep r0 [z0_0] fz0 w'∧(∀ b,b∈fz0→w0.heap.size≤b∨b∈(fp0++(fp1)))∧Bel w0 w':=by
 unfold Zhp at h
 refine cof Tryz.func29 rfl 21 Tryz.ntmps29 ?_
 have hC:=ZGq (X:=Nox) w0 [ZCh TInts a0 [u0_0] fp0,ZCh ZGr.sl a1 [u1_0] fp1] (alc q0 (al1 q1))
 refine sr (Zc (v:=.slice none 0 0) rfl (Zc (v:=vI 0) rfl (dn (ZF5 (sr (Zc (v:=vI 0) rfl (dn (ZGb ?_))))))))
 have hN10:a1.length≤9223372036854775807:=Y3 (hC.getP 1 rfl)
 refine Yn (S:=Unit) _ _ (fun i10 s10 e_ w_=>Zy e_ [(0,u0_0),(1,u1_0),(6,vI (i10:Int))]∧Ctx Nox w0 w_ [] [ZCh TInts a0 [u0_0] fp0,ZCh ZGr.sl a1 [u1_0] fp1]) a1.length ?_ ?_ (s0:=()) ?_ h
 ·clear hC h
  rintro i10 s10 e_ w10 nx10 K10 hi10 ⟨hS_,hC⟩ h hK10
  rw [ue hS_]
  refine ZF5 (sr (Zb (v:=vI (i10:Int)) rfl (Zb (v:=u1_0) rfl (Zv hC 1 rfl ZGt rfl (Zn rfl rfl (dn (Z8 rfl (decide_eq_true (by omega)) (ZF8 (Zd (ZF5 (ZGb (sr (Zb (v:=u0_0) rfl (Zb (v:=u1_0) rfl (Zb (v:=vI (i10:Int)) rfl ?_)))))))))))))))
  obtain ⟨Ad10,c10,hv10⟩:=Zz (hC.getP 1 rfl) i10 hi10
  refine Yq (len:=a1.length) ZGt ag55.size (tr rfl hv10) rfl (ZGm _) (ZG4.2 hi10) ?_
  obtain ⟨cs_,hl10,hc10,hr10⟩:=Jg (hC.getP 1 rfl) hv10 i10 hi10
  obtain ⟨u10,rfl⟩:=ZG3.1 hl10
  clear hl10
  rw [Jb _ _ hi10] at hr10
  have hp10:=hr10
  replace hC:=hC.derive 1 rfl (ZCh ZF6.ty.sl ((a1.getD i10 Zuw).terms) [u10] fp1) (fun _=>(Yx hp10)) (fun _ hb_=>hb_)
  refine Jv [u10] hc10 ag55 rfl rfl (Zf [u0_0,.agg #[u10]] _ Tryz.func56 rfl rfl rfl (Zk3 a0 (a1.getD i10 Zuw) h _ (hC.getP 1 rfl) (Yl (hC.getP 0 rfl))) ?_)
  rintro _ w11 ⟨r10,rfl,h,hB10⟩
  refine rt ?_
  replace hC:=hC.grow hB10
  refine Xa rfl (dn ?_)
  refine Zq rfl (fun hb10=>?_) (fun hb10=>?_)
  ·replace h:=ift h (Y0 (Xf hb10))
   refine sr (Zc (v:=.slice none 0 0) rfl (Zc (v:=vI 3) rfl (dn ?_)))
   refine ZGd (Zw (Ze (Ze (Zw (Ze ?_)))))
   exact Xi rfl (Zg rfl) (Zg rfl) ⟨[],.slice none 0 0,[],3,rfl,h,(J0 _ _),(fun b hb=>.inl ((fun b hb=>absurd hb (by simp)) b hb)),hC.below⟩ (.inl rfl)
  ·replace h:=Zk h (not_not_intro ((Xg hb10)))
   refine ZF8 (Zs (Zd (Zm (Zb (v:=vI (i10:Int)) rfl (Zp rfl rfl (Zc (v:=vI (Zxa.wrap ((i10:Int)+1))) rfl (done ?_)))))))
   exact hK10 () _ _ ⟨(sl ⟨rfl,rfl,(tr rfl (congrArg _ (Z6 hi10 hN10))),trivial⟩),(hC.sP [1,2] rfl)⟩ h
 ·clear hC h
  rintro s10 e_ w12 K10 ⟨hS_,hC⟩ h
  rw [ue hS_]
  refine ZF5 (sr (Zb (v:=vI (a1.length:Int)) rfl (Zb (v:=u1_0) rfl (Zv hC 1 rfl ZGt rfl (Zn rfl rfl (dn (Z9 rfl (decide_eq_false (by omega)) ?_)))))))
  refine ZGj (Zl (Zl (Z5 ?_)))
  refine Zd (sr (Zb (v:=u1_0) rfl (Zc (v:=u1_0) rfl (Zc (v:=vI 0) rfl (dn (ZGd ?_))))))
  exact Xi rfl (Zg rfl) (Zg rfl) ⟨a1,u1_0,fp1,0,rfl,h,(hC.getP 1 rfl),(fun b hb=>.inr (Zvj _ hb)),hC.below⟩ (.inl rfl)
 ·skip
  exact⟨(slq rfl),hC⟩
def Zdw (a0:Alg) (a1:List Int) (a2:List ZF9) (a3:List Int) (K:Alg→Int→Prop):Prop :=
 X8 (fun (s10:(List ZF9)×Int) nx10=>(if s10.2 < (a0.degrees.length:Int) then Yi (fun i10 (s11:Bool) nx11=>(if s11=true then nx11 true else nx11 (decide (a3.getD i10 Zuw=s10.2)))) (fun (s11:Bool)=>(if¬ (s11=true) then((0≤s10.2∧s10.2 < (a0.images.length:Int))∧Zfs a1 a2 (a0.images.getD s10.2.toNat Zuw) (fun r10=>(Xd (s10.1.length+1) 24∧nx10 (s10.1++[r10],Zxa.wrap (s10.2+1))))) else nx10 (s10.1,Zxa.wrap (s10.2+1)))) a3.length 0 false else Zhp a1 s10.1 (fun r12 r11=>(if r11≠0 then K (⟨[],[]⟩:Alg) r11 else K (⟨a1,s10.1⟩:Alg) 0)))) ([],0)
theorem Ztk (a0:Alg) (a1:List Int) (a2:List ZF9) (a3:List Int)  {K:Alg→Int→Prop} (h:Zdw a0 a1 a2 a3 K) (w0:World) (q0:TAlg.rep a0 [u0_0,u0_1] fp0 w0) (q1:ZIv.rep a1 [u1_0] fp1 w0) (q2:ZGr.sl.rep a2 [u2_0] fp2 w0) (q3:ZIv.rep a3 [u3_0] fp3 w0) :
  Calls ZF7 78 #[.agg #[u0_0,u0_1],u1_0,u2_0,u3_0] w0 fun e w'=>∃ (r0:Alg) (z0_0:Value) (z0_1:Value) (fz0:List Nat) (r1:Int),
   e=.returned (.tuple #[.agg #[z0_0,z0_1],vI r1])∧K r0 r1∧TAlg.rep r0 [z0_0,z0_1] fz0 w'∧(∀ b,b∈fz0→w0.heap.size≤b∨b∈(fp0++(fp1++(fp2++(fp3)))))∧Bel w0 w':=by
 unfold Zdw at h
 refine cof Tryz.func78 rfl 67 Tryz.ntmps78 ?_
 have hC:=ZGq (X:=Nox) w0 [ZCh TAlg a0 [u0_0,u0_1] fp0,ZCh TInts a1 [u1_0] fp1,ZCh ZGr.sl a2 [u2_0] fp2,ZCh TInts a3 [u3_0] fp3] (alc q0 (alc q1 (alc q2 (al1 q3))))
 replace hC:=hC.dAlg 0 rfl
 refine sr (Yj (v:=.agg #[u0_0,u0_1]) hC [u0_0,u0_1] rfl rfl fun b7 w9 hB_ hC=>Z1 hC [.slice none 0 0,.slice none 0 0] z32 rfl fun b11 w10 hB_ hC=>Zc (v:=vI 0) rfl (dn (sr (Zb (v:=u1_0) rfl (Y5 [(0,u1_0)] rfl (Zmm u1_0 (Zec (hC.getP 3 rfl)) _) (Z1 hC [.slice none 0 0,.slice none 0 0] z32 rfl fun b10 w11 hB_ hC=>Zo (v:=.agg #[u1_0,.slice none 0 0]) hC 0 [u1_0,.slice none 0 0] [u1_0,.slice none 0 0] rfl ag32.size rfl rfl rfl rfl (Ye (Ja (hC.getP 3 rfl)) (Ye rfl rfl)) (ZGe rfl) rfl fun w12 hC=>dn (ZF5 (sr (Zc (v:=vI 0) rfl (dn (ZGb ?_)))))))))))
 refine Jj (S:=(List ZF9)×Int) _ (fun s10 e_ w_=>∃ (v10:Value),∃ (f10:List Nat),Zy e_ [(1,u1_0),(2,u2_0),(3,u3_0),(4,vQ b7),(8,vQ b11),(10,vQ b10),(11,vI s10.2)]∧Ctx Nox w0 w_ [ZGk (ZMj 55 (Zr 90)) s10.1 [v10] f10,blk b10 32 [u1_0,v10],blk b11 32 [.slice none 0 0,.slice none 0 0],blk b7 32 [u0_0,u0_1]] [ZCh ZGr.sl a0.images [u0_1] fp0,ZCh TInts a0.degrees [u0_0] fp0,ZCh TAlg a0 [u0_0,u0_1] fp0,ZCh TInts a1 [u1_0] fp1,ZCh ZGr.sl a2 [u2_0] fp2,ZCh TInts a3 [u3_0] fp3]) ?_ (s0:=([],0)) ?_ h
 ·clear hC h
  rintro s10 e_ w13 nx10 K11 ⟨v10,f10,hS_,hC⟩ h hK10
  rw [ue hS_]
  refine ZF5 (sr (Zb (v:=vI s10.2) rfl (Zx 0 ZGp rfl sc22.size rfl rfl (Z4 hC 3 (u0_0) rfl sc22 rfl rfl (Zv hC 1 rfl ZGo rfl (Zn rfl rfl (dn ?_)))))))
  refine Zq rfl (fun hb11=>?_) (fun hb11=>?_)
  ·replace h:=ift h (ct hb11)
   refine ZF8 (Zd (ZF5 (ZGb (sr (Zc (v:=.bool false) rfl (dn (ZF5 (sr (Zc (v:=vI 0) rfl (dn (ZGb ?_)))))))))))
   have hN10:a3.length≤9223372036854775807:=Y3 (hC.getP 5 rfl)
   refine Yn (S:=Bool) _ _ (fun i10 s11 e_ w_=>Zy e_ [(1,u1_0),(2,u2_0),(3,u3_0),(4,vQ b7),(8,vQ b11),(10,vQ b10),(11,vI s10.2),(12,.bool s11),(13,vI (i10:Int))]∧Ctx Nox w0 w_ [ZGk (ZMj 55 (Zr 90)) s10.1 [v10] f10,blk b10 32 [u1_0,v10],blk b11 32 [.slice none 0 0,.slice none 0 0],blk b7 32 [u0_0,u0_1]] [ZCh ZGr.sl a0.images [u0_1] fp0,ZCh TInts a0.degrees [u0_0] fp0,ZCh TAlg a0 [u0_0,u0_1] fp0,ZCh TInts a1 [u1_0] fp1,ZCh ZGr.sl a2 [u2_0] fp2,ZCh TInts a3 [u3_0] fp3]) a3.length ?_ ?_ (s0:=false) ?_ h
   ·clear hC h
    rintro i10 s11 e_ w14 nx11 K10 hi10 ⟨hS_,hC⟩ h hK11
    rw [ue hS_]
    refine ZF5 (sr (Zb (v:=vI (i10:Int)) rfl (Zb (v:=u3_0) rfl (Zv hC 5 rfl ZQl rfl (Zn rfl rfl (dn (Z8 rfl (decide_eq_true (by omega)) (ZF8 (Zd (ZF5 (ZGb (Zm (Zb (v:=.bool s11) rfl (Zb (v:=.bool s11) rfl ?_))))))))))))))
    refine Y1 s11 (fun hb10=>?_) (fun hb10=>?_)
    ·replace h:=ift h (hb10)
     refine Zh (b:=true) 1 32 rfl (tr rfl (congrArg _ hb10)) (by decide) (Zh (b:=true) 1 32 rfl (tr rfl (congrArg _ hb10)) (by decide) (Zh (b:=true) 1 32 rfl (tr rfl (congrArg _ hb10)) (by decide) (Zh (b:=true) 1 32 rfl (tr rfl (congrArg _ hb10)) (by decide) (Zh (b:=true) 1 32 rfl (tr rfl (congrArg _ hb10)) (by decide) (Zh (b:=true) 1 32 rfl (tr rfl (congrArg _ hb10)) (by decide) (Z0 (v:=.bool true) (b:=true) (tr rfl (congrArg _ hb10)) rfl (Zc (v:=.bool true) rfl (done (Zs (Zd (Zm (Zb (v:=vI (i10:Int)) rfl (Zp rfl rfl (Zc (v:=vI (Zxa.wrap ((i10:Int)+1))) rfl (done ?_)))))))))))))))
     exact hK11 true _ _ ⟨(sl ⟨rfl,rfl,rfl,rfl,rfl,rfl,rfl,rfl,(tr rfl (congrArg _ (Z6 hi10 hN10))),trivial⟩),hC⟩ h
    ·replace h:=Zk h (Y0 hb10)
     refine Zi 1 32 rfl rfl hb10 (Zb (v:=u3_0) rfl (Zi 1 32 rfl rfl hb10 (Zb (v:=vI (i10:Int)) rfl (Zi 1 32 rfl rfl hb10 ?_))))
     obtain ⟨Ad11,c10,hv10⟩:=Zz (hC.getP 5 rfl) i10 hi10
     refine Yq (len:=a3.length) ZQl sc3.size (tr rfl hv10) rfl (ZGm _) (ZG4.2 hi10) (Zi 1 32 rfl rfl hb10 (Xb (vI (a3.getD i10 Zuw)) (Yf (hC.getP 5 rfl) hv10 i10 hi10) sc3 rfl (Zi 1 32 rfl rfl hb10 (Zb (v:=vI s10.2) rfl (Zi 1 32 rfl rfl hb10 (Je rfl rfl (Z0 (v:=.bool (decide (a3.getD i10 Zuw=s10.2))) (b:=false) (tr rfl (congrArg _ hb10)) rfl (Zc (v:=.bool (decide (a3.getD i10 Zuw=s10.2))) rfl (done (Zs (Zd (Zm (Zb (v:=vI (i10:Int)) rfl (Zp rfl rfl (Zc (v:=vI (Zxa.wrap ((i10:Int)+1))) rfl (done ?_))))))))))))))))
     exact hK11 (decide (a3.getD i10 Zuw=s10.2)) _ _ ⟨(sl ⟨rfl,rfl,rfl,rfl,rfl,rfl,rfl,rfl,(tr rfl (congrArg _ (Z6 hi10 hN10))),trivial⟩),hC⟩ h
   ·clear hC h
    rintro s11 e_ w15 K10 ⟨hS_,hC⟩ h
    rw [ue hS_]
    refine ZF5 (sr (Zb (v:=vI (a3.length:Int)) rfl (Zb (v:=u3_0) rfl (Zv hC 5 rfl ZQl rfl (Zn rfl rfl (dn (Z9 rfl (decide_eq_false (by omega)) ?_)))))))
    refine ZGj (Zl (Zl (Z5 ?_)))
    refine Zd (sr (Zb (v:=.bool s11) rfl (Xa rfl (dn ?_))))
    refine Zq rfl (fun hb12=>?_) (fun hb12=>?_)
    ·replace h:=ift h (Y0 (Xf hb12))
     refine cwd 11 mixed [0,1,0,0,0,16,0,112,240,508,1020,2047,4095,8191] [1,5,7,8] [0,2,3,4,6] (fun hM11 hM10 w16 hB_=>?_)
     replace hC:=hC.grow hB_
     refine bF 0 (.pointer (some ⟨b10,1,none⟩)) rfl rfl hM10 (fun _=>by exact Yh 1 ZGp rfl sc28.size rfl rfl) (Za 14 1) (bL 1 (v10) rfl rfl hM11 (fun _ hB_=>by exact Yd (hC.grow hB_) 1 (v10) rfl sc28 rfl rfl) (Za 14 3) (bM 2 (u1_0) rfl hM10 (Za 14 7) (bM 3 (u2_0) rfl hM10 (Za 14 15) (bF 4 (.pointer (some ⟨b7,1,none⟩)) rfl rfl hM10 (fun _=>by exact Yh 1 ZGp rfl sc28.size rfl rfl) (Za 14 31) (bL 5 (u0_1) rfl rfl hM11 (fun _ hB_=>by exact Yd (hC.grow hB_) 3 (u0_1) rfl sc28 rfl rfl) (Za 14 63) (bM 6 (vI s10.2) rfl hM10 (Za 14 127) ?_))))))
     obtain ⟨⟨h10,h11⟩,h⟩:=h
     obtain ⟨Ad10,c11,hv11⟩:=Zz (hC.getP 0 rfl) s10.2.toNat (show s10.2.toNat < a0.images.length by omega)
     refine bL 7 (.pointer (some (Ad10.add (s10.2.toNat * 1)))) rfl rfl hM11 (fun _ hB_=>by exact Yw (len:=a0.images.length) ZGt ag55.size (by exact tr rfl hv11) rfl h10 h11) (Za 14 255) ?_
     obtain ⟨cs_,hl10,hc10,hr10⟩:=Jg (hC.getP 0 rfl) hv11 s10.2.toNat (show s10.2.toNat < a0.images.length by omega)
     obtain ⟨u11,rfl⟩:=ZG3.1 hl10
     clear hl10
     rw [Jb _ _ (show s10.2.toNat < a0.images.length by omega)] at hr10
     have hp10:=hr10
     replace hC:=hC.derive 0 rfl (ZCh ZF6.ty.sl ((a0.images.getD s10.2.toNat Zuw).terms) [u11] fp0) (fun _=>(Yx hp10)) (fun _ hb_=>hb_)
     refine bL 8 (.agg #[u11]) rfl rfl hM11 (fun _ hB_=>by exact Xn [u11] (Zaf hB_ hc10) ag55 rfl rfl) (Za 14 511) (aO 9 rfl (Zf [u1_0,u2_0,.agg #[u11]] _ Tryz.func28 rfl rfl rfl (Zti a1 a2 (a0.images.getD s10.2.toNat Zuw) h _ (hC.getP 4 rfl) (hC.getP 5 rfl) (Yl (hC.getP 0 rfl))) ?_))
     rintro _ w17 ⟨r10,u10,f12,rfl,h,hr11,hf11,hB10⟩
     refine rt ?_
     replace hC:=hC.push hB10 (ZGk (Zr 90) r10 [u10] f12) hr11 hf11
     obtain ⟨ho10,hf12⟩:=Y8 (hC.getM 0 rfl)
     subst hf12
     replace hC:=hC.recast (c:=own 90 9 u10 r10.terms.length (ZF6.encs r10.terms)) (fun _ h_=>h_) (fun _=>ho10)
     refine done (aK (by assumption) (Za 14 1023) (aO 10 rfl (Jk (sz:=1) hC [(0,.agg #[u10])] [u10] rfl (fun _=>Zji u10 (Zgf (hC.getM 0 rfl)) _) rfl (by decide) fun b12 w18 hB_ hC=>?_)))
     replace hC:=hC.pushM0 (Yk (Zr 90) [] [] []) (Zdb _ _) rfl
     replace hC:=hC.sM [2,0,1,3,4,5,6] (M':=[own 90 9 u10 r10.terms.length (ZF6.encs r10.terms),Yk (Zr 90) [] [] [],own 55 1 (.slice (some ⟨b12,0,none⟩) 1 1) 1 [u10],ZGk (ZMj 55 (Zr 90)) s10.1 [v10] f10,blk b10 32 [u1_0,v10],blk b11 32 [.slice none 0 0,.slice none 0 0],blk b7 32 [u0_0,u0_1]]) (by decide) rfl
     replace hC:=hC.gather (c:=Yk (Zr 90) [r10] [u10] [(ZG2 (Zvi u10))]) (fun x_ hx_=>Zgl hx_) (fun h1_ h2_ hd_=>Zeb (c:=[u10]) (X5 (Jc h1_)) h2_ hd_)
     replace hC:=hC.sM [1,0,2,3,4,5] (M':=[own 55 1 (.slice (some ⟨b12,0,none⟩) 1 1) 1 [u10],Yk (Zr 90) [r10] [u10] [(ZG2 (Zvi u10))],ZGk (ZMj 55 (Zr 90)) s10.1 [v10] f10,blk b10 32 [u1_0,v10],blk b11 32 [.slice none 0 0,.slice none 0 0],blk b7 32 [u0_0,u0_1]]) (by decide) rfl
     replace hC:=hC.gather (c:=ZGk (ZMj 55 (Zr 90)) [r10] [.slice (some ⟨b12,0,none⟩) 1 1] ((ZG2 (Zvi (.slice (some ⟨b12,0,none⟩) 1 1)))++([(ZG2 (Zvi u10))]:List (List Nat)).flatten)) (fun x_ hx_=>Zu9.1 hx_) (fun h1_ h2_ hd_=>Zag h1_ h2_ hd_)
     refine done (aK (by assumption) (Za 14 2047) (Z2 11 (by decide) (by decide) (by kernel_rfl) (by kernel_rfl) rfl ?_))
     replace hC:=hC.sM [1,0,2,3,4] (M':=[ZGk (ZMj 55 (Zr 90)) s10.1 [v10] f10,ZGk (ZMj 55 (Zr 90)) [r10] [.slice (some ⟨b12,0,none⟩) 1 1] ((ZG2 (Zvi (.slice (some ⟨b12,0,none⟩) 1 1)))++([(ZG2 (Zvi u10))]:List (List Nat)).flatten),blk b10 32 [u1_0,v10],blk b11 32 [.slice none 0 0,.slice none 0 0],blk b7 32 [u0_0,u0_1]]) (by decide) rfl
     obtain ⟨hm10,h⟩:=h
     refine Zgk hC ZGt Zcm rfl (by decide) (by decide) rfl rfl hm10 fun v11 f13 w19 hC=>Zx 1 ZGp rfl sc28.size rfl rfl (Zo (v:=v11) hC 1 [v11] [u1_0,v11] rfl sc28.size rfl rfl (Zig (ZQh _ (hC.getM 0 rfl).1)) rfl (Ye (Ja (ZQh _ (hC.getM 0 rfl).1)) rfl) (ZGe rfl) rfl fun w20 hC=>done (Z3 (Zs (Zd (Zm (Zb (v:=vI s10.2) rfl (Zp rfl rfl (Zc (v:=vI (Zxa.wrap (s10.2+1))) rfl (done ?_)))))))))
     exact hK10 (s10.1++[r10],Zxa.wrap (s10.2+1)) _ _ ⟨v11,f13,(slq rfl),(hC.sP [1,2,3,4,5,6] rfl)⟩ h
    ·replace h:=Zk h (not_not_intro ((Xg hb12)))
     refine ZF8 (Zs (Zd (Zm (Zb (v:=vI s10.2) rfl (Zp rfl rfl (Zc (v:=vI (Zxa.wrap (s10.2+1))) rfl (done ?_)))))))
     exact hK10 (s10.1,Zxa.wrap (s10.2+1)) _ _ ⟨v10,f10,(slq rfl),hC⟩ h
   ·skip
    exact⟨(slq rfl),hC⟩
  ·replace h:=Zk h (cf hb11)
   refine ZGj (Zl (Zl (Z5 ?_)))
   refine Zd (ZF5 (sr (Zb (v:=u1_0) rfl (Zx 1 ZGp rfl sc28.size rfl rfl (Z4 hC 1 (v10) rfl sc28 rfl rfl ?_)))))
   have hs10:=Zb8 hC 0 rfl
   replace hC:=hC.thaw 0 rfl (ZCh ZGr.sl s10.1 [v10] f10) (fun h_=>ZQh _ h_.1) (fun _ hb_=>hb_)
   refine Zf [u1_0,v10] _ Tryz.func29 rfl rfl rfl (Ztj a1 s10.1 h _ (hC.getP 4 rfl) (hC.getP 0 rfl)) ?_
   rintro _ w21 ⟨r12,u12,f11,r11,rfl,h,hr12,hf10,hB11⟩
   refine rt ?_
   have hs11:∀ b,b∈f11→w0.heap.size≤b∨b∈(fp0++(fp1++(fp2++(fp3)))):=(fun b hb=>(hf10 b hb).elim (fun h_=>.inl (Zux hC.size h_)) (fun hb=>(Zu9.1 hb).elim (fun hb=>.inr (Zvj _ (Zvo _ hb))) (fun hb=>.inl (hs10 b hb))))
   replace hC:=hC.pushR hB11 (ZCh ZGr.sl r12 [u12] f11) hr12 (fun b hb=>(hf10 b hb).elim .inl (fun hb=>.inr ((Zu9.1 hb).elim (fun hb=>⟨_,mg 4 rfl,hb⟩) (fun hb=>⟨_,mg 0 rfl,hb⟩))))
   refine Zb (v:=.tuple #[u12,vI r11]) rfl (Yu (v:=u12) rfl rfl (Yu (v:=vI r11) rfl rfl (Zc (v:=u12) rfl (Zc (v:=vI r11) rfl (dn (sr (Zb (v:=vI r11) rfl (Y4 rfl rfl (dn ?_)))))))))
   refine Zq rfl (fun hb13=>?_) (fun hb13=>?_)
   ·replace h:=ift h (ct hb13)
    refine sr (Y5 [] rfl (Zbt   _) (Zb (v:=vI r11) rfl (Zo (v:=.agg #[.slice none 0 0,.slice none 0 0]) hC 1 [.slice none 0 0,.slice none 0 0] [.slice none 0 0,.slice none 0 0] rfl ag32.size rfl rfl rfl rfl rfl (ZGe rfl) rfl fun w22 hC=>Zc (v:=vI r11) rfl (dn ?_))))
    refine ZGd (Ze ?_)
    exact Xi rfl (Y2 hC 1 rfl ag32 rfl rfl) (Zg rfl) ⟨(⟨[],[]⟩:Alg),.slice none 0 0,.slice none 0 0,[]++[],r11,rfl,h,(Yy (J0 _ _) (J0 _ _)),(fun b hb=>(Zu9.1 hb).elim (fun hb=>.inl ((fun b hb=>absurd hb (by simp)) b hb)) (fun hb=>.inl ((fun b hb=>absurd hb (by simp)) b hb))),hC.below⟩ (.inl rfl)
   ·replace h:=Zk h (cf hb13)
    refine ZF8 (Zd (sr (Yb hC 0 [u1_0,v10] rfl ag32 rfl rfl rfl (Zo (v:=.agg #[u1_0,v10]) hC 1 [u1_0,v10] [u1_0,v10] rfl ag32.size rfl rfl rfl rfl (Ye (Ja (hC.getP 5 rfl)) (Ye (Ja (hC.getP 1 rfl)) rfl)) (ZGe rfl) rfl fun w23 hC=>Zc (v:=vI 0) rfl (dn (ZGd ?_))))))
    exact Xi rfl (Y2 hC 1 rfl ag32 rfl rfl) (Zg rfl) ⟨(⟨a1,s10.1⟩:Alg),u1_0,v10,fp1++f10,0,rfl,h,(Yy (hC.getP 5 rfl) (hC.getP 1 rfl)),(fun b hb=>(Zu9.1 hb).elim (fun hb=>.inr (Zvj _ (Zvo _ hb))) (fun hb=>.inl (hs10 b hb))),hC.below⟩ (.inl rfl)
 ·skip
  replace hC:=hC.pushM0 (ZGk (ZMj 55 (Zr 90)) [] [.slice none 0 0] []) (J7 _ _ _) rfl
  exact⟨.slice none 0 0,[],(slq rfl),hC⟩
def Zft (a0:Alg) (a1:List Int) (K:Alg→Int→Prop):Prop :=
 ((0≤(a1.length:Int)∧(a1.length:Int) * 24≤281474976710656)∧Yi (fun i10 (s10:(List Int)×(List ZF9)×(List ZF9)) nx10=>((0≤a1.getD i10 Zuw∧a1.getD i10 Zuw < (a0.degrees.length:Int))∧(Xd (s10.1.length+1) 8∧((0≤a1.getD i10 Zuw∧a1.getD i10 Zuw < (a0.images.length:Int))∧(Xd (s10.2.1.length+1) 24∧Zdv (i10:Int) (fun r10=>((0≤a1.getD i10 Zuw∧a1.getD i10 Zuw < (s10.2.2.length:Int))∧nx10 (s10.1++[a0.degrees.getD ((a1.getD i10 Zuw).toNat) Zuw],s10.2.1++[(a0.images.getD ((a1.getD i10 Zuw).toNat) Zuw)],s10.2.2.set ((a1.getD i10 Zuw).toNat) r10)))))))) (fun (s10:(List Int)×(List ZF9)×(List ZF9))=>Zdw (⟨s10.1,s10.2.1⟩:Alg) s10.1 s10.2.2 [] (fun r12 r11=>K r12 r11)) a1.length 0 ([],[],Zur ((a1.length:Int).toNat) ((⟨[]⟩:ZF9):ZF9)))
theorem Ztl (a0:Alg) (a1:List Int)  {K:Alg→Int→Prop} (h:Zft a0 a1 K) (w0:World) (q0:TAlg.rep a0 [u0_0,u0_1] fp0 w0) (q1:ZIv.rep a1 [u1_0] fp1 w0) :
  Calls ZF7 51 #[.agg #[u0_0,u0_1],u1_0] w0 fun e w'=>∃ (r0:Alg) (z0_0:Value) (z0_1:Value) (fz0:List Nat) (r1:Int),
   e=.returned (.tuple #[.agg #[z0_0,z0_1],vI r1])∧K r0 r1∧TAlg.rep r0 [z0_0,z0_1] fz0 w'∧(∀ b,b∈fz0→w0.heap.size≤b∨b∈(fp0++(fp1)))∧Bel w0 w':=by
 unfold Zft at h
 refine cof Tryz.func51 rfl 60 Tryz.ntmps51 ?_
 have hC:=ZGq (X:=Nox) w0 [ZCh TAlg a0 [u0_0,u0_1] fp0,ZCh TInts a1 [u1_0] fp1] (alc q0 (al1 q1))
 replace hC:=hC.dAlg 0 rfl
 refine sr (Yj (v:=.agg #[u0_0,u0_1]) hC [u0_0,u0_1] rfl rfl fun b5 w7 hB_ hC=>Z1 hC [.slice none 0 0,.slice none 0 0] z32 rfl fun b8 w11 hB_ hC=>Zc (v:=vI 0) rfl (dn (ZF5 ?_)))
 refine Ziu 6 mixed [0,0,2,6,0,17,63] [0,2] [1] (fun hM15 hM17 w10 hB_=>?_)
 replace hC:=hC.grow hB_
 have hN_:w10.heap.size≤w10.heap.size:=Zuv _
 refine Jl (Y7 _) 0 (.agg #[.slice none 0 0,.slice none 0 0]) rfl rfl (by kernel_rfl) (hM15 0 rfl) (fun w_ hB_=>.inl ⟨rfl,by exact Zd1 [] rfl (Zbt   _)⟩) (l9:=(Za 7 1)) (by kernel_rfl) (bMR (Y7 _) 1 (u1_0) rfl hM17 (Za 7 3) (Jl (Y7 _) 2 (vI (a1.length:Int)) rfl rfl (by kernel_rfl) (hM15 2 rfl) (fun w_ hB_=>.inl ⟨rfl,by exact Zgn (hC.grow (Zbi hB_)) 3 rfl ZGo rfl⟩) (l9:=(Za 7 7)) (by kernel_rfl) ?_))
 refine Zb3 (fun e_ w_=>∃ (b10:Nat),∃ (v14:Value),Zy e_ [(1,u1_0),(2,vQ b5),(4,vQ b8),(6,vQ b10),(7,v14)]∧Ctx Nox w0 w_ [blk b10 32 [.slice none 0 0,.slice none 0 0],ZGk (ZMj 55 (Zr 90)) (Zur ((a1.length:Int).toNat) ((⟨[]⟩:ZF9):ZF9)) [v14] ((ZG2 (Zvi v14))++(Zur ((a1.length:Int).toNat) ([]:List Nat)).flatten),blk b8 32 [.slice none 0 0,.slice none 0 0],blk b5 32 [u0_0,u0_1]] [ZCh ZGr.sl a0.images [u0_1] fp0,ZCh TInts a0.degrees [u0_0] fp0,ZCh TAlg a0 [u0_0,u0_1] fp0,ZCh TInts a1 [u1_0] fp1]∧(Yi (fun i10 (s10:(List Int)×(List ZF9)×(List ZF9)) nx10=>((0≤a1.getD i10 Zuw∧a1.getD i10 Zuw < (a0.degrees.length:Int))∧(Xd (s10.1.length+1) 8∧((0≤a1.getD i10 Zuw∧a1.getD i10 Zuw < (a0.images.length:Int))∧(Xd (s10.2.1.length+1) 24∧Zdv (i10:Int) (fun r10=>((0≤a1.getD i10 Zuw∧a1.getD i10 Zuw < (s10.2.2.length:Int))∧nx10 (s10.1++[a0.degrees.getD ((a1.getD i10 Zuw).toNat) Zuw],s10.2.1++[(a0.images.getD ((a1.getD i10 Zuw).toNat) Zuw)],s10.2.2.set ((a1.getD i10 Zuw).toNat) r10)))))))) (fun (s10:(List Int)×(List ZF9)×(List ZF9))=>Zdw (⟨s10.1,s10.2.1⟩:Alg) s10.1 s10.2.2 [] (fun r12 r11=>K r12 r11)) a1.length 0 ([],[],Zur ((a1.length:Int).toNat) ((⟨[]⟩:ZF9):ZF9)))) ?_ ?_
 ·clear hC h
  rintro e_ w12 ⟨b10,v14,hS_,hC,h⟩
  rw [ue hS_]
  refine Zd (ZF5 (sr (Zc (v:=vI 0) rfl (dn (ZGb ?_)))))
  have hN10:a1.length≤9223372036854775807:=Y3 (hC.getP 3 rfl)
  refine Yn (S:=(List Int)×(List ZF9)×(List ZF9)) _ _ (fun i10 s10 e_ w_=>∃ (v11:Value),∃ (v10:Value),∃ (cs10:List Value),∃ (f10:List Nat),∃ (v12:Value),∃ (f11:List Nat),Zy e_ [(1,u1_0),(2,vQ b5),(4,vQ b8),(6,vQ b10),(7,v12),(8,vI (i10:Int))]∧(∀ b,b∈f10→w0.heap.size≤b∨b∈(fp0++(fp1)))∧Ctx Nox w0 w_ [own 55 1 v10 s10.2.1.length cs10,own 2 1 v11 s10.1.length (eI.encs s10.1),blk b10 32 [v11,v10],ZGk (ZMj 55 (Zr 90)) s10.2.2 [v12] f11,blk b8 32 [.slice none 0 0,.slice none 0 0],blk b5 32 [u0_0,u0_1]] [ZQm TForm s10.2.1 cs10 f10,ZCh ZGr.sl a0.images [u0_1] fp0,ZCh TInts a0.degrees [u0_0] fp0,ZCh TAlg a0 [u0_0,u0_1] fp0,ZCh TInts a1 [u1_0] fp1]) a1.length ?_ ?_ (s0:=([],[],Zur ((a1.length:Int).toNat) ((⟨[]⟩:ZF9):ZF9))) ?_ h
  ·clear hC h
   rintro i10 s10 e_ w13 nx10 K10 hi10 ⟨v11,v10,cs10,f10,v12,f11,hS_,hq10,hC⟩ h hK10
   rw [ue hS_]
   refine ZF5 (sr (Zb (v:=vI (i10:Int)) rfl (Zb (v:=u1_0) rfl (Zv hC 4 rfl ZGo rfl (Zn rfl rfl (dn (Z8 rfl (decide_eq_true (by omega)) (ZF8 (Zd (ZF5 (ZGb (ZF5 ?_))))))))))))
   refine cwd 11 mixed [0,1,0,4,0,0,48,112,252,508,1020,2047,4095,8191] [1,3,6,7,8,9] [0,2,4,5] (fun hM10 hM12 w14 hB_=>?_)
   replace hC:=hC.grow hB_
   refine bF 0 (vQ b10) rfl rfl hM12 (fun _=>by exact Yh 0 ZGp rfl sc22.size rfl rfl) (Za 14 1) (bL 1 (v11) rfl rfl hM10 (fun _ hB_=>by exact Yd (hC.grow hB_) 2 (v11) rfl sc22 rfl rfl) (Za 14 3) (bF 2 (vQ b5) rfl rfl hM12 (fun _=>by exact Yh 0 ZGp rfl sc22.size rfl rfl) (Za 14 7) (bL 3 (u0_0) rfl rfl hM10 (fun _ hB_=>by exact Yd (hC.grow hB_) 5 (u0_0) rfl sc22 rfl rfl) (Za 14 15) (bM 4 (u1_0) rfl hM12 (Za 14 31) (bM 5 (vI (i10:Int)) rfl hM12 (Za 14 63) ?_)))))
   obtain ⟨Ad10,c10,hv10⟩:=Zz (hC.getP 4 rfl) i10 hi10
   refine bL 6 (.pointer (some (Ad10.add (i10 * 1)))) rfl rfl hM10 (fun _ hB_=>by exact Yw (len:=a1.length) ZGo sc2.size (by exact tr rfl hv10) rfl (ZGm _) (ZG4.2 hi10)) (Za 14 127) (bL 7 (vI (a1.getD i10 Zuw)) rfl rfl hM10 (fun _ hB_=>by exact Jw (vI (a1.getD i10 Zuw)) (Yf ((hC.grow hB_).getP 4 rfl) hv10 i10 hi10) sc2 rfl) (Za 14 255) ?_)
   obtain ⟨⟨h10,h11⟩,h⟩:=h
   obtain ⟨Ad11,c11,hv11⟩:=Zz (hC.getP 2 rfl) ((a1.getD i10 Zuw).toNat) (show (a1.getD i10 Zuw).toNat < a0.degrees.length by omega)
   refine bL 8 (.pointer (some (Ad11.add ((a1.getD i10 Zuw).toNat * 1)))) rfl rfl hM10 (fun _ hB_=>by exact Yw (len:=a0.degrees.length) ZGo sc2.size (by exact tr rfl hv11) rfl h10 h11) (Za 14 511) (bL 9 (vI (a0.degrees.getD ((a1.getD i10 Zuw).toNat) Zuw)) rfl rfl hM10 (fun _ hB_=>by exact Jw (vI (a0.degrees.getD ((a1.getD i10 Zuw).toNat) Zuw)) (Yf ((hC.grow hB_).getP 2 rfl) hv11 ((a1.getD i10 Zuw).toNat) (show (a1.getD i10 Zuw).toNat < a0.degrees.length by omega)) sc2 rfl) (Za 14 1023) (aO 10 rfl (Jk (sz:=1) hC [(0,vI (a0.degrees.getD ((a1.getD i10 Zuw).toNat) Zuw))] (eI.encs [a0.degrees.getD ((a1.getD i10 Zuw).toNat) Zuw]) rfl (fun _=>Zmn (a0.degrees.getD ((a1.getD i10 Zuw).toNat) Zuw) _) rfl (by decide) fun b13 w15 hB_ hC=>done (aK (by assumption) (Za 14 2047) (Z2 11 (by decide) (by decide) (by kernel_rfl) (by kernel_rfl) rfl ?_)))))
   obtain ⟨hm13,h⟩:=h
   refine Zap hC 2 ZGo el2 rfl (by decide) (by decide) rfl (J5 (hC.getM 0 rfl)) (fun q hq=>Enc.encs_one' (E:=eI) _ q hq) rfl rfl hm13 fun v13 w16 hC=>?_
   replace hC:=Jm hC 2 ((s10.1++[a0.degrees.getD ((a1.getD i10 Zuw).toNat) Zuw]).length) (eI.encs (s10.1++[a0.degrees.getD ((a1.getD i10 Zuw).toNat) Zuw])) rfl (by simp) (by first | (simp [ZGu]; done) | simp [ZGu,Enc.encs])
   refine Zx 0 ZGp rfl sc22.size rfl rfl (Zo (v:=v13) hC 3 [v13] [v13,v10] rfl sc22.size rfl rfl (Za2 (hC.getM 2 rfl)) rfl (Ye (Yr (hC.getM 2 rfl)) rfl) (ZGe rfl) rfl fun w17 hC=>done (Z3 (Zd (ZF5 ?_))))
   refine cwd 11 mixed [0,1,0,4,0,0,48,112,252,508,1020,2047,4095,8191] [1,3,6,7,8,9] [0,2,4,5] (fun hM11 hM13 w18 hB_=>?_)
   replace hC:=hC.grow hB_
   refine bF 0 (.pointer (some ⟨b10,1,none⟩)) rfl rfl hM13 (fun _=>by exact Yh 1 ZGp rfl sc28.size rfl rfl) (Za 14 1) (bL 1 (v10) rfl rfl hM11 (fun _ hB_=>by exact Yd (hC.grow hB_) 3 (v10) rfl sc28 rfl rfl) (Za 14 3) (bF 2 (.pointer (some ⟨b5,1,none⟩)) rfl rfl hM13 (fun _=>by exact Yh 1 ZGp rfl sc28.size rfl rfl) (Za 14 7) (bL 3 (u0_1) rfl rfl hM11 (fun _ hB_=>by exact Yd (hC.grow hB_) 6 (u0_1) rfl sc28 rfl rfl) (Za 14 15) (bM 4 (u1_0) rfl hM13 (Za 14 31) (bM 5 (vI (i10:Int)) rfl hM13 (Za 14 63) ?_)))))
   obtain ⟨Ad12,c12,hv12⟩:=Zz (hC.getP 4 rfl) i10 hi10
   refine bL 6 (.pointer (some (Ad12.add (i10 * 1)))) rfl rfl hM11 (fun _ hB_=>by exact Yw (len:=a1.length) ZGo sc2.size (by exact tr rfl hv12) rfl (ZGm _) (ZG4.2 hi10)) (Za 14 127) (bL 7 (vI (a1.getD i10 Zuw)) rfl rfl hM11 (fun _ hB_=>by exact Jw (vI (a1.getD i10 Zuw)) (Yf ((hC.grow hB_).getP 4 rfl) hv12 i10 hi10) sc2 rfl) (Za 14 255) ?_)
   obtain ⟨⟨h12,h13⟩,h⟩:=h
   obtain ⟨Ad13,c13,hv13⟩:=Zz (hC.getP 1 rfl) ((a1.getD i10 Zuw).toNat) (show (a1.getD i10 Zuw).toNat < a0.images.length by omega)
   refine bL 8 (.pointer (some (Ad13.add ((a1.getD i10 Zuw).toNat * 1)))) rfl rfl hM11 (fun _ hB_=>by exact Yw (len:=a0.images.length) ZGt ag55.size (by exact tr rfl hv13) rfl h12 h13) (Za 14 511) ?_
   obtain ⟨cs_,hl10,hc10,hr10⟩:=Jg (hC.getP 1 rfl) hv13 ((a1.getD i10 Zuw).toNat) (show (a1.getD i10 Zuw).toNat < a0.images.length by omega)
   obtain ⟨u10,rfl⟩:=ZG3.1 hl10
   clear hl10
   rw [Jb _ _ (show (a1.getD i10 Zuw).toNat < a0.images.length by omega)] at hr10
   have hp10:=hr10
   replace hC:=hC.derive 1 rfl (ZCh ZF6.ty.sl ((a0.images.getD ((a1.getD i10 Zuw).toNat) Zuw).terms) [u10] fp0) (fun _=>(Yx hp10)) (fun _ hb_=>hb_)
   refine bL 9 (.agg #[u10]) rfl rfl hM11 (fun _ hB_=>by exact Xn [u10] (Zaf hB_ hc10) ag55 rfl rfl) (Za 14 1023) (aO 10 rfl (Jk (sz:=1) hC [(0,.agg #[u10])] [u10] rfl (fun _=>Zji u10 (Zec (hC.getP 0 rfl)) _) rfl (by decide) fun b11 w19 hB_ hC=>?_))
   have hf11:=X3 hC 0 rfl
   replace hC:=hC.thaw 0 rfl (own 55 1 (.slice (some ⟨b11,0,none⟩) 1 1) 1 [u10]) id (fun _ hb_=>hb_)
   replace hC:=hC.joinP 0 1 rfl rfl (ZCh ZGr.sl [(a0.images.getD ((a1.getD i10 Zuw).toNat) Zuw)] [.slice (some ⟨b11,0,none⟩) 1 1] ((ZG2 (Zvi (.slice (some ⟨b11,0,none⟩) 1 1)))++fp0)) (fun a_ b_=>Zh8 a_ (Zqy (Yl b_))) (fun c_ hc_=>Zu9.1 hc_)
   have hs12:∀ b,b∈((ZG2 (Zvi (.slice (some ⟨b11,0,none⟩) 1 1)))++fp0)→w0.heap.size≤b∨b∈(fp0++(fp1)):=(fun b hb=>(Zu9.1 hb).elim (fun hb=>.inl (hf11 b hb)) (fun hb=>.inr (Zvo _ hb)))
   refine done (aK (by assumption) (Za 14 2047) (Z2 11 (by decide) (by decide) (by kernel_rfl) (by kernel_rfl) rfl ?_))
   obtain ⟨cs11,hd10,ha10⟩:=Zss (hC.getP 0 rfl)
   replace hC:=hC.derive 0 rfl (ZQm TForm [(a0.images.getD ((a1.getD i10 Zuw).toNat) Zuw)] cs11 ((ZG2 (Zvi (.slice (some ⟨b11,0,none⟩) 1 1)))++fp0)) (fun _=>ha10) (fun _ h_=>h_)
   obtain ⟨hm14,h⟩:=h
   refine Zap hC 1 ZGt Zcm rfl (by decide) (by decide) rfl hd10 (fun q_ hq_=>ha10.2.2.1 q_ hq_) rfl rfl hm14 fun v15 w20 hC=>?_
   replace hC:=Jm hC 1 ((s10.2.1++[(a0.images.getD ((a1.getD i10 Zuw).toNat) Zuw)]).length) (cs10++cs11) rfl (by simp) (by simp)
   have hs13:∀ b,b∈(f10++((ZG2 (Zvi (.slice (some ⟨b11,0,none⟩) 1 1)))++fp0))→w0.heap.size≤b∨b∈(fp0++(fp1)):=(fun b hb=>(Zu9.1 hb).elim (fun hb=>hq10 b hb) (fun hb=>hs12 b hb))
   replace hC:=hC.joinP 4 0 rfl rfl (ZQm TForm (s10.2.1++[(a0.images.getD ((a1.getD i10 Zuw).toNat) Zuw)]) (cs10++cs11) (f10++((ZG2 (Zvi (.slice (some ⟨b11,0,none⟩) 1 1)))++fp0))) (fun a_ b_=>Zsu a_ b_) (fun c_ hc_=>Zu9.1 hc_)
   refine Zx 1 ZGp rfl sc28.size rfl rfl (Zo (v:=v15) hC 3 [v15] [v13,v15] rfl sc28.size rfl rfl (Za2 (hC.getM 1 rfl)) rfl (Ye (Yr (hC.getM 1 rfl)) rfl) (ZGe rfl) rfl fun w21 hC=>done (Z3 (Zd ?_)))
   refine cwd 7 mixed [0,0,0,6,14,0,32,127,255] [3,4] [0,1,2,5] (fun hM16 hM14 w22 hB_=>?_)
   replace hC:=hC.grow hB_
   refine bM 0 (v12) rfl hM14 (Za 9 1) (bM 1 (u1_0) rfl hM14 (Za 9 3) (bM 2 (vI (i10:Int)) rfl hM14 (Za 9 7) ?_))
   obtain ⟨Ad14,c14,hv14⟩:=Zz (hC.getP 9 rfl) i10 hi10
   refine bL 3 (.pointer (some (Ad14.add (i10 * 1)))) rfl rfl hM16 (fun _ hB_=>by exact Yw (len:=a1.length) ZGo sc2.size (by exact tr rfl hv14) rfl (ZGm _) (ZG4.2 hi10)) (Za 9 15) (bL 4 (vI (a1.getD i10 Zuw)) rfl rfl hM16 (fun _ hB_=>by exact Jw (vI (a1.getD i10 Zuw)) (Yf ((hC.grow hB_).getP 9 rfl) hv14 i10 hi10) sc2 rfl) (Za 9 31) (bM 5 (vI (i10:Int)) rfl hM14 (Za 9 63) (aO 6 rfl (Zf [vI (i10:Int)] _ Tryz.func42 rfl rfl rfl (Ztg (i10:Int) h _) ?_))))
   rintro _ w23 ⟨r10,u11,f13,rfl,h,hr11,hf12,hB10⟩
   refine rt ?_
   replace hC:=hC.push hB10 (ZGk (Zr 90) r10 [u11] f13) hr11 hf12
   obtain ⟨ho10,hf13⟩:=Y8 (hC.getM 0 rfl)
   subst hf13
   replace hC:=hC.recast (c:=own 90 9 u11 r10.terms.length (ZF6.encs r10.terms)) (fun _ h_=>h_) (fun _=>ho10)
   refine done (aK (by assumption) (Za 9 127) (Z2 7 (by decide) (by decide) (by kernel_rfl) (by kernel_rfl) rfl ?_))
   obtain ⟨⟨h14,h15⟩,h⟩:=h
   obtain ⟨g10,cap10,hv15⟩:=Zk0 (hC.getM 5 rfl) (Nat.lt_of_le_of_lt (Nat.zero_le _) (show (a1.getD i10 Zuw).toNat < s10.2.2.length by omega))
   refine Zaq ((a1.getD i10 Zuw).toNat * 1) ZGt ag55.size (tr rfl hv15) rfl h14 h15 rfl ?_
   replace hC:=hC.recast (c:=ZGk (Zr 90) r10 [u11] (ZG2 (Zvi u11))) (fun _ h_=>h_) (fun h_=>X5 (Jc h_))
   replace hC:=hC.sM [5,0,1,2,3,4,6,7] (M':=[ZGk (ZMj 55 (Zr 90)) s10.2.2 [v12] f11,ZGk (Zr 90) r10 [u11] (ZG2 (Zvi u11)),own 2 1 (.slice (some ⟨b13,0,none⟩) 1 1) ([a0.degrees.getD ((a1.getD i10 Zuw).toNat) Zuw].length) (eI.encs [a0.degrees.getD ((a1.getD i10 Zuw).toNat) Zuw]),own 55 1 v15 ((s10.2.1++[(a0.images.getD ((a1.getD i10 Zuw).toNat) Zuw)]).length) (cs10++cs11),own 2 1 v13 ((s10.1++[a0.degrees.getD ((a1.getD i10 Zuw).toNat) Zuw]).length) (eI.encs (s10.1++[a0.degrees.getD ((a1.getD i10 Zuw).toNat) Zuw])),blk b10 32 [v13,v15],blk b8 32 [.slice none 0 0,.slice none 0 0],blk b5 32 [u0_0,u0_1]]) (by decide) rfl
   refine Zk1 (u:=.agg #[u11]) hC (show (a1.getD i10 Zuw).toNat < s10.2.2.length by omega) hv15 ag55.size rfl rfl rfl rfl fun f14 w24 hC=>done (Z3 (Zs (Zd (Zm (Zb (v:=vI (i10:Int)) rfl (Zp rfl rfl (Zc (v:=vI (Zxa.wrap ((i10:Int)+1))) rfl (done ?_))))))))
   exact hK10 (s10.1++[a0.degrees.getD ((a1.getD i10 Zuw).toNat) Zuw],s10.2.1++[(a0.images.getD ((a1.getD i10 Zuw).toNat) Zuw)],s10.2.2.set ((a1.getD i10 Zuw).toNat) r10) _ _ ⟨v13,v15,cs10++cs11,(f10++((ZG2 (Zvi (.slice (some ⟨b11,0,none⟩) 1 1)))++fp0)),v12,f14,(sl ⟨rfl,rfl,rfl,rfl,rfl,(tr rfl (congrArg _ (Z6 hi10 hN10))),trivial⟩),hs13,((hC.xM [2,3,4,0,5,6] rfl).sP [0,6,7,8,9] rfl)⟩ h
  ·clear hC h
   rintro s10 e_ w25 K10 ⟨v11,v10,cs10,f10,v12,f11,hS_,hq10,hC⟩ h
   rw [ue hS_]
   refine ZF5 (sr (Zb (v:=vI (a1.length:Int)) rfl (Zb (v:=u1_0) rfl (Zv hC 4 rfl ZGo rfl (Zn rfl rfl (dn (Z9 rfl (decide_eq_false (by omega)) ?_)))))))
   refine ZGj (Zl (Zl (Z5 ?_)))
   refine Zd (sr (Yb hC 2 [v11,v10] rfl ag32 rfl rfl rfl (Zx 0 ZGp rfl sc22.size rfl rfl (Z4 hC 2 (v11) rfl sc22 rfl rfl (Zb (v:=v12) rfl ?_)))))
   have hs10:=X3 hC 1 rfl
   replace hC:=hC.thaw 1 rfl (ZCh TInts s10.1 [v11] (ZG2 (Zvi v11))) Yp (fun _ hb_=>hb_)
   have hf14:=X3 hC 0 rfl
   replace hC:=hC.thaw 0 rfl (own 55 1 v10 s10.2.1.length cs10) id (fun _ hb_=>hb_)
   replace hC:=hC.joinP 0 2 rfl rfl (ZCh ZGr.sl s10.2.1 [v10] ((ZG2 (Zvi v10))++f10)) (fun a_ b_=>Zh8 a_ b_) (fun c_ hc_=>Zu9.1 hc_)
   have hs14:∀ b,b∈((ZG2 (Zvi v10))++f10)→w0.heap.size≤b∨b∈(fp0++(fp1)):=(fun b hb=>(Zu9.1 hb).elim (fun hb=>.inl (hf14 b hb)) (fun hb=>hq10 b hb))
   have hs15:=Zb8 hC 1 rfl
   replace hC:=hC.thaw 1 rfl (ZCh ZGr.sl s10.2.2 [v12] f11) (fun h_=>ZQh _ h_.1) (fun _ hb_=>hb_)
   refine Zf [.agg #[v11,v10],v11,v12,.slice none 0 0] _ Tryz.func78 rfl rfl rfl (Ztk (⟨s10.1,s10.2.1⟩:Alg) s10.1 s10.2.2 [] h _ (Yy (hC.getP 3 rfl) (hC.getP 1 rfl)) (hC.getP 3 rfl) (hC.getP 0 rfl) (J0 _ _)) ?_
   rintro _ w26 ⟨r12,u12,u13,f12,r11,rfl,h,hr12,hf10,hB11⟩
   refine rt ?_
   have hs11:∀ b,b∈f12→w0.heap.size≤b∨b∈(fp0++(fp1)):=(fun b hb=>(hf10 b hb).elim (fun h_=>.inl (Zux hC.size h_)) (fun hb=>(Zu9.1 hb).elim (fun hb=>(Zu9.1 hb).elim (fun hb=>.inl (hs10 b hb)) (fun hb=>hs14 b hb)) (fun hb=>(Zu9.1 hb).elim (fun hb=>.inl (hs10 b hb)) (fun hb=>(Zu9.1 hb).elim (fun hb=>.inl (hs15 b hb)) (fun hb=>absurd hb (by simp))))))
   replace hC:=hC.pushR hB11 (ZCh TAlg r12 [u12,u13] f12) hr12 (fun b hb=>(hf10 b hb).elim .inl (fun hb=>.inr ((Zu9.1 hb).elim (fun hb=>(Zu9.1 hb).elim (fun hb=>⟨_,mg 3 rfl,hb⟩) (fun hb=>⟨_,mg 1 rfl,hb⟩)) (fun hb=>(Zu9.1 hb).elim (fun hb=>⟨_,mg 3 rfl,hb⟩) (fun hb=>(Zu9.1 hb).elim (fun hb=>⟨_,mg 0 rfl,hb⟩) (fun hb=>absurd hb (by simp)))))))
   replace hC:=hC.dAlg 0 rfl
   refine Yu (v:=.agg #[u12,u13]) rfl rfl (Yu (v:=vI r11) rfl rfl (Zo (v:=.agg #[u12,u13]) hC 1 [u12,u13] [u12,u13] rfl ag32.size rfl rfl rfl rfl (Ye (Ja (hC.getP 1 rfl)) (Ye (Ja (hC.getP 0 rfl)) rfl)) (ZGe rfl) rfl fun w27 hC=>Zc (v:=vI r11) rfl (dn (ZGd ?_))))
   exact Xi rfl (Y2 hC 1 rfl ag32 rfl rfl) (Zg rfl) ⟨r12,u12,u13,f12++f12,r11,rfl,h,(Yy (hC.getP 1 rfl) (hC.getP 0 rfl)),(fun b hb=>(Zu9.1 hb).elim (fun hb=>hs11 b hb) (fun hb=>hs11 b hb)),hC.below⟩ (.inl rfl)
  ·skip
   replace hC:=hC.pushNil 2 1
   replace hC:=hC.pushE (ZQm TForm [] [] []) (Zst _ _) rfl
   replace hC:=hC.pushNil 55 1
   exact⟨.slice none 0 0,.slice none 0 0,[],[],v14,((ZG2 (Zvi v14))++(Zur ((a1.length:Int).toNat) ([]:List Nat)).flatten),(slq rfl),(fun b hb=>.inl ((fun b hb=>absurd hb (by simp)) b hb)),hC⟩
 refine X9 3 4 rfl rfl (by kernel_rfl) ?_ ?_
 ·skip
  obtain ⟨hm10,h⟩:=h
  refine Zb0 (sz:=1) hC (Zur ((a1.length:Int).toNat) (.slice none 0 0)) ZGt Zcm (tr rfl (congrArg (ZI3 .i64) (ZI4 hm10.1).symm)) (tr rfl (congrArg (ZI3 .i64) (ZI4 hm10.1).symm)) (by omega) (by omega) (Zgg _) fun v16 w28 hB_ hC=>?_
  replace hC:=hC.pushM0 (Yk (Zr 90) (Zur ((a1.length:Int).toNat) ((⟨[]⟩:ZF9):ZF9)) (Zur ((a1.length:Int).toNat) (.slice none 0 0)) (Zur ((a1.length:Int).toNat) [])) (Zgi (X5 (J7 _ _ _)) rfl _) (Zgh _)
  replace hC:=hC.gather (c:=ZGk (ZMj 55 (Zr 90)) (Zur ((a1.length:Int).toNat) ((⟨[]⟩:ZF9):ZF9)) [v16] ((ZG2 (Zvi v16))++(Zur ((a1.length:Int).toNat) ([]:List Nat)).flatten)) (fun x_ hx_=>(Zu9.1 hx_).symm) (fun h1_ h2_ hd_=>Zag (by rw [ZQv]; exact h2_) h1_ (fun b_ hb_ hb2_=>hd_ b_ hb2_ hb_))
  refine done ?_
  refine Yo (Xm hN_ (by assumption)) hN_ (l9:=(Za 7 15)) (by kernel_rfl) (fun hN_=>?_)
  refine aO 4 rfl (Zdc hC [.slice none 0 0,.slice none 0 0] z32 rfl fun b14 w29 hn_ hB_ hC=>?_)
  have hnb_b365:=Zux hN_ hn_
  refine done ?_
  refine Yo (Xm hN_ (by assumption)) hN_ (l9:=(Za 7 31)) (by kernel_rfl) (fun hN_=>?_)
  refine aO 5 rfl (Zed (v:=.agg #[.slice none 0 0,.slice none 0 0]) hC 0 [.slice none 0 0,.slice none 0 0] [.slice none 0 0,.slice none 0 0] rfl ag32.size rfl rfl rfl rfl rfl (ZGe rfl) rfl fun w30 hBB_ hC=>done ?_)
  refine Yo (X6 hN_ hnb_b365 hBB_) hN_ (l9:=(Za 7 63)) (by kernel_rfl) (fun hN_=>?_)
  refine Z2 6 (by decide) (by decide) (by kernel_rfl) (by kernel_rfl) rfl (Zc (v:=v16) rfl (done (Z3 ?_)))
  exact⟨rfl,_,rfl,⟨b14,v16,(slq rfl),hC,h⟩⟩
 ·skip
  refine Zdc hC [.slice none 0 0,.slice none 0 0] z32 rfl fun b12 w31 hn_ hB_ hC=>?_
  have hnb_b369:=Zux hN_ hn_
  refine done ?_
  refine Yo (Xm hN_ (by assumption)) hN_ (l9:=(Za 7 23)) (by kernel_rfl) (fun hN_=>?_)
  refine X9 3 5 rfl rfl (by kernel_rfl) ?_ ?_
  ·skip
   obtain ⟨hm11,h⟩:=h
   refine Zb0 (sz:=1) hC (Zur ((a1.length:Int).toNat) (.slice none 0 0)) ZGt Zcm (tr rfl (congrArg (ZI3 .i64) (ZI4 hm11.1).symm)) (tr rfl (congrArg (ZI3 .i64) (ZI4 hm11.1).symm)) (by omega) (by omega) (Zgg _) fun v17 w32 hB_ hC=>?_
   replace hC:=hC.pushM0 (Yk (Zr 90) (Zur ((a1.length:Int).toNat) ((⟨[]⟩:ZF9):ZF9)) (Zur ((a1.length:Int).toNat) (.slice none 0 0)) (Zur ((a1.length:Int).toNat) [])) (Zgi (X5 (J7 _ _ _)) rfl _) (Zgh _)
   replace hC:=hC.gather (c:=ZGk (ZMj 55 (Zr 90)) (Zur ((a1.length:Int).toNat) ((⟨[]⟩:ZF9):ZF9)) [v17] ((ZG2 (Zvi v17))++(Zur ((a1.length:Int).toNat) ([]:List Nat)).flatten)) (fun x_ hx_=>(Zu9.1 hx_).symm) (fun h1_ h2_ hd_=>Zag (by rw [ZQv]; exact h2_) h1_ (fun b_ hb_ hb2_=>hd_ b_ hb2_ hb_))
   refine done ?_
   refine Yo (Xm hN_ (by assumption)) hN_ (l9:=(Za 7 31)) (by kernel_rfl) (fun hN_=>?_)
   refine aO 5 rfl (Zed (v:=.agg #[.slice none 0 0,.slice none 0 0]) hC 1 [.slice none 0 0,.slice none 0 0] [.slice none 0 0,.slice none 0 0] rfl ag32.size rfl rfl rfl rfl rfl (ZGe rfl) rfl fun w33 hBB_ hC=>done ?_)
   refine Yo (X6 hN_ hnb_b369 hBB_) hN_ (l9:=(Za 7 63)) (by kernel_rfl) (fun hN_=>?_)
   refine Z2 6 (by decide) (by decide) (by kernel_rfl) (by kernel_rfl) rfl (Zc (v:=v17) rfl (done (Z3 ?_)))
   exact⟨rfl,_,rfl,⟨b12,v17,(slq rfl),(hC.xM [1,0,2,3] rfl),h⟩⟩
  ·skip
   refine Zed (v:=.agg #[.slice none 0 0,.slice none 0 0]) hC 0 [.slice none 0 0,.slice none 0 0] [.slice none 0 0,.slice none 0 0] rfl ag32.size rfl rfl rfl rfl rfl (ZGe rfl) rfl fun w34 hBB_ hC=>done ?_
   refine Yo (X6 hN_ hnb_b369 hBB_) hN_ (l9:=(Za 7 55)) (by kernel_rfl) (fun hN_=>?_)
   refine aO 3 rfl ?_
   obtain ⟨hm12,h⟩:=h
   refine Zb0 (sz:=1) hC (Zur ((a1.length:Int).toNat) (.slice none 0 0)) ZGt Zcm (tr rfl (congrArg (ZI3 .i64) (ZI4 hm12.1).symm)) (tr rfl (congrArg (ZI3 .i64) (ZI4 hm12.1).symm)) (by omega) (by omega) (Zgg _) fun v18 w35 hB_ hC=>?_
   replace hC:=hC.pushM0 (Yk (Zr 90) (Zur ((a1.length:Int).toNat) ((⟨[]⟩:ZF9):ZF9)) (Zur ((a1.length:Int).toNat) (.slice none 0 0)) (Zur ((a1.length:Int).toNat) [])) (Zgi (X5 (J7 _ _ _)) rfl _) (Zgh _)
   replace hC:=hC.gather (c:=ZGk (ZMj 55 (Zr 90)) (Zur ((a1.length:Int).toNat) ((⟨[]⟩:ZF9):ZF9)) [v18] ((ZG2 (Zvi v18))++(Zur ((a1.length:Int).toNat) ([]:List Nat)).flatten)) (fun x_ hx_=>(Zu9.1 hx_).symm) (fun h1_ h2_ hd_=>Zag (by rw [ZQv]; exact h2_) h1_ (fun b_ hb_ hb2_=>hd_ b_ hb2_ hb_))
   refine done ?_
   refine Yo (Xm hN_ (by assumption)) hN_ (l9:=(Za 7 63)) (by kernel_rfl) (fun hN_=>?_)
   refine Z2 6 (by decide) (by decide) (by kernel_rfl) (by kernel_rfl) rfl (Zc (v:=v18) rfl (done (Z3 ?_)))
   exact⟨rfl,_,rfl,⟨b12,v18,(slq rfl),(hC.xM [1,0,2,3] rfl),h⟩⟩
def Zfu (a0:Alg) (a1:List Int) (K:Alg→Int→Prop):Prop :=
 Zem a0 (fun r13=>(if¬ (r13=true) then K (⟨[],[]⟩:Alg) 1 else(if(a1.length:Int)≠(a0.degrees.length:Int) then K (⟨[],[]⟩:Alg) 2 else Yi (fun i10 (s10:A8) nx10=>Zcb (a1.getD i10 Zuw) 0 (Zxa.wrap ((a1.length:Int) - 1)) (fun r11=>(if¬ (r11=true) then K (⟨[],[]⟩:Alg) 2 else((0≤a1.getD i10 Zuw∧a1.getD i10 Zuw < 8)∧(if s10.get ((a1.getD i10 Zuw).toNat)=1 then K (⟨[],[]⟩:Alg) 2 else((0≤a1.getD i10 Zuw∧a1.getD i10 Zuw < 8)∧nx10 (s10.set ((a1.getD i10 Zuw).toNat) (bi true)))))))) (fun (s10:A8)=>Zft a0 a1 (fun r12 r10=>K r12 r10)) a1.length 0 ZGa)))
theorem Ztm (a0:Alg) (a1:List Int)  {K:Alg→Int→Prop} (h:Zfu a0 a1 K) (w0:World) (q0:TAlg.rep a0 [u0_0,u0_1] fp0 w0) (q1:ZIv.rep a1 [u1_0] fp1 w0) :
  Calls ZF7 22 #[.agg #[u0_0,u0_1],u1_0] w0 fun e w'=>∃ (r0:Alg) (z0_0:Value) (z0_1:Value) (fz0:List Nat) (r1:Int),
   e=.returned (.tuple #[.agg #[z0_0,z0_1],vI r1])∧K r0 r1∧TAlg.rep r0 [z0_0,z0_1] fz0 w'∧(∀ b,b∈fz0→w0.heap.size≤b∨b∈(fp0++(fp1)))∧Bel w0 w':=by
 unfold Zfu at h
 refine cof Tryz.func22 rfl 54 Tryz.ntmps22 ?_
 have hC:=ZGq (X:=Nox) w0 [ZCh TAlg a0 [u0_0,u0_1] fp0,ZCh TInts a1 [u1_0] fp1] (alc q0 (al1 q1))
 replace hC:=hC.dAlg 0 rfl
 refine sr (Yj (v:=.agg #[u0_0,u0_1]) hC [u0_0,u0_1] rfl rfl fun b5 w7 hB_ hC=>Z1 hC [.slice none 0 0,.slice none 0 0] z32 rfl fun b8 w10 hB_ hC=>Zc (v:=vI 0) rfl (dn (ZF5 (sr (Yb hC 1 [u0_0,u0_1] rfl ag32 rfl rfl rfl (Zf [.agg #[u0_0,u0_1]] _ Tryz.func38 rfl rfl rfl (Zpk a0 h _ (Yy (hC.getP 1 rfl) (hC.getP 0 rfl))) ?_))))))
 rintro _ w11 ⟨r13,rfl,h,hB10⟩
 refine rt ?_
 replace hC:=hC.grow hB10
 refine Xa rfl (dn ?_)
 refine Zq rfl (fun hb11=>?_) (fun hb11=>?_)
 ·replace h:=ift h (Y0 (Xf hb11))
  refine sr (Y5 [] rfl (Zbt   _) (Zo (v:=.agg #[.slice none 0 0,.slice none 0 0]) hC 0 [.slice none 0 0,.slice none 0 0] [.slice none 0 0,.slice none 0 0] rfl ag32.size rfl rfl rfl rfl rfl (ZGe rfl) rfl fun w12 hC=>Zc (v:=vI 1) rfl (dn ?_)))
  refine ZGd (Ze ?_)
  exact Xi rfl (Y2 hC 0 rfl ag32 rfl rfl) (Zg rfl) ⟨(⟨[],[]⟩:Alg),.slice none 0 0,.slice none 0 0,[]++[],1,rfl,h,(Yy (J0 _ _) (J0 _ _)),(fun b hb=>(Zu9.1 hb).elim (fun hb=>.inl ((fun b hb=>absurd hb (by simp)) b hb)) (fun hb=>.inl ((fun b hb=>absurd hb (by simp)) b hb))),hC.below⟩ (.inl rfl)
 ·replace h:=Zk h (not_not_intro ((Xg hb11)))
  refine ZF8 (Zd (ZF5 (sr (Zb (v:=u1_0) rfl (Zv hC 3 rfl ZGo rfl (Zx 0 ZGp rfl sc22.size rfl rfl (Z4 hC 1 (u0_0) rfl sc22 rfl rfl (Zv hC 1 rfl ZGo rfl (Y4 rfl rfl (dn ?_))))))))))
  refine Zq rfl (fun hb12=>?_) (fun hb12=>?_)
  ·replace h:=ift h (ct hb12)
   refine sr (Y5 [] rfl (Zbt   _) (Zo (v:=.agg #[.slice none 0 0,.slice none 0 0]) hC 0 [.slice none 0 0,.slice none 0 0] [.slice none 0 0,.slice none 0 0] rfl ag32.size rfl rfl rfl rfl rfl (ZGe rfl) rfl fun w13 hC=>Zc (v:=vI 2) rfl (dn ?_)))
   refine ZGd (Ze ?_)
   exact Xi rfl (Y2 hC 0 rfl ag32 rfl rfl) (Zg rfl) ⟨(⟨[],[]⟩:Alg),.slice none 0 0,.slice none 0 0,[]++[],2,rfl,h,(Yy (J0 _ _) (J0 _ _)),(fun b hb=>(Zu9.1 hb).elim (fun hb=>.inl ((fun b hb=>absurd hb (by simp)) b hb)) (fun hb=>.inl ((fun b hb=>absurd hb (by simp)) b hb))),hC.below⟩ (.inl rfl)
  ·replace h:=Zk h (cf hb12)
   refine ZF8 (Zd (sr (Y5 [] rfl (Ztb   _) (Z1 hC (ZQk ZGa) z78 rfl fun b10 w14 hB_ hC=>Zo (v:=.agg (ZF4 (ZQk ZGa))) hC 0 (ZQk ZGa) (ZQk ZGa) rfl ag78.size rfl rfl rfl rfl rfl (ZGe rfl) rfl fun w15 hC=>dn (ZF5 (sr (Zc (v:=vI 0) rfl (dn (ZGb ?_)))))))))
   have hN10:a1.length≤9223372036854775807:=Y3 (hC.getP 3 rfl)
   refine Yn (S:=A8) _ _ (fun i10 s10 e_ w_=>Zy e_ [(1,u1_0),(2,vQ b5),(4,vQ b8),(6,vQ b10),(7,vI (i10:Int))]∧Ctx Nox w0 w_ [blk b10 78 (ZQk s10),blk b8 32 [.slice none 0 0,.slice none 0 0],blk b5 32 [u0_0,u0_1]] [ZCh ZGr.sl a0.images [u0_1] fp0,ZCh TInts a0.degrees [u0_0] fp0,ZCh TAlg a0 [u0_0,u0_1] fp0,ZCh TInts a1 [u1_0] fp1]) a1.length ?_ ?_ (s0:=ZGa) ?_ h
   ·clear hC h
    rintro i10 s10 e_ w16 nx10 K10 hi10 ⟨hS_,hC⟩ h hK10
    rw [ue hS_]
    refine ZF5 (sr (Zb (v:=vI (i10:Int)) rfl (Zb (v:=u1_0) rfl (Zv hC 3 rfl ZGo rfl (Zn rfl rfl (dn (Z8 rfl (decide_eq_true (by omega)) (ZF8 (Zd (ZF5 (ZGb (ZF5 (sr (Zb (v:=u1_0) rfl (Zb (v:=vI (i10:Int)) rfl ?_)))))))))))))))
    obtain ⟨Ad10,c10,hv10⟩:=Zz (hC.getP 3 rfl) i10 hi10
    refine Yq (len:=a1.length) ZGo sc2.size (tr rfl hv10) rfl (ZGm _) (ZG4.2 hi10) (Xb (vI (a1.getD i10 Zuw)) (Yf (hC.getP 3 rfl) hv10 i10 hi10) sc2 rfl (Zb (v:=u1_0) rfl (Zv hC 3 rfl ZGo rfl (Zaz rfl rfl (Zf [vI (a1.getD i10 Zuw),vI 0,vI (Zxa.wrap ((a1.length:Int) - 1))] _ Tryz.func39 rfl rfl rfl (Ziw (a1.getD i10 Zuw) 0 (Zxa.wrap ((a1.length:Int) - 1)) h _) ?_)))))
    rintro _ w17 ⟨r11,rfl,h,hB11⟩
    refine rt ?_
    replace hC:=hC.grow hB11
    refine Xa rfl (Zb (v:=.bool (!r11)) rfl ?_)
    refine Y1 (!r11) (fun hb10=>?_) (fun hb10=>?_)
    ·replace h:=ift h (Y0 (Xf hb10))
     refine Zh (b:=true) 9 35 rfl (tr rfl (congrArg _ hb10)) (by decide) (Zh (b:=true) 9 35 rfl (tr rfl (congrArg _ hb10)) (by decide) (Zh (b:=true) 9 35 rfl (tr rfl (congrArg _ hb10)) (by decide) (Zh (b:=true) 9 35 rfl (tr rfl (congrArg _ hb10)) (by decide) (Zh (b:=true) 9 35 rfl (tr rfl (congrArg _ hb10)) (by decide) (Zh (b:=true) 9 35 rfl (tr rfl (congrArg _ hb10)) (by decide) (Z0 (v:=.bool true) (b:=true) (tr rfl (congrArg _ hb10)) rfl (dn (Z8 rfl rfl (sr (Y5 [] rfl (Zbt   _) (Zo (v:=.agg #[.slice none 0 0,.slice none 0 0]) hC 1 [.slice none 0 0,.slice none 0 0] [.slice none 0 0,.slice none 0 0] rfl ag32.size rfl rfl rfl rfl rfl (ZGe rfl) rfl fun w18 hC=>Zc (v:=vI 2) rfl (dn ?_))))))))))))
     refine ZGd (Ze (Zw (Ze (Ze (Zw (Ze ?_))))))
     exact Xi rfl (Y2 hC 1 rfl ag32 rfl rfl) (Zg rfl) ⟨(⟨[],[]⟩:Alg),.slice none 0 0,.slice none 0 0,[]++[],2,rfl,h,(Yy (J0 _ _) (J0 _ _)),(fun b hb=>(Zu9.1 hb).elim (fun hb=>.inl ((fun b hb=>absurd hb (by simp)) b hb)) (fun hb=>.inl ((fun b hb=>absurd hb (by simp)) b hb))),hC.below⟩ (.inl rfl)
    ·replace h:=Zk h (not_not_intro ((Xg hb10)))
     refine Zi 9 35 rfl rfl hb10 (Zb (v:=u1_0) rfl (Zi 9 35 rfl rfl hb10 (Zb (v:=vI (i10:Int)) rfl (Zi 9 35 rfl rfl hb10 ?_))))
     obtain ⟨Ad11,c11,hv11⟩:=Zz (hC.getP 3 rfl) i10 hi10
     refine Yq (len:=a1.length) ZGo sc2.size (tr rfl hv11) rfl (ZGm _) (ZG4.2 hi10) (Zi 9 35 rfl rfl hb10 (Xb (vI (a1.getD i10 Zuw)) (Yf (hC.getP 3 rfl) hv11 i10 hi10) sc2 rfl (Zi 9 35 rfl rfl hb10 ?_)))
     obtain ⟨⟨h10,h11⟩,h⟩:=h
     refine Y6 ((a1.getD i10 Zuw).toNat) ZQu sc4.size rfl rfl h10 h11 (by omega) (Zi 9 35 rfl rfl hb10 (Z4 hC 0 (.bool (decide (s10.get ((a1.getD i10 Zuw).toNat)=1))) rfl sc4 rfl (A8.encB_get _ (show (a1.getD i10 Zuw).toNat < 8 by omega)) (Z0 (v:=.bool (decide (s10.get ((a1.getD i10 Zuw).toNat)=1))) (b:=false) (tr rfl (congrArg _ hb10)) rfl (dn ?_))))
     refine Zq rfl (fun hb13=>?_) (fun hb13=>?_)
     ·replace h:=ift h (ct hb13)
      refine sr (Y5 [] rfl (Zbt   _) (Zo (v:=.agg #[.slice none 0 0,.slice none 0 0]) hC 1 [.slice none 0 0,.slice none 0 0] [.slice none 0 0,.slice none 0 0] rfl ag32.size rfl rfl rfl rfl rfl (ZGe rfl) rfl fun w19 hC=>Zc (v:=vI 2) rfl (dn ?_)))
      refine ZGd (Ze (Zw (Ze (Ze (Zw (Ze ?_))))))
      exact Xi rfl (Y2 hC 1 rfl ag32 rfl rfl) (Zg rfl) ⟨(⟨[],[]⟩:Alg),.slice none 0 0,.slice none 0 0,[]++[],2,rfl,h,(Yy (J0 _ _) (J0 _ _)),(fun b hb=>(Zu9.1 hb).elim (fun hb=>.inl ((fun b hb=>absurd hb (by simp)) b hb)) (fun hb=>.inl ((fun b hb=>absurd hb (by simp)) b hb))),hC.below⟩ (.inl rfl)
     ·replace h:=Zk h (cf hb13)
      refine ZF8 (Zd (Zm (Zb (v:=u1_0) rfl (Zb (v:=vI (i10:Int)) rfl ?_))))
      obtain ⟨Ad12,c12,hv12⟩:=Zz (hC.getP 3 rfl) i10 hi10
      refine Yq (len:=a1.length) ZGo sc2.size (tr rfl hv12) rfl (ZGm _) (ZG4.2 hi10) (Xb (vI (a1.getD i10 Zuw)) (Yf (hC.getP 3 rfl) hv12 i10 hi10) sc2 rfl ?_)
      obtain ⟨⟨h12,h13⟩,h⟩:=h
      refine Y6 ((a1.getD i10 Zuw).toNat) ZQu sc4.size rfl rfl h12 h13 (by omega) (Zo (v:=.bool true) hC 0 [.bool true] (ZQk (s10.set ((a1.getD i10 Zuw).toNat) (bi true))) rfl sc4.size rfl rfl rfl rfl rfl (show (a1.getD i10 Zuw).toNat < 8 by omega) (A8.encB_set _ _ (show (a1.getD i10 Zuw).toNat < 8 by omega)) fun w20 hC=>done (Zs (Zd (Zm (Zb (v:=vI (i10:Int)) rfl (Zp rfl rfl (Zc (v:=vI (Zxa.wrap ((i10:Int)+1))) rfl (done ?_))))))))
      exact hK10 (s10.set ((a1.getD i10 Zuw).toNat) (bi true)) _ _ ⟨(sl ⟨rfl,rfl,rfl,rfl,(tr rfl (congrArg _ (Z6 hi10 hN10))),trivial⟩),hC⟩ h
   ·clear hC h
    rintro s10 e_ w21 K10 ⟨hS_,hC⟩ h
    rw [ue hS_]
    refine ZF5 (sr (Zb (v:=vI (a1.length:Int)) rfl (Zb (v:=u1_0) rfl (Zv hC 3 rfl ZGo rfl (Zn rfl rfl (dn (Z9 rfl (decide_eq_false (by omega)) ?_)))))))
    refine ZGj (Zl (Zl (Z5 ?_)))
    refine Zd (sr (Yb hC 2 [u0_0,u0_1] rfl ag32 rfl rfl rfl (Zb (v:=u1_0) rfl (Zf [.agg #[u0_0,u0_1],u1_0] _ Tryz.func51 rfl rfl rfl (Ztl a0 a1 h _ (Yy (hC.getP 1 rfl) (hC.getP 0 rfl)) (hC.getP 3 rfl)) ?_))))
    rintro _ w22 ⟨r12,u10,u11,f10,r10,rfl,h,hr10,hf10,hB12⟩
    refine rt ?_
    have hs10:∀ b,b∈f10→w0.heap.size≤b∨b∈(fp0++(fp1)):=(fun b hb=>(hf10 b hb).elim (fun h_=>.inl (Zux hC.size h_)) (fun hb=>(Zu9.1 hb).elim (fun hb=>(Zu9.1 hb).elim (fun hb=>.inr (Zvo _ hb)) (fun hb=>.inr (Zvo _ hb))) (fun hb=>.inr (Zvj _ hb))))
    replace hC:=hC.pushR hB12 (ZCh TAlg r12 [u10,u11] f10) hr10 (fun b hb=>(hf10 b hb).elim .inl (fun hb=>.inr ((Zu9.1 hb).elim (fun hb=>(Zu9.1 hb).elim (fun hb=>⟨_,mg 1 rfl,hb⟩) (fun hb=>⟨_,mg 0 rfl,hb⟩)) (fun hb=>⟨_,mg 3 rfl,hb⟩))))
    replace hC:=hC.dAlg 0 rfl
    refine Yu (v:=.agg #[u10,u11]) rfl rfl (Yu (v:=vI r10) rfl rfl (Zo (v:=.agg #[u10,u11]) hC 1 [u10,u11] [u10,u11] rfl ag32.size rfl rfl rfl rfl (Ye (Ja (hC.getP 1 rfl)) (Ye (Ja (hC.getP 0 rfl)) rfl)) (ZGe rfl) rfl fun w23 hC=>Zc (v:=vI r10) rfl (dn (ZGd ?_))))
    exact Xi rfl (Y2 hC 1 rfl ag32 rfl rfl) (Zg rfl) ⟨r12,u10,u11,f10++f10,r10,rfl,h,(Yy (hC.getP 1 rfl) (hC.getP 0 rfl)),(fun b hb=>(Zu9.1 hb).elim (fun hb=>hs10 b hb) (fun hb=>hs10 b hb)),hC.below⟩ (.inl rfl)
   ·skip
    exact⟨(slq rfl),hC⟩
def Zhq (a0:Alg) (a1:Int) (K:Bool→Prop):Prop :=
 Zcf a1 0 (Zxa.wrap ((a0.degrees.length:Int) - 1)) (fun r10=>K r10)
theorem Ztn (a0:Alg) (a1:Int)  {K:Bool→Prop} (h:Zhq a0 a1 K) (w0:World) (q0:TAlg.rep a0 [u0_0,u0_1] fp0 w0) (qb0:(blk b0 32 [u0_0,u0_1]).holds w0) :
  Calls ZF7 79 #[vQ b0,vI a1] w0 fun e w'=>∃ (r0:Bool),
   e=.returned (.bool r0)∧K r0∧Bel w0 w':=by
 unfold Zhq at h
 refine cof Tryz.func79 rfl 13 Tryz.ntmps79 ?_
 have hC:=ZGq (X:=Nox) w0 [ZCh TAlg a0 [u0_0,u0_1] fp0,blk b0 32 [u0_0,u0_1]] (alc q0 (al1 qb0))
 replace hC:=hC.dAlg 0 rfl
 refine sr (Zc (v:=.bool false) rfl (dn (sr (Zb (v:=vI a1) rfl (Zb (v:=vQ b0) rfl (Zan rfl (Zx 0 ZGp rfl sc22.size rfl rfl (Za1 (u0_0) (hC.getP 3 rfl) sc22 rfl rfl (Zv hC 1 rfl ZGo rfl (Zaz rfl rfl (Zf [vI a1,vI 0,vI (Zxa.wrap ((a0.degrees.length:Int) - 1))] _ Tryz.func45 rfl rfl rfl (Ziz a1 0 (Zxa.wrap ((a0.degrees.length:Int) - 1)) h _) ?_)))))))))))
 rintro _ w10 ⟨r10,rfl,h,hB10⟩
 refine rt ?_
 replace hC:=hC.grow hB10
 refine Zc (v:=.bool r10) rfl (dn (ZGd ?_))
 exact Zj rfl (Zg rfl) ⟨r10,rfl,h,hC.below⟩ (.inl rfl)
def Zfv (a0:Alg) (a1:List Int) (K:Bool→Prop):Prop :=
 Yi (fun i10 (s10:(List (Int×Bool))) nx10=>Zhq a0 (a1.getD i10 Zuw) (fun r10=>(if¬ (r10=true) then K false else(if((Ym s10 (a1.getD i10 Zuw)).getD false)=true then K false else nx10 (Yc s10 (a1.getD i10 Zuw) true))))) (fun (s10:(List (Int×Bool)))=>K (decide ((a1.length:Int)=(a0.degrees.length:Int)))) a1.length 0 ([]:List (Int×Bool))
theorem Zto (a0:Alg) (a1:List Int)  {K:Bool→Prop} (h:Zfv a0 a1 K) (w0:World) (q0:TAlg.rep a0 [u0_0,u0_1] fp0 w0) (qb0:(blk b0 32 [u0_0,u0_1]).holds w0) (q1:ZIv.rep a1 [u1_0] fp1 w0) :
  Calls ZF7 52 #[vQ b0,u1_0] w0 fun e w'=>∃ (r0:Bool),
   e=.returned (.bool r0)∧K r0∧Bel w0 w':=by
 unfold Zfv at h
 refine cof Tryz.func52 rfl 35 Tryz.ntmps52 ?_
 have hC:=ZGq (X:=Nox) w0 [ZCh TAlg a0 [u0_0,u0_1] fp0,ZCh TInts a1 [u1_0] fp1,blk b0 32 [u0_0,u0_1]] (alc q0 (alc q1 (al1 qb0)))
 replace hC:=hC.dAlg 0 rfl
 refine sr (Zc (v:=.bool false) rfl (dn (sr (Za3 hC (vvI .i64) vvB fun b6 w8 hB_ hC=>Zc (v:=.map (some b6)) rfl (dn (ZF5 (sr (Zb (v:=u1_0) rfl (Zv hC 3 rfl ZGo rfl (Zb (v:=vI 0) rfl (dn (ZGb ?_))))))))))))
 have hN10:a1.length≤9223372036854775807:=Y3 (hC.getP 3 rfl)
 refine Yn (S:=(List (Int×Bool))) _ _ (fun i10 s10 e_ w_=>Zy e_ [(0,vQ b0),(1,u1_0),(5,.map (some b6)),(9,u1_0),(10,vI (a1.length:Int)),(11,vI (i10:Int))]∧Ctx Nox w0 w_ [Z7 (vvI .i64) vvB b6 s10] [ZCh ZGr.sl a0.images [u0_1] fp0,ZCh TInts a0.degrees [u0_0] fp0,ZCh TAlg a0 [u0_0,u0_1] fp0,ZCh TInts a1 [u1_0] fp1,blk b0 32 [u0_0,u0_1]]) a1.length ?_ ?_ (s0:=([]:List (Int×Bool))) ?_ h
 ·clear hC h
  rintro i10 s10 e_ w10 nx10 K10 hi10 ⟨hS_,hC⟩ h hK10
  rw [ue hS_]
  refine sr (Zn rfl rfl (dn (ZF5 (Z8 rfl (decide_eq_true (by omega)) (ZF8 (Zd (ZF5 (ZGb (sr ?_)))))))))
  obtain ⟨Ad10,c10,hv10⟩:=Zz (hC.getP 3 rfl) i10 hi10
  refine Yq (len:=a1.length) ZGo sc2.size (tr rfl hv10) rfl (ZGm _) (ZG4.2 hi10) (Xb (vI (a1.getD i10 Zuw)) (Yf (hC.getP 3 rfl) hv10 i10 hi10) sc2 rfl (Zc (v:=vI (a1.getD i10 Zuw)) rfl (dn (ZF5 (sr (Zb (v:=vQ b0) rfl (Zb (v:=vI (a1.getD i10 Zuw)) rfl (Zf [vQ b0,vI (a1.getD i10 Zuw)] _ Tryz.func79 rfl rfl rfl (Ztn a0 (a1.getD i10 Zuw) h _ (Yy (hC.getP 1 rfl) (hC.getP 0 rfl)) (hC.getP 4 rfl)) ?_))))))))
  rintro _ w11 ⟨r10,rfl,h,hB10⟩
  refine rt ?_
  replace hC:=hC.grow hB10
  refine Xa rfl (Zb (v:=.bool (!r10)) rfl ?_)
  refine Y1 (!r10) (fun hb10=>?_) (fun hb10=>?_)
  ·replace h:=ift h (Y0 (Xf hb10))
   refine Zh (b:=true) 4 19 rfl (tr rfl (congrArg _ hb10)) (by decide) (Zh (b:=true) 4 19 rfl (tr rfl (congrArg _ hb10)) (by decide) (Zh (b:=true) 4 19 rfl (tr rfl (congrArg _ hb10)) (by decide) (Z0 (v:=.bool true) (b:=true) (tr rfl (congrArg _ hb10)) rfl (dn (Z8 rfl rfl (sr (Zc (v:=.bool false) rfl (dn ?_))))))))
   refine ZGd (Ze (Zw (Ze (Ze (Zw (Ze ?_))))))
   exact Zj rfl (Zg rfl) ⟨false,rfl,h,hC.below⟩ (.inl rfl)
  ·replace h:=Zk h (not_not_intro ((Xg hb10)))
   refine Zi 4 19 rfl rfl hb10 (Zb (v:=.map (some b6)) rfl (Zi 4 19 rfl rfl hb10 (Zb (v:=vI (a1.getD i10 Zuw)) rfl (Zi 4 19 rfl rfl hb10 (Zkj (a1.getD i10 Zuw) false (hC.getM 0 rfl) kt2 Tryz.underlying114 z4 rfl rfl (Z0 (v:=.bool ((Ym s10 (a1.getD i10 Zuw)).getD false)) (b:=false) (tr rfl (congrArg _ hb10)) rfl (dn ?_)))))))
   refine Zq rfl (fun hb11=>?_) (fun hb11=>?_)
   ·replace h:=ift h (hb11)
    refine sr (Zc (v:=.bool false) rfl (dn ?_))
    refine ZGd (Ze (Zw (Ze (Ze (Zw (Ze ?_))))))
    exact Zj rfl (Zg rfl) ⟨false,rfl,h,hC.below⟩ (.inl rfl)
   ·replace h:=Zk h (Y0 hb11)
    refine ZF8 (Zd (Zm (Zb (v:=.map (some b6)) rfl (Zb (v:=vI (a1.getD i10 Zuw)) rfl ?_))))
    refine Zc2 hC 0 (a1.getD i10 Zuw) true rfl kt2 Tryz.underlying114 rfl rfl rfl (fun w12 hC=>?_) (.inl rfl)
    refine done (Zs (Zd (Zm (Zp rfl rfl (Zb (v:=vI (Zxa.wrap ((i10:Int)+1))) rfl (done ?_))))))
    exact hK10 (Yc s10 (a1.getD i10 Zuw) true) _ _ ⟨(sl ⟨rfl,rfl,rfl,rfl,rfl,(tr rfl (congrArg _ (Z6 hi10 hN10))),trivial⟩),hC⟩ h
 ·clear hC h
  rintro s10 e_ w13 K10 ⟨hS_,hC⟩ h
  rw [ue hS_]
  refine sr (Zn rfl rfl (dn (ZF5 (Z9 rfl (decide_eq_false (by omega)) ?_))))
  refine ZGj (Zl (Zl (Z5 ?_)))
  refine Zd (sr (Zb (v:=u1_0) rfl (Zv hC 3 rfl ZGo rfl (Zb (v:=vQ b0) rfl (Zan rfl (Zx 0 ZGp rfl sc22.size rfl rfl (Za1 (u0_0) (hC.getP 4 rfl) sc22 rfl rfl (Zv hC 1 rfl ZGo rfl (Je rfl rfl (Zc (v:=.bool (decide ((a1.length:Int)=(a0.degrees.length:Int)))) rfl (dn (ZGd ?_))))))))))))
  exact Zj rfl (Zg rfl) ⟨decide ((a1.length:Int)=(a0.degrees.length:Int)),rfl,h,hC.below⟩ (.inl rfl)
 ·skip
  exact⟨(slq rfl),hC⟩
def Zhr (a0:Int) (K:A8→Prop):Prop :=
 ((0≤a0∧a0 < 8)∧K (ZGa.set a0.toNat 1))
theorem Ztp (a0:Int)  {K:A8→Prop} (h:Zhr a0 K) (w0:World)  :
  Calls ZF7 75 #[vI a0] w0 fun e w'=>∃ (r0:A8),
   e=.returned (.agg (ZF4 (ZF3 .i64 r0)))∧K r0∧Bel w0 w':=by
 unfold Zhr at h
 refine cof Tryz.func75 rfl 8 Tryz.ntmps75 ?_
 have hC:=ZGq (X:=Nox) w0 [] (by simp)
 refine sr (Z1 hC (ZF3 .i64 ZGa) Js rfl fun b1 w3 hB_ hC=>dn (sr (Y5 [] rfl (Zef   _) (Z1 hC (ZF3 .i64 ZGa) Js rfl fun b4 w6 hB_ hC=>Zo (v:=.agg (ZF4 (ZF3 .i64 ZGa))) hC 0 (ZF3 .i64 ZGa) (ZF3 .i64 ZGa) rfl ag110.size rfl rfl rfl rfl rfl (ZGe rfl) rfl fun w7 hC=>dn (sr (Zb (v:=vI a0) rfl ?_))))))
 obtain ⟨⟨h0_8,h1_9⟩,h⟩:=h
 refine Y6 a0.toNat Tryz.underlying110 sc3.size rfl rfl h0_8 h1_9 (by omega) (Zo (v:=vI 1) hC 0 [vI 1] (ZF3 .i64 (ZGa.set a0.toNat 1)) rfl sc3.size rfl rfl rfl rfl rfl (show a0.toNat < 8 by omega) (A8.enc_set _ _ _ (show a0.toNat < 8 by omega)) fun w10 hC=>dn (sr (Yb hC 0 (ZF3 .i64 (ZGa.set a0.toNat 1)) rfl ag110 rfl rfl rfl (Zo (v:=.agg (ZF4 (ZF3 .i64 (ZGa.set a0.toNat 1)))) hC 1 (ZF3 .i64 (ZGa.set a0.toNat 1)) (ZF3 .i64 (ZGa.set a0.toNat 1)) rfl ag110.size rfl rfl rfl rfl rfl (ZGe rfl) rfl fun w11 hC=>dn (ZGd ?_)))))
 exact Zj rfl (Y2 hC 1 rfl ag110 rfl rfl) ⟨ZGa.set a0.toNat 1,rfl,h,hC.below⟩ (.inl rfl)
def Zfw (a0:List Int) (a1:List (A8×Int)) (a2:List Int) (a3:List Int) (K:List (A8×Int)→Prop):Prop :=
 Yi (fun i10 (s10:(List (List (A8×Int)))) nx10=>(if a2.getD i10 Zuw < 0 then(Xd (s10.length+1) 8∧nx10 (s10++[([]:List (A8×Int))])) else Zhr (a2.getD i10 Zuw) (fun r10=>(Xd (s10.length+1) 8∧nx10 (s10++[Yc ([]:List (A8×Int)) r10 1]))))) (fun (s10:(List (List (A8×Int))))=>(∃ (Cl138:Int→Int→List (A8×Int)→Prop),Zfq Cl138 a0 a3 s10 a1 (fun r11=>K r11))) a2.length 0 []
theorem Zjj (a0:List Int) (a1:List (A8×Int)) (a2:List Int) (a3:List Int)  {K:List (A8×Int)→Prop} (h:Zfw a0 a1 a2 a3 K) (w0:World) (q0:ZIv.rep a0 [u0_0] fp0 w0) (q1:(mapS b1 a1).holds w0) (q2:ZIv.rep a2 [u2_0] fp2 w0) (q3:ZIv.rep a3 [u3_0] fp3 w0) :
  Calls ZF7 80 #[u0_0,.map (some b1),u2_0,u3_0] w0 fun e w'=>∃ (r0:List (A8×Int)) (zb0:Nat),
   e=.returned (.map (some zb0))∧K r0∧(mapS zb0 r0).holds w'∧w0.heap.size≤zb0∧Bel w0 w':=by
 unfold Zfw at h
 refine cof ZQn rfl 43 Tryz.ntmps80 ?_
 have hC:=ZGq (X:=Nox) w0 [ZCh TInts a0 [u0_0] fp0,ZCh TInts a2 [u2_0] fp2,ZCh TInts a3 [u3_0] fp3,mapS b1 a1] (alc q0 (alc q2 (alc q3 (al1 q1))))
 refine sr (Zc (v:=.map none) rfl (dn (sr (Jk (sz:=1) hC [] [] rfl (fun _=>Ztc _) rfl (by decide) fun b5 w6 hB_ hC=>?_))))
 replace hC:=hC.pushM0 (Yk (X2 (kvA .i64) (vvI .i64)) ([]:List (List (A8×Int))) [] []) (Zdb _ _) rfl
 replace hC:=hC.gather (c:=ZGk (ZMj 99 (X2 (kvA .i64) (vvI .i64))) [] [.slice (some ⟨b5,0,none⟩) 0 0] ((ZG2 (Zvi (.slice (some ⟨b5,0,none⟩) 0 0)))++([]:List (List Nat)).flatten)) (fun x_ hx_=>(Zu9.1 hx_).symm) (fun h1_ h2_ hd_=>Zag h2_ h1_ (fun b_ hb_ hb2_=>hd_ b_ hb2_ hb_))
 refine Zc (v:=.slice (some ⟨b5,0,none⟩) 0 0) rfl (dn (ZF5 (sr (Zb (v:=u2_0) rfl (Zv hC 1 rfl ZQl rfl (Zb (v:=vI 0) rfl (dn (ZGb ?_))))))))
 have hN10:a2.length≤9223372036854775807:=Y3 (hC.getP 1 rfl)
 refine Yn (S:=(List (List (A8×Int)))) _ _ (fun i10 s10 e_ w_=>∃ (v10:Value),∃ (f10:List Nat),Zy e_ [(0,u0_0),(1,.map (some b1)),(3,u3_0),(9,v10),(14,u2_0),(15,vI (a2.length:Int)),(16,vI (i10:Int))]∧Ctx Nox w0 w_ [ZGk (ZMj 99 (X2 (kvA .i64) (vvI .i64))) s10 [v10] f10] [ZCh TInts a0 [u0_0] fp0,ZCh TInts a2 [u2_0] fp2,ZCh TInts a3 [u3_0] fp3,mapS b1 a1]) a2.length ?_ ?_ (s0:=[]) ?_ h
 ·clear hC h
  rintro i10 s10 e_ w10 nx10 K10 hi10 ⟨v10,f10,hS_,hC⟩ h hK10
  rw [ue hS_]
  refine sr (Zn rfl rfl (dn (ZF5 (Z8 rfl (decide_eq_true (by omega)) (ZF8 (Zd (ZF5 (ZGb (sr ?_)))))))))
  obtain ⟨Ad10,c10,hv10⟩:=Zz (hC.getP 1 rfl) i10 hi10
  refine Yq (len:=a2.length) ZQl sc3.size (tr rfl hv10) rfl (ZGm _) (ZG4.2 hi10) (Xb (vI (a2.getD i10 Zuw)) (Yf (hC.getP 1 rfl) hv10 i10 hi10) sc3 rfl (Zc (v:=vI (a2.getD i10 Zuw)) rfl (dn (sr (Zb (v:=vI (a2.getD i10 Zuw)) rfl (Zn rfl rfl (dn ?_)))))))
  refine Zq rfl (fun hb10=>?_) (fun hb10=>?_)
  ·replace h:=ift h (ct hb10)
   refine Zm (Zb (v:=v10) rfl (Za3 hC (kvA .i64) (vvI .i64) fun b11 w11 hB_ hC=>Jk (sz:=1) hC [(0,.map (some b11))] [.map (some b11)] rfl (fun _=>Zmo b11  _) rfl (by decide) fun b12 w12 hB_ hC=>?_))
   replace hC:=hC.pushM0 (Yk (X2 (kvA .i64) (vvI .i64)) [] [] []) (Zdb _ _) rfl
   replace hC:=hC.sM [2,0,1,3] (M':=[mapS b11 ([]:List (A8×Int)),Yk (X2 (kvA .i64) (vvI .i64)) [] [] [],own 99 1 (.slice (some ⟨b12,0,none⟩) 1 1) 1 [.map (some b11)],ZGk (ZMj 99 (X2 (kvA .i64) (vvI .i64))) s10 [v10] f10]) (by decide) rfl
   replace hC:=hC.gather (c:=Yk (X2 (kvA .i64) (vvI .i64)) [([]:List (A8×Int))] [.map (some b11)] [[b11]]) (fun x_ hx_=>Zgl hx_) (fun h1_ h2_ hd_=>Zeb (c:=[.map (some b11)]) (Zmi h1_) h2_ hd_)
   replace hC:=hC.sM [1,0,2] (M':=[own 99 1 (.slice (some ⟨b12,0,none⟩) 1 1) 1 [.map (some b11)],Yk (X2 (kvA .i64) (vvI .i64)) [([]:List (A8×Int))] [.map (some b11)] [[b11]],ZGk (ZMj 99 (X2 (kvA .i64) (vvI .i64))) s10 [v10] f10]) (by decide) rfl
   replace hC:=hC.gather (c:=ZGk (ZMj 99 (X2 (kvA .i64) (vvI .i64))) [([]:List (A8×Int))] [.slice (some ⟨b12,0,none⟩) 1 1] ((ZG2 (Zvi (.slice (some ⟨b12,0,none⟩) 1 1)))++([[b11]]:List (List Nat)).flatten)) (fun x_ hx_=>Zu9.1 hx_) (fun h1_ h2_ hd_=>Zag h1_ h2_ hd_)
   replace hC:=hC.sM [1,0] (M':=[ZGk (ZMj 99 (X2 (kvA .i64) (vvI .i64))) s10 [v10] f10,ZGk (ZMj 99 (X2 (kvA .i64) (vvI .i64))) [([]:List (A8×Int))] [.slice (some ⟨b12,0,none⟩) 1 1] ((ZG2 (Zvi (.slice (some ⟨b12,0,none⟩) 1 1)))++([[b11]]:List (List Nat)).flatten)]) (by decide) rfl
   obtain ⟨hm10,h⟩:=h
   refine Zgk hC Tryz.underlying95 Zmp rfl (by decide) (by decide) rfl rfl hm10 fun v11 f11 w13 hC=>Zc (v:=v11) rfl (done (Zs (Zd (Zm (Zp rfl rfl (Zb (v:=vI (Zxa.wrap ((i10:Int)+1))) rfl (done ?_)))))))
   exact hK10 (s10++[([]:List (A8×Int))]) _ _ ⟨v11,f11,(sl ⟨rfl,rfl,rfl,rfl,rfl,rfl,(tr rfl (congrArg _ (Z6 hi10 hN10))),trivial⟩),hC⟩ h
  ·replace h:=Zk h (cf hb10)
   refine Zm (Zb (v:=v10) rfl (Za3 hC (kvA .i64) (vvI .i64) fun b10 w14 hB_ hC=>Zb (v:=vI (a2.getD i10 Zuw)) rfl (Zf [vI (a2.getD i10 Zuw)] _ Tryz.func75 rfl rfl rfl (Ztp (a2.getD i10 Zuw) h _) ?_)))
   rintro _ w15 ⟨r10,rfl,h,hB10⟩
   refine rt ?_
   replace hC:=hC.grow hB10
   refine Zc2 hC 0 r10 1 rfl Xw Tryz.underlying99 rfl rfl rfl (fun w16 hC=>?_) (.inr rfl)
   refine Zb (v:=.map (some b10)) rfl (Jk (sz:=1) hC [(0,.map (some b10))] [.map (some b10)] rfl (fun _=>Zmo b10  _) rfl (by decide) fun b13 w17 hB_ hC=>?_)
   replace hC:=hC.pushM0 (Yk (X2 (kvA .i64) (vvI .i64)) [] [] []) (Zdb _ _) rfl
   replace hC:=hC.sM [2,0,1,3] (M':=[mapS b10 (Yc ([]:List (A8×Int)) r10 1),Yk (X2 (kvA .i64) (vvI .i64)) [] [] [],own 99 1 (.slice (some ⟨b13,0,none⟩) 1 1) 1 [.map (some b10)],ZGk (ZMj 99 (X2 (kvA .i64) (vvI .i64))) s10 [v10] f10]) (by decide) rfl
   replace hC:=hC.gather (c:=Yk (X2 (kvA .i64) (vvI .i64)) [Yc ([]:List (A8×Int)) r10 1] [.map (some b10)] [[b10]]) (fun x_ hx_=>Zgl hx_) (fun h1_ h2_ hd_=>Zeb (c:=[.map (some b10)]) (Zmi h1_) h2_ hd_)
   replace hC:=hC.sM [1,0,2] (M':=[own 99 1 (.slice (some ⟨b13,0,none⟩) 1 1) 1 [.map (some b10)],Yk (X2 (kvA .i64) (vvI .i64)) [Yc ([]:List (A8×Int)) r10 1] [.map (some b10)] [[b10]],ZGk (ZMj 99 (X2 (kvA .i64) (vvI .i64))) s10 [v10] f10]) (by decide) rfl
   replace hC:=hC.gather (c:=ZGk (ZMj 99 (X2 (kvA .i64) (vvI .i64))) [Yc ([]:List (A8×Int)) r10 1] [.slice (some ⟨b13,0,none⟩) 1 1] ((ZG2 (Zvi (.slice (some ⟨b13,0,none⟩) 1 1)))++([[b10]]:List (List Nat)).flatten)) (fun x_ hx_=>Zu9.1 hx_) (fun h1_ h2_ hd_=>Zag h1_ h2_ hd_)
   replace hC:=hC.sM [1,0] (M':=[ZGk (ZMj 99 (X2 (kvA .i64) (vvI .i64))) s10 [v10] f10,ZGk (ZMj 99 (X2 (kvA .i64) (vvI .i64))) [Yc ([]:List (A8×Int)) r10 1] [.slice (some ⟨b13,0,none⟩) 1 1] ((ZG2 (Zvi (.slice (some ⟨b13,0,none⟩) 1 1)))++([[b10]]:List (List Nat)).flatten)]) (by decide) rfl
   obtain ⟨hm11,h⟩:=h
   refine Zgk hC Tryz.underlying95 Zmp rfl (by decide) (by decide) rfl rfl hm11 fun v12 f12 w18 hC=>Zc (v:=v12) rfl (done (Zs (Zd (Zm (Zp rfl rfl (Zb (v:=vI (Zxa.wrap ((i10:Int)+1))) rfl (done ?_)))))))
   exact hK10 (s10++[Yc ([]:List (A8×Int)) r10 1]) _ _ ⟨v12,f12,(sl ⟨rfl,rfl,rfl,rfl,rfl,rfl,(tr rfl (congrArg _ (Z6 hi10 hN10))),trivial⟩),hC⟩ h
 ·clear hC h
  rintro s10 e_ w19 K10 ⟨v10,f10,hS_,hC⟩ h
  rw [ue hS_]
  refine sr (Zn rfl rfl (dn (ZF5 (Z9 rfl (decide_eq_false (by omega)) ?_))))
  refine ZGj (Zl (Zl (Z5 ?_)))
  refine Zd (sr (Zb (v:=u0_0) rfl (Zb (v:=u3_0) rfl (Zb (v:=v10) rfl (Za3 hC kv2 vvM fun b14 w20 hB_ hC=>?_)))))
  replace hC:=hC.recast (c:=Z7 kv2 vvM b14 (([]:List Kp).map Kp.key)) (fun _ h_=>h_) (fun h_=>h_)
  refine Y5 [(0,u0_0),(1,u3_0),(2,v10),(3,.map (some b14))] rfl (Ztd u0_0 u3_0 v10 b14 (Zec (hC.getP 0 rfl)) (Zec (hC.getP 2 rfl)) (Zec (ZQh _ (hC.getM 1 rfl).1)) _) (Yj (v:=.agg #[u0_0,u3_0,v10,.map (some b14)]) hC [u0_0,u3_0,v10,.map (some b14)] rfl rfl fun b15 w21 hB_ hC=>Zc (v:=vQ b15) rfl (dn (sr (Zb (v:=vQ b15) rfl (Zb (v:=.map (some b1)) rfl ?_)))))
  obtain ⟨Cl138,h⟩:=h
  replace hC:=hC.pushE (ldE Cl138 ([]:List Kp) []) (Zs4 _ _) rfl
  refine Zf [vQ b15,.map (some b1)] _ Tryz.func65 rfl rfl rfl (Zta Cl138 a0 a3 s10 a1 h _ (hC.getP 1 rfl) (hC.getP 3 rfl) (ZQh _ (hC.getM 2 rfl).1) (hC.getM 0 rfl) (hC.getM 1 rfl) (hC.getP 0 rfl) (hC.ldOff 1 0 rfl rfl) (fun e_=>hC.mm 0 1 rfl rfl (by decide) _ (List.mem_singleton_self _) (Zwj.2 e_)) (fun c_ hc_ e_=>hC.pdk 1 1 rfl rfl c_ hc_ (Zwj.2 e_)) (fun c_ hc_ e_=>hC.pdk 3 1 rfl rfl c_ hc_ (Zwj.2 e_)) (fun c_ hc_ e_=>hC.mm 2 1 rfl rfl (by decide) c_ hc_ (Zwj.2 e_)) (hC.getP 4 rfl) (fun c_ hc_ e_=>hC.pdk 4 1 rfl rfl c_ hc_ (Zwj.2 e_))) ?_
  rintro _ w22 ⟨r11,b16,D142,E143,rfl,h,hr10,hf10,hj10,hj11,hj12,hle147,hnd153,hB11⟩
  refine rt ?_
  have hs10:=hC.size
  replace hC:=hC.ldTurnP 1 0 rfl rfl hB11 hj10 hj11 hj12 hle147 (nt:=mapS b16 r11) hr10 (fun b_ hb_=>by obtain rfl:=Zwj.1 hb_; exact hf10) (fun b_ hb_=>by obtain rfl:=Zwj.1 hb_; exact hnd153)
  refine Zc (v:=.map (some b16)) rfl (dn (ZGd ?_))
  exact Zj rfl (Zg rfl) ⟨r11,b16,rfl,h,(hC.getM 0 rfl),(Zc1 hC 0 rfl),hC.below⟩ (.inl rfl)
 ·skip
  exact⟨.slice (some ⟨b5,0,none⟩) 0 0,((ZG2 (Zvi (.slice (some ⟨b5,0,none⟩) 0 0)))++([]:List (List Nat)).flatten),(slq rfl),hC⟩
def Zfx (a0:Alg) (a1:List Int) (K:Alg→Int→Prop):Prop :=
 ((0≤(a1.length:Int)∧(a1.length:Int) * 8≤281474976710656)∧Yi (fun i10 (s10:(List Int)×(List Int)) nx11=>((0≤a1.getD i10 Zuw∧a1.getD i10 Zuw < (s10.1.length:Int))∧((0≤a1.getD i10 Zuw∧a1.getD i10 Zuw < (a0.degrees.length:Int))∧(Xd (s10.2.length+1) 8∧nx11 (s10.1.set ((a1.getD i10 Zuw).toNat) (i10:Int),s10.2++[a0.degrees.getD ((a1.getD i10 Zuw).toNat) Zuw]))))) (fun (s10:(List Int)×(List Int))=>Yi (fun i11 (s11:(List ZF9)) nx10=>((0≤a1.getD i11 Zuw∧a1.getD i11 Zuw < (a0.images.length:Int))∧Zcd (a0.images.getD ((a1.getD i11 Zuw).toNat) Zuw) (fun r14=>Zfw a0.degrees r14 s10.1 s10.2 (fun r15=>Zce r15 (fun r13 r11=>(if r11≠0 then K (⟨[],[]⟩:Alg) r11 else(Xd (s11.length+1) 24∧nx10 (s11++[r13])))))))) (fun (s11:(List ZF9))=>K (⟨s10.2,s11⟩:Alg) 0) a1.length 0 []) a1.length 0 (Zur ((a1.length:Int).toNat) (0:Int),[]))
theorem Ztq (a0:Alg) (a1:List Int)  {K:Alg→Int→Prop} (h:Zfx a0 a1 K) (w0:World) (q0:TAlg.rep a0 [u0_0,u0_1] fp0 w0) (qb0:(blk b0 32 [u0_0,u0_1]).holds w0) (q1:ZIv.rep a1 [u1_0] fp1 w0) :
  Calls ZF7 53 #[vQ b0,u1_0] w0 fun e w'=>∃ (r0:Alg) (z0_0:Value) (z0_1:Value) (fz0:List Nat) (r1:Int),
   e=.returned (.tuple #[.agg #[z0_0,z0_1],vI r1])∧K r0 r1∧(ZGk (Zac 2 90 55) r0 [z0_0,z0_1] fz0).holds w'∧(∀ b,b∈fz0→w0.heap.size≤b)∧Bel w0 w':=by
 unfold Zfx at h
 refine cof Tryz.func53 rfl 80 Tryz.ntmps53 ?_
 have hC:=ZGq (X:=Nox) w0 [ZCh TAlg a0 [u0_0,u0_1] fp0,ZCh TInts a1 [u1_0] fp1,blk b0 32 [u0_0,u0_1]] (alc q0 (alc q1 (al1 qb0)))
 replace hC:=hC.dAlg 0 rfl
 refine sr (Z1 hC [.slice none 0 0,.slice none 0 0] z32 rfl fun b6 w8 hB_ hC=>Zc (v:=vI 0) rfl (dn (sr (Zb (v:=u1_0) rfl (Zv hC 3 rfl ZGo rfl ?_)))))
 obtain ⟨hm10,h⟩:=h
 refine Zb0 (sz:=1) hC (eI.encs (Zur ((a1.length:Int).toNat) (0:Int))) ZQl el3 (tr rfl (congrArg (ZI3 .i64) (ZI4 hm10.1).symm)) (tr rfl (congrArg (ZI3 .i64) (ZI4 hm10.1).symm)) (by omega) (by omega) (Zd6 (E:=eI) _ _) fun v14 w10 hB_ hC=>?_
 replace hC:=Jm hC 0 ((Zur ((a1.length:Int).toNat) (0:Int)).length) (eI.encs (Zur ((a1.length:Int).toNat) (0:Int))) rfl (by simp) rfl
 refine Jk (sz:=1) hC [] (eI.encs []) rfl (fun _=>Zte  _) rfl (by decide) fun b15 w11 hB_ hC=>Zc (v:=v14) rfl (Zc (v:=.slice (some ⟨b15,0,none⟩) 0 0) rfl (dn (ZF5 (sr (Zb (v:=u1_0) rfl (Zv hC 3 rfl ZGo rfl (Zb (v:=vI 0) rfl (dn (ZGb ?_)))))))))
 have hN10:a1.length≤9223372036854775807:=Y3 (hC.getP 3 rfl)
 refine Yn (S:=(List Int)×(List Int)) _ _ (fun i10 s10 e_ w_=>∃ (v12:Value),∃ (v10:Value),Zy e_ [(0,vQ b0),(1,u1_0),(4,vQ b6),(6,v12),(7,v10),(19,u1_0),(20,vI (a1.length:Int)),(21,vI (i10:Int))]∧Ctx Nox w0 w_ [own 2 1 v10 s10.2.length (eI.encs s10.2),own 3 1 v12 s10.1.length (eI.encs s10.1),blk b6 32 [.slice none 0 0,.slice none 0 0]] [ZCh ZGr.sl a0.images [u0_1] fp0,ZCh TInts a0.degrees [u0_0] fp0,ZCh TAlg a0 [u0_0,u0_1] fp0,ZCh TInts a1 [u1_0] fp1,blk b0 32 [u0_0,u0_1]]) a1.length ?_ ?_ (s0:=(Zur ((a1.length:Int).toNat) (0:Int),[])) ?_ h
 ·clear hC h
  rintro i10 s10 e_ w12 nx11 K10 hi10 ⟨v12,v10,hS_,hC⟩ h hK10
  rw [ue hS_]
  refine sr (Zn rfl rfl (dn (ZF5 (Z8 rfl (decide_eq_true (by omega)) (ZF8 (Zd (ZF5 (ZGb (sr (Zb (v:=vI (i10:Int)) rfl ?_))))))))))
  obtain ⟨Ad11,c10,hv10⟩:=Zz (hC.getP 3 rfl) i10 hi10
  refine Yq (len:=a1.length) ZGo sc2.size (tr rfl hv10) rfl (ZGm _) (ZG4.2 hi10) (Xb (vI (a1.getD i10 Zuw)) (Yf (hC.getP 3 rfl) hv10 i10 hi10) sc2 rfl (Zc (v:=vI (i10:Int)) rfl (Zc (v:=vI (a1.getD i10 Zuw)) rfl (dn (sr (Zb (v:=v12) rfl (Zb (v:=vI (a1.getD i10 Zuw)) rfl (Zb (v:=vI (i10:Int)) rfl ?_))))))))
  obtain ⟨⟨h10,h11⟩,h⟩:=h
  obtain ⟨Ad12,c11,hv11⟩:=Za0 (hC.getM 1 rfl) (Nat.lt_of_le_of_lt (Nat.zero_le _) (show (a1.getD i10 Zuw).toNat < s10.1.length by omega))
  refine Zaq ((a1.getD i10 Zuw).toNat * 1) ZQl sc3.size (tr rfl hv11) rfl h10 h11 rfl (Zb1 (v:=vI (i10:Int)) hC 1 [vI (i10:Int)] (eI.encs (s10.1.set ((a1.getD i10 Zuw).toNat) (i10:Int))) rfl hv11 sc3.size rfl rfl rfl rfl rfl (by rw [Enc.encs_len]; exact J6 (sz:=1) (show (a1.getD i10 Zuw).toNat < s10.1.length by omega)) (Zd5 _ _ _ (show (a1.getD i10 Zuw).toNat < s10.1.length by omega)) fun w13 hC=>?_)
  replace hC:=Jm hC 1 ((s10.1.set ((a1.getD i10 Zuw).toNat) (i10:Int)).length) (eI.encs (s10.1.set ((a1.getD i10 Zuw).toNat) (i10:Int))) rfl (by simp) rfl
  refine dn (Zm (Zb (v:=v10) rfl (Zb (v:=vQ b0) rfl (Zan rfl (Zx 0 ZGp rfl sc22.size rfl rfl (Za1 (u0_0) (hC.getP 4 rfl) sc22 rfl rfl (Zb (v:=vI (a1.getD i10 Zuw)) rfl ?_)))))))
  obtain ⟨⟨h12,h13⟩,h⟩:=h
  obtain ⟨Ad13,c12,hv12⟩:=Zz (hC.getP 1 rfl) ((a1.getD i10 Zuw).toNat) (show (a1.getD i10 Zuw).toNat < a0.degrees.length by omega)
  refine Yq (len:=a0.degrees.length) ZGo sc2.size (tr rfl hv12) rfl h12 h13 (Xb (vI (a0.degrees.getD ((a1.getD i10 Zuw).toNat) Zuw)) (Yf (hC.getP 1 rfl) hv12 ((a1.getD i10 Zuw).toNat) (show (a1.getD i10 Zuw).toNat < a0.degrees.length by omega)) sc2 rfl (Jk (sz:=1) hC [(0,vI (a0.degrees.getD ((a1.getD i10 Zuw).toNat) Zuw))] (eI.encs [a0.degrees.getD ((a1.getD i10 Zuw).toNat) Zuw]) rfl (fun _=>Zmn (a0.degrees.getD ((a1.getD i10 Zuw).toNat) Zuw) _) rfl (by decide) fun b23 w14 hB_ hC=>?_))
  obtain ⟨hm11,h⟩:=h
  refine Zap hC 1 ZGo el2 rfl (by decide) (by decide) rfl (J5 (hC.getM 0 rfl)) (fun q hq=>Enc.encs_one' (E:=eI) _ q hq) rfl rfl hm11 fun v15 w15 hC=>?_
  replace hC:=Jm hC 1 ((s10.2++[a0.degrees.getD ((a1.getD i10 Zuw).toNat) Zuw]).length) (eI.encs (s10.2++[a0.degrees.getD ((a1.getD i10 Zuw).toNat) Zuw])) rfl (by simp) (by first | (simp [ZGu]; done) | simp [ZGu,Enc.encs])
  refine Zc (v:=v15) rfl (done (Zs (Zd (Zm (Zp rfl rfl (Zb (v:=vI (Zxa.wrap ((i10:Int)+1))) rfl (done ?_)))))))
  exact hK10 (s10.1.set ((a1.getD i10 Zuw).toNat) (i10:Int),s10.2++[a0.degrees.getD ((a1.getD i10 Zuw).toNat) Zuw]) _ _ ⟨v12,v15,(sl ⟨rfl,rfl,rfl,rfl,rfl,rfl,rfl,(tr rfl (congrArg _ (Z6 hi10 hN10))),trivial⟩),(hC.xM [1,2,3] rfl)⟩ h
 ·clear hC h
  rintro s10 e_ w16 K10 ⟨v12,v10,hS_,hC⟩ h
  rw [ue hS_]
  refine sr (Zn rfl rfl (dn (ZF5 (Z9 rfl (decide_eq_false (by omega)) ?_))))
  refine ZGj (Zl (Zl (Z5 ?_)))
  refine Zd (sr (Zb (v:=v10) rfl (Y5 [(0,v10)] rfl (Zmm v10 (Zgf (hC.getM 0 rfl)) _) (Z1 hC [.slice none 0 0,.slice none 0 0] z32 rfl fun b10 w17 hB_ hC=>Zo (v:=.agg #[v10,.slice none 0 0]) hC 0 [v10,.slice none 0 0] [v10,.slice none 0 0] rfl ag32.size rfl rfl rfl rfl (Ye (Yr (hC.getM 1 rfl)) (Ye rfl rfl)) (ZGe rfl) rfl fun w18 hC=>dn (ZF5 (sr (Zb (v:=u1_0) rfl (Zv hC 3 rfl ZGo rfl (Zb (v:=vI 0) rfl (dn (ZGb ?_)))))))))))
  have hN11:a1.length≤9223372036854775807:=Y3 (hC.getP 3 rfl)
  refine Yn (S:=(List ZF9)) _ _ (fun i11 s11 e_ w_=>∃ (v11:Value),∃ (f10:List Nat),Zy e_ [(0,vQ b0),(4,vQ b6),(6,v12),(7,v10),(10,vQ b10),(43,u1_0),(44,vI (a1.length:Int)),(45,vI (i11:Int))]∧Ctx Nox w0 w_ [ZGk (ZMj 55 (Zr 90)) s11 [v11] f10,blk b10 32 [v10,v11],own 2 1 v10 s10.2.length (eI.encs s10.2),own 3 1 v12 s10.1.length (eI.encs s10.1),blk b6 32 [.slice none 0 0,.slice none 0 0]] [ZCh ZGr.sl a0.images [u0_1] fp0,ZCh TInts a0.degrees [u0_0] fp0,ZCh TAlg a0 [u0_0,u0_1] fp0,ZCh TInts a1 [u1_0] fp1,blk b0 32 [u0_0,u0_1]]) a1.length ?_ ?_ (s0:=[]) ?_ h
  ·clear hC h
   rintro i11 s11 e_ w19 nx10 K11 hi11 ⟨v11,f10,hS_,hC⟩ h hK11
   rw [ue hS_]
   refine sr (Zn rfl rfl (dn (ZF5 (Z8 rfl (decide_eq_true (by omega)) (ZF8 (Zd (ZF5 (ZGb (sr ?_)))))))))
   obtain ⟨Ad14,c13,hv13⟩:=Zz (hC.getP 3 rfl) i11 hi11
   refine Yq (len:=a1.length) ZGo sc2.size (tr rfl hv13) rfl (ZGm _) (ZG4.2 hi11) (Xb (vI (a1.getD i11 Zuw)) (Yf (hC.getP 3 rfl) hv13 i11 hi11) sc2 rfl (Zc (v:=vI (a1.getD i11 Zuw)) rfl (dn (ZF5 ?_))))
   refine cwd 20 mixed [0,1,3,7,0,16,48,112,0,496,1008,2032,0,0,16383,32767,65535,131071,131071,0,786431,2097151] [3,7,9,10] [0,1,2,4,5,6,8,12,13,16,17,18] (fun hM11 hM10 w20 hB_=>?_)
   replace hC:=hC.grow hB_
   refine bM 0 (vQ b0) rfl hM10 (Za 22 1) (bF 1 (vQ b0) rfl rfl hM10 (fun _=>by exact Zam rfl) (Za 22 3) (bF 2 (vQ b0) rfl rfl hM10 (fun _=>by exact Yh 0 ZGp rfl sc22.size rfl rfl) (Za 22 7) (bL 3 (u0_0) rfl rfl hM11 (fun _ hB_=>by exact Zaa (u0_0) ((hC.grow hB_).getP 4 rfl) sc22 rfl rfl) (Za 22 15) (bM 4 (vQ b0) rfl hM10 (Za 22 31) (bF 5 (vQ b0) rfl rfl hM10 (fun _=>by exact Zam rfl) (Za 22 63) (bF 6 (.pointer (some ⟨b0,1,none⟩)) rfl rfl hM10 (fun _=>by exact Yh 1 ZGp rfl sc28.size rfl rfl) (Za 22 127) (bL 7 (u0_1) rfl rfl hM11 (fun _ hB_=>by exact Zaa (u0_1) ((hC.grow hB_).getP 4 rfl) sc28 rfl rfl) (Za 22 255) (bM 8 (vI (a1.getD i11 Zuw)) rfl hM10 (Za 22 511) ?_))))))))
   obtain ⟨⟨h14,h15⟩,h⟩:=h
   obtain ⟨Ad10,c14,hv14⟩:=Zz (hC.getP 0 rfl) ((a1.getD i11 Zuw).toNat) (show (a1.getD i11 Zuw).toNat < a0.images.length by omega)
   refine bL 9 (.pointer (some (Ad10.add ((a1.getD i11 Zuw).toNat * 1)))) rfl rfl hM11 (fun _ hB_=>by exact Yw (len:=a0.images.length) ZGt ag55.size (by exact tr rfl hv14) rfl h14 h15) (Za 22 1023) ?_
   obtain ⟨cs_,hl10,hc10,hr10⟩:=Jg (hC.getP 0 rfl) hv14 ((a1.getD i11 Zuw).toNat) (show (a1.getD i11 Zuw).toNat < a0.images.length by omega)
   obtain ⟨u15,rfl⟩:=ZG3.1 hl10
   clear hl10
   rw [Jb _ _ (show (a1.getD i11 Zuw).toNat < a0.images.length by omega)] at hr10
   have hp10:=hr10
   replace hC:=hC.derive 0 rfl (ZCh ZF6.ty.sl ((a0.images.getD ((a1.getD i11 Zuw).toNat) Zuw).terms) [u15] fp0) (fun _=>(Yx hp10)) (fun _ hb_=>hb_)
   refine bL 10 (.agg #[u15]) rfl rfl hM11 (fun _ hB_=>by exact Xn [u15] (Zaf hB_ hc10) ag55 rfl rfl) (Za 22 2047) (bM 12 (v12) rfl hM10 (Za 22 6143) (bM 13 (v10) rfl hM10 (Za 22 14335) ?_))
   refine Zb3 (fun e_ w_=>∃ (b11:Nat),∃ (u10:Value),∃ (r10:ZF9),∃ (r12:Int),Zy e_ [(0,vQ b0),(4,vQ b6),(6,v12),(7,v10),(10,vQ b10),(13,vQ b11),(14,vI r12),(43,u1_0),(44,vI (a1.length:Int)),(45,vI (i11:Int))]∧Ctx Nox w0 w_ [blk b11 55 [u10],own 90 9 u10 r10.terms.length (ZF6.encs r10.terms),ZGk (ZMj 55 (Zr 90)) s11 [v11] f10,blk b10 32 [v10,v11],own 2 1 v10 s10.2.length (eI.encs s10.2),own 3 1 v12 s10.1.length (eI.encs s10.1),blk b6 32 [.slice none 0 0,.slice none 0 0]] [ZCh ZF6.ty.sl ((a0.images.getD ((a1.getD i11 Zuw).toNat) Zuw).terms) [u15] fp0,ZCh ZGr.sl a0.images [u0_1] fp0,ZCh TInts a0.degrees [u0_0] fp0,ZCh TAlg a0 [u0_0,u0_1] fp0,ZCh TInts a1 [u1_0] fp1,blk b0 32 [u0_0,u0_1]]∧(if r12≠0 then K (⟨[],[]⟩:Alg) r12 else(Xd (s11.length+1) 24∧nx10 (s11++[r10])))) ?_ ?_
   ·clear hC h
    rintro e_ w21 ⟨b11,u10,r10,r12,hS_,hC,h⟩
    rw [ue hS_]
    refine Zd (ZF5 (sr (Zb (v:=vI r12) rfl (Y4 rfl rfl (dn ?_)))))
    refine Zq rfl (fun hb10=>?_) (fun hb10=>?_)
    ·replace h:=ift h (ct hb10)
     refine sr (Y5 [] rfl (Zbt   _) (Zb (v:=vI r12) rfl (Zo (v:=.agg #[.slice none 0 0,.slice none 0 0]) hC 6 [.slice none 0 0,.slice none 0 0] [.slice none 0 0,.slice none 0 0] rfl ag32.size rfl rfl rfl rfl rfl (ZGe rfl) rfl fun w22 hC=>Zc (v:=vI r12) rfl (dn ?_))))
     refine ZGd (Ze (Zw (Ze (Ze (Zw (Ze ?_))))))
     exact Xi rfl (Y2 hC 6 rfl ag32 rfl rfl) (Zg rfl) ⟨(⟨[],[]⟩:Alg),.slice none 0 0,.slice none 0 0,([]++[]),r12,rfl,h,(Zea (J7 _ _ _) (J7 _ _ _) (fun x hx=>absurd hx (by simp))),(fun b hb=>(Zu9.1 hb).elim (fun hb=>(fun b hb=>absurd hb (by simp)) b hb) (fun hb=>(fun b hb=>absurd hb (by simp)) b hb)),hC.below⟩ (.inl rfl)
    ·replace h:=Zk h (cf hb10)
     refine ZF8 (Zd (Zm (Zx 1 ZGp rfl sc28.size rfl rfl (Z4 hC 3 (v11) rfl sc28 rfl rfl (Yb hC 0 [u10] rfl ag55 rfl rfl rfl (Jk (sz:=1) hC [(0,.agg #[u10])] [u10] rfl (fun _=>Zji u10 (Zgf (hC.getM 1 rfl)) _) rfl (by decide) fun b12 w23 hB_ hC=>?_))))))
     replace hC:=hC.pushM0 (Yk (Zr 90) [] [] []) (Zdb _ _) rfl
     replace hC:=hC.sM [3,0,1,2,4,5,6,7,8] (M':=[own 90 9 u10 r10.terms.length (ZF6.encs r10.terms),Yk (Zr 90) [] [] [],own 55 1 (.slice (some ⟨b12,0,none⟩) 1 1) 1 [u10],blk b11 55 [u10],ZGk (ZMj 55 (Zr 90)) s11 [v11] f10,blk b10 32 [v10,v11],own 2 1 v10 s10.2.length (eI.encs s10.2),own 3 1 v12 s10.1.length (eI.encs s10.1),blk b6 32 [.slice none 0 0,.slice none 0 0]]) (by decide) rfl
     replace hC:=hC.gather (c:=Yk (Zr 90) [r10] [u10] [(ZG2 (Zvi u10))]) (fun x_ hx_=>Zgl hx_) (fun h1_ h2_ hd_=>Zeb (c:=[u10]) (X5 (Jc h1_)) h2_ hd_)
     replace hC:=hC.sM [1,0,2,3,4,5,6,7] (M':=[own 55 1 (.slice (some ⟨b12,0,none⟩) 1 1) 1 [u10],Yk (Zr 90) [r10] [u10] [(ZG2 (Zvi u10))],blk b11 55 [u10],ZGk (ZMj 55 (Zr 90)) s11 [v11] f10,blk b10 32 [v10,v11],own 2 1 v10 s10.2.length (eI.encs s10.2),own 3 1 v12 s10.1.length (eI.encs s10.1),blk b6 32 [.slice none 0 0,.slice none 0 0]]) (by decide) rfl
     replace hC:=hC.gather (c:=ZGk (ZMj 55 (Zr 90)) [r10] [.slice (some ⟨b12,0,none⟩) 1 1] ((ZG2 (Zvi (.slice (some ⟨b12,0,none⟩) 1 1)))++([(ZG2 (Zvi u10))]:List (List Nat)).flatten)) (fun x_ hx_=>Zu9.1 hx_) (fun h1_ h2_ hd_=>Zag h1_ h2_ hd_)
     replace hC:=hC.sM [2,0,1,3,4,5,6] (M':=[ZGk (ZMj 55 (Zr 90)) s11 [v11] f10,ZGk (ZMj 55 (Zr 90)) [r10] [.slice (some ⟨b12,0,none⟩) 1 1] ((ZG2 (Zvi (.slice (some ⟨b12,0,none⟩) 1 1)))++([(ZG2 (Zvi u10))]:List (List Nat)).flatten),blk b11 55 [u10],blk b10 32 [v10,v11],own 2 1 v10 s10.2.length (eI.encs s10.2),own 3 1 v12 s10.1.length (eI.encs s10.1),blk b6 32 [.slice none 0 0,.slice none 0 0]]) (by decide) rfl
     obtain ⟨hm12,h⟩:=h
     refine Zgk hC ZGt Zcm rfl (by decide) (by decide) rfl rfl hm12 fun v13 f11 w24 hC=>Zx 1 ZGp rfl sc28.size rfl rfl (Zo (v:=v13) hC 2 [v13] [v10,v13] rfl sc28.size rfl rfl (Zig (ZQh _ (hC.getM 0 rfl).1)) rfl (Ye (Ja (ZQh _ (hC.getM 0 rfl).1)) rfl) (ZGe rfl) rfl fun w25 hC=>done (Zs (Zd (Zm (Zp rfl rfl (Zb (v:=vI (Zxa.wrap ((i11:Int)+1))) rfl (done ?_)))))))
     exact hK11 (s11++[r10]) _ _ ⟨v13,f11,(sl ⟨rfl,rfl,rfl,rfl,rfl,rfl,rfl,(tr rfl (congrArg _ (Z6 hi11 hN11))),trivial⟩),((hC.xM [0,2,3,4,5] rfl).sP [1,2,3,4,5] rfl)⟩ h
   refine X9 11 19 rfl rfl (by kernel_rfl) ?_ ?_
   ·skip
    refine Zf [.agg #[u15]] _ Tryz.func64 rfl rfl rfl (Zgr (a0.images.getD ((a1.getD i11 Zuw).toNat) Zuw) h _ (Yl (hC.getP 0 rfl))) ?_
    rintro _ w26 ⟨r14,b13,rfl,h,hr11,hf10,hB10⟩
    refine rt ?_
    replace hC:=hC.push hB10 (mapS b13 r14) hr11 (fun b_ hb_=>by obtain rfl:=Zwj.1 hb_; exact hf10)
    refine done (aK (by assumption) (Za 22 16383) ?_)
    refine X9 14 19 rfl rfl (by kernel_rfl) ?_ ?_
    ·skip
     refine Zf [u0_0,.map (some b13),v12,v10] _ ZQn rfl rfl rfl (Zjj a0.degrees r14 s10.1 s10.2 h _ (hC.getP 2 rfl) (hC.getM 0 rfl) (Yp (hC.getM 4 rfl)) (Yp (hC.getM 3 rfl))) ?_
     rintro _ w27 ⟨r15,b14,rfl,h,hr12,hf11,hB11⟩
     refine rt ?_
     replace hC:=hC.push hB11 (mapS b14 r15) hr12 (fun b_ hb_=>by obtain rfl:=Zwj.1 hb_; exact hf11)
     refine done (aK (by assumption) (Za 22 32767) ?_)
     refine X9 15 19 rfl rfl (by kernel_rfl) ?_ ?_
     ·skip
      refine Zf [.map (some b14)] _ ZQo rfl rfl rfl (Zgt r15 h _ (hC.getM 0 rfl)) ?_
      rintro _ w28 ⟨r13,u11,f12,r11,rfl,h,hr13,hf12,hB12⟩
      refine rt ?_
      replace hC:=hC.push hB12 (ZGk (Zr 90) r13 [u11] f12) hr13 hf12
      obtain ⟨ho10,hf13⟩:=Y8 (hC.getM 0 rfl)
      subst hf13
      replace hC:=hC.recast (c:=own 90 9 u11 r13.terms.length (ZF6.encs r13.terms)) (fun _ h_=>h_) (fun _=>ho10)
      refine done (aK (by assumption) (Za 22 65535) (bM 16 (.tuple #[.agg #[u11],vI r11]) rfl hM10 (Za 22 131071) (bF 17 (.agg #[u11]) rfl rfl hM10 (fun _=>by exact Ji (v:=.agg #[u11]) rfl rfl) (Za 22 262143) (bF 18 (vI r11) rfl rfl hM10 (fun _=>by exact Ji (v:=vI r11) rfl rfl) (Za 22 524287) (aO 19 rfl (Z1 hC [.slice none 0 0] z55 rfl fun b19 w29 hB_ hC=>done (aK (by assumption) (Za 22 1048575) (aO 20 rfl (Zo (v:=.agg #[u11]) hC 0 [u11] [u11] rfl ag55.size rfl rfl rfl rfl (Ye (Yr (hC.getM 1 rfl)) rfl) (ZGe rfl) rfl fun w30 hC=>done (Zc0 (by decide) (l9:=(Za 22 2097151)) (by kernel_rfl) (Z2 21 (by decide) (by decide) (by kernel_rfl) (by kernel_rfl) rfl (Zc (v:=vI r11) rfl (done (Z3 ?_))))))))))))))
      exact⟨rfl,_,rfl,⟨b19,u11,r13,r11,(slq rfl),(hC.xM [0,1,4,5,6,7,8] rfl),h⟩⟩
     ·skip
      refine Z1 hC [.slice none 0 0] z55 rfl fun b20 w31 hB_ hC=>done (aK (by assumption) (Za 22 557055) (aO 15 rfl (Zf [.map (some b14)] _ ZQo rfl rfl rfl (Zgt r15 h _ (hC.getM 1 rfl)) ?_)))
      rintro _ w32 ⟨r19,u12,f13,r16,rfl,h,hr14,hf14,hB13⟩
      refine rt ?_
      replace hC:=hC.push hB13 (ZGk (Zr 90) r19 [u12] f13) hr14 hf14
      obtain ⟨ho11,hf15⟩:=Y8 (hC.getM 0 rfl)
      subst hf15
      replace hC:=hC.recast (c:=own 90 9 u12 r19.terms.length (ZF6.encs r19.terms)) (fun _ h_=>h_) (fun _=>ho11)
      refine done (aK (by assumption) (Za 22 589823) (bM 16 (.tuple #[.agg #[u12],vI r16]) rfl hM10 (Za 22 655359) (bF 17 (.agg #[u12]) rfl rfl hM10 (fun _=>by exact Ji (v:=.agg #[u12]) rfl rfl) (Za 22 786431) (bF 18 (vI r16) rfl rfl hM10 (fun _=>by exact Ji (v:=vI r16) rfl rfl) (Za 22 1048575) (aO 20 rfl (Zo (v:=.agg #[u12]) hC 1 [u12] [u12] rfl ag55.size rfl rfl rfl rfl (Ye (Yr (hC.getM 0 rfl)) rfl) (ZGe rfl) rfl fun w33 hC=>done (Zc0 (by decide) (l9:=(Za 22 2097151)) (by kernel_rfl) (Z2 21 (by decide) (by decide) (by kernel_rfl) (by kernel_rfl) rfl (Zc (v:=vI r16) rfl (done (Z3 ?_)))))))))))
      exact⟨rfl,_,rfl,⟨b20,u12,r19,r16,(slq rfl),(hC.xM [1,0,4,5,6,7,8] rfl),h⟩⟩
    ·skip
     refine Z1 hC [.slice none 0 0] z55 rfl fun b21 w34 hB_ hC=>done (aK (by assumption) (Za 22 540671) (aO 14 rfl (Zf [u0_0,.map (some b13),v12,v10] _ ZQn rfl rfl rfl (Zjj a0.degrees r14 s10.1 s10.2 h _ (hC.getP 2 rfl) (hC.getM 1 rfl) (Yp (hC.getM 5 rfl)) (Yp (hC.getM 4 rfl))) ?_)))
     rintro _ w35 ⟨r22,b16,rfl,h,hr15,hf16,hB14⟩
     refine rt ?_
     replace hC:=hC.push hB14 (mapS b16 r22) hr15 (fun b_ hb_=>by obtain rfl:=Zwj.1 hb_; exact hf16)
     refine done (aK (by assumption) (Za 22 557055) (aO 15 rfl (Zf [.map (some b16)] _ ZQo rfl rfl rfl (Zgt r22 h _ (hC.getM 0 rfl)) ?_)))
     rintro _ w36 ⟨r20,u13,f14,r17,rfl,h,hr16,hf17,hB15⟩
     refine rt ?_
     replace hC:=hC.push hB15 (ZGk (Zr 90) r20 [u13] f14) hr16 hf17
     obtain ⟨ho12,hf18⟩:=Y8 (hC.getM 0 rfl)
     subst hf18
     replace hC:=hC.recast (c:=own 90 9 u13 r20.terms.length (ZF6.encs r20.terms)) (fun _ h_=>h_) (fun _=>ho12)
     refine done (aK (by assumption) (Za 22 589823) (bM 16 (.tuple #[.agg #[u13],vI r17]) rfl hM10 (Za 22 655359) (bF 17 (.agg #[u13]) rfl rfl hM10 (fun _=>by exact Ji (v:=.agg #[u13]) rfl rfl) (Za 22 786431) (bF 18 (vI r17) rfl rfl hM10 (fun _=>by exact Ji (v:=vI r17) rfl rfl) (Za 22 1048575) (aO 20 rfl (Zo (v:=.agg #[u13]) hC 2 [u13] [u13] rfl ag55.size rfl rfl rfl rfl (Ye (Yr (hC.getM 0 rfl)) rfl) (ZGe rfl) rfl fun w37 hC=>done (Zc0 (by decide) (l9:=(Za 22 2097151)) (by kernel_rfl) (Z2 21 (by decide) (by decide) (by kernel_rfl) (by kernel_rfl) rfl (Zc (v:=vI r17) rfl (done (Z3 ?_)))))))))))
     exact⟨rfl,_,rfl,⟨b21,u13,r20,r17,(slq rfl),(hC.xM [2,0,4,5,6,7,8] rfl),h⟩⟩
   ·skip
    refine Z1 hC [.slice none 0 0] z55 rfl fun b22 w38 hB_ hC=>done (aK (by assumption) (Za 22 538623) (aO 11 rfl (Zf [.agg #[u15]] _ Tryz.func64 rfl rfl rfl (Zgr (a0.images.getD ((a1.getD i11 Zuw).toNat) Zuw) h _ (Yl (hC.getP 0 rfl))) ?_)))
    rintro _ w39 ⟨r23,b17,rfl,h,hr17,hf19,hB16⟩
    refine rt ?_
    replace hC:=hC.push hB16 (mapS b17 r23) hr17 (fun b_ hb_=>by obtain rfl:=Zwj.1 hb_; exact hf19)
    refine done (aK (by assumption) (Za 22 540671) (aO 14 rfl (Zf [u0_0,.map (some b17),v12,v10] _ ZQn rfl rfl rfl (Zjj a0.degrees r23 s10.1 s10.2 h _ (hC.getP 2 rfl) (hC.getM 0 rfl) (Yp (hC.getM 5 rfl)) (Yp (hC.getM 4 rfl))) ?_)))
    rintro _ w40 ⟨r24,b18,rfl,h,hr18,hf20,hB17⟩
    refine rt ?_
    replace hC:=hC.push hB17 (mapS b18 r24) hr18 (fun b_ hb_=>by obtain rfl:=Zwj.1 hb_; exact hf20)
    refine done (aK (by assumption) (Za 22 557055) (aO 15 rfl (Zf [.map (some b18)] _ ZQo rfl rfl rfl (Zgt r24 h _ (hC.getM 0 rfl)) ?_)))
    rintro _ w41 ⟨r21,u14,f15,r18,rfl,h,hr19,hf21,hB18⟩
    refine rt ?_
    replace hC:=hC.push hB18 (ZGk (Zr 90) r21 [u14] f15) hr19 hf21
    obtain ⟨ho13,hf22⟩:=Y8 (hC.getM 0 rfl)
    subst hf22
    replace hC:=hC.recast (c:=own 90 9 u14 r21.terms.length (ZF6.encs r21.terms)) (fun _ h_=>h_) (fun _=>ho13)
    refine done (aK (by assumption) (Za 22 589823) (bM 16 (.tuple #[.agg #[u14],vI r18]) rfl hM10 (Za 22 655359) (bF 17 (.agg #[u14]) rfl rfl hM10 (fun _=>by exact Ji (v:=.agg #[u14]) rfl rfl) (Za 22 786431) (bF 18 (vI r18) rfl rfl hM10 (fun _=>by exact Ji (v:=vI r18) rfl rfl) (Za 22 1048575) (aO 20 rfl (Zo (v:=.agg #[u14]) hC 3 [u14] [u14] rfl ag55.size rfl rfl rfl rfl (Ye (Yr (hC.getM 0 rfl)) rfl) (ZGe rfl) rfl fun w42 hC=>done (Zc0 (by decide) (l9:=(Za 22 2097151)) (by kernel_rfl) (Z2 21 (by decide) (by decide) (by kernel_rfl) (by kernel_rfl) rfl (Zc (v:=vI r18) rfl (done (Z3 ?_)))))))))))
    exact⟨rfl,_,rfl,⟨b22,u14,r21,r18,(slq rfl),(hC.xM [3,0,4,5,6,7,8] rfl),h⟩⟩
  ·clear hC h
   rintro s11 e_ w43 K11 ⟨v11,f10,hS_,hC⟩ h
   rw [ue hS_]
   refine sr (Zn rfl rfl (dn (ZF5 (Z9 rfl (decide_eq_false (by omega)) ?_))))
   refine ZGj (Zl (Zl (Z5 ?_)))
   refine Zd (sr (Yb hC 1 [v10,v11] rfl ag32 rfl rfl rfl (Zo (v:=.agg #[v10,v11]) hC 4 [v10,v11] [v10,v11] rfl ag32.size rfl rfl rfl rfl (Ye (Yr (hC.getM 2 rfl)) (Ye (Ja (ZQh _ (hC.getM 0 rfl).1)) rfl)) (ZGe rfl) rfl fun w44 hC=>Zc (v:=vI 0) rfl (dn (ZGd ?_)))))
   exact Xi rfl (Y2 hC 4 rfl ag32 rfl rfl) (Zg rfl) ⟨(⟨s10.2,s11⟩:Alg),v10,v11,((ZG2 (Zvi v10))++f10),0,rfl,h,(Zea (Jc (hC.getM 2 rfl)) (hC.getM 0 rfl) (fun x hx hx'=>hC.mm 2 0 rfl rfl (by decide) x hx hx')),(fun b hb=>(Zu9.1 hb).elim (fun hb=>(X3 hC 2 rfl) b hb) (fun hb=>(Zb8 hC 0 rfl) b hb)),hC.below⟩ (.inl rfl)
  ·skip
   replace hC:=hC.pushM0 (ZGk (ZMj 55 (Zr 90)) [] [.slice none 0 0] []) (J7 _ _ _) rfl
   exact⟨.slice none 0 0,[],(slq rfl),hC⟩
 ·skip
  exact⟨v14,.slice (some ⟨b15,0,none⟩) 0 0,(slq rfl),hC⟩
def Zct (a0:Alg) (a1:List Int) (K:Alg→Int→Prop):Prop :=
 Zff a0 [] (fun r12=>Zfv a0 a1 (fun r15=>Zch (!r15) 2 (fun r13=>Zfj [r12,r13] (fun r10=>(if r10≠0 then K (⟨[],[]⟩:Alg) r10 else Zfx a0 a1 (fun r11 r14=>K r11 r14))))))
theorem Zmq (a0:Alg) (a1:List Int)  {K:Alg→Int→Prop} (h:Zct a0 a1 K) (w0:World) (q0:TAlg.rep a0 [u0_0,u0_1] fp0 w0) (q1:ZIv.rep a1 [u1_0] fp1 w0) :
  Calls ZF7 23 #[.agg #[u0_0,u0_1],u1_0] w0 fun e w'=>∃ (r0:Alg) (z0_0:Value) (z0_1:Value) (fz0:List Nat) (r1:Int),
   e=.returned (.tuple #[.agg #[z0_0,z0_1],vI r1])∧K r0 r1∧(ZGk (Zac 2 90 55) r0 [z0_0,z0_1] fz0).holds w'∧(∀ b,b∈fz0→w0.heap.size≤b)∧Bel w0 w':=by
 unfold Zct at h
 refine cof Tryz.func23 rfl 22 Tryz.ntmps23 ?_
 have hC:=ZGq (X:=Nox) w0 [ZCh TAlg a0 [u0_0,u0_1] fp0,ZCh TInts a1 [u1_0] fp1] (alc q0 (al1 q1))
 replace hC:=hC.dAlg 0 rfl
 refine sr (Yj (v:=.agg #[u0_0,u0_1]) hC [u0_0,u0_1] rfl rfl fun b5 w7 hB_ hC=>Z1 hC [.slice none 0 0,.slice none 0 0] z32 rfl fun b8 w10 hB_ hC=>Zc (v:=vI 0) rfl (dn (ZF5 (sr (Zf [vQ b5,.slice none 0 0] _ Tryz.func46 rfl rfl rfl (Zq3 a0 [] h _ (Yy (hC.getP 1 rfl) (hC.getP 0 rfl)) (hC.getM 1 rfl) (J0 _ _)) ?_)))))
 rintro _ w11 ⟨r12,rfl,h,hB10⟩
 refine rt ?_
 replace hC:=hC.grow hB10
 refine Zb (v:=u1_0) rfl (Zf [vQ b5,u1_0] _ Tryz.func52 rfl rfl rfl (Zto a0 a1 h _ (Yy (hC.getP 1 rfl) (hC.getP 0 rfl)) (hC.getM 1 rfl) (hC.getP 3 rfl)) ?_)
 rintro _ w12 ⟨r15,rfl,h,hB11⟩
 refine rt ?_
 replace hC:=hC.grow hB11
 refine Xa rfl (Zf [.bool (!r15),vI 2] _ Tryz.func47 rfl rfl rfl (Zi0 (!r15) 2 h _) ?_)
 rintro _ w13 ⟨r13,rfl,h,hB12⟩
 refine rt ?_
 replace hC:=hC.grow hB12
 refine Jk (sz:=1) hC [(0,vI r12),(1,vI r13)] (eI.encs [r12,r13]) rfl (fun _=>Ztf r12 r13 _) rfl (by decide) fun b10 w14 hB_ hC=>Zf [.slice (some ⟨b10,0,none⟩) 2 2] _ Tryz.func31 rfl rfl rfl (Zra [r12,r13] h _ (Yp (hC.getM 0 rfl))) ?_
 rintro _ w15 ⟨r10,rfl,h,hB13⟩
 refine rt ?_
 replace hC:=hC.grow hB13
 refine Zc (v:=vI r10) rfl (dn (sr (Zb (v:=vI r10) rfl (Y4 rfl rfl (dn ?_)))))
 refine Zq rfl (fun hb10=>?_) (fun hb10=>?_)
 ·replace h:=ift h (ct hb10)
  refine sr (Y5 [] rfl (Zbt   _) (Zb (v:=vI r10) rfl (Zo (v:=.agg #[.slice none 0 0,.slice none 0 0]) hC 1 [.slice none 0 0,.slice none 0 0] [.slice none 0 0,.slice none 0 0] rfl ag32.size rfl rfl rfl rfl rfl (ZGe rfl) rfl fun w16 hC=>Zc (v:=vI r10) rfl (dn ?_))))
  refine ZGd (Ze ?_)
  exact Xi rfl (Y2 hC 1 rfl ag32 rfl rfl) (Zg rfl) ⟨(⟨[],[]⟩:Alg),.slice none 0 0,.slice none 0 0,([]++[]),r10,rfl,h,(Zea (J7 _ _ _) (J7 _ _ _) (fun x hx=>absurd hx (by simp))),(fun b hb=>(Zu9.1 hb).elim (fun hb=>(fun b hb=>absurd hb (by simp)) b hb) (fun hb=>(fun b hb=>absurd hb (by simp)) b hb)),hC.below⟩ (.inl rfl)
 ·replace h:=Zk h (cf hb10)
  refine ZF8 (Zd (sr (Zb (v:=u1_0) rfl (Zf [vQ b5,u1_0] _ Tryz.func53 rfl rfl rfl (Ztq a0 a1 h _ (Yy (hC.getP 1 rfl) (hC.getP 0 rfl)) (hC.getM 2 rfl) (hC.getP 3 rfl)) ?_))))
  rintro _ w17 ⟨r11,u10,u11,f11,r14,rfl,h,hr10,hf10,hB14⟩
  refine rt ?_
  replace hC:=hC.push hB14 (ZGk (Zac 2 90 55) r11 [u10,u11] f11) hr10 hf10
  obtain ⟨f10,ho10,ho11,hs10,hs11,hd10⟩:=Zb9 (hC.getM 0 rfl)
  replace hC:=hC.split (a:=own 2 1 u10 r11.degrees.length (eI.encs r11.degrees)) (b:=ZGk (ZMj 55 (Zr 90)) r11.images [u11] f10) hs10 hs11 ⟨ho10,ho11,hd10⟩
  refine Yu (v:=.agg #[u10,u11]) rfl rfl (Yu (v:=vI r14) rfl rfl (Zo (v:=.agg #[u10,u11]) hC 3 [u10,u11] [u10,u11] rfl ag32.size rfl rfl rfl rfl (Ye (Yr (hC.getM 0 rfl)) (Ye (Ja (ZQh _ (hC.getM 1 rfl).1)) rfl)) (ZGe rfl) rfl fun w18 hC=>Zc (v:=vI r14) rfl (dn (ZGd ?_))))
  exact Xi rfl (Y2 hC 3 rfl ag32 rfl rfl) (Zg rfl) ⟨r11,u10,u11,((ZG2 (Zvi u10))++f10),r14,rfl,h,(Zea (Jc (hC.getM 0 rfl)) (hC.getM 1 rfl) (fun x hx hx'=>hC.mm 0 1 rfl rfl (by decide) x hx hx')),(fun b hb=>(Zu9.1 hb).elim (fun hb=>(X3 hC 0 rfl) b hb) (fun hb=>(Zb8 hC 1 rfl) b hb)),hC.below⟩ (.inl rfl)
def Zhs (a0:Alg) (a1:List Int) (K:Bool→Prop):Prop :=
 (if(a1.length:Int) > 1048576 then K true else Zfh a0 1048576 (fun r30=>(if r30 < 0 then K true else Zbp a0 (fun r16=>Za7 a1 (fun r19=>Zfu (⟨r16.degrees,r16.images⟩:Alg) r19 (fun r12 r13=>Zbp (⟨a0.degrees,a0.images⟩:Alg) (fun r17=>Za7 a1 (fun r14=>Zct r17 r14 (fun r10 r18=>Zba r10 r12 (fun r31=>(if¬ (r31=true) then K false else(if r18≠r13 then K false else Zbp (⟨a0.degrees,a0.images⟩:Alg) (fun r11=>Zba r17 r11 (fun r33=>(if¬ (r33=true) then K false else Za7 a1 (fun r15=>Zcg r14 r15 (fun r34=>(if¬ (r34=true) then K false else Zbr r17 1 (fun r23 m11=>Zbq r14 r23 (fun r24 m12=>(if r24 < 0 then K false else Zba (⟨r10.degrees,r10.images⟩:Alg) (⟨r12.degrees,r12.images⟩:Alg) (fun r29=>(if¬ (r29=true) then K false else Zbr (⟨r10.degrees,r10.images⟩:Alg) 1 (fun r25 m10=>Zdn (⟨m10.degrees,m10.images⟩:Alg) 1 (fun r26=>(if r26 < 0 then K false else(if r26≠r25 then K false else Zbp (⟨a0.degrees,a0.images⟩:Alg) (fun r20=>Za7 a1 (fun r27=>Zct r20 r27 (fun r21 r22=>Zba r21 (⟨r12.degrees,r12.images⟩:Alg) (fun r32=>(if¬ (r32=true) then K false else(if r22≠r13 then K false else Zdn (⟨m10.degrees,m10.images⟩:Alg) 1 (fun r28=>(if r28 < 0 then K false else(if r28≠r25 then K false else K true))))))))))))))))))))))))))))))))))))
theorem Ztr (a0 : Alg) (a1 : List Int)  {K : Bool → Prop} (h : Zhs a0 a1 K) (w0 : World) (q0 : TAlg.rep a0 [u0_0, u0_1] fp0 w0) (q1 : ZIv.rep a1 [u1_0] fp1 w0) :
  Calls ZF7 5 #[.agg #[u0_0,u0_1],u1_0] w0 fun e w'=>∃ (r0:Bool),
   e=.returned (.bool r0)∧K r0∧Bel w0 w':=by
 unfold Zhs at h
 refine cof Tryz.func5 rfl 117 Tryz.ntmps5 ?_
 have hC:=ZGq (X:=Nox) w0 [ZCh TAlg a0 [u0_0,u0_1] fp0,ZCh TInts a1 [u1_0] fp1] (alc q0 (al1 q1))
 replace hC:=hC.dAlg 0 rfl
 refine sr (Yj (v:=.agg #[u0_0,u0_1]) hC [u0_0,u0_1] rfl rfl fun b5 w7 hB_ hC=>Zc (v:=.bool false) rfl (dn (ZF5 (sr (Zb (v:=u1_0) rfl (Zv hC 3 rfl ZGo rfl (Xy rfl rfl (dn ?_))))))))
 refine Zq rfl (fun hb15=>?_) (fun hb15=>?_)
 ·replace h:=ift h (ct hb15)
  refine sr (Zc (v:=.bool true) rfl (dn ?_))
  refine ZGd (Ze ?_)
  exact Zj rfl (Zg rfl) ⟨true,rfl,h,hC.below⟩ (.inl rfl)
 ·replace h := Zk h (cf hb15)
  refine ZF8 (Zd (sr (Zc (v:=vI 1048576) rfl (dn (sr (Yb hC 0 [u0_0,u0_1] rfl Zfr rfl rfl rfl (Zb (v:=vI 1048576) rfl (Zf [.agg #[u0_0,u0_1],vI 1048576] _ Tryz.func6 rfl rfl rfl (Zq8 a0 1048576 h _ (Yy (hC.getP 1 rfl) (hC.getP 0 rfl))) ?_))))))))
  rintro _ w10 ⟨r30,rfl,h,hB13⟩
  refine rt ?_
  replace hC:=hC.grow hB13
  refine Zc (v:=vI r30) rfl (dn (ZF5 (sr (Zb (v:=vI r30) rfl (Zn rfl rfl (dn ?_))))))
  refine Zq rfl (fun hb16=>?_) (fun hb16=>?_)
  ·replace h:=ift h (ct hb16)
   refine sr (Zc (v:=.bool true) rfl (dn ?_))
   refine ZGd (Ze ?_)
   exact Zj rfl (Zg rfl) ⟨true,rfl,h,hC.below⟩ (.inl rfl)
  ·replace h := Zk h (cf hb16)
   refine ZF8 (Zd (sr (Yb hC 0 [u0_0,u0_1] rfl Zfr rfl rfl rfl (Zf [.agg #[u0_0,u0_1]] _ ZQp rfl rfl rfl (Zg9 a0 h _ (Yy (hC.getP 1 rfl) (hC.getP 0 rfl))) ?_))))
   rintro _ w11 ⟨r16,u22,u24,f15,rfl,h,hr10,hf11,hB14⟩
   refine rt ?_
   replace hC:=hC.push hB14 (ZGk (Zac 2 90 55) r16 [u22,u24] f15) hr10 hf11
   obtain ⟨f13,ho10,ho11,hs10,hs11,hd10⟩:=Zb9 (hC.getM 0 rfl)
   replace hC:=hC.split (a:=own 2 1 u22 r16.degrees.length (eI.encs r16.degrees)) (b:=ZGk (ZMj 55 (Zr 90)) r16.images [u24] f13) hs10 hs11 ⟨ho10,ho11,hd10⟩
   refine Zb (v:=u1_0) rfl (Zf [u1_0] _ ZQq rfl rfl rfl (Zey a1 h _ (hC.getP 3 rfl)) ?_)
   rintro _ w12 ⟨r19,u23,f16,rfl,h,hr11,hf12,hB15⟩
   refine rt ?_
   replace hC:=hC.push hB15 (ZGk (ZMj 2 (eI.tr)) r19 [u23] f16) hr11 hf12
   obtain ⟨ho12,hf13⟩:=Zat (hC.getM 0 rfl).1
   subst hf13
   replace hC:=hC.recast (c:=own 2 1 u23 r19.length (eI.encs r19)) (fun _ h_=>h_) (fun _=>ho12)
   have hs12:=X3 hC 1 rfl
   replace hC:=hC.thaw 1 rfl (ZCh TInts r16.degrees [u22] (ZG2 (Zvi u22))) Yp (fun _ hb_=>hb_)
   have hs13:=Zb8 hC 1 rfl
   replace hC:=hC.thaw 1 rfl (ZCh ZGr.sl r16.images [u24] f13) (fun h_=>ZQh _ h_.1) (fun _ hb_=>hb_)
   have hs14:=X3 hC 0 rfl
   replace hC:=hC.thaw 0 rfl (ZCh TInts r19 [u23] (ZG2 (Zvi u23))) Yp (fun _ hb_=>hb_)
   refine Zf [.agg #[u22,u24],u23] _ Tryz.func22 rfl rfl rfl (Ztm (⟨r16.degrees,r16.images⟩:Alg) r19 h _ (Yy (hC.getP 2 rfl) (hC.getP 1 rfl)) (hC.getP 0 rfl)) ?_
   rintro _ w13 ⟨r12,u14,u15,f14,r13,rfl,h,hr12,hf10,hB16⟩
   refine rt ?_
   have hs25:∀ b,b∈f14→w0.heap.size≤b:=(fun b hb=>(hf10 b hb).elim (fun h_=>Zux hC.size h_) (fun hb=>(Zu9.1 hb).elim (fun hb=>(Zu9.1 hb).elim (fun hb=>hs12 b hb) (fun hb=>hs13 b hb)) (fun hb=>hs14 b hb)))
   replace hC:=hC.pushR hB16 (ZCh TAlg r12 [u14,u15] f14) hr12 (fun b hb=>(hf10 b hb).elim .inl (fun hb=>.inr ((Zu9.1 hb).elim (fun hb=>(Zu9.1 hb).elim (fun hb=>⟨_,mg 2 rfl,hb⟩) (fun hb=>⟨_,mg 1 rfl,hb⟩)) (fun hb=>⟨_,mg 0 rfl,hb⟩))))
   replace hC:=hC.dAlg 0 rfl
   refine Zb (v:=.tuple #[.agg #[u14,u15],vI r13]) rfl (Yu (v:=.agg #[u14,u15]) rfl rfl (Yu (v:=vI r13) rfl rfl (Z1 hC [.slice none 0 0,.slice none 0 0] z32 rfl fun b10 w14 hB_ hC=>Zo (v:=.agg #[u14,u15]) hC 0 [u14,u15] [u14,u15] rfl ag32.size rfl rfl rfl rfl (Ye (Ja (hC.getP 1 rfl)) (Ye (Ja (hC.getP 0 rfl)) rfl)) (ZGe rfl) rfl fun w15 hC=>Zc (v:=vI r13) rfl (dn (sr (Yb hC 1 [u0_0,u0_1] rfl Zfr rfl rfl rfl (Zf [.agg #[u0_0,u0_1]] _ ZQp rfl rfl rfl (Zg9 (⟨a0.degrees,a0.images⟩:Alg) h _ (Yy (hC.getP 7 rfl) (hC.getP 6 rfl))) ?_)))))))
   rintro _ w16 ⟨r17,u12,u13,f17,rfl,h,hr13,hf14,hB17⟩
   refine rt ?_
   replace hC:=hC.push hB17 (ZGk (Zac 2 90 55) r17 [u12,u13] f17) hr13 hf14
   obtain ⟨f10,ho13,ho14,hs15,hs16,hd11⟩:=Zb9 (hC.getM 0 rfl)
   replace hC:=hC.split (a:=own 2 1 u12 r17.degrees.length (eI.encs r17.degrees)) (b:=ZGk (ZMj 55 (Zr 90)) r17.images [u13] f10) hs15 hs16 ⟨ho13,ho14,hd11⟩
   refine Z1 hC [.slice none 0 0,.slice none 0 0] z32 rfl fun b11 w17 hB_ hC=>Zo (v:=.agg #[u12,u13]) hC 0 [u12,u13] [u12,u13] rfl ag32.size rfl rfl rfl rfl (Ye (Yr (hC.getM 1 rfl)) (Ye (Ja (ZQh _ (hC.getM 2 rfl).1)) rfl)) (ZGe rfl) rfl fun w18 hC=>dn (sr (Zb (v:=u1_0) rfl (Zf [u1_0] _ ZQq rfl rfl rfl (Zey a1 h _ (hC.getP 9 rfl)) ?_)))
   rintro _ w19 ⟨r14,u16,f18,rfl,h,hr14,hf15,hB18⟩
   refine rt ?_
   replace hC:=hC.push hB18 (ZGk (ZMj 2 (eI.tr)) r14 [u16] f18) hr14 hf15
   obtain ⟨ho15,hf16⟩:=Zat (hC.getM 0 rfl).1
   subst hf16
   replace hC:=hC.recast (c:=own 2 1 u16 r14.length (eI.encs r14)) (fun _ h_=>h_) (fun _=>ho15)
   refine Zc (v:=u16) rfl (dn (sr (Yb hC 1 [u12,u13] rfl ag32 rfl rfl rfl (Zb (v:=u16) rfl (Zf [.agg #[u12,u13],u16] _ Tryz.func23 rfl rfl rfl (Zmq r17 r14 h _ (Yy (Yp (hC.getM 2 rfl)) (ZQh _ (hC.getM 3 rfl).1)) (Yp (hC.getM 0 rfl))) ?_)))))
   rintro _ w20 ⟨r10,u10,u11,f19,r18,rfl,h,hr15,hf17,hB19⟩
   refine rt ?_
   replace hC:=hC.push hB19 (ZGk (Zac 2 90 55) r10 [u10,u11] f19) hr15 hf17
   obtain ⟨f11,ho16,ho17,hs17,hs18,hd12⟩:=Zb9 (hC.getM 0 rfl)
   replace hC:=hC.split (a:=own 2 1 u10 r10.degrees.length (eI.encs r10.degrees)) (b:=ZGk (ZMj 55 (Zr 90)) r10.images [u11] f11) hs17 hs18 ⟨ho16,ho17,hd12⟩
   refine Zb (v:=.tuple #[.agg #[u10,u11],vI r18]) rfl (Yu (v:=.agg #[u10,u11]) rfl rfl (Yu (v:=vI r18) rfl rfl (Z1 hC [.slice none 0 0,.slice none 0 0] z32 rfl fun b12 w21 hB_ hC=>Zo (v:=.agg #[u10,u11]) hC 0 [u10,u11] [u10,u11] rfl ag32.size rfl rfl rfl rfl (Ye (Yr (hC.getM 1 rfl)) (Ye (Ja (ZQh _ (hC.getM 2 rfl).1)) rfl)) (ZGe rfl) rfl fun w22 hC=>Zc (v:=vI r18) rfl (dn (ZF5 (sr (Yb hC 0 [u10,u11] rfl ag32 rfl rfl rfl (Yb hC 7 [u14,u15] rfl ag32 rfl rfl rfl (Zf [.agg #[u10,u11],.agg #[u14,u15]] _ ZQr rfl rfl rfl (Zha r10 r12 h _ (Yy (Yp (hC.getM 1 rfl)) (ZQh _ (hC.getM 2 rfl).1)) (Yy (hC.getP 1 rfl) (hC.getP 0 rfl))) ?_)))))))))
   rintro _ w23 ⟨r31,rfl,h,hB20⟩
   refine rt ?_
   replace hC:=hC.grow hB20
   refine Xa rfl (Zb (v:=.bool (!r31)) rfl ?_)
   refine Y1 (!r31) (fun hb11=>?_) (fun hb11=>?_)
   ·replace h:=ift h (Y0 (Xf hb11))
    refine Zh (b:=true) 4 47 rfl (tr rfl (congrArg _ hb11)) (by decide) (Zh (b:=true) 4 47 rfl (tr rfl (congrArg _ hb11)) (by decide) (Zh (b:=true) 4 47 rfl (tr rfl (congrArg _ hb11)) (by decide) (Z0 (v:=.bool true) (b:=true) (tr rfl (congrArg _ hb11)) rfl (dn (Z8 rfl rfl (sr (Zc (v:=.bool false) rfl (dn ?_))))))))
    refine ZGd (Ze ?_)
    exact Zj rfl (Zg rfl) ⟨false,rfl,h,hC.below⟩ (.inl rfl)
   ·replace h := Zk h (not_not_intro ((Xg hb11)))
    refine Zi 4 47 rfl rfl hb11 (Zb (v:=vI r18) rfl (Zi 4 47 rfl rfl hb11 (Zb (v:=vI r13) rfl (Zi 4 47 rfl rfl hb11 (Y4 rfl rfl (Z0 (v:=.bool (decide (r18≠r13))) (b:=false) (tr rfl (congrArg _ hb11)) rfl (dn ?_)))))))
    refine Zq rfl (fun hb14=>?_) (fun hb14=>?_)
    ·replace h:=ift h (ct hb14)
     refine sr (Zc (v:=.bool false) rfl (dn ?_))
     refine ZGd (Ze ?_)
     exact Zj rfl (Zg rfl) ⟨false,rfl,h,hC.below⟩ (.inl rfl)
    ·replace h := Zk h (cf hb14)
     refine ZF8 (Zd (ZF5 (ZF5 ?_)))
     refine cwd 3 mixed [0,0,2,7,15] [0,1] [] (fun hM10 hM11 w24 hB_=>?_)
     replace hC:=hC.grow hB_
     refine bL 0 (.agg #[u12,u13]) rfl rfl hM10 (fun _ hB_=>by exact Y9 (hC.grow hB_) 4 [u12,u13] rfl ag32 rfl rfl rfl) (Za 5 1) (bL 1 (.agg #[u0_0,u0_1]) rfl rfl hM10 (fun _ hB_=>by exact Y9 (hC.grow hB_) 8 [u0_0,u0_1] rfl Zfr rfl rfl rfl) (Za 5 3) (aO 2 rfl (Zf [.agg #[u0_0,u0_1]] _ ZQp rfl rfl rfl (Zg9 (⟨a0.degrees,a0.images⟩:Alg) h _ (Yy (hC.getP 7 rfl) (hC.getP 6 rfl))) ?_)))
     rintro _ w25 ⟨r11,u19,u20,f20,rfl,h,hr16,hf18,hB21⟩
     refine rt ?_
     replace hC:=hC.push hB21 (ZGk (Zac 2 90 55) r11 [u19,u20] f20) hr16 hf18
     obtain ⟨f12,ho18,ho19,hs19,hs20,hd13⟩:=Zb9 (hC.getM 0 rfl)
     replace hC:=hC.split (a:=own 2 1 u19 r11.degrees.length (eI.encs r11.degrees)) (b:=ZGk (ZMj 55 (Zr 90)) r11.images [u20] f12) hs19 hs20 ⟨ho18,ho19,hd13⟩
     refine done (aK (by assumption) (Za 5 7) (Z2 3 (by decide) (by decide) (by kernel_rfl) (by kernel_rfl) rfl (Zf [.agg #[u12,u13],.agg #[u19,u20]] _ ZQr rfl rfl rfl (Zha r17 r11 h _ (Yy (Yp (hC.getM 7 rfl)) (ZQh _ (hC.getM 8 rfl).1)) (Yy (Yp (hC.getM 0 rfl)) (ZQh _ (hC.getM 1 rfl).1))) ?_)))
     rintro _ w26 ⟨r33,rfl,h,hB22⟩
     refine rt ?_
     replace hC:=hC.grow hB22
     refine Xa rfl (done (Z3 (Zd ?_)))
     refine Zq rfl (fun hb17=>?_) (fun hb17=>?_)
     ·replace h:=ift h (Y0 (Xf hb17))
      refine sr (Zc (v:=.bool false) rfl (dn ?_))
      refine ZGd (Ze ?_)
      exact Zj rfl (Zg rfl) ⟨false,rfl,h,hC.below⟩ (.inl rfl)
     ·replace h := Zk h (not_not_intro ((Xg hb17)))
      refine ZF8 (Zd (ZF5 (sr (Zb (v:=u16) rfl (Zb (v:=u1_0) rfl (Zf [u1_0] _ ZQq rfl rfl rfl (Zey a1 h _ (hC.getP 9 rfl)) ?_))))))
      rintro _ w27 ⟨r15,u21,f21,rfl,h,hr17,hf19,hB23⟩
      refine rt ?_
      replace hC:=hC.push hB23 (ZGk (ZMj 2 (eI.tr)) r15 [u21] f21) hr17 hf19
      obtain ⟨ho20,hf20⟩:=Zat (hC.getM 0 rfl).1
      subst hf20
      replace hC:=hC.recast (c:=own 2 1 u21 r15.length (eI.encs r15)) (fun _ h_=>h_) (fun _=>ho20)
      refine Zf [u16,u21] _ Tryz.func20 rfl rfl rfl (Zk9 r14 r15 h _ (Yp (hC.getM 6 rfl)) (Yp (hC.getM 0 rfl))) ?_
      rintro _ w28 ⟨r34,rfl,h,hB24⟩
      refine rt ?_
      replace hC:=hC.grow hB24
      refine Xa rfl (dn ?_)
      refine Zq rfl (fun hb18=>?_) (fun hb18=>?_)
      ·replace h:=ift h (Y0 (Xf hb18))
       refine sr (Zc (v:=.bool false) rfl (dn ?_))
       refine ZGd (Ze ?_)
       exact Zj rfl (Zg rfl) ⟨false,rfl,h,hC.below⟩ (.inl rfl)
      ·replace h := Zk h (not_not_intro ((Xg hb18)))
       refine ZF8 (Zd (sr (Zc (v:=vI 1) rfl (dn (sr (Yb hC 7 [u12,u13] rfl ag32 rfl rfl rfl (Zb (v:=vI 1) rfl (Zf [.agg #[u12,u13],vI 1] _ Tryz.func14 rfl rfl rfl (Zlr r17 1 h _ (hC.getM 8 rfl) (hC.getM 9 rfl) (hC.mm 8 9 rfl rfl (by decide))) ?_))))))))
       rintro _ w29 ⟨r23,m11,rfl,h,hm10,hm11,hB11⟩
       refine rt ?_
       replace hC:=hC.turnL hB11 (M':=[own 2 1 u21 r15.length (eI.encs r15),own 2 1 u19 r11.degrees.length (eI.encs r11.degrees),ZGk (ZMj 55 (Zr 90)) r11.images [u20] f12,blk b12 32 [u10,u11],own 2 1 u10 r10.degrees.length (eI.encs r10.degrees),ZGk (ZMj 55 (Zr 90)) r10.images [u11] f11,own 2 1 u16 r14.length (eI.encs r14),blk b11 32 [u12,u13],own 2 1 u12 m11.degrees.length (eI.encs m11.degrees),ZGk (ZMj 55 (Zr 90)) m11.images [u13] f10,blk b10 32 [u14,u15],blk b5 25 [u0_0,u0_1]]) rfl (fun x_ hx_=>(Zu9.1 hx_).elim (fun hx_=>⟨_,mg 8 rfl,hx_⟩) (fun hx_=>⟨_,mg 9 rfl,hx_⟩)) (by simp only [Zus,Zwy,or_false,forall_eq_or_imp,forall_eq]; exact⟨(hC.stay 0 rfl hB11 (fun x_ hq_ hx_=>(Zu9.1 hx_).elim (fun hx_=>hC.mm 0 8 rfl rfl (by decide) x_ hq_ hx_) (fun hx_=>hC.mm 0 9 rfl rfl (by decide) x_ hq_ hx_))),(hC.stay 1 rfl hB11 (fun x_ hq_ hx_=>(Zu9.1 hx_).elim (fun hx_=>hC.mm 1 8 rfl rfl (by decide) x_ hq_ hx_) (fun hx_=>hC.mm 1 9 rfl rfl (by decide) x_ hq_ hx_))),(hC.stay 2 rfl hB11 (fun x_ hq_ hx_=>(Zu9.1 hx_).elim (fun hx_=>hC.mm 2 8 rfl rfl (by decide) x_ hq_ hx_) (fun hx_=>hC.mm 2 9 rfl rfl (by decide) x_ hq_ hx_))),(hC.stay 3 rfl hB11 (fun x_ hq_ hx_=>(Zu9.1 hx_).elim (fun hx_=>hC.mm 3 8 rfl rfl (by decide) x_ hq_ hx_) (fun hx_=>hC.mm 3 9 rfl rfl (by decide) x_ hq_ hx_))),(hC.stay 4 rfl hB11 (fun x_ hq_ hx_=>(Zu9.1 hx_).elim (fun hx_=>hC.mm 4 8 rfl rfl (by decide) x_ hq_ hx_) (fun hx_=>hC.mm 4 9 rfl rfl (by decide) x_ hq_ hx_))),(hC.stay 5 rfl hB11 (fun x_ hq_ hx_=>(Zu9.1 hx_).elim (fun hx_=>hC.mm 5 8 rfl rfl (by decide) x_ hq_ hx_) (fun hx_=>hC.mm 5 9 rfl rfl (by decide) x_ hq_ hx_))),(hC.stay 6 rfl hB11 (fun x_ hq_ hx_=>(Zu9.1 hx_).elim (fun hx_=>hC.mm 6 8 rfl rfl (by decide) x_ hq_ hx_) (fun hx_=>hC.mm 6 9 rfl rfl (by decide) x_ hq_ hx_))),(hC.stay 7 rfl hB11 (fun x_ hq_ hx_=>(Zu9.1 hx_).elim (fun hx_=>hC.mm 7 8 rfl rfl (by decide) x_ hq_ hx_) (fun hx_=>hC.mm 7 9 rfl rfl (by decide) x_ hq_ hx_))),hm10,hm11,(hC.stay 10 rfl hB11 (fun x_ hq_ hx_=>(Zu9.1 hx_).elim (fun hx_=>hC.mm 10 8 rfl rfl (by decide) x_ hq_ hx_) (fun hx_=>hC.mm 10 9 rfl rfl (by decide) x_ hq_ hx_))),(hC.stay 11 rfl hB11 (fun x_ hq_ hx_=>(Zu9.1 hx_).elim (fun hx_=>hC.mm 11 8 rfl rfl (by decide) x_ hq_ hx_) (fun hx_=>hC.mm 11 9 rfl rfl (by decide) x_ hq_ hx_)))⟩)
       refine Zc (v:=vI r23) rfl (dn (sr (Zb (v:=u16) rfl (Zb (v:=vI r23) rfl (Zf [u16,vI r23] _ Tryz.func21 rfl rfl rfl (Zlq r14 r23 h _ (hC.getM 6 rfl)) ?_)))))
       rintro _ w30 ⟨r24,m12,rfl,h,hm12,hB10⟩
       refine rt ?_
       replace hC:=hC.turnL hB10 (M':=[own 2 1 u21 r15.length (eI.encs r15),own 2 1 u19 r11.degrees.length (eI.encs r11.degrees),ZGk (ZMj 55 (Zr 90)) r11.images [u20] f12,blk b12 32 [u10,u11],own 2 1 u10 r10.degrees.length (eI.encs r10.degrees),ZGk (ZMj 55 (Zr 90)) r10.images [u11] f11,own 2 1 u16 m12.length (eI.encs m12),blk b11 32 [u12,u13],own 2 1 u12 m11.degrees.length (eI.encs m11.degrees),ZGk (ZMj 55 (Zr 90)) m11.images [u13] f10,blk b10 32 [u14,u15],blk b5 25 [u0_0,u0_1]]) rfl (fun x_ hx_=>⟨_,mg 6 rfl,hx_⟩) (by simp only [Zus,Zwy,or_false,forall_eq_or_imp,forall_eq]; exact⟨(hC.stay 0 rfl hB10 (fun x_ hq_ hx_=>hC.mm 0 6 rfl rfl (by decide) x_ hq_ hx_)),(hC.stay 1 rfl hB10 (fun x_ hq_ hx_=>hC.mm 1 6 rfl rfl (by decide) x_ hq_ hx_)),(hC.stay 2 rfl hB10 (fun x_ hq_ hx_=>hC.mm 2 6 rfl rfl (by decide) x_ hq_ hx_)),(hC.stay 3 rfl hB10 (fun x_ hq_ hx_=>hC.mm 3 6 rfl rfl (by decide) x_ hq_ hx_)),(hC.stay 4 rfl hB10 (fun x_ hq_ hx_=>hC.mm 4 6 rfl rfl (by decide) x_ hq_ hx_)),(hC.stay 5 rfl hB10 (fun x_ hq_ hx_=>hC.mm 5 6 rfl rfl (by decide) x_ hq_ hx_)),hm12,(hC.stay 7 rfl hB10 (fun x_ hq_ hx_=>hC.mm 7 6 rfl rfl (by decide) x_ hq_ hx_)),(hC.stay 8 rfl hB10 (fun x_ hq_ hx_=>hC.mm 8 6 rfl rfl (by decide) x_ hq_ hx_)),(hC.stay 9 rfl hB10 (fun x_ hq_ hx_=>hC.mm 9 6 rfl rfl (by decide) x_ hq_ hx_)),(hC.stay 10 rfl hB10 (fun x_ hq_ hx_=>hC.mm 10 6 rfl rfl (by decide) x_ hq_ hx_)),(hC.stay 11 rfl hB10 (fun x_ hq_ hx_=>hC.mm 11 6 rfl rfl (by decide) x_ hq_ hx_))⟩)
       refine Zc (v:=vI r24) rfl (dn (ZF5 (sr (Zb (v:=vI r24) rfl (Zn rfl rfl (Zb (v:=.bool (decide (r24 < 0))) rfl ?_))))))
       refine Y1 (decide (r24 < 0)) (fun hb10=>?_) (fun hb10=>?_)
       ·replace h:=ift h (ct hb10)
        refine Zh (b:=true) 2 70 rfl (tr rfl (congrArg _ hb10)) (by decide) (Zh (b:=true) 2 70 rfl (tr rfl (congrArg _ hb10)) (by decide) (Zh (b:=true) 2 70 rfl (tr rfl (congrArg _ hb10)) (by decide) (Zh (b:=true) 2 70 rfl (tr rfl (congrArg _ hb10)) (by decide) (Z0 (v:=.bool true) (b:=true) (tr rfl (congrArg _ hb10)) rfl (Zb (v:=.bool true) rfl (Zh (b:=true) 8 76 rfl (tr rfl (congrArg _ rfl)) (by decide) (Zh (b:=true) 8 76 rfl (tr rfl (congrArg _ rfl)) (by decide) (Zh (b:=true) 8 76 rfl (tr rfl (congrArg _ rfl)) (by decide) (Z0 (v:=.bool true) (b:=true) rfl rfl (dn (Z8 rfl rfl (sr (Zc (v:=.bool false) rfl (dn ?_))))))))))))))
        refine ZGd (Ze ?_)
        exact Zj rfl (Zg rfl) ⟨false,rfl,h,hC.below⟩ (.inl rfl)
       ·replace h:=Zk h (cf hb10)
        refine Zi 2 70 rfl rfl hb10 (Yb hC 3 [u10,u11] rfl ag32 rfl rfl rfl (Zi 2 70 rfl rfl hb10 (Yb hC 10 [u14,u15] rfl ag32 rfl rfl rfl (Zi 2 70 rfl rfl hb10 (Zf [.agg #[u10,u11],.agg #[u14,u15]] _ ZQr rfl rfl rfl (Zha (⟨r10.degrees,r10.images⟩:Alg) (⟨r12.degrees,r12.images⟩:Alg) h _ (Yy (Yp (hC.getM 4 rfl)) (ZQh _ (hC.getM 5 rfl).1)) (Yy (hC.getP 1 rfl) (hC.getP 0 rfl))) ?_)))))
        rintro _ w31 ⟨r29,rfl,h,hB25⟩
        refine rt ?_
        replace hC:=hC.grow hB25
        refine Zi 2 70 rfl rfl hb10 (Xa rfl (Z0 (v:=.bool (!r29)) (b:=false) (tr rfl (congrArg _ hb10)) rfl (Zb (v:=.bool (!r29)) rfl ?_)))
        refine Y1 (!r29) (fun hb12=>?_) (fun hb12=>?_)
        ·replace h:=ift h (Y0 (Xf hb12))
         refine Zh (b:=true) 8 76 rfl (tr rfl (congrArg _ hb12)) (by decide) (Zh (b:=true) 8 76 rfl (tr rfl (congrArg _ hb12)) (by decide) (Zh (b:=true) 8 76 rfl (tr rfl (congrArg _ hb12)) (by decide) (Z0 (v:=.bool true) (b:=true) (tr rfl (congrArg _ hb12)) rfl (dn (Z8 rfl rfl (sr (Zc (v:=.bool false) rfl (dn ?_))))))))
         refine ZGd (Ze ?_)
         exact Zj rfl (Zg rfl) ⟨false,rfl,h,hC.below⟩ (.inl rfl)
        ·replace h:=Zk h (not_not_intro ((Xg hb12)))
         refine Zi 8 76 rfl rfl hb12 (Zb (v:=vI r18) rfl (Zi 8 76 rfl rfl hb12 (Zb (v:=vI r13) rfl (Zi 8 76 rfl rfl hb12 (Y4 rfl rfl (Z0 (v:=.bool (decide (r18≠r13))) (b:=false) (tr rfl (congrArg _ hb12)) rfl (dn (Z9 rfl hb14 (ZF8 (Zd (sr (Zc (v:=vI 1) rfl (dn (sr (Yb hC 3 [u10,u11] rfl ag32 rfl rfl rfl (Zb (v:=vI 1) rfl (Zf [.agg #[u10,u11],vI 1] _ Tryz.func14 rfl rfl rfl (Zlr (⟨r10.degrees,r10.images⟩:Alg) 1 h _ (hC.getM 4 rfl) (hC.getM 5 rfl) (hC.mm 4 5 rfl rfl (by decide))) ?_)))))))))))))))))
         rintro _ w32 ⟨r25,m10,rfl,h,hm13,hm14,hB12⟩
         refine rt ?_
         replace hC:=hC.turnL hB12 (M':=[own 2 1 u21 r15.length (eI.encs r15),own 2 1 u19 r11.degrees.length (eI.encs r11.degrees),ZGk (ZMj 55 (Zr 90)) r11.images [u20] f12,blk b12 32 [u10,u11],own 2 1 u10 m10.degrees.length (eI.encs m10.degrees),ZGk (ZMj 55 (Zr 90)) m10.images [u11] f11,own 2 1 u16 m12.length (eI.encs m12),blk b11 32 [u12,u13],own 2 1 u12 m11.degrees.length (eI.encs m11.degrees),ZGk (ZMj 55 (Zr 90)) m11.images [u13] f10,blk b10 32 [u14,u15],blk b5 25 [u0_0,u0_1]]) rfl (fun x_ hx_=>(Zu9.1 hx_).elim (fun hx_=>⟨_,mg 4 rfl,hx_⟩) (fun hx_=>⟨_,mg 5 rfl,hx_⟩)) (by simp only [Zus,Zwy,or_false,forall_eq_or_imp,forall_eq]; exact⟨(hC.stay 0 rfl hB12 (fun x_ hq_ hx_=>(Zu9.1 hx_).elim (fun hx_=>hC.mm 0 4 rfl rfl (by decide) x_ hq_ hx_) (fun hx_=>hC.mm 0 5 rfl rfl (by decide) x_ hq_ hx_))),(hC.stay 1 rfl hB12 (fun x_ hq_ hx_=>(Zu9.1 hx_).elim (fun hx_=>hC.mm 1 4 rfl rfl (by decide) x_ hq_ hx_) (fun hx_=>hC.mm 1 5 rfl rfl (by decide) x_ hq_ hx_))),(hC.stay 2 rfl hB12 (fun x_ hq_ hx_=>(Zu9.1 hx_).elim (fun hx_=>hC.mm 2 4 rfl rfl (by decide) x_ hq_ hx_) (fun hx_=>hC.mm 2 5 rfl rfl (by decide) x_ hq_ hx_))),(hC.stay 3 rfl hB12 (fun x_ hq_ hx_=>(Zu9.1 hx_).elim (fun hx_=>hC.mm 3 4 rfl rfl (by decide) x_ hq_ hx_) (fun hx_=>hC.mm 3 5 rfl rfl (by decide) x_ hq_ hx_))),hm13,hm14,(hC.stay 6 rfl hB12 (fun x_ hq_ hx_=>(Zu9.1 hx_).elim (fun hx_=>hC.mm 6 4 rfl rfl (by decide) x_ hq_ hx_) (fun hx_=>hC.mm 6 5 rfl rfl (by decide) x_ hq_ hx_))),(hC.stay 7 rfl hB12 (fun x_ hq_ hx_=>(Zu9.1 hx_).elim (fun hx_=>hC.mm 7 4 rfl rfl (by decide) x_ hq_ hx_) (fun hx_=>hC.mm 7 5 rfl rfl (by decide) x_ hq_ hx_))),(hC.stay 8 rfl hB12 (fun x_ hq_ hx_=>(Zu9.1 hx_).elim (fun hx_=>hC.mm 8 4 rfl rfl (by decide) x_ hq_ hx_) (fun hx_=>hC.mm 8 5 rfl rfl (by decide) x_ hq_ hx_))),(hC.stay 9 rfl hB12 (fun x_ hq_ hx_=>(Zu9.1 hx_).elim (fun hx_=>hC.mm 9 4 rfl rfl (by decide) x_ hq_ hx_) (fun hx_=>hC.mm 9 5 rfl rfl (by decide) x_ hq_ hx_))),(hC.stay 10 rfl hB12 (fun x_ hq_ hx_=>(Zu9.1 hx_).elim (fun hx_=>hC.mm 10 4 rfl rfl (by decide) x_ hq_ hx_) (fun hx_=>hC.mm 10 5 rfl rfl (by decide) x_ hq_ hx_))),(hC.stay 11 rfl hB12 (fun x_ hq_ hx_=>(Zu9.1 hx_).elim (fun hx_=>hC.mm 11 4 rfl rfl (by decide) x_ hq_ hx_) (fun hx_=>hC.mm 11 5 rfl rfl (by decide) x_ hq_ hx_)))⟩)
         refine Zc (v:=vI r25) rfl (dn (sr (Zc (v:=vI 1) rfl (dn (sr (Yb hC 3 [u10,u11] rfl ag32 rfl rfl rfl (Zb (v:=vI 1) rfl (Zf [.agg #[u10,u11],vI 1] _ Tryz.func24 rfl rfl rfl (Zls (⟨m10.degrees,m10.images⟩:Alg) 1 h _ (Yy (Yp (hC.getM 4 rfl)) (ZQh _ (hC.getM 5 rfl).1))) ?_))))))))
         rintro _ w33 ⟨r26,rfl,h,hB26⟩
         refine rt ?_
         replace hC:=hC.grow hB26
         refine Zc (v:=vI r26) rfl (dn (ZF5 (sr (Zb (v:=vI r26) rfl (Zn rfl rfl (dn ?_))))))
         refine Zq rfl (fun hb19=>?_) (fun hb19=>?_)
         ·replace h:=ift h (ct hb19)
          refine sr (Zc (v:=.bool false) rfl (dn ?_))
          refine ZGd (Ze ?_)
          exact Zj rfl (Zg rfl) ⟨false,rfl,h,hC.below⟩ (.inl rfl)
         ·replace h:=Zk h (cf hb19)
          refine ZF8 (Zd (ZF5 (sr (Zb (v:=vI r26) rfl (Zb (v:=vI r25) rfl (Y4 rfl rfl (dn ?_)))))))
          refine Zq rfl (fun hb20=>?_) (fun hb20=>?_)
          ·replace h:=ift h (ct hb20)
           refine sr (Zc (v:=.bool false) rfl (dn ?_))
           refine ZGd (Ze ?_)
           exact Zj rfl (Zg rfl) ⟨false,rfl,h,hC.below⟩ (.inl rfl)
          ·replace h:=Zk h (cf hb20)
           refine ZF8 (Zd (sr (Yb hC 11 [u0_0,u0_1] rfl Zfr rfl rfl rfl (Zf [.agg #[u0_0,u0_1]] _ ZQp rfl rfl rfl (Zg9 (⟨a0.degrees,a0.images⟩:Alg) h _ (Yy (hC.getP 7 rfl) (hC.getP 6 rfl))) ?_))))
           rintro _ w34 ⟨r20,u25,u26,f22,rfl,h,hr18,hf21,hB27⟩
           refine rt ?_
           replace hC:=hC.push hB27 (ZGk (Zac 2 90 55) r20 [u25,u26] f22) hr18 hf21
           obtain ⟨f23,ho21,ho22,hs21,hs22,hd14⟩:=Zb9 (hC.getM 0 rfl)
           replace hC:=hC.split (a:=own 2 1 u25 r20.degrees.length (eI.encs r20.degrees)) (b:=ZGk (ZMj 55 (Zr 90)) r20.images [u26] f23) hs21 hs22 ⟨ho21,ho22,hd14⟩
           refine Zb (v:=u1_0) rfl (Zf [u1_0] _ ZQq rfl rfl rfl (Zey a1 h _ (hC.getP 9 rfl)) ?_)
           rintro _ w35 ⟨r27,u27,f24,rfl,h,hr19,hf22,hB28⟩
           refine rt ?_
           replace hC:=hC.push hB28 (ZGk (ZMj 2 (eI.tr)) r27 [u27] f24) hr19 hf22
           obtain ⟨ho23,hf23⟩:=Zat (hC.getM 0 rfl).1
           subst hf23
           replace hC:=hC.recast (c:=own 2 1 u27 r27.length (eI.encs r27)) (fun _ h_=>h_) (fun _=>ho23)
           refine Zf [.agg #[u25,u26],u27] _ Tryz.func23 rfl rfl rfl (Zmq r20 r27 h _ (Yy (Yp (hC.getM 1 rfl)) (ZQh _ (hC.getM 2 rfl).1)) (Yp (hC.getM 0 rfl))) ?_
           rintro _ w36 ⟨r21,u17,u18,f25,r22,rfl,h,hr20,hf24,hB29⟩
           refine rt ?_
           replace hC:=hC.push hB29 (ZGk (Zac 2 90 55) r21 [u17,u18] f25) hr20 hf24
           obtain ⟨f26,ho24,ho25,hs23,hs24,hd15⟩:=Zb9 (hC.getM 0 rfl)
           replace hC:=hC.split (a:=own 2 1 u17 r21.degrees.length (eI.encs r21.degrees)) (b:=ZGk (ZMj 55 (Zr 90)) r21.images [u18] f26) hs23 hs24 ⟨ho24,ho25,hd15⟩
           refine Zb (v:=.tuple #[.agg #[u17,u18],vI r22]) rfl (Yu (v:=.agg #[u17,u18]) rfl rfl (Yu (v:=vI r22) rfl rfl (Z1 hC [.slice none 0 0,.slice none 0 0] z32 rfl fun b13 w37 hB_ hC=>Zo (v:=.agg #[u17,u18]) hC 0 [u17,u18] [u17,u18] rfl ag32.size rfl rfl rfl rfl (Ye (Yr (hC.getM 1 rfl)) (Ye (Ja (ZQh _ (hC.getM 2 rfl).1)) rfl)) (ZGe rfl) rfl fun w38 hC=>Zc (v:=vI r22) rfl (dn (ZF5 (sr (Yb hC 0 [u17,u18] rfl ag32 rfl rfl rfl (Yb hC 16 [u14,u15] rfl ag32 rfl rfl rfl (Zf [.agg #[u17,u18],.agg #[u14,u15]] _ ZQr rfl rfl rfl (Zha r21 (⟨r12.degrees,r12.images⟩:Alg) h _ (Yy (Yp (hC.getM 1 rfl)) (ZQh _ (hC.getM 2 rfl).1)) (Yy (hC.getP 1 rfl) (hC.getP 0 rfl))) ?_)))))))))
           rintro _ w39 ⟨r32,rfl,h,hB30⟩
           refine rt ?_
           replace hC:=hC.grow hB30
           refine Xa rfl (Zb (v:=.bool (!r32)) rfl ?_)
           refine Y1 (!r32) (fun hb13=>?_) (fun hb13=>?_)
           ·replace h:=ift h (Y0 (Xf hb13))
            refine Zh (b:=true) 4 104 rfl (tr rfl (congrArg _ hb13)) (by decide) (Zh (b:=true) 4 104 rfl (tr rfl (congrArg _ hb13)) (by decide) (Zh (b:=true) 4 104 rfl (tr rfl (congrArg _ hb13)) (by decide) (Z0 (v:=.bool true) (b:=true) (tr rfl (congrArg _ hb13)) rfl (dn (Z8 rfl rfl (sr (Zc (v:=.bool false) rfl (dn ?_))))))))
            refine ZGd (Ze ?_)
            exact Zj rfl (Zg rfl) ⟨false,rfl,h,hC.below⟩ (.inl rfl)
           ·replace h:=Zk h (not_not_intro ((Xg hb13)))
            refine Zi 4 104 rfl rfl hb13 (Zb (v:=vI r22) rfl (Zi 4 104 rfl rfl hb13 (Zb (v:=vI r13) rfl (Zi 4 104 rfl rfl hb13 (Y4 rfl rfl (Z0 (v:=.bool (decide (r22≠r13))) (b:=false) (tr rfl (congrArg _ hb13)) rfl (dn ?_)))))))
            refine Zq rfl (fun hb21=>?_) (fun hb21=>?_)
            ·replace h:=ift h (ct hb21)
             refine sr (Zc (v:=.bool false) rfl (dn ?_))
             refine ZGd (Ze ?_)
             exact Zj rfl (Zg rfl) ⟨false,rfl,h,hC.below⟩ (.inl rfl)
            ·replace h:=Zk h (cf hb21)
             refine ZF8 (Zd (sr (Zc (v:=vI 1) rfl (dn (sr (Yb hC 9 [u10,u11] rfl ag32 rfl rfl rfl (Zb (v:=vI 1) rfl (Zf [.agg #[u10,u11],vI 1] _ Tryz.func24 rfl rfl rfl (Zls (⟨m10.degrees,m10.images⟩:Alg) 1 h _ (Yy (Yp (hC.getM 10 rfl)) (ZQh _ (hC.getM 11 rfl).1))) ?_))))))))
             rintro _ w40 ⟨r28,rfl,h,hB31⟩
             refine rt ?_
             replace hC:=hC.grow hB31
             refine Zc (v:=vI r28) rfl (dn (ZF5 (sr (Zb (v:=vI r28) rfl (Zn rfl rfl (dn ?_))))))
             refine Zq rfl (fun hb22=>?_) (fun hb22=>?_)
             ·replace h:=ift h (ct hb22)
              refine sr (Zc (v:=.bool false) rfl (dn ?_))
              refine ZGd (Ze ?_)
              exact Zj rfl (Zg rfl) ⟨false,rfl,h,hC.below⟩ (.inl rfl)
             ·replace h:=Zk h (cf hb22)
              refine ZF8 (Zd (ZF5 (sr (Zb (v:=vI r28) rfl (Zb (v:=vI r25) rfl (Y4 rfl rfl (dn ?_)))))))
              refine Zq rfl (fun hb23=>?_) (fun hb23=>?_)
              ·replace h:=ift h (ct hb23)
               refine sr (Zc (v:=.bool false) rfl (dn ?_))
               refine ZGd (Ze ?_)
               exact Zj rfl (Zg rfl) ⟨false,rfl,h,hC.below⟩ (.inl rfl)
              ·replace h:=Zk h (cf hb23)
               refine ZF8 (Zd (sr (Zc (v:=.bool true) rfl (dn (ZGd ?_)))))
               exact Zj rfl (Zg rfl) ⟨true,rfl,h,hC.below⟩ (.inl rfl)
end Go.Proofs.YtheenipahifleaaGreat
namespace Go.Proofs.YtheenipahifleaaGreat
open Go Vc
structure HomM (ds:List Int) (w:Int) (s:List (A8×Int)):Prop where
  ok:MapOk s
  hom:∀ q,q∈s→WM ds w q.1
theorem Zmr {ds:List Int} {v w:Int} {s t:List (A8×Int)} {K:List (A8×Int)→Prop} (hd:OkDeg ds) (hs:HomM ds v s) (ht:HomM ds w t) (hv:v≤13) (hw:w≤13) (h:∀ out,HomM ds (v+w) out→(∀ x,co out x % 10007=prM ds s t x % 10007)→K out):J3 s ds t K :=
  Zja hd hs.ok (fun q hq => ((hs.hom q hq).wk hd (by omega)).1) (fun q hq => (hs.hom q hq).pos) ht.ok (fun q hq => ((ht.hom q hq).wk hd (by omega)).1) (fun q hq => (ht.hom q hq).pos) fun out ho =>
    h out ⟨ho.ok, fun q hq => by
      obtain ⟨a,b,ha,hb,e,hc⟩:=ho.ks q hq
      rw [e]; exact(hs.hom a ha).add (ht.hom b hb) hc hd.1⟩ ho.cf
theorem Zht:∀ i:Nat,ZGa.get i=0
  | 0 | 1 | 2 | 3 | 4 | 5 | 6 | 7=>rfl
  | _+8=>rfl
def Zhu:List Term:=[⟨ZGa,1⟩]
theorem Zhv {ds:List Int} (h8:ds.length≤8):WM ds 0 ZGa where
  pos i hi:=by rw [Zht]; omega
  odd i hi o:=by rw [Zht]; omega
  out i hi hl:=Zht i
  wt:=by
    have:∀ k,wtU ds ZGa k=0:=fun k=>by
      induction k with
      | zero=>rfl
      | succ k ih=>simp only [wtU]; rw [ih,Zht]; simp
    exact this _
def PwL (ds:List Int) (img:List Term):Nat→List Term
  | 0=>Zhu
  | k+1=>Zcp ds (PwL ds img k) img
theorem Zts {ds : List Int} {d : Int} {f : List Term} {K : ZF9 → Prop} (hd : OkDeg ds) (hf : HomF ds d f) (h0 : 1 ≤ d) (k : Nat) (hk : (k : Int) * d ≤ 13) (h : ∀ out, HomF ds ((k : Int) * d) out → (∀ x, coT out x % 10007 = coT (PwL ds f k) x % 10007) → K ⟨out⟩) : Zcs ds ⟨f⟩ (k : Int) K := by
  have kb:(k:Int)≤13:=by
    have:=ZRg h0 (ZGm k)
    omega
  unfold Zcs
  refine Zhk ?_
  refine X4 (fun (s:List Term×Int)=>0≤s.2∧s.2≤k∧HomF ds (((k:Int) - s.2) * d) s.1∧∀ x,coT s.1 x % 10007=coT (PwL ds f ((k:Int) - s.2).toNat) x % 10007) (fun s=>s.2.toNat) ?_ ⟨by dsimp only; omega,by dsimp only; omega,?_,fun x=>?_⟩
  · rintro ⟨l,j⟩ next ⟨g1,g2,g3,g4⟩ hnx
    dsimp only at g1 g2 g3 g4 hnx ⊢
    by_cases c:j > 0
    · have w1:((k:Int) - j) * d≤13∧((k:Int) - (j - 1)) * d≤13∧((k:Int) - j) * d+d=((k:Int) - (j - 1)) * d∧d≤13:=by
        have e1:((k:Int) - j) * d+d=((k:Int) - (j - 1)) * d:=by rw [show (k:Int) - (j - 1)=((k:Int) - j)+1 by omega,Int.add_mul,ZM1]
        have e2:((k:Int) - (j - 1)) * d≤(k:Int) * d:=ZN3 (by omega) (by omega)
        have e3:0≤((k:Int) - j) * d:=Int.mul_nonneg (by omega) (by omega)
        omega
      refine Jd c (Zmh hd g3 hf w1.1 w1.2.2.2 (by rw [w1.2.2.1]; exact w1.2.1) fun out ho hh=>?_)
      have wu:ZGh.wrap (j - 1)=j - 1:=Zgd _ (by omega)
      rw [wu]
      refine hnx _ ⟨by dsimp only; omega,by dsimp only; omega,by dsimp only; rw [← w1.2.2.1]; exact hh,fun x=>?_⟩ (by dsimp only; omega)
      dsimp only
      have en:((k:Int) - (j - 1)).toNat=((k:Int) - j).toNat+1:=by omega
      rw [en,ho.cf,PwL]
      have:=Zjf (ds:=ds) 1 (f:=l) (f':=PwL ds f ((k:Int) - j).toNat) (g:=f) (g':=f) (fun x=>by rw [ZM1]; exact g4 x) (fun _=>rfl) x
      rwa [ZM1] at this
    · have e:j=0:=by omega
      subst e
      rw [Int.sub_zero] at g3 g4
      rw [ZQi] at g4
      exact Jn c (h l g3 g4)
  · dsimp only
    rw [Int.sub_self,ZQx]
    exact⟨Zhl _,fun t ht=>by obtain rfl:=Zwj.1 ht; exact Zhv hd.1⟩
  · dsimp only
    rw [Int.sub_self]; rfl
def Zdx (ds:List Int) (deg:List Int) (m:List (List Term)) (i k:Int) (s:List (A8×Int)):Prop:=HomM ds (k * deg.getD i.toNat Zuw) s∧∀ x,co s x % 10007=coT (PwL ds (m.getD i.toNat Zuw) k.toNat) x % 10007
theorem Ztt {ds deg:List Int} {m:List (List Term)} {imgs:List (List (A8×Int))} (hd:OkDeg ds) {i:Nat} (hi:HomM ds (deg.getD i Zuw) (imgs.getD i [])) (hc:∀ x,co (imgs.getD i []) x=coT (m.getD i Zuw) x) (h0:1≤deg.getD i Zuw) {e:Nat} (he:(e:Int) * deg.getD i Zuw≤13) (h1:deg.getD i Zuw≤13):Zdu (Zdx ds deg m) ds imgs i e:=by
  refine⟨?_,fun k hk r hr=>?_⟩
  · unfold Zcr Zdx
    refine⟨⟨Zfo _,fun q hq=>?_⟩,fun x=>?_⟩
    · obtain rfl:=Zwj.1 hq
      rw [ZQx]; exact Zhv hd.1
    · rfl
  · obtain ⟨h2,h3⟩:=hr
    rw [ZQi] at h2 h3
    have ek:((k:Int)+1) * deg.getD i Zuw=(k:Int) * deg.getD i Zuw+deg.getD i Zuw:=by rw [Int.add_mul,ZM1]
    have kb:(k:Int) * deg.getD i Zuw≤13:=Int.le_trans (ZN3 (by omega) (by omega)) he
    refine Zmr hd h2 hi kb h1 fun out ho hco=>⟨by rw [ZQi,ek]; exact ho,fun x=>?_⟩
    have en:((k:Int)+1).toNat=k+1:=by omega
    rw [en,ZQi,PwL,hco]
    rw [ZQi] at h3
    have:=Zme (ds:=ds) 1 (s:=r) (t:=imgs.getD i []) (f':=PwL ds (m.getD i Zuw) k) (g':=m.getD i Zuw) (fun x=>by rw [ZM1]; exact h3 x) (fun x=>by rw [hc]) x
    rwa [ZM1] at this
end Go.Proofs.YtheenipahifleaaGreat
namespace Go.Proofs.YtheenipahifleaaGreat
open Go Vc
theorem Zms {ds:List Int} {m:A8} (hd:OkDeg ds) (hp:∀ i,i < 8→0≤m.get i) {j:Nat}:∀ k,j≤k→k≤ds.length→wtU ds m j≤wtU ds m k:=fun k=>by
  induction k with
  | zero=>intro h _; rw [Nat.le_zero.1 h]; exact Int.le_refl _
  | succ k ih =>
    intro h hk
    by_cases e:j=k+1
    · rw [e]; exact Int.le_refl _
    · have h1:=ih (by omega) (by omega)
      have h8:=hd.1
      have:=Int.mul_nonneg (show 0≤ds.getD k Zuw by have:=hd.2 k (by omega); omega) (hp k (by omega))
      simp only [wtU]; omega
def LdL (ds:List Int) (m:List (List Term)) (p:A8):Nat→List Term
  | 0=>Zhu
  | i+1=>if 0 < p.get i then Zcp ds (LdL ds m p i) (PwL ds (m.getD i Zuw) (p.get i).toNat) else LdL ds m p i
structure ImgOf (deg ds:List Int) (m:List (List Term)):Prop where
  len:m.length=deg.length
  hom:∀ i,i < deg.length→HomF ds (deg.getD i Zuw) (m.getD i Zuw)
structure MapOf (deg ds:List Int) (m:List (List Term)) (imgs:List (List (A8×Int))):Prop where
  len:imgs.length=deg.length
  hom:∀ i,i < deg.length→HomM ds (deg.getD i Zuw) (imgs.getD i [])
  co:∀ i,i < deg.length→∀ x,co (imgs.getD i []) x=coT (m.getD i Zuw) x
section
variable {deg ds:List Int} {m:List (List Term)}
theorem Zmt (hg:OkDeg deg) {p:A8} {W:Int} (hp:WM deg W p) (hW:W≤13) {i:Nat} (hi:i < deg.length) (h0:0 < p.get i):1≤deg.getD i Zuw∧deg.getD i Zuw≤13∧p.get i * deg.getD i Zuw≤13∧p.get i≤13∧wtU deg p (i+1)=wtU deg p i+p.get i * deg.getD i Zuw∧wtU deg p (i+1)≤13∧0≤wtU deg p i∧wtU deg p i≤13:=by
  have h1:=hg.2 i hi
  have h2:=(Zfp hg hp.pos deg.length (Zuv _)).2 i hi
  rw [hp.wt,Int.mul_comm] at h2
  have a1:p.get i * 1≤p.get i * deg.getD i Zuw:=ZRg h1.1 (by omega)
  have a2:1 * deg.getD i Zuw≤p.get i * deg.getD i Zuw:=ZN3 (by omega) (by omega)
  have m1:=Zms hg hp.pos (j:=i+1) deg.length (by omega) (Zuv _)
  have m2:=Zms hg hp.pos (j:=i) deg.length (by omega) (Zuv _)
  rw [hp.wt] at m1 m2
  have m3:=(Zfp hg hp.pos i (by omega)).1
  refine⟨h1.1,by omega,by omega,by omega,?_,by omega,m3,by omega⟩
  simp only [wtU]; rw [Int.mul_comm]
theorem Ztu {imgs : List (List (A8 × Int))} {K : List (A8 × Int) → Prop} (hg : OkDeg deg) (hd : OkDeg ds) (hm : MapOf deg ds m imgs) {p : A8} {W : Int} (hp : WM deg W p) (hW : W ≤ 13) (h : ∀ t, HomM ds W t → (∀ x, co t x % 10007 = coT (LdL ds m p deg.length) x % 10007) → K t) :
    Zcr (fun r11=>Yi (fun i10 (s10:(List (A8×Int))) nx10=>((0≤(i10:Int)∧(i10:Int) < 8)∧(if p.get i10 > 0 then((0≤(i10:Int)∧(i10:Int) < 8)∧(((i10 < imgs.length∧0≤p.get i10∧p.get i10≤1000)∧Zdu (Zdx ds deg m) ds imgs i10 (p.get i10).toNat)∧∀ (r10:List (A8×Int)),Zdx ds deg m (i10:Int) (p.get i10) r10→J3 s10 ds r10 (fun r12=>nx10 r12))) else nx10 s10))) K deg.length 0 r11):=by
  have h8:=hg.1
  unfold Zcr
  refine Ys (fun i (t:List (A8×Int))=>HomM ds (wtU deg p i) t∧∀ x,co t x % 10007=coT (LdL ds m p i) x % 10007) deg.length ?_ ?_ _ _ _ (by omega) ⟨⟨Zfo _,fun q hq=>by obtain rfl:=Zwj.1 hq; exact Zhv hd.1⟩,fun x=>rfl⟩
  · rintro i t next hi ⟨g1,g2⟩ hnx
    refine⟨by omega,?_⟩
    by_cases c:0 < p.get i
    · obtain ⟨d1,d2,d3,d4,d5,d6,d7,d8⟩:=Zmt hg hp hW hi c
      refine Jd c ⟨by omega,⟨⟨⟨by rw [hm.len]; omega,by omega,by omega⟩,?_⟩,fun r hr=>?_⟩⟩
      · exact Ztt hd (hm.hom i hi) (hm.co i hi) d1 (by rw [ZI4 (by omega)]; exact d3) d2
      · obtain ⟨r1,r2⟩:=hr
        rw [ZQi] at r1 r2
        refine Zmr hd g1 r1 d8 d3 fun out ho hco=>hnx _ ⟨by rw [d5]; exact ho,fun x=>?_⟩
        rw [hco,LdL,if_pos c]
        have:=Zme (ds:=ds) 1 (s:=t) (t:=r) (f':=LdL ds m p i) (g':=PwL ds (m.getD i Zuw) (p.get i).toNat) (fun x=>by rw [ZM1]; exact g2 x) r2 x
        rwa [ZM1] at this
    · have z:p.get i=0:=by have:=hp.pos i (by omega); omega
      refine Jn (by omega) (hnx _ ⟨?_,fun x=>by rw [LdL,if_neg c]; exact g2 x⟩)
      have:wtU deg p (i+1)=wtU deg p i:=by simp only [wtU]; rw [z,Int.mul_zero,ZMm]
      rw [this]; exact g1
  · rintro t ⟨g1,g2⟩
    rw [hp.wt] at g1
    exact h t g1 g2
def ApC (ds:List Int) (m:List (List Term)) (n:Nat) (f:List Term) (x:A8):Int:=tot (fun t=>t.factor * coT (LdL ds m t.mono n) x) f
theorem Ztv {imgs:List (List (A8×Int))} {s:List (A8×Int)} {f:List Term} {K:List (A8×Int)→Prop} (hg:OkDeg deg) (hd:OkDeg ds) (hm:MapOf deg ds m imgs) {W:Int} (hf:HomF deg W f) (hs:IsMap f s) (hW:W≤13) (h:∀ out,HomM ds W out→(∀ x,co out x % 10007=ApC ds m deg.length f x % 10007)→K out):Zfq (Zdx ds deg m) deg ds imgs s K:=by
  unfold Zfq
  have key:∀ x,tot (fun q:A8×Int=>q.2 * coT (LdL ds m q.1 deg.length) x) s=ApC ds m deg.length f x:=fun x =>
    Zhf hs hf.can (fun a n=>n * coT (LdL ds m a deg.length) x) (fun a=>ZQx _)
  have hsW:∀ q,q∈s→WM deg W q.1:=fun q hq=>by
    obtain ⟨t,ht,e⟩:=hs.ks q hq
    rw [← e]; exact hf.hom t ht
  refine Zc9 (fun l' (out:List (A8×Int))=>(∀ q,q∈l'→q∈s)∧HomM ds W out∧∀ x,(co out x+tot (fun q:A8×Int=>q.2 * coT (LdL ds m q.1 deg.length) x) l') % 10007=ApC ds m deg.length f x % 10007) ?_ ?_ s [] ⟨fun _ h=>h,⟨MapOk.nil,fun q hq=>by cases hq⟩,fun x=>by rw [Zck,Int.zero_add,key]⟩
  · rintro l' q l'' out next hp ⟨h0,h1,h2⟩ hnx
    have hperm:=Zda hp
    have hq:q∈s:=h0 q (hperm.mem_iff.2 (by simp))
    have hqf:=hs.ok.2 q hq
    refine Ztu hg hd hm (hsW q hq) hW fun t ht hco=>?_
    refine Zlz h1.ok ht.ok (by omega) fun o2 ho=>hnx _ ⟨fun z hz=>h0 z (hperm.mem_iff.2 (by simp [hz])),⟨ho.ok,fun z hz=>?_⟩,fun x=>?_⟩
    · obtain ⟨y,hy | hy,e⟩:=ho.ks z hz
      · rw [← e]; exact h1.hom y hy
      · rw [← e]; exact ht.hom y hy
    · have e1:=ho.cf x
      have e2:=h2 x
      have e3:=hco x
      have e4:tot (fun q:A8×Int=>q.2 * coT (LdL ds m q.1 deg.length) x) l'=q.2 * coT (LdL ds m q.1 deg.length) x+tot (fun q:A8×Int=>q.2 * coT (LdL ds m q.1 deg.length) x) l'':=by rw [Zci _ hperm]; rfl
      have e5:(q.2 * co t x) % 10007=(q.2 * coT (LdL ds m q.1 deg.length) x) % 10007:=by rw [Int.mul_emod,e3,← Int.mul_emod]
      omega
  · rintro out ⟨_,h1,h2⟩
    exact h out h1 fun x=>by have:=h2 x; simpa [tot] using this
end
end Go.Proofs.YtheenipahifleaaGreat
namespace Go.Proofs.YtheenipahifleaaGreat
open Go Vc
def tms (l:List ZF9):List (List Term):=l.map Vc.Form.terms
theorem Zjk (l:List ZF9) (i:Nat):(tms l).getD i Zuw=(l.getD i Zuw).terms:=by
  unfold tms
  by_cases h:i < l.length
  · simp [Zu3,h]
  · simp [Zu3,List.getElem?_eq_none (Nat.le_of_not_lt h)]; rfl
theorem Ztw {m:A8} {v:Int} {K:ZF9→Prop} (hv:1≤v∧v≤10006) (h:K ⟨[⟨m,v⟩]⟩):Xs m v K:=by
  unfold Xs
  refine Zbb ?_
  rw [show v % 10007=v by omega,if_neg (by omega)]
  refine Zbb ?_
  rw [show v % 10007=v by omega]
  exact h
section
variable {deg ds:List Int} {ms:List ZF9}
theorem Ztx {p : A8} {v : Int} {A : Prop} {K : List Term → Prop} (hg : OkDeg deg) (hd : OkDeg ds) (hm : ImgOf deg ds (tms ms)) {W : Int} (hp : WM deg W p) (hW : W ≤ 13) (hv : 1 ≤ v ∧ v ≤ 10006) (hA : A) (h : ∀ l, HomF ds W l → (∀ x, coT l x % 10007 = (v * coT (LdL ds (tms ms) p deg.length) x) % 10007) → K l) :
    Xs ZGa v (fun r10=>Yi (fun i10 (s11:(List Term)) nx10=>(A∧((0≤(i10:Int)∧(i10:Int) < 8)∧(if p.get i10 > 0 then(A∧((0≤(i10:Int)∧(i10:Int) < 8)∧Zcs ds (ms.getD i10 Zuw) (p.get i10) (fun r11=>Xx ds (⟨s11⟩:ZF9) r11 (fun r12=>nx10 r12.terms)))) else nx10 s11)))) K ms.length 0 r10.terms):=by
  have h8:=hg.1
  have hl:ms.length=deg.length:=by have:=hm.len; rwa [tms,ZMw] at this
  refine Ztw hv ?_
  rw [hl]
  refine Ys (fun i (t:List Term)=>HomF ds (wtU deg p i) t∧∀ x,coT t x % 10007=(v * coT (LdL ds (tms ms) p i) x) % 10007) deg.length ?_ ?_ _ _ _ (by omega) ⟨⟨⟨by simp,fun t ht=>by obtain rfl:=Zwj.1 ht; exact hv⟩,fun t ht=>by obtain rfl:=Zwj.1 ht; exact Zhv hd.1⟩,fun x=>?_⟩
  · rintro i t next hi ⟨g1,g2⟩ hnx
    refine⟨hA,by omega,?_⟩
    by_cases c:0 < p.get i
    · obtain ⟨d1,d2,d3,d4,d5,d6,d7,d8⟩:=Zmt hg hp hW hi c
      refine Jd c ⟨hA,by omega,?_⟩
      have hf:=hm.hom i hi
      have en:((p.get i).toNat:Int)=p.get i:=ZI4 (by omega)
      have go:∀ K':ZF9→Prop,(∀ out,HomF ds (p.get i * deg.getD i Zuw) out→(∀ x,coT out x % 10007=coT (PwL ds ((tms ms).getD i Zuw) (p.get i).toNat) x % 10007)→K' ⟨out⟩)→Zcs ds (ms.getD i Zuw) (p.get i) K':=fun K' hK=>by
        rw [Zjk] at hf hK
        have:=Zts (K:=K') hd hf d1 (p.get i).toNat (by rw [en]; exact d3) fun out h1 h2=>hK out (by rwa [en] at h1) h2
        rwa [en] at this
      refine go _ fun r r1 r2=>?_
      refine Zmh hd g1 r1 d8 d3 (by rw [← d5]; exact d6) fun out ho hh=>hnx _ ⟨by rw [d5]; exact hh,fun x=>?_⟩
      rw [ho.cf,LdL,if_pos c]
      exact Zjf v g2 r2 x
    · have z:p.get i=0:=by have:=hp.pos i (by omega); omega
      refine Jn (by omega) (hnx _ ⟨?_,fun x=>by rw [LdL,if_neg c]; exact g2 x⟩)
      have:wtU deg p (i+1)=wtU deg p i:=by simp only [wtU]; rw [z,Int.mul_zero,ZMm]
      rw [this]; exact g1
  · rintro t ⟨g1,g2⟩
    rw [hp.wt] at g1
    exact h t g1 g2
  · show coT [⟨ZGa,v⟩] x % 10007=(v * coT Zhu x) % 10007
    rw [Za8,Zcj,Zhu,Za8,Zcj]
    dsimp only
    split <;> simp
theorem Zty {f : List Term} {K : ZF9 → Prop} (hg : OkDeg deg) (hd : OkDeg ds) (hm : ImgOf deg ds (tms ms)) {W : Int} (hf : HomF deg W f) (hW : W ≤ 13) (h : ∀ out, HomF ds W out → (∀ x, coT out x % 10007 = ApC ds (tms ms) deg.length f x % 10007) → K ⟨out⟩) : Zfs ds ms ⟨f⟩ K := by
  have lf:=Zcq hg hW hf.can hf.hom
  unfold Zfs
  refine X4 (fun (s:List Term×Int)=>0≤s.2∧s.2≤f.length∧HomF ds W s.1∧∀ x,coT s.1 x % 10007=ApC ds (tms ms) deg.length (f.take s.2.toNat) x % 10007) (fun s=>(f.length - s.2.toNat)) ?_ ⟨by dsimp only; omega,by dsimp only; omega,⟨Canon.nil,fun t ht=>by cases ht⟩,fun x=>rfl⟩
  rintro ⟨l,j⟩ next ⟨g1,g2,g3,g4⟩ hnx
  dsimp only at g1 g2 g3 g4 hnx ⊢
  by_cases c:j < (f.length:Int)
  · have hj:j.toNat < f.length:=by omega
    have ht:=X1 hj
    refine Jd c ⟨⟨g1,c⟩,?_⟩
    refine Ztx hg hd hm (hf.hom _ ht) hW (hf.can.2 _ ht) ⟨g1,c⟩ fun own h1 h2=>?_
    have l1:=Zcq hd hW g3.can g3.hom
    have l2:=Zcq hd hW h1.can h1.hom
    refine Zhe g3.can h1.can (by omega) (by omega) (by omega) fun o2 ho=>?_
    rw [i64_in (j+1) (by omega)]
    refine hnx _ ⟨by dsimp only; omega,by dsimp only; omega,⟨ho.can,fun x hx=>?_⟩,fun x=>?_⟩ (by dsimp only; omega)
    · obtain ⟨y,hy | hy,e⟩:=ho.mo x hx
      · rw [← e]; exact g3.hom y hy
      · rw [← e]; exact h1.hom y hy
    · dsimp only
      have e1:=ho.cf x
      have e2:=g4 x
      have e3:=h2 x
      have e4:(j+1).toNat=j.toNat+1:=by omega
      have e5:ApC ds (tms ms) deg.length (f.take (j.toNat+1)) x=ApC ds (tms ms) deg.length (f.take j.toNat) x+(f.getD j.toNat Zuw).factor * coT (LdL ds (tms ms) (f.getD j.toNat Zuw).mono deg.length) x:=by
        rw [Jy hj]; unfold ApC; rw [Zdj]; simp only [tot,ZMm]
      rw [e4,e5]
      omega
  · have e:j.toNat=f.length:=by omega
    rw [e,ZQy] at g4
    exact Jn c (h l g3 g4)
end
end Go.Proofs.YtheenipahifleaaGreat
namespace Go.Proofs.YtheenipahifleaaGreat
open Go Vc
theorem Ztz {ds : List Int} {w : Int} {f : List Term} (of : OkForm ds f) (ff : FitT f) (hh : Hom ds f w) : HomF ds w f := ⟨of.canon, fun t ht => by
  obtain ⟨i,hi,e⟩:=Zvb ht
  have h1:=hh i hi
  rw [show f.getD i Zuw=t by simp [Zu3,hi,e]] at h1
  have hp:=ff.pos t ht
  exact ⟨fun i hi => (hp i hi).1, fun i hi o => by
    by_cases h8:i < 8
    · exact((of.mono ht i h8).1 hi).2 o
    · have:t.mono.get i=0:=by
        match i,h8 with
        | n+8,_=>rfl
      omega,fun i hi hl=>(of.mono ht i hi).2 hl,h1⟩⟩
theorem Zt0 {a:Alg} (ok:OkAlg a) (hf:Zaj a) {i:Nat} (hi:i < a.images.length):HomF a.degrees (a.degrees.getD i Zuw+1) (a.images.getD i Zuw).terms∧a.degrees.getD i Zuw+1≤13 :=
  ⟨Ztz (ok.frm i hi) (hf i hi).1 (ok.hom i hi),by have:=(ok.deg.2 i (by rw [← ok.len]; exact hi)).2; omega⟩
end Go.Proofs.YtheenipahifleaaGreat
namespace Go.Proofs.YtheenipahifleaaGreat
open Go Vc
def Big (n:Nat):Prop:=n < 9223372036854775808
structure LenAlg (a:Alg):Prop where
  deg:Big a.degrees.length
  img:Big a.images.length
  trm:∀ f,f∈a.images→Big f.terms.length
theorem Zt1 {x:Alg} {u v:Value} {fp:List Nat} {w:World} (h:TAlg.rep x [u,v] fp w):LenAlg x:=by
  have h1:=Y3 (Zd7 h).1
  have h2:=Y3 (Zd7 h).2
  refine⟨by unfold Big; omega,by unfold Big; omega,fun f hf=>?_⟩
  obtain ⟨i,hi,rfl⟩:=Zvb hf
  obtain ⟨A,c,hv,cs,hl,hc,hr⟩:=Zd2 (Zd7 h).2 i hi
  obtain ⟨z,rfl⟩:=ZG3.1 (show cs.length=1 from hl)
  have h3:=Y3 (Yx hr)
  unfold Big; omega
theorem Zt2 {f:ZF9} {n:Int} {K:Int→Prop} (hl:Big f.terms.length) (hn:0≤n∧n≤1048576) (h1:(f.terms.length:Int)≤n→K (n - f.terms.length)) (h2:∀ r,r < 0→K r):Zdm f n K:=Zrv (by unfold Big at hl; omega) hn h1 h2
theorem Zt3 {l:List ZF9} {n:Int} {K:Int→Prop} (hl:Big l.length) (ht:∀ f,f∈l→Big f.terms.length) (hn:0≤n∧n≤1048576) (h1:∀ r,0≤r→r≤n→(l.length:Int)≤n→(∀ i,i < l.length→(l.getD i Zuw).terms.length≤1048576)→K r) (h2:∀ r,r < 0→K r):Zfg l n K:=by
  unfold Zfg
  unfold Big at hl
  rw [i64_in _ (by omega)]
  split
  · exact h2 _ (by omega)
  · rename_i q
    refine Ys (fun i (s:Int)=>0≤s∧s≤n∧∀ j,j < i→(l.getD j Zuw).terms.length≤1048576) l.length ?_ ?_ _ _ _ (by omega) ⟨by omega,by omega,by intro j hj; omega⟩
    · intro i s next hi ⟨g1,g2,g3⟩ hn'
      refine Zt2 (ht _ (X1 hi)) (by omega) (fun hle=>?_) (fun r hr=>by rw [if_pos hr]; exact h2 _ (by omega))
      rw [if_neg (by omega)]
      refine hn' _ ⟨by omega,by omega,fun j hj=>?_⟩
      by_cases e:j=i
      · subst e; omega
      · exact g3 j (by omega)
    · intro s ⟨g1,g2,g3⟩
      exact h1 s g1 g2 (by omega) g3
theorem Zt4 {a:Alg} {K:Int→Prop} (hb:LenAlg a) (h1:∀ r,0≤r→a.degrees.length≤1048576→a.images.length≤1048576→(∀ i,i < a.images.length→(a.images.getD i Zuw).terms.length≤1048576)→K r) (h2:∀ r,r < 0→K r):Zfh a 1048576 K:=by
  unfold Zfh Zg8
  have hd:=hb.deg
  unfold Big at hd
  rw [i64_in _ (by omega)]
  split
  · dsimp only; rw [if_pos (by omega)]; exact h2 _ (by omega)
  · dsimp only; rw [if_neg (by omega)]
    refine Zt3 hb.img hb.trm (by omega) (fun r g1 g2 g3 g4=>?_) (fun r hr=>by rw [if_pos hr]; exact h2 _ (by omega))
    rw [if_neg (by omega)]
    exact h1 r g1 (by omega) (by omega) g4
theorem Zt5 {l:List ZF9} {K:List ZF9→Prop} (hl:l.length≤1048576) (ht:∀ i,i < l.length→(l.getD i Zuw).terms.length≤1048576) (h:K l):Zfi l K:=by
  unfold Zfi
  refine⟨by omega,?_⟩
  refine Ys (fun i (s:List ZF9)=>s.length=l.length∧∀ j,j < i→s.getD j Zuw=l.getD j Zuw) l.length ?_ ?_ _ _ _ (by omega) ⟨by simp,by intro j hj; omega⟩
  · intro i s next hi ⟨h1,h2⟩ hn
    refine Zru (ht i hi) ⟨by omega,hn _ ⟨by simpa using h1,fun j hj=>?_⟩⟩
    rw [Zbc (by omega)]
    by_cases e:j=i
    · rw [if_pos e,e]
    · rw [if_neg e]; exact h2 j (by omega)
  · intro s ⟨h1,h2⟩
    have:s=l:=List.ext_getElem h1 fun j hj hj'=>by have:=h2 j (by omega); simpa [Zu3,hj,hj'] using this
    rw [this]; exact h
theorem Zhw {a:Alg} {K:Alg→Prop} (h1:a.degrees.length≤1048576) (h2:a.images.length≤1048576) (h3:∀ i,i < a.images.length→(a.images.getD i Zuw).terms.length≤1048576) (h:K a):Zbp a K:=by
  unfold Zbp
  exact Ze7 h1 (Zt5 h2 h3 h)
theorem Zhx {a:Alg} {K:Bool→Prop} (h:K true):Zba a a K:=Zrq (by simpa using h)
def GoodAlg (a:Alg):Prop:=(∀ x,x∈a.degrees→Fit .i64 x)∧∀ f,f∈a.images→∀ t,t∈f.terms→J1 .u8 t.mono∧Fit .i64 t.factor
theorem GoodAlg.fit {a:Alg} (h:GoodAlg a) (h3:∀ i,i < a.images.length→(a.images.getD i Zuw).terms.length≤1048576):Zaj a:=fun i hi=>⟨fun t ht=>(h.2 _ (X1 hi) t ht).1,h3 i hi⟩
end Go.Proofs.YtheenipahifleaaGreat
namespace Go.Proofs.YtheenipahifleaaGreat
open Go Vc
theorem Zt6 {l:List Int} {m:Int} {K:Int→List Int→Prop} (hm:0≤m∧m+l.length≤4611686018427387904) (h:∀ x',x'.length=l.length→(∀ K':Int→Prop,K' (m+l.length)→Zfk x' m K')→K (m+l.length) x'):Zbq l m K:=by
  unfold Zbq
  refine X4 (fun (s:List Int×Int×Int)=>s.1.length=l.length∧(0≤s.2.2∧s.2.2≤l.length)∧s.2.1=m+s.2.2∧∀ j:Nat,(j:Int) < s.2.2→s.1.getD j Zuw=m+j) (fun s=>l.length - s.2.2.toNat) ?_ ⟨rfl,by dsimp only; omega,by simp,by intro j hj; dsimp only at hj; omega⟩
  rintro ⟨x,c,i⟩ next ⟨h1,h2,h3,h4⟩ hn
  dsimp only at h1 h2 h3 h4 ⊢
  split
  · rename_i hi
    refine⟨by omega,?_⟩
    rw [i64_in (c+1) (by omega),i64_in (i+1) (by omega)]
    refine hn _ ⟨by simpa using h1,by dsimp only; omega,by dsimp only; omega,fun j hj=>?_⟩ (by dsimp only; omega)
    dsimp only at hj ⊢
    rw [Zbc (by omega)]
    split
    · omega
    · exact h4 j (by omega)
  · rename_i hi
    have hc:c=m+l.length:=by omega
    rw [hc]
    refine h x h1 fun K' hK'=>?_
    unfold Zfk
    refine Ys (fun i (s:Int)=>s=m+i) x.length ?_ ?_ _ _ _ (by omega) (by simp)
    · intro j s next hj hs hn'
      rw [if_neg (by rw [h4 j (by omega),hs]; simp),i64_in (s+1) (by omega)]
      exact hn' _ (by omega)
    · intro s hs
      rw [hs,h1]; exact hK'
def cnt (fs:List ZF9):Nat:=(fs.map (fun f=>f.terms.length)).sum
theorem Zt7 {fs : List ZF9} {m : Int} {K : Int → List ZF9 → Prop} (hm : 0 ≤ m ∧ m + 9 * cnt fs ≤ 4611686018427387904) (h : ∀ x' n, 0 ≤ n → n ≤ m + 9 * cnt fs → (∀ K' : Int → Prop, K' n → Zfl x' m K') → K n x') (hl : fs.length ≤ 1000000) : Zcn fs m K := by
  unfold Zcn
  let part (i:Nat):Int:=m+9 * cnt (fs.take i)
  have hp0:part 0=m:=by simp [part,cnt]
  have hps:∀ i,i < fs.length→part (i+1)=part i+9 * (fs.getD i Zuw).terms.length:=by
    intro i hi
    simp only [part,cnt,List.take_add_one,List.getElem?_eq_getElem hi,ZRl,ZQs,ZQt,Zvx,List.map_nil,ZQz,List.sum_nil,Zu3,Zxk]
    omega
  have hpl:part fs.length=m+9 * cnt fs:=by simp [part]
  have hmono:∀ i,i≤fs.length→m≤part i∧part i≤m+9 * cnt fs:=by
    intro i hi
    have:cnt fs=cnt (fs.take i)+cnt (fs.drop i):=by
      unfold cnt; rw [← ZQt,← ZQs,Zyn]
    simp only [part]; omega
  refine X4 (fun (s:List ZF9×Int×Int)=>s.1.length=fs.length∧(0≤s.2.2∧s.2.2≤fs.length)∧s.2.1=part s.2.2.toNat∧(∀ j:Nat,(j:Int) < s.2.2→(s.1.getD j Zuw).terms.length=(fs.getD j Zuw).terms.length∧∀ q,q < (s.1.getD j Zuw).terms.length→Zfm ((s.1.getD j Zuw).terms.getD q Zuw) (part j+9 * q))∧∀ j:Nat,s.2.2≤(j:Int)→s.1.getD j Zuw=fs.getD j Zuw) (fun s=>fs.length - s.2.2.toNat) ?_ ⟨rfl,by dsimp only; omega,by dsimp only; exact hp0.symm,by intro j hj; dsimp only at hj; omega,fun _ _=>rfl⟩
  rintro ⟨x,c,i⟩ next ⟨h1,h2,h3,h4,h5⟩ hn
  dsimp only at h1 h2 h3 h4 h5 ⊢
  split
  · rename_i hi
    refine⟨by omega,?_⟩
    have hin:i.toNat < fs.length:=by omega
    have hxi:x.getD i.toNat Zuw=fs.getD i.toNat Zuw:=h5 _ (by omega)
    have hs:=hps i.toNat hin
    have hb:=hmono (i.toNat+1) (by omega)
    have hb0:=hmono i.toNat (by omega)
    rw [hxi]
    refine Zl7 (by rw [h3]; omega) fun y hy ht=>?_
    rw [i64_in (i+1) (by omega)]
    refine hn _ ⟨by simpa using h1,by dsimp only; omega,by dsimp only; rw [show (i+1).toNat=i.toNat+1 by omega,hs,h3],fun j hj=>?_,fun j hj=>?_⟩ (by dsimp only; omega)
    · dsimp only at hj ⊢
      rw [Zbc (by omega)]
      split
      · rename_i e
        subst e
        refine⟨hy,fun q hq=>?_⟩
        have:=ht q hq
        rwa [h3] at this
      · exact h4 j (by omega)
    · dsimp only at hj ⊢
      rw [Zbc (by omega),if_neg (by omega)]
      exact h5 j (by omega)
  · rename_i hi
    have hie:i.toNat=fs.length:=by omega
    have hc:c=part fs.length:=by rw [h3,hie]
    have hb:=hmono fs.length (Zuv _)
    rw [hc]
    refine h x _ (by omega) hb.2 fun K' hK'=>?_
    unfold Zfl
    refine Ys (fun j (s:Int)=>s=part j) x.length ?_ ?_ _ _ _ (by omega) hp0.symm
    · intro j s next hj hs hn'
      obtain ⟨g1,g2⟩:=h4 j (by omega)
      have hsj:=hps j (by omega)
      have hb1:=hmono (j+1) (by omega)
      have hb0:=hmono j (by omega)
      refine Zrr (by rw [hs,g1]; omega) (fun q hq=>by rw [hs]; exact g2 q hq) ?_
      rw [if_neg (by rw [hs,g1]; omega)]
      exact hn' _ (by rw [hs,g1,hsj])
    · intro s hs
      rw [hs,h1]; exact hK'
theorem Zmu {l:List Int} {m:Int} {K:Int→List Int→Prop} (hm:0≤m∧m+l.length≤4611686018427387904) (h:∀ x',K (m+l.length) x'):Zbq l m K:=by
  unfold Zbq
  refine X4 (fun (s:List Int×Int×Int)=>s.1.length=l.length∧(0≤s.2.2∧s.2.2≤l.length)∧s.2.1=m+s.2.2) (fun s=>l.length - s.2.2.toNat) ?_ ⟨rfl,by dsimp only; omega,by simp⟩
  rintro ⟨x,c,i⟩ next ⟨h1,h2,h3⟩ hn
  dsimp only at h1 h2 h3 ⊢
  split
  · rename_i hi
    refine⟨by omega,?_⟩
    rw [i64_in (c+1) (by omega),i64_in (i+1) (by omega)]
    exact hn _ ⟨by simpa using h1,by dsimp only; omega,by dsimp only; omega⟩ (by dsimp only; omega)
  · rename_i hi
    have hc:c=m+l.length:=by omega
    rw [hc]
    exact h x
theorem Zmv {fs:List ZF9} {B:Nat} (h:∀ i,i < fs.length→(fs.getD i Zuw).terms.length≤B):cnt fs≤fs.length * B:=by
  induction fs with
  | nil=>simp [cnt]
  | cons f fs ih =>
    have h0:=h 0 (by simp)
    have h1:=ih fun i hi=>by have:=h (i+1) (by simpa using hi); simpa using this
    simp only [List.getD_cons_zero] at h0
    simp only [cnt,Zvx,ZQz,List.length_cons,Nat.add_mul,Nat.one_mul] at h1 ⊢
    omega
theorem Zt8 {fs:List ZF9} {m:Int} {K:Int→List ZF9→Prop} (hm:0≤m∧m+9 * cnt fs≤4611686018427387904) (h:∀ x' n,0≤n→n≤m+9 * cnt fs→K n x') (hl:fs.length≤1048576):Zcn fs m K:=by
  unfold Zcn
  let part (i:Nat):Int:=m+9 * cnt (fs.take i)
  have hp0:part 0=m:=by simp [part,cnt]
  have hps:∀ i,i < fs.length→part (i+1)=part i+9 * (fs.getD i Zuw).terms.length:=by
    intro i hi
    simp only [part,cnt,List.take_add_one,List.getElem?_eq_getElem hi,ZRl,ZQs,ZQt,Zvx,List.map_nil,ZQz,List.sum_nil,Zu3,Zxk]
    omega
  have hpl:part fs.length=m+9 * cnt fs:=by simp [part]
  have hmono:∀ i,i≤fs.length→m≤part i∧part i≤m+9 * cnt fs:=by
    intro i hi
    have:cnt fs=cnt (fs.take i)+cnt (fs.drop i):=by
      unfold cnt; rw [← ZQt,← ZQs,Zyn]
    simp only [part]; omega
  refine X4 (fun (s:List ZF9×Int×Int)=>s.1.length=fs.length∧(0≤s.2.2∧s.2.2≤fs.length)∧s.2.1=part s.2.2.toNat∧∀ j:Nat,s.2.2≤(j:Int)→s.1.getD j Zuw=fs.getD j Zuw) (fun s=>fs.length - s.2.2.toNat) ?_ ⟨rfl,by dsimp only; omega,by dsimp only; exact hp0.symm,fun _ _=>rfl⟩
  rintro ⟨x,c,i⟩ next ⟨h1,h2,h3,h5⟩ hn
  dsimp only at h1 h2 h3 h5 ⊢
  split
  · rename_i hi
    refine⟨by omega,?_⟩
    have hin:i.toNat < fs.length:=by omega
    have hxi:x.getD i.toNat Zuw=fs.getD i.toNat Zuw:=h5 _ (by omega)
    have hs:=hps i.toNat hin
    have hb:=hmono (i.toNat+1) (by omega)
    have hb0:=hmono i.toNat (by omega)
    rw [hxi]
    refine Zl7 (by rw [h3]; omega) fun y hy ht=>?_
    rw [i64_in (i+1) (by omega)]
    refine hn _ ⟨by simpa using h1,by dsimp only; omega,by dsimp only; rw [show (i+1).toNat=i.toNat+1 by omega,hs,h3],fun j hj=>?_⟩ (by dsimp only; omega)
    · dsimp only at hj ⊢
      rw [Zbc (by omega),if_neg (by omega)]
      exact h5 j (by omega)
  · rename_i hi
    have hie:i.toNat=fs.length:=by omega
    have hc:c=part fs.length:=by rw [h3,hie]
    have hb:=hmono fs.length (Zuv _)
    rw [hc]
    exact h x _ (by omega) hb.2
theorem Zt9 {a:Alg} {m:Int} {K:Int→Alg→Prop} (hm:0≤m∧m≤100000000000000000) (h1:a.degrees.length≤1048576) (h2:a.images.length≤1048576) (h3:∀ i,i < a.images.length→(a.images.getD i Zuw).terms.length≤1048576) (h:∀ x' n,0≤n→n≤m+10000000000000→K n x'):Zbr a m K:=by
  unfold Zbr
  have hc:=Zmv h3
  have hc2:a.images.length * 1048576≤1048576 * 1048576:=Nat.mul_le_mul_right _ h2
  refine Zmu (by omega) fun d=>?_
  exact Zt8 (by omega) (fun fs n h0 hn=>h _ n h0 (by omega)) (by omega)
def Zjl (a:Alg):Prop:=a.degrees.length≤1000000∧a.images.length≤1000000∧cnt a.images≤100000000000
theorem Zua {a:Alg} {m:Int} {K:Int→Alg→Prop} (hm:0≤m∧m≤100000000000000000) (hl:Zjl a) (h:∀ x' n,(∀ K':Int→Prop,K' n→Zdn x' m K')→0≤n→K n x'):Zbr a m K:=by
  obtain ⟨l1,l2,l3⟩:=hl
  unfold Zbr
  refine Zt6 (by omega) fun d hd hh=>?_
  refine Zt7 (by omega) (fun fs n h0 hn hf=>?_) (by omega)
  refine h _ n (fun K' hK'=>?_) h0
  unfold Zdn
  refine hh _ ?_
  rw [if_neg (by omega)]
  refine hf _ ?_
  rw [if_neg (by omega)]
  exact hK'
end Go.Proofs.YtheenipahifleaaGreat
namespace Go.Proofs.YtheenipahifleaaGreat
open Go Vc
structure ExOk (n:Nat) (ws:List Int):Prop where
  len:ws.length=n
  rng:∀ i,i < ws.length→0≤ws.getD i Zuw∧ws.getD i Zuw < n
  dis:∀ i j,i < j→j < ws.length→ws.getD i Zuw≠ws.getD j Zuw
theorem ExOk.onto {n:Nat} {ws:List Int} (h:ExOk n ws) {j:Nat} (hj:j < n):∃ k,k < n∧ws.getD k Zuw=(j:Int):=by
  apply Classical.byContradiction
  intro no
  have hn:(ws.map Int.toNat).Nodup:=by
    rw [List.Nodup,List.pairwise_map,Zuz]
    intro a b ha hb hab e
    have h1:=h.rng a ha
    have h2:=h.rng b hb
    have h3:=h.dis a b hab hb
    simp only [Zu3,List.getElem?_eq_getElem ha,List.getElem?_eq_getElem hb,Zxk] at h1 h2 h3
    omega
  have:=Zjg hn (k:=(List.range n).erase j) fun x hx=>by
    obtain ⟨w,hw,rfl⟩:=List.mem_map.1 hx
    obtain ⟨i,hi,e⟩:=Zvb hw
    have h1:=h.rng i hi
    have e1:ws.getD i Zuw=w:=by simp only [Zu3,List.getElem?_eq_getElem hi,Zxk,e]
    rw [e1] at h1
    refine(List.mem_erase_of_ne fun q=>no ⟨i,by rw [← h.len]; exact hi,?_⟩).2 (List.mem_range.2 (by omega))
    rw [e1]; omega
  rw [ZMw,List.length_erase_of_mem (List.mem_range.2 hj),List.length_range,h.len] at this
  omega
def gF1 (i:Nat):ZF9:=⟨[⟨ZGa.set i 1,1⟩]⟩
def exD (ds:List Int) (ws:List Int):List Int:=ws.map fun k=>ds.getD k.toNat Zuw
def exI (fs:List ZF9) (ws:List Int):List ZF9:=ws.map fun k=>fs.getD k.toNat Zuw
def mE (ws:List Int) (n:Nat):Nat→List ZF9
  | 0=>Zur n ⟨[]⟩
  | k+1=>(mE ws n k).set (ws.getD k Zuw).toNat (gF1 k)
def toE (ws:List Int) (n:Nat):Nat→List Int
  | 0=>Zur n 0
  | k+1=>(toE ws n k).set (ws.getD k Zuw).toNat (k:Int)
theorem Zhy (ws:List Int) (n:Nat):∀ k,(mE ws n k).length=n
  | 0=>by simp [mE]
  | k+1=>by rw [mE,List.length_set,Zhy ws n k]
theorem Zhz (ws:List Int) (n:Nat):∀ k,(toE ws n k).length=n
  | 0=>by simp [toE]
  | k+1=>by rw [toE,List.length_set,Zhz ws n k]
theorem Zmw {α:Type} [Inhabited α] {l:List α} {i:Nat} {v:α} (h:i < l.length):(l.set i v).getD i Zuw=v:=by simp [Zu3,h]
theorem Zmx {α:Type} [Inhabited α] {l:List α} {i j:Nat} {v:α} (h:i≠j):(l.set i v).getD j Zuw=l.getD j Zuw:=by simp [Zu3,h]
theorem Zh0 {n:Nat} {ws:List Int} (h:ExOk n ws):∀ k,k≤n→∀ i,i < k→(mE ws n k).getD (ws.getD i Zuw).toNat Zuw=gF1 i∧(toE ws n k).getD (ws.getD i Zuw).toNat Zuw=(i:Int)
  | 0,_,i,hi=>by omega
  | k + 1, hk, i, hi => by
    have hl:=h.len
    have hr:=h.rng k (by omega)
    have hri:=h.rng i (by omega)
    by_cases e:i=k
    · subst e
      exact⟨Zmw (by rw [Zhy]; omega),Zmw (by rw [Zhz]; omega)⟩
    · have hd:=h.dis i k (by omega) (by omega)
      have hne:(ws.getD k Zuw).toNat≠(ws.getD i Zuw).toNat:=by omega
      have ih:=Zh0 h k (by omega) i (by omega)
      exact⟨(Zmx hne).trans ih.1,(Zmx hne).trans ih.2⟩
theorem Zay (ds ws:List Int):(exD ds ws).length=ws.length:=by simp [exD]
theorem Zjm {ds ws:List Int} {i:Nat} (h:i < ws.length):(exD ds ws).getD i Zuw=ds.getD (ws.getD i Zuw).toNat Zuw:=by simp [exD,Zu3,h]
theorem Zmy (fs:List ZF9) (ws:List Int):(exI fs ws).length=ws.length:=by simp [exI]
theorem Zub {fs:List ZF9} {ws:List Int} {i:Nat} (h:i < ws.length):(exI fs ws).getD i Zuw=fs.getD (ws.getD i Zuw).toNat Zuw:=by simp [exI,Zu3,h]
theorem Zjn {ds ws:List Int} (hd:OkDeg ds) (h:ExOk ds.length ws):OkDeg (exD ds ws):=by
  refine⟨by rw [Zay,h.len]; exact hd.1,fun i hi=>?_⟩
  rw [Zay] at hi
  rw [Zjm hi]
  have:=h.rng i hi
  exact hd.2 _ (by omega)
theorem Zh1 {j:Nat} (hj:j < 8) (i:Nat):(ZGa.set j 1).get i=if i=j then 1 else 0:=by
  rw [A8.get_set hj,A8.get_zero]
theorem Zmz {ds:List Int} {i:Nat} (h8:i < 8):∀ k,wtU ds (ZGa.set i 1) k=if i < k then ds.getD i Zuw else 0
  | 0=>rfl
  | k + 1 => by
    simp only [wtU]
    rw [Zmz h8 k,Zh1 h8]
    by_cases e:k=i
    · subst e
      rw [if_neg (by omega),if_pos rfl,if_pos (by omega)]; omega
    · rw [if_neg e]
      by_cases c:i < k
      · rw [if_pos c,if_pos (by omega)]; omega
      · rw [if_neg c,if_neg (by omega)]; omega
theorem Zm0 {ds:List Int} (hd:ds.length≤8) {i:Nat} (hi:i < ds.length):WM ds (ds.getD i Zuw) (ZGa.set i 1) where
  pos j hj:=by rw [Zh1 (by omega)]; split <;> omega
  odd j hj o:=by rw [Zh1 (by omega)]; split <;> omega
  out j hj hl:=by rw [Zh1 (by omega),if_neg (by omega)]
  wt:=by rw [Zmz (by omega),if_pos hi]
section
variable {ds ws:List Int}
theorem Zuc (hd:OkDeg ds) (h:ExOk ds.length ws):ImgOf ds (exD ds ws) (tms (mE ws ds.length ds.length)):=by
  refine⟨by rw [tms,ZMw,Zhy],fun j hj=>?_⟩
  obtain ⟨k,hk,e⟩:=h.onto hj
  have hl:=h.len
  have at1:=(Zh0 h ds.length (Zuv _) k hk).1
  rw [e,ZQi] at at1
  have ed:ds.getD j Zuw=(exD ds ws).getD k Zuw:=by rw [Zjm (by omega),e,ZQi]
  rw [Zjk,at1,ed]
  refine⟨Zhl _,fun t ht=>?_⟩
  obtain rfl:=Zwj.1 ht
  have:=hd.1
  exact Zm0 (by rw [Zay]; omega) (by rw [Zay]; omega)
theorem Zud {imgs:List (List (A8×Int))} (hd:OkDeg ds) (h:ExOk ds.length ws) (hl:imgs.length=ds.length) (hi:∀ j,j < ds.length→imgs.getD j []=[(ZGa.set ((toE ws ds.length ds.length).getD j Zuw).toNat 1,1)]) :
    MapOf ds (exD ds ws) (tms (mE ws ds.length ds.length)) imgs:=by
  have key:∀ j,j < ds.length→∃ k,k < ds.length∧ds.getD j Zuw=(exD ds ws).getD k Zuw∧imgs.getD j []=[(ZGa.set k 1,1)]∧(tms (mE ws ds.length ds.length)).getD j Zuw=[⟨ZGa.set k 1,1⟩]:=fun j hj=>by
    obtain ⟨k,hk,e⟩:=h.onto hj
    have hl:=h.len
    have at1:=Zh0 h ds.length (Zuv _) k hk
    rw [e,ZQi] at at1
    have q:=hi j hj
    rw [at1.2,ZQi] at q
    exact⟨k,hk,by rw [Zjm (by omega),e,ZQi],q,by rw [Zjk,at1.1]; rfl⟩
  have h8:=hd.1
  have hw:=h.len
  refine⟨hl,fun j hj=>?_,fun j hj x=>?_⟩
  · obtain ⟨k,hk,e1,e2,_⟩:=key j hj
    rw [e1,e2]
    refine⟨Zfo _,fun q hq=>?_⟩
    obtain rfl:=Zwj.1 hq
    exact Zm0 (by rw [Zay]; omega) (by rw [Zay]; omega)
  · obtain ⟨k,hk,_,e2,e3⟩:=key j hj
    rw [e2,e3,J4,Za8]; rfl
end
end Go.Proofs.YtheenipahifleaaGreat
namespace Go.Proofs.YtheenipahifleaaGreat
open Go Vc
theorem Zue {α β:Type} [DecidableEq α] (l:List (α×β)) (k:α) (v:β) (x:α):Ym (Yc l k v) x=if x=k then some v else Ym l x:=by
  induction l with
  | nil=>rfl
  | cons p l ih =>
    by_cases e:k=p.1
    · simp only [Yc,if_pos e,Ym]
      by_cases c:x=k
      · rw [if_pos c,if_pos c]
      · rw [if_neg c,if_neg c,if_neg (e ▸ c)]
    · simp only [Yc,if_neg e,Ym,ih]
      by_cases c:x=p.1
      · rw [if_pos c,if_neg (fun q:x=k=>e (q.symm.trans c)),if_pos c]
      · rw [if_neg c,if_neg c]
section
variable {a:Alg} {ws:List Int}
def IsEx (a:Alg) (ws:List Int) (i:Nat) (g:List Term):Prop:=HomF (exD a.degrees ws) (a.degrees.getD (ws.getD i Zuw).toNat Zuw+1) g∧∀ x,coT g x % 10007=ApC (exD a.degrees ws) (tms (mE ws a.degrees.length a.degrees.length)) a.degrees.length (a.images.getD (ws.getD i Zuw).toNat Zuw).terms x % 10007
def ExRes (a:Alg) (ws:List Int) (r:Alg) (n:Int):Prop :=
  (¬ OkAlg a∧r=⟨[],[]⟩∧n=1)∨(OkAlg a∧¬ ExOk a.degrees.length ws∧r=⟨[],[]⟩∧n=2) ∨
  (OkAlg a∧ExOk a.degrees.length ws∧(r.degrees=exD a.degrees ws∧r.images.length=ws.length∧∀ i,i < ws.length→IsEx a ws i (r.images.getD i Zuw).terms∧(r.images.getD i Zuw).terms.length≤400)∧n=0) ∨
  (OkAlg a∧ExOk a.degrees.length ws∧(∃ i g,i < ws.length∧IsEx a ws i g∧400 < g.length)∧r=⟨[],[]⟩∧n=3)
theorem IsEx.unique {i:Nat} {g h:List Term} (hg:IsEx a ws i g) (hh:IsEx a ws i h):g=h:=Zlh hg.1.can hh.1.can fun x=>by rw [hg.2,hh.2]
theorem ExRes.unique {r r' : Alg} {n n' : Int} (h : ExRes a ws r n) (h' : ExRes a ws r' n') : r = r' ∧ n = n' := by
  rcases h with ⟨p,rfl,rfl⟩ | ⟨p,q,rfl,rfl⟩ | ⟨p,q,⟨e1,e2,e3⟩,rfl⟩ | ⟨p,q,⟨i,g,r1,r2,r3⟩,rfl,rfl⟩ <;> rcases h' with ⟨p',rfl,rfl⟩ | ⟨p',q',rfl,rfl⟩ | ⟨p',q',⟨e1',e2',e3'⟩,rfl⟩ | ⟨p',q',⟨i',g',r1',r2',r3'⟩,rfl,rfl⟩ <;> first
    | exact⟨rfl,rfl⟩
    | contradiction
    | skip
  · refine⟨?_,rfl⟩
    cases r with | mk ds fs=>cases r' with | mk ds' fs' =>
      dsimp only at e1 e1' e2 e2' e3 e3'
      rw [e1,e1',show fs=fs' from List.ext_getElem (by omega) fun j hj hj'=>by
        have:=(e3 j (by omega)).1.unique (e3' j (by omega)).1
        simp only [Zu3,List.getElem?_eq_getElem hj,List.getElem?_eq_getElem hj',Zxk] at this
        exact congrArg Vc.Form.mk this]
  · exfalso
    have h1:=(e3 i' r1').1.unique r2'
    have h2:=(e3 i' r1').2
    rw [h1] at h2; omega
  · exfalso
    have h1:=(e3' i r1).1.unique r2
    have h2:=(e3' i r1).2
    rw [h1] at h2; omega
theorem ExRes.small {r:Alg} {n:Int} (h:ExRes a ws r n):Zjl r:=by
  have z:Zjl ⟨[],[]⟩:=⟨by simp,by simp,by simp [cnt]⟩
  rcases h with ⟨_,rfl,_⟩ | ⟨_,_,rfl,_⟩ | ⟨p,q,⟨e1,e2,e3⟩,_⟩ | ⟨_,_,_,rfl,_⟩
  · exact z
  · exact z
  · have h8:=p.deg.1
    have hl:=q.len
    have:=Zmv (fs:=r.images) (B:=400) fun i hi=>(e3 i (by omega)).2
    have l8:r.images.length≤8:=by omega
    have:r.images.length * 400≤8 * 400:=Nat.mul_le_mul_right _ l8
    exact⟨by rw [e1,Zay]; omega,by omega,by omega⟩
  · exact z
theorem Zuf {ds:List Int} {w:Int} {g:List Term} (hd:OkDeg ds) (hg:HomF ds w g) (hw:w≤13):OkForm ds g↔g.length≤400:=by
  refine⟨fun h=>h.1,fun h=>⟨h,fun i hi=>⟨?_,hg.can.at_range hi,fun h0=>?_⟩⟩⟩
  · have hm:=hg.hom _ (X1 hi)
    intro j hj
    have:=hm.six hd hw hj
    exact⟨fun hl=>⟨by omega,hm.odd j hl⟩,hm.out j hj⟩
  · have:=Zuz.1 hg.can.1 (i - 1) i (by omega) hi (by omega)
    simp only [Zu3,List.getElem?_eq_getElem hi,List.getElem?_eq_getElem (show i - 1 < g.length by omega),Zxk]
    exact this
theorem Zjo (ok:OkAlg a) (hf:Zaj a) (E:ExOk a.degrees.length ws) {i:Nat} (hi:i < ws.length):HomF a.degrees (a.degrees.getD (ws.getD i Zuw).toNat Zuw+1) (a.images.getD (ws.getD i Zuw).toNat Zuw).terms∧a.degrees.getD (ws.getD i Zuw).toNat Zuw+1≤13:=by
  have hr:=E.rng i hi
  have hl:=ok.len
  exact Zt0 ok hf (by omega)
theorem Zug {i:Nat} {K:ZF9→Prop} (hi:i < 8) (h:K (gF1 i)):Zdv (i:Int) K:=by
  unfold Zdv
  refine⟨by omega,Zhk ?_⟩
  rw [ZQi]; exact h
theorem Zuh {K : Alg → Int → Prop} (ok : OkAlg a) (hf : Zaj a) (E : ExOk a.degrees.length ws) (h : ∀ r n, ExRes a ws r n → K r n) : Zdw ⟨exD a.degrees ws, exI a.images ws⟩ (exD a.degrees ws) (mE ws a.degrees.length a.degrees.length) [] K := by
  have od:=Zjn ok.deg E
  have h8:=ok.deg.1
  have hl:=E.len
  unfold Zdw
  dsimp only
  refine X4 (fun (s:List ZF9×Int)=>0≤s.2∧s.2≤ws.length∧s.1.length=s.2.toNat∧∀ j,j < s.2.toNat→IsEx a ws j (s.1.getD j Zuw).terms) (fun s=>ws.length - s.2.toNat) ?_ ⟨Int.le_refl _,by dsimp only; omega,rfl,fun j hj=>by dsimp only at hj; omega⟩
  rintro ⟨s,i⟩ next ⟨g1,g2,g3,g4⟩ hnx
  dsimp only at g1 g2 g3 g4 hnx ⊢
  rw [Zay,Zmy]
  by_cases c:i < (ws.length:Int)
  · refine Jd c (Ys (fun _ s=>s=false) 0 (fun _ _ _ q=>absurd q (by omega)) (fun t ht=>?_) _ _ _ rfl rfl)
    subst ht
    refine Jd (by decide) ⟨⟨g1,c⟩,?_⟩
    rw [Zub (show i.toNat < ws.length by omega)]
    obtain ⟨sh,sw⟩:=Zjo ok hf E (show i.toNat < ws.length by omega)
    refine Zty (f:=(a.images.getD (ws.getD i.toNat Zuw).toNat Zuw).terms) ok.deg od (Zuc ok.deg E) sh sw fun out hw hco=>⟨by unfold Xd; omega,?_⟩
    rw [i64_in (i+1) (by omega)]
    refine hnx _ ⟨by dsimp only; omega,by dsimp only; omega,by dsimp only; rw [List.length_append,g3,List.length_singleton]; omega,fun j hj=>?_⟩ (by dsimp only; omega)
    dsimp only at hj ⊢
    by_cases e:j < s.length
    · have:(s++[(⟨out⟩:ZF9)]).getD j Zuw=s.getD j Zuw:=by simp only [Zu3]; rw [List.getElem?_append_left e]
      rw [this]; exact g4 j (by omega)
    · obtain rfl:j=i.toNat:=by omega
      have:(s++[(⟨out⟩:ZF9)]).getD i.toNat Zuw=⟨out⟩:=by rw [← g3]; simp [Zu3]
      rw [this]; exact⟨hw,hco⟩
  · refine Jn c ?_
    have sl:s.length=ws.length:=by omega
    unfold Zhp
    refine Ys (fun i (_:Unit)=>∀ j,j < i→(s.getD j Zuw).terms.length≤400) s.length ?_ ?_ _ _ _ (by omega) (fun j hj=>by omega)
    · intro i _ next hi g hnx
      obtain ⟨k1,k2⟩:=g4 i (by omega)
      obtain ⟨sh,sw⟩:=Zjo ok hf E (show i < ws.length by omega)
      have ln:=Zcq od sw k1.can k1.hom
      refine Zlu (l:=(s.getD i Zuw).terms) od.1 (fun t ht j hj=>by have:=(k1.hom t ht).six od sw hj; omega) (by omega) ?_
      rw [decide_eq_decide.2 (Zuf od k1 sw)]
      by_cases d:(s.getD i Zuw).terms.length≤400
      · rw [decide_eq_true d]
        refine Jn (by decide) (hnx _ fun j hj=>?_)
        by_cases e:j=i
        · subst e; exact d
        · exact g j (by omega)
      · rw [decide_eq_false d]
        exact Jd (by decide) (Jd (by decide) (h _ _ (.inr (.inr (.inr ⟨ok,E,⟨i,_,by omega,⟨k1,k2⟩,by omega⟩,rfl,rfl⟩)))))
    · intro _ g
      exact Jn (by decide) (h _ _ (.inr (.inr (.inl ⟨ok,E,⟨rfl,sl,fun i hi=>⟨g4 i (by omega),g i (by omega)⟩⟩,rfl⟩))))
theorem Zui (fs:List ZF9) {i:Nat} (hi:i < ws.length):exI fs (ws.take (i+1))=exI fs (ws.take i)++[fs.getD (ws.getD i Zuw).toNat Zuw]:=by
  rw [Jy hi]; simp [exI]
theorem Zm1 (ds:List Int) {i:Nat} (hi:i < ws.length):exD ds (ws.take (i+1))=exD ds (ws.take i)++[ds.getD (ws.getD i Zuw).toNat Zuw]:=by
  rw [Jy hi]; simp [exD]
theorem Zuj {K:Alg→Int→Prop} (ok:OkAlg a) (hf:Zaj a) (E:ExOk a.degrees.length ws) (h:∀ r n,ExRes a ws r n→K r n):Zft a ws K:=by
  have h8:=ok.deg.1
  have hl:=E.len
  have hi2:=ok.len
  unfold Zft
  refine⟨by omega,?_⟩
  refine Ys (fun i (s:List Int×List ZF9×List ZF9)=>s=(exD a.degrees (ws.take i),exI a.images (ws.take i),mE ws a.degrees.length i)) ws.length ?_ ?_ _ _ _ (by omega) (by rw [ZQi,hl]; rfl)
  · rintro i s next hi rfl hnx
    have hr:=E.rng i hi
    have e1:(exD a.degrees (ws.take i)).length=i:=by rw [Zay,Zxh]; omega
    have e2:(exI a.images (ws.take i)).length=i:=by rw [Zmy,Zxh]; omega
    dsimp only
    rw [e1,e2,Zhy]
    refine⟨hr,by unfold Xd; omega,by omega,by unfold Xd; omega,Zug (by omega) ⟨hr,hnx _ ?_⟩⟩
    rw [Zm1 _ hi,Zui _ hi]; rfl
  · rintro s rfl
    dsimp only
    rw [ZQy,hl]
    exact Zuh ok hf E h
theorem Zuk {K : Alg → Int → Prop} (hf : Zaj a) (h : ∀ r n, ExRes a ws r n → K r n) : Zfu a ws K := by
  unfold Zfu
  refine Zse hf (fun ok=>Jn (by decide) ?_) fun no=>Jd (by decide) (h _ _ (.inl ⟨no,rfl,rfl⟩))
  have h8:=ok.deg.1
  have bad:¬ ExOk a.degrees.length ws→K ⟨[],[]⟩ 2:=fun z=>h _ _ (.inr (.inl ⟨ok,z,rfl,rfl⟩))
  by_cases hl:ws.length=a.degrees.length
  · refine Jn (by omega) ?_
    refine Ys (fun i (s:A8)=>(∀ j,j < i→0≤ws.getD j Zuw∧ws.getD j Zuw < a.degrees.length)∧(∀ j k,j < k→k < i→ws.getD j Zuw≠ws.getD k Zuw)∧∀ x,x < 8→(s.get x=1↔∃ j,j < i∧ws.getD j Zuw=(x:Int))) ws.length ?_ ?_ _ _ _ (by omega) ⟨fun j hj=>by omega,fun j k hj hk=>by omega,fun x hx=>⟨fun q=>by rw [A8.get_zero] at q; omega,fun ⟨j,hj,_⟩=>by omega⟩⟩
    · rintro i s next hi ⟨g1,g2,g3⟩ hnx
      refine Zi1 ?_
      rw [i64_in _ (by omega)]
      by_cases c:0≤ws.getD i Zuw∧ws.getD i Zuw≤(ws.length:Int) - 1
      · rw [decide_eq_true c]
        have h3:=g3 (ws.getD i Zuw).toNat (by omega)
        rw [ZI4 c.1] at h3
        refine Jn (by decide) ⟨by omega,?_⟩
        by_cases d:s.get (ws.getD i Zuw).toNat=1
        · obtain ⟨j,hj,e⟩:=h3.1 d
          exact Jd d (bad fun z=>z.dis j i hj hi e)
        · refine Jn d ⟨by omega,hnx _ ⟨fun j hj=>?_,fun j k hj hk=>?_,fun x hx=>?_⟩⟩
          · by_cases e:j=i
            · subst e; omega
            · exact g1 j (by omega)
          · by_cases e:k=i
            · subst e
              exact fun q=>d (h3.2 ⟨j,hj,q⟩)
            · exact g2 j k hj (by omega)
          · rw [A8.get_set (by omega)]
            by_cases e:x=(ws.getD i Zuw).toNat
            · rw [if_pos e]
              exact⟨fun _=>⟨i,by omega,by omega⟩,fun _=>rfl⟩
            · rw [if_neg e,g3 x hx]
              exact⟨fun ⟨j,hj,q⟩=>⟨j,by omega,q⟩,fun ⟨j,hj,q⟩=>⟨j,by
                by_cases f:j=i
                · subst f; omega
                · omega,q⟩⟩
      · rw [decide_eq_false c]
        exact Jd (by decide) (bad fun z=>c (by have:=z.rng i hi; omega))
    · rintro s ⟨g1,g2,_⟩
      exact Zuj ok hf ⟨hl,g1,g2⟩ h
  · exact Jd (by omega) (bad fun z=>hl z.len)
theorem Zm2 {K : Bool → Prop} (hd : a.degrees.length ≤ 1048576) (h1 : ExOk a.degrees.length ws → K true) (h0 : ¬ ExOk a.degrees.length ws → K false) : Zfv a ws K := by
  unfold Zfv
  refine Ys (fun i (s:List (Int×Bool))=>(∀ j,j < i→0≤ws.getD j Zuw∧ws.getD j Zuw < a.degrees.length)∧(∀ j k,j < k→k < i→ws.getD j Zuw≠ws.getD k Zuw)∧∀ x,((Ym s x).getD false=true↔∃ j,j < i∧ws.getD j Zuw=x)) ws.length ?_ ?_ _ _ _ (by omega) ⟨fun j hj=>by omega,fun j k hj hk=>by omega,fun x=>⟨fun q=>by simp [Ym] at q,fun ⟨j,hj,_⟩=>by omega⟩⟩
  · rintro i s next hi ⟨g1,g2,g3⟩ hnx
    unfold Zhq
    refine Zi2 ?_
    rw [i64_in _ (by omega)]
    by_cases c:0≤ws.getD i Zuw∧ws.getD i Zuw≤(a.degrees.length:Int) - 1
    · rw [decide_eq_true c]
      refine Jn (by decide) ?_
      by_cases d:(Ym s (ws.getD i Zuw)).getD false=true
      · obtain ⟨j,hj,e⟩:=(g3 _).1 d
        exact Jd d (h0 fun z=>z.dis j i hj hi e)
      · refine Jn d (hnx _ ⟨fun j hj=>?_,fun j k hj hk=>?_,fun x=>?_⟩)
        · by_cases e:j=i
          · subst e; omega
          · exact g1 j (by omega)
        · by_cases e:k=i
          · subst e
            exact fun q=>d ((g3 _).2 ⟨j,hj,q⟩)
          · exact g2 j k hj (by omega)
        · rw [Zue]
          by_cases e:x=ws.getD i Zuw
          · rw [if_pos e]
            exact⟨fun _=>⟨i,by omega,e.symm⟩,fun _=>rfl⟩
          · rw [if_neg e,g3 x]
            exact⟨fun ⟨j,hj,q⟩=>⟨j,by omega,q⟩,fun ⟨j,hj,q⟩=>⟨j,by
              by_cases f:j=i
              · subst f; exact absurd q.symm e
              · omega,q⟩⟩
    · rw [decide_eq_false c]
      exact Jd (by decide) (h0 fun z=>c (by have:=z.rng i hi; omega))
  · rintro s ⟨g1,g2,_⟩
    by_cases hl:ws.length=a.degrees.length
    · rw [decide_eq_true (by omega)]; exact h1 ⟨hl,g1,g2⟩
    · rw [decide_eq_false (by omega)]; exact h0 fun z=>hl z.len
theorem Zul {s:List (A8×Int)} {f:List Term} {K:List (A8×Int)→Prop} {W:Int} (hd:OkDeg a.degrees) (E:ExOk a.degrees.length ws) (hf:HomF a.degrees W f) (hs:IsMap f s) (hW:W≤13) (h:∀ out,HomM (exD a.degrees ws) W out→(∀ x,co out x % 10007=ApC (exD a.degrees ws) (tms (mE ws a.degrees.length a.degrees.length)) a.degrees.length f x % 10007)→K out):Zfw a.degrees s (toE ws a.degrees.length a.degrees.length) (exD a.degrees ws) K:=by
  have h8:=hd.1
  have hl:=E.len
  unfold Zfw
  rw [Zhz]
  refine Ys (fun i (s:List (List (A8×Int)))=>s.length=i∧∀ j,j < i→s.getD j []=[(ZGa.set ((toE ws a.degrees.length a.degrees.length).getD j Zuw).toNat 1,1)]) a.degrees.length ?_ ?_ _ _ _ (by omega) ⟨rfl,fun j hj=>by omega⟩
  · rintro i s next hi ⟨g1,g2⟩ hnx
    have hp:0≤(toE ws a.degrees.length a.degrees.length).getD i Zuw∧(toE ws a.degrees.length a.degrees.length).getD i Zuw < 8:=by
      obtain ⟨k,hk,e⟩:=E.onto hi
      have:=(Zh0 E a.degrees.length (Zuv _) k hk).2
      rw [e,ZQi] at this
      omega
    refine Jn (by omega) ?_
    unfold Zhr
    refine⟨hp,by unfold Xd; omega,hnx _ ⟨by simp [g1],fun j hj=>?_⟩⟩
    by_cases e:j < s.length
    · have:(s++[Yc ([]:List (A8×Int)) (ZGa.set ((toE ws a.degrees.length a.degrees.length).getD i Zuw).toNat 1) 1]).getD j []=s.getD j []:=by simp only [Zu3]; rw [List.getElem?_append_left e]
      rw [this]; exact g2 j (by omega)
    · obtain rfl:j=i:=by omega
      have:(s++[Yc ([]:List (A8×Int)) (ZGa.set ((toE ws a.degrees.length a.degrees.length).getD j Zuw).toNat 1) 1]).getD j []=Yc ([]:List (A8×Int)) (ZGa.set ((toE ws a.degrees.length a.degrees.length).getD j Zuw).toNat 1) 1:=by rw [← g1]; simp [Zu3]
      rw [this]; rfl
  · rintro imgs ⟨g1,g2⟩
    exact⟨Zdx (exD a.degrees ws) a.degrees (tms (mE ws a.degrees.length a.degrees.length)),Ztv hd (Zjn hd E) (Zud hd E g1 g2) hf hs hW h⟩
theorem Zum {K : Alg → Int → Prop} (ok : OkAlg a) (hf : Zaj a) (E : ExOk a.degrees.length ws) (h : ∀ r n, ExRes a ws r n → K r n) : Zfx a ws K := by
  have h8:=ok.deg.1
  have hl:=E.len
  have hi2:=ok.len
  have od:=Zjn ok.deg E
  unfold Zfx
  refine⟨by omega,?_⟩
  refine Ys (fun i (s:List Int×List Int)=>s=(toE ws a.degrees.length i,exD a.degrees (ws.take i))) ws.length ?_ ?_ _ _ _ (by omega) (by rw [ZQi,hl]; rfl)
  · rintro i s next hi rfl hnx
    have hr:=E.rng i hi
    have e1:(exD a.degrees (ws.take i)).length=i:=by rw [Zay,Zxh]; omega
    dsimp only
    rw [e1,Zhz]
    refine⟨hr,hr,by unfold Xd; omega,hnx _ ?_⟩
    rw [Zm1 _ hi]; rfl
  · rintro s rfl
    dsimp only
    rw [ZQy]
    refine Ys (fun i (s:List ZF9)=>s.length=i∧∀ j,j < i→IsEx a ws j (s.getD j Zuw).terms∧(s.getD j Zuw).terms.length≤400) ws.length ?_ ?_ _ _ _ (by omega) ⟨rfl,fun j hj=>by omega⟩
    · rintro i s next hi ⟨k1,k2⟩ hnx
      have hr:=E.rng i hi
      obtain ⟨sh,sw⟩:=Zjo ok hf E hi
      refine⟨by omega,Zi9 sh.can (hf _ (by omega)).1 fun r hr=>?_⟩
      rw [show toE ws a.degrees.length ws.length=toE ws a.degrees.length a.degrees.length by rw [hl]]
      refine Zul ok.deg E sh hr sw fun r17 hw hco=>?_
      refine Zrh hw.ok (fun p hp x hx=>?_) fun l hc hcf hks=>?_
      · obtain ⟨j,hj,rfl⟩:=A8.mem_list.1 hx
        have:=(hw.hom p hp).six od sw hj; omega
      · have ic:IsEx a ws i l:=⟨⟨hc,fun t ht=>by
          obtain ⟨p,hp,e⟩:=hks t ht
          rw [← e]; exact hw.hom p hp⟩,fun x=>by rw [hcf]; exact hco x⟩
        by_cases d:l.length≤400
        · have:Zco l=(⟨l⟩,0):=if_pos ⟨d,fun t ht j hj=>by have:=(ic.1.hom t ht).six od sw hj; omega⟩
          rw [this]
          refine Jn (fun z=>z rfl) ⟨by unfold Xd; omega,hnx _ ⟨by simp [k1],fun j hj=>?_⟩⟩
          by_cases e:j < s.length
          · have:(s++[(⟨l⟩:ZF9)]).getD j Zuw=s.getD j Zuw:=by simp only [Zu3]; rw [List.getElem?_append_left e]
            rw [this]; exact k2 j (by omega)
          · obtain rfl:j=i:=by omega
            have:(s++[(⟨l⟩:ZF9)]).getD j Zuw=⟨l⟩:=by rw [← k1]; simp [Zu3]
            rw [this]; exact⟨ic,d⟩
        · have:Zco l=(⟨[]⟩,3):=if_neg fun z=>d z.1
          rw [this]
          exact Jd (by decide) (h _ _ (.inr (.inr (.inr ⟨ok,E,⟨i,l,hi,ic,by omega⟩,rfl,rfl⟩))))
    · rintro l ⟨k1,k2⟩
      exact h _ _ (.inr (.inr (.inl ⟨ok,E,⟨rfl,k1,k2⟩,rfl⟩)))
theorem Zh2 {r10 r18:Int} {K:Int→Prop} (h:K (if r10≠0 then r10 else r18)):Zfj [r10,r18] K:=by
  unfold Zfj
  by_cases c:r10=0
  · subst c
    by_cases d:r18=0
    · subst d; simpa [Yi] using h
    · simpa [Yi,d] using h
  · simpa [Yi,c] using h
theorem Zun {K:Alg→Int→Prop} (hd:a.degrees.length≤1048576) (hf:Zaj a) (h:∀ r n,ExRes a ws r n→K r n):Zct a ws K:=by
  unfold Zct
  refine Zsg hf (fun ok=>?_) fun no=>?_
  · refine Zm2 hd (fun E=>Zdr (Zh2 (Jn (by decide) (Zum ok hf E h)))) fun z=>Zdr (Zh2 (Jd (by decide) (h _ _ (.inr (.inl ⟨ok,z,rfl,rfl⟩)))))
  · have bad:K ⟨[],[]⟩ 1:=h _ _ (.inl ⟨no,rfl,rfl⟩)
    exact Zm2 hd (fun _=>Zdr (Zh2 (Jd (by decide) bad))) fun _=>Zdr (Zh2 (Jd (by decide) bad))
end
end Go.Proofs.YtheenipahifleaaGreat
namespace Go.Proofs.YtheenipahifleaaGreat
open Go Vc
theorem Zuo (a0:Alg) (a1:List Int) (hg:GoodAlg a0) (g1:∀ x,x∈a1→Fit .i64 x) (hb:LenAlg a0):Zhs a0 a1 (fun r=>r=true):=by
  unfold Zhs
  by_cases hl:(a1.length:Int) > 1048576
  · exact Jd hl rfl
  refine Jn hl (Zt4 hb (fun r hr d1 d2 d3=>?_) (fun r hr=>by rw [if_pos hr]))
  rw [if_neg (by omega)]
  have hf:=hg.fit d3
  have l1:a1.length≤1048576:=by omega
  refine Zhw d1 d2 d3 (Ze7 l1 (Zuk (a:=a0) hf fun l c R=>?_))
  have him:∀ K:Alg→Int→Prop,K l c→Zct a0 a1 K:=fun K hK=>Zun d1 hf fun l' c' R'=>by
    obtain ⟨rfl,rfl⟩:=R'.unique R
    exact hK
  have sm:=R.small
  refine Zhw (a:=a0) d1 d2 d3 (Ze7 l1 (him _ (Zhx (Zfn (Zhi (Zhw (a:=a0) d1 d2 d3 (Zhx (Zfn (Ze7 l1 (Zrw (Zfn ?_)))))))))))
  refine Zt9 (by omega) d1 d2 d3 fun x0 n0 n1 n2=>?_
  refine Zmu (by omega) fun x1=>?_
  refine Zjd (by omega) (Zhx (Zfn ?_))
  refine Zua (by omega) sm fun x' n hh hn=>?_
  refine hh _ (Zjd hn (Zhi ?_))
  refine Zhw (a:=a0) d1 d2 d3 (Ze7 l1 (him _ (Zhx (Zfn (Zhi ?_)))))
  exact hh _ (Zjd hn (Zhi rfl))
end Go.Proofs.YtheenipahifleaaGreat
