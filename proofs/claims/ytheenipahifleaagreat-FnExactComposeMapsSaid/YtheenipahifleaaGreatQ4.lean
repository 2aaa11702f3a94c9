import Derived.Test.YtheenipahifleaaGreatQ3
set_option linter.unusedSectionVars false
set_option linter.unusedSimpArgs false
set_option linter.unusedVariables false
open Classical renaming byContradiction→ZMj
open Decidable renaming not_not→ZI0
open Go renaming wp_seq→ZE9,wp_ret→ZFh,wp_skip→ZFc,wp_block→ZFf,wp_exit→ZFn
open Go.Instr renaming lookup→ZL9,checkKey→Zvr
open Go.IntKind renaming i64→Zwe,u8→ZFl
open Go.Proofs.Tryz renaming prog→ZFb,underlying32→ZFt,underlying28→ZFx,underlying23→ZLr,underlying22→ZFs,underlying97→ZLz,underlying25→ZL1,func88→ZMa,underlying99→ZF5,underlying94→ZMn
open Go.Result renaming andThen_ok→Ztu
open Go.Sem renaming run_bind→Ztt
open Go.Value renaming ownBlock→Zum,map→ZHy
open Inhabited renaming default→Zt0
open Int renaming mul_emod→ZLp,add_zero→ZLq,le_refl→ZLs,zero_add→ZH0,tmod→Zul,natCast_nonneg→ZFq,ofNat_lt→ZF8,mul_zero→ZL0,mul_nonneg→ZL3,mul_one→ZL4,one_mul→ZL5,tmod_eq_emod_of_nonneg→ZH5,add_emod→ZL6,mul_le_mul→ZMd,mul_assoc→ZMe,mul_le_mul_of_nonneg_right→ZM4
open List renaming mem_singleton→Zvn,mem_cons→Ztw,mem_map→Zvb,getD→Zt7,mem_singleton_self→ZLo,toArray→ZE8,replicate→Ztv,not_mem_nil→Zv2,mem_cons_of_mem→ZLt,getElem_of_mem→Zuf,nodup_cons→ZH1,mem_cons_self→ZLw,mem_or_eq_of_mem_set→ZBs,length_eq_one_iff→ZF7,length_map→ZLy,mem_append_right→Zun,mem_append→Zud,take_of_length_le→Zvl,pairwise_singleton→ZMc,mem_append_left→Zus,pairwise_iff_getElem→Zt3,mem_of_mem_take→ZMf,length_take→Zwl,pairwise_map→ZMi,nodup_nil→ZMk
open Nat renaming le_refl→Ztz,le_of_ble_eq_true→ZFi,le_trans→Zt1
open Option renaming toList→ZF6
open Std.Legacy.Range renaming forIn_eq_forIn_range'→Zx4
open Vc renaming Form→ZFd,TForm→ZFv
open Vc.A8 renaming get_add→ZLv,ext_get→ZH3,get_set→ZH2
open Vc.Ctx renaming start→ZFu
open Vc.Item renaming keep→ZL7
open Vc.Term renaming mono→ZLu
open Vc.Tr renaming item→ZFo,sl→ZLn
open Vc.Ty renaming item→ZBl
set_option maxRecDepth 4000
set_option maxHeartbeats 4000000
namespace Go.Proofs.YtheenipahifleaaGreat
open Go Go.RowKit Vc
variable {b0 bp0 b1 bp1 b2 bp2 b3 bp3 b4 bp4 b5 bp5 b6 bp6 b7 bp7 mb0:Nat} {u0_0 u0_1 u0_2 u0_3 u0_4 u0_5 u1_0 u1_1 u1_2 u1_3 u1_4 u1_5 u2_0 u2_1 u2_2 u2_3 u2_4 u2_5 u3_0 u3_1 u3_2 u3_3 u3_4 u3_5 u4_0 u4_1 u4_2 u4_3 u4_4 u4_5 u5_0 u5_1 u5_2 u5_3 u5_4 u5_5 u6_0 u6_1 u6_2 u6_3 u6_4 u6_5 u7_0 u7_1 u7_2 u7_3 u7_4 u7_5:Value} {fp0 fp1 fp2 fp3 fp4 fp5 fp6 fp7 fp0_0 fp0_1 fp0_2 fp0_3 fp0_4 fp0_5 fp1_0 fp1_1 fp1_2 fp1_3 fp1_4 fp1_5 F0:List Nat}
theorem ag51:AggT ZFb 51 1:=⟨⟨_,Tryz.underlying51,rfl⟩,by kernel_rfl⟩
theorem sc23:ScaT ZFb 23:=⟨⟨_,ZLr,rfl⟩,by kernel_rfl⟩
theorem Ziu:J6 ZFb 55 (.agg #[.slice none 0 0]) 1 24:=by unfold J6; kernel_rfl
theorem z32:Xj ZFb 32 (.agg #[.slice none 0 0,.slice none 0 0]):=by unfold Xj; kernel_rfl
def Zfi (a0:ZFd) (a1:Alg) (K:Bool→Prop):Prop :=
 Zaw a0 (fun r11=>Zdn a1 r11 (fun r10=>K (decide ((r10.length:Int) > 0))))
theorem Zq6 (a0:ZFd) (a1:Alg)  {K:Bool→Prop} (h:Zfi a0 a1 K) (w0:World) (q0:ZFv.rep a0 [u0_0] fp0 w0) (q1:TAlg.rep a1 [u1_0,u1_1] fp1 w0) (qb1:(blk b1 32 [u1_0,u1_1]).holds w0) :
  Calls ZFb 94 #[.agg #[u0_0],vQ b1] w0 fun e w'=>∃ (r0:Bool),
   e=.returned (.bool r0)∧K r0∧Bel w0 w':=by
 unfold Zfi at h
 refine cof Tryz.func94 rfl 9 Tryz.ntmps94 ?_
 have hC:=ZFu (X:=Nox) w0 [ZBl TForm a0 [u0_0] fp0,ZBl TAlg a1 [u1_0,u1_1] fp1,blk b1 32 [u1_0,u1_1]] (alc q0 (alc q1 (al1 qb1)))
 have hp4:=(hC.getP 0 rfl)
 replace hC:=hC.derive 0 rfl (ZBl ETerm.ty.sl a0.terms [u0_0] fp0) (fun _=>(Yn hp4)) (fun _ hb_=>hb_)
 replace hC:=hC.dAlg 2 rfl
 refine sr (Yf (v:=.agg #[u0_0]) hC [u0_0] rfl rfl fun b8 w10 hB_ hC=>Zc (v:=.bool false) rfl (dn (sr (Yd hC 0 [u0_0] rfl ag55 rfl rfl rfl (Zf [.agg #[u0_0]] _ Tryz.func64 rfl rfl rfl (Zdj a0 h _ (Yh (hC.getP 2 rfl))) ?_)))))
 rintro _ w11 ⟨r11,b10,rfl,h,hr10,hf10,hB10⟩
 refine rt ?_
 replace hC:=hC.push hB10 (mapS b10 r11) hr10 (fun b_ hb_=>by obtain rfl:=Zvn.1 hb_; exact hf10)
 refine Zf [vQ b1,.map (some b10)] _ Tryz.func95 rfl rfl rfl (Zlb a1 r11 h _ (Yi (hC.getP 1 rfl) (hC.getP 0 rfl)) (hC.getP 5 rfl) (hC.getM 0 rfl)) ?_
 rintro _ w12 ⟨r10,b11,rfl,h,hr11,hf11,hB11⟩
 refine rt ?_
 replace hC:=hC.push hB11 (mapS b11 r10) hr11 (fun b_ hb_=>by obtain rfl:=Zvn.1 hb_; exact hf11)
 refine Zh6 (hC.getM 0 rfl) ZF5 rfl rfl (Xx rfl rfl (Zc (v:=.bool (decide ((r10.length:Int) > 0))) rfl (dn (ZFh ?_))))
 exact Zk rfl (Zg rfl) ⟨decide ((r10.length:Int) > 0),rfl,h,hC.below⟩ (.inl rfl)
def Zg2 (a0:List ZFd) (p1:ZFd→(Bool→Prop)→Prop) (K:Int→Prop):Prop :=
 Yg (fun i10 (s10:Unit) nx10=>p1 (a0.getD i10 Zt0) (fun r10=>(if r10=true then K (i10:Int) else nx10 ()))) (fun (s10:Unit)=>K (-1)) a0.length 0 ()
theorem Zq7 (a0:List ZFd) (p1:ZFd→(Bool→Prop)→Prop)  {K:Int→Prop} (h:Zg2 a0 p1 K) (w0:World) (q0:ZFv.sl.rep a0 [u0_0] fp0 w0) {g1:Nat} {cp1:List Value} {fn1:Func} (hf1:ZFb.funcs[g1]? = some fn1) (hb1:fn1.body.isNone=false) (hn1:(fn1.name == "runtime.NumGoroutine")=false) (hp1:∀ (y0:ZFd) (yu0_0:Value) (yf0:List Nat) (K_:Bool→Prop) (w_:World),Bel w0 w_→ZFv.rep y0 [yu0_0] yf0 w_→p1 y0 K_→Calls ZFb g1 (ZE8 ([.agg #[yu0_0]]++cp1)) w_ fun e w'=>∃ (z0:Bool),e=.returned (.bool z0)∧K_ z0∧Bel w_ w') :
  Calls ZFb 96 #[u0_0,.func (.func g1) #[] (ZE8 cp1)] w0 fun e w'=>∃ (r0:Int),
   e=.returned (vI r0)∧K r0∧Bel w0 w':=by
 unfold Zg2 at h
 refine cof Tryz.func96 rfl 19 Tryz.ntmps96 ?_
 have hC:=ZFu (X:=Nox) w0 [ZBl ZFv.sl a0 [u0_0] fp0] (al1 q0)
 refine sr (Zc (v:=vI 0) rfl (dn (ZE9 (sr (Zb (v:=u0_0) rfl (Zx hC 0 rfl ZFx rfl (Zb (v:=vI 0) rfl (dn (ZFf ?_)))))))))
 have hN10:a0.length≤9223372036854775807:=Y0 (hC.getP 0 rfl)
 refine Yp (S:=Unit) _ _ (fun i10 s10 e_ w_=>Z2 e_ [(0,u0_0),(1,.func (.func g1) #[] (ZE8 cp1)),(7,vI (a0.length:Int)),(8,vI (i10:Int))]∧Ctx Nox w0 w_ [] [ZBl ZFv.sl a0 [u0_0] fp0]) a0.length ?_ ?_ (s0:=()) ?_ h
 ·clear hC h
  rintro i10 s10 e_ w10 nx10 K10 hi10 ⟨hS_,hC⟩ h hK10
  rw [ue hS_]
  refine sr (Zo rfl rfl (dn (ZE9 (Z8 rfl (decide_eq_true (by omega)) (ZFc (Zd (ZE9 (ZFf (sr (Zb (v:=vI (i10:Int)) rfl (Zc (v:=vI (i10:Int)) rfl (dn (sr (Zb (v:=.func (.func g1) #[] (ZE8 cp1)) rfl (Zb (v:=u0_0) rfl (Zb (v:=vI (i10:Int)) rfl ?_))))))))))))))))
  obtain ⟨Ad10,c10,hv10⟩:=Z3 (hC.getP 0 rfl) i10 hi10
  refine Yu (len:=a0.length) ZFx ag55.size (tr rfl hv10) rfl (ZFq _) (ZF8.2 hi10) ?_
  obtain ⟨cs_,hl10,hc10,hr10⟩:=Xh (hC.getP 0 rfl) hv10 i10 hi10
  obtain ⟨u10,rfl⟩:=ZF7.1 hl10
  clear hl10
  rw [Xf _ _ hi10] at hr10
  have hp10:=hr10
  replace hC:=hC.derive 0 rfl (ZBl ETerm.ty.sl ((a0.getD i10 Zt0).terms) [u10] fp0) (fun _=>(Yn hp10)) (fun _ hb_=>hb_)
  refine X9 [u10] hc10 ag55 rfl rfl ?_
  refine Zkd [.agg #[u10]] _ rfl hf1 hb1 hn1 rfl (hp1 _ _ _ _ _ hC.below (Yh (hC.getP 0 rfl)) h) (fun ret10 w11 hR10=>?_)
  obtain ⟨r10,rfl,h,hB10⟩:=hR10
  refine⟨_,rfl,?_⟩
  replace hC:=hC.grow hB10
  refine dn ?_
  refine Zq rfl (fun hb10=>?_) (fun hb10=>?_)
  ·replace h:=ift h (hb10)
   refine sr (Zb (v:=vI (i10:Int)) rfl (Zc (v:=vI (i10:Int)) rfl (dn ?_)))
   refine ZFh (Zv (Ze (Ze (Zv (Ze ?_)))))
   exact Zk rfl (Zg rfl) ⟨(i10:Int),rfl,h,hC.below⟩ (.inl rfl)
  ·replace h:=Zl h (Yq hb10)
   refine ZFc (Zt (Zd (Zn (Zr rfl rfl (Zb (v:=vI (Zwe.wrap ((i10:Int)+1))) rfl (done ?_))))))
   exact hK10 () _ _ ⟨(sl ⟨rfl,rfl,rfl,(tr rfl (congrArg _ (Z9 hi10 hN10))),trivial⟩),(hC.sP [1] rfl)⟩ h
 ·clear hC h
  rintro s10 e_ w12 K10 ⟨hS_,hC⟩ h
  rw [ue hS_]
  refine sr (Zo rfl rfl (dn (ZE9 (Ya rfl (decide_eq_false (by omega)) ?_))))
  refine ZFn (Zm (Zm (Z5 ?_)))
  refine Zd (sr (Zc (v:=vI (-1)) rfl (dn (ZFh ?_))))
  exact Zk rfl (Zg rfl) ⟨(-1),rfl,h,hC.below⟩ (.inl rfl)
 ·skip
  exact⟨(slq rfl),hC⟩
def Zfj (a0:List ZFd) (p1:ZFd→(Bool→Prop)→Prop) (K:Bool→Prop):Prop :=
 Zg2 a0 p1 (fun r5=>K (decide (r5≥0)))
theorem Zq8 (a0:List ZFd) (p1:ZFd→(Bool→Prop)→Prop)  {K:Bool→Prop} (h:Zfj a0 p1 K) (w0:World) (q0:ZFv.sl.rep a0 [u0_0] fp0 w0) {g1:Nat} {cp1:List Value} {fn1:Func} (hf1:ZFb.funcs[g1]? = some fn1) (hb1:fn1.body.isNone=false) (hn1:(fn1.name == "runtime.NumGoroutine")=false) (hp1:∀ (y0:ZFd) (yu0_0:Value) (yf0:List Nat) (K_:Bool→Prop) (w_:World),Bel w0 w_→ZFv.rep y0 [yu0_0] yf0 w_→p1 y0 K_→Calls ZFb g1 (ZE8 ([.agg #[yu0_0]]++cp1)) w_ fun e w'=>∃ (z0:Bool),e=.returned (.bool z0)∧K_ z0∧Bel w_ w') :
  Calls ZFb 72 #[u0_0,.func (.func g1) #[] (ZE8 cp1)] w0 fun e w'=>∃ (r0:Bool),
   e=.returned (.bool r0)∧K r0∧Bel w0 w':=by
 unfold Zfj at h
 refine cof Tryz.func72 rfl 9 Tryz.ntmps72 ?_
 have hC:=ZFu (X:=Nox) w0 [ZBl ZFv.sl a0 [u0_0] fp0] (al1 q0)
 refine sr (Zc (v:=.bool false) rfl (dn (sr (Zb (v:=u0_0) rfl (Zb (v:=.func (.func g1) #[] (ZE8 cp1)) rfl (Zf [u0_0,.func (.func g1) #[] (ZE8 cp1)] _ Tryz.func96 rfl rfl rfl (Zq7 a0 p1 h _ (hC.getP 0 rfl) hf1 hb1 hn1 (fun x0_ x1_ x2_ K_ w_ hb_=>hp1 x0_ x1_ x2_ K_ w_ (Zke hC.below hb_))) ?_))))))
 rintro _ w4 ⟨r5,rfl,h,hB6⟩
 refine rt ?_
 replace hC:=hC.grow hB6
 refine Zbh rfl rfl (Zc (v:=.bool (decide (r5≥0))) rfl (dn (ZFh ?_)))
 exact Zk rfl (Zg rfl) ⟨decide (r5≥0),rfl,h,hC.below⟩ (.inl rfl)
def Zds (a0:Alg) (K:Bool→Prop):Prop :=
 Zex a0.degrees (fun r11=>(if¬ (r11=true) then K false else(if(a0.images.length:Int)≠(a0.degrees.length:Int) then K false else Yg (fun i10 (s10:Unit) nx10=>Zdl a0.degrees (a0.images.getD i10 Zt0) (fun r10=>(if¬ (r10=true) then K false else((0≤(i10:Int)∧(i10:Int) < (a0.degrees.length:Int))∧Zdm a0.degrees (a0.images.getD i10 Zt0) (Zwe.wrap ((a0.degrees.getD i10 Zt0)+1)) (fun r13=>(if¬ (r13=true) then K false else nx10 ())))))) (fun (s10:Unit)=>Zfj a0.images (fun y0_ K_=>Zfi y0_ a0 K_) (fun r12=>K (!r12))) a0.images.length 0 ())))
theorem Zls (a0:Alg)  {K:Bool→Prop} (h:Zds a0 K) (w0:World) (q0:TAlg.rep a0 [u0_0,u0_1] fp0 w0) :
  Calls ZFb 71 #[.agg #[u0_0,u0_1]] w0 fun e w'=>∃ (r0:Bool),
   e=.returned (.bool r0)∧K r0∧Bel w0 w':=by
 unfold Zds at h
 refine cof Tryz.func71 rfl 50 Tryz.ntmps71 ?_
 have hC:=ZFu (X:=Nox) w0 [ZBl TAlg a0 [u0_0,u0_1] fp0] (al1 q0)
 replace hC:=hC.dAlg 0 rfl
 refine sr (Yf (v:=.agg #[u0_0,u0_1]) hC [u0_0,u0_1] rfl rfl fun b4 w6 hB_ hC=>Zc (v:=.bool false) rfl (dn (ZE9 (sr (Zz 0 ZFt rfl sc22.size rfl rfl (Z6 hC 0 (u0_0) rfl sc22 rfl rfl (Zf [u0_0] _ Tryz.func92 rfl rfl rfl (Zpy a0.degrees h _ (hC.getP 1 rfl)) ?_)))))))
 rintro _ w9 ⟨r11,rfl,h,hB10⟩
 refine rt ?_
 replace hC:=hC.grow hB10
 refine Y4 rfl (Zb (v:=.bool (!r11)) rfl ?_)
 refine Yt (!r11) (fun hb11=>?_) (fun hb11=>?_)
 ·replace h:=ift h (Yq (Y5 hb11))
  refine Zh (b:=true) 4 9 rfl (tr rfl (congrArg _ hb11)) (by decide) (Zh (b:=true) 4 9 rfl (tr rfl (congrArg _ hb11)) (by decide) (Zh (b:=true) 4 9 rfl (tr rfl (congrArg _ hb11)) (by decide) (Zh (b:=true) 4 9 rfl (tr rfl (congrArg _ hb11)) (by decide) (Zh (b:=true) 4 9 rfl (tr rfl (congrArg _ hb11)) (by decide) (Zh (b:=true) 4 9 rfl (tr rfl (congrArg _ hb11)) (by decide) (Zh (b:=true) 4 9 rfl (tr rfl (congrArg _ hb11)) (by decide) (Zw (v:=.bool true) (b:=true) (tr rfl (congrArg _ hb11)) rfl (dn (Z8 rfl rfl (sr (Zc (v:=.bool false) rfl (dn ?_))))))))))))
  refine ZFh (Ze ?_)
  exact Zk rfl (Zg rfl) ⟨false,rfl,h,hC.below⟩ (.inl rfl)
 ·replace h:=Zl h (not_not_intro ((Y6 hb11)))
  refine Zi 4 9 rfl rfl hb11 (Zz 1 ZFt rfl sc28.size rfl rfl (Zi 4 9 rfl rfl hb11 (Z6 hC 0 (u0_1) rfl sc28 rfl rfl (Zi 4 9 rfl rfl hb11 (Zx hC 0 rfl ZFx rfl (Zi 4 9 rfl rfl hb11 (Zz 0 ZFt rfl sc22.size rfl rfl (Zi 4 9 rfl rfl hb11 (Z6 hC 0 (u0_0) rfl sc22 rfl rfl (Zi 4 9 rfl rfl hb11 (Zx hC 1 rfl ZFs rfl (Zi 4 9 rfl rfl hb11 (Y7 rfl rfl (Zw (v:=.bool (decide ((a0.images.length:Int)≠(a0.degrees.length:Int)))) (b:=false) (tr rfl (congrArg _ hb11)) rfl (dn ?_)))))))))))))))
  refine Zq rfl (fun hb12=>?_) (fun hb12=>?_)
  ·replace h:=ift h (ct hb12)
   refine sr (Zc (v:=.bool false) rfl (dn ?_))
   refine ZFh (Ze ?_)
   exact Zk rfl (Zg rfl) ⟨false,rfl,h,hC.below⟩ (.inl rfl)
  ·replace h:=Zl h (cf hb12)
   refine ZFc (Zd (ZE9 (sr (Zz 1 ZFt rfl sc28.size rfl rfl (Z6 hC 0 (u0_1) rfl sc28 rfl rfl (Zx hC 0 rfl ZFx rfl (Zb (v:=vI 0) rfl (dn (ZFf ?_)))))))))
   have hN10:a0.images.length≤9223372036854775807:=Y0 (hC.getP 0 rfl)
   refine Yp (S:=Unit) _ _ (fun i10 s10 e_ w_=>Z2 e_ [(1,vQ b4),(19,u0_1),(20,vI (a0.images.length:Int)),(21,vI (i10:Int))]∧Ctx Nox w0 w_ [blk b4 32 [u0_0,u0_1]] [ZBl ZFv.sl a0.images [u0_1] fp0,ZBl TInts a0.degrees [u0_0] fp0,ZBl TAlg a0 [u0_0,u0_1] fp0]) a0.images.length ?_ ?_ (s0:=()) ?_ h
   ·clear hC h
    rintro i10 s10 e_ w10 nx10 K10 hi10 ⟨hS_,hC⟩ h hK10
    rw [ue hS_]
    refine sr (Zo rfl rfl (dn (ZE9 (Z8 rfl (decide_eq_true (by omega)) (ZFc (Zd (ZE9 (ZFf (sr (Zb (v:=vI (i10:Int)) rfl ?_))))))))))
    obtain ⟨Ad11,c10,hv10⟩:=Z3 (hC.getP 0 rfl) i10 hi10
    refine Yu (len:=a0.images.length) ZFx ag55.size (tr rfl hv10) rfl (ZFq _) (ZF8.2 hi10) ?_
    obtain ⟨cs_,hl10,hc10,hr10⟩:=Xh (hC.getP 0 rfl) hv10 i10 hi10
    obtain ⟨u10,rfl⟩:=ZF7.1 hl10
    clear hl10
    rw [Xf _ _ hi10] at hr10
    have hp10:=hr10
    replace hC:=hC.derive 0 rfl (ZBl ETerm.ty.sl ((a0.images.getD i10 Zt0).terms) [u10] fp0) (fun _=>(Yn hp10)) (fun _ hb_=>hb_)
    refine X9 [u10] hc10 ag55 rfl rfl (Yb hC [.slice none 0 0] z55 rfl fun b10 w11 hB_ hC=>Zc (v:=vI (i10:Int)) rfl (Zu (v:=.agg #[u10]) hC 0 [u10] [u10] rfl ag55.size rfl rfl rfl rfl (Ym (J2 (hC.getP 0 rfl)) rfl) (ZFi rfl) rfl fun w12 hC=>dn (ZE9 ?_)))
    refine cwd 15 mixed [0,1,0,7,15,31,63,127,63,63,575,63,3647,7743,15935,32767,65535,131071] [1,2,7,8,10,12,13] [0,4,5,6,7,8,9,10,11,12,13,14] (fun hM11 hM10 w13 hB_=>?_)
    replace hC:=hC.grow hB_
    refine bF 0 (vQ b4) rfl rfl hM10 (fun _=>by exact Ye 0 ZFt rfl sc22.size rfl rfl) (Za 18 1) (bL 1 (u0_0) rfl rfl hM11 (fun _ hB_=>by exact Yc (hC.grow hB_) 1 (u0_0) rfl sc22 rfl rfl) (Za 18 3) (bL 2 (.agg #[u10]) rfl rfl hM11 (fun _ hB_=>by exact Yo (hC.grow hB_) 0 [u10] rfl ag55 rfl rfl rfl) (Za 18 7) (aO 3 rfl (Zf [u0_0,.agg #[u10]] _ Tryz.func74 rfl rfl rfl (Zk9 a0.degrees (a0.images.getD i10 Zt0) h _ (hC.getP 2 rfl) (Yh (hC.getP 0 rfl))) ?_))))
    rintro _ w14 ⟨r10,rfl,h,hB11⟩
    refine rt ?_
    replace hC:=hC.grow hB11
    refine done (aK (by assumption) (Za 18 15) (bF 4 (.bool (!r10)) rfl rfl hM10 (fun _=>by exact Zfx rfl) (Za 18 31) (bM 5 (.bool (!r10)) rfl hM10 (Za 18 63) ?_)))
    refine Yt (!r10) (fun hb10=>?_) (fun hb10=>?_)
    ·replace h:=ift h (Yq (Y5 hb10))
     refine Zp Zs 6 undef rfl rfl (by kernel_rfl) (hM10 6 rfl) (fun w_=>.inr ⟨Z4 (b:=true) 5 31 rfl (tr rfl (congrArg _ hb10)) (by decide),rfl⟩) (l9:=(Za 18 127)) (by kernel_rfl) (Zp Zs 7 undef rfl rfl (by kernel_rfl) (hM10 7 rfl) (fun w_=>.inr ⟨Z4 (b:=true) 5 31 rfl (tr rfl (congrArg _ hb10)) (by decide),rfl⟩) (l9:=(Za 18 255)) (by kernel_rfl) (Zp Zs 8 undef rfl rfl (by kernel_rfl) (hM10 8 rfl) (fun w_=>.inr ⟨Z4 (b:=true) 5 31 rfl (tr rfl (congrArg _ hb10)) (by decide),rfl⟩) (l9:=(Za 18 511)) (by kernel_rfl) (Zp Zs 9 undef rfl rfl (by kernel_rfl) (hM10 9 rfl) (fun w_=>.inr ⟨Z4 (b:=true) 5 31 rfl (tr rfl (congrArg _ hb10)) (by decide),rfl⟩) (l9:=(Za 18 1023)) (by kernel_rfl) (Zp Zs 10 undef rfl rfl (by kernel_rfl) (hM10 10 rfl) (fun w_=>.inr ⟨Z4 (b:=true) 5 31 rfl (tr rfl (congrArg _ hb10)) (by decide),rfl⟩) (l9:=(Za 18 2047)) (by kernel_rfl) (Zp Zs 11 undef rfl rfl (by kernel_rfl) (hM10 11 rfl) (fun w_=>.inr ⟨Z4 (b:=true) 5 31 rfl (tr rfl (congrArg _ hb10)) (by decide),rfl⟩) (l9:=(Za 18 4095)) (by kernel_rfl) (Zp Zs 12 undef rfl rfl (by kernel_rfl) (hM10 12 rfl) (fun w_=>.inr ⟨Z4 (b:=true) 5 31 rfl (tr rfl (congrArg _ hb10)) (by decide),rfl⟩) (l9:=(Za 18 8191)) (by kernel_rfl) (Zp Zs 13 undef rfl rfl (by kernel_rfl) (hM10 13 rfl) (fun w_=>.inr ⟨Z4 (b:=true) 5 31 rfl (tr rfl (congrArg _ hb10)) (by decide),rfl⟩) (l9:=(Za 18 16383)) (by kernel_rfl) (Zp Zs 14 undef rfl rfl (by kernel_rfl) (hM10 14 rfl) (fun w_=>.inr ⟨Z4 (b:=true) 5 31 rfl (tr rfl (congrArg _ hb10)) (by decide),rfl⟩) (l9:=(Za 18 32767)) (by kernel_rfl) (Z0 15 (by decide) (by decide) (by kernel_rfl) (by kernel_rfl) rfl (Zh (b:=true) 5 31 rfl (tr rfl (congrArg _ hb10)) (by decide) (Zh (b:=true) 5 31 rfl (tr rfl (congrArg _ hb10)) (by decide) (Zw (v:=.bool true) (b:=true) (tr rfl (congrArg _ hb10)) rfl (done (Z1 (Zd (Z8 rfl rfl (sr (Zc (v:=.bool false) rfl (dn ?_)))))))))))))))))))
     refine ZFh (Zv (Ze (Ze (Zv (Ze ?_)))))
     exact Zk rfl (Zg rfl) ⟨false,rfl,h,hC.below⟩ (.inl rfl)
    ·replace h:=Zl h (not_not_intro ((Y6 hb10)))
     refine aF 6 (vQ b4) rfl rfl (hM10 6 rfl) (Z7 5 31 rfl rfl hb10) (fun _=>by exact Ye 0 ZFt rfl sc22.size rfl rfl) (Za 18 127) (aL 7 (u0_0) rfl rfl (hM11 7 rfl) (Z7 5 31 rfl rfl hb10) (fun _ hB_=>by exact Yc (hC.grow hB_) 1 (u0_0) rfl sc22 rfl rfl) (Za 18 255) (aL 8 (.agg #[u10]) rfl rfl (hM11 8 rfl) (Z7 5 31 rfl rfl hb10) (fun _ hB_=>by exact Yo (hC.grow hB_) 0 [u10] rfl ag55 rfl rfl rfl) (Za 18 511) (aF 9 (vQ b4) rfl rfl (hM10 9 rfl) (Z7 5 31 rfl rfl hb10) (fun _=>by exact Ye 0 ZFt rfl sc22.size rfl rfl) (Za 18 1023) (aL 10 (u0_0) rfl rfl (hM11 10 rfl) (Z7 5 31 rfl rfl hb10) (fun _ hB_=>by exact Yc (hC.grow hB_) 1 (u0_0) rfl sc22 rfl rfl) (Za 18 2047) (aF 11 (vI (i10:Int)) rfl rfl (hM10 11 rfl) (Z7 5 31 rfl rfl hb10) (fun _=>by exact Xw (v:=vI (i10:Int)) rfl) (Za 18 4095) ?_)))))
     obtain ⟨⟨h10,h11⟩,h⟩:=h
     obtain ⟨Ad10,c11,hv11⟩:=Z3 (hC.getP 2 rfl) i10 (show i10 < a0.degrees.length by omega)
     refine aL 12 (.pointer (some (Ad10.add (i10 * 1)))) rfl rfl (hM11 12 rfl) (Z7 5 31 rfl rfl hb10) (fun _ hB_=>by exact Yy (len:=a0.degrees.length) ZFs sc2.size (by exact tr rfl hv11) rfl h10 h11) (Za 18 8191) (aL 13 (vI (a0.degrees.getD i10 Zt0)) rfl rfl (hM11 13 rfl) (Z7 5 31 rfl rfl hb10) (fun _ hB_=>by exact J7 (vI (a0.degrees.getD i10 Zt0)) (Yj ((hC.grow hB_).getP 2 rfl) hv11 i10 (show i10 < a0.degrees.length by omega)) sc2 rfl) (Za 18 16383) (aF 14 (vI (Zwe.wrap ((a0.degrees.getD i10 Zt0)+1))) rfl rfl (hM10 14 rfl) (Z7 5 31 rfl rfl hb10) (fun _=>by exact Zjs rfl rfl) (Za 18 32767) (Z0 15 (by decide) (by decide) (by kernel_rfl) (by kernel_rfl) rfl (Zi 5 31 rfl rfl hb10 (Zf [u0_0,.agg #[u10],vI (Zwe.wrap ((a0.degrees.getD i10 Zt0)+1))] _ Tryz.func93 rfl rfl rfl (Zla a0.degrees (a0.images.getD i10 Zt0) (Zwe.wrap ((a0.degrees.getD i10 Zt0)+1)) h _ (hC.getP 2 rfl) (Yh (hC.getP 0 rfl))) ?_)))))
     rintro _ w15 ⟨r13,rfl,h,hB12⟩
     refine rt ?_
     replace hC:=hC.grow hB12
     refine Zi 5 31 rfl rfl hb10 (Y4 rfl (Zw (v:=.bool (!r13)) (b:=false) (tr rfl (congrArg _ hb10)) rfl (done (Z1 (Zd ?_)))))
     refine Zq rfl (fun hb13=>?_) (fun hb13=>?_)
     ·replace h:=ift h (Yq (Y5 hb13))
      refine sr (Zc (v:=.bool false) rfl (dn ?_))
      refine ZFh (Zv (Ze (Ze (Zv (Ze ?_)))))
      exact Zk rfl (Zg rfl) ⟨false,rfl,h,hC.below⟩ (.inl rfl)
     ·replace h:=Zl h (not_not_intro ((Y6 hb13)))
      refine ZFc (Zt (Zd (Zn (Zr rfl rfl (Zb (v:=vI (Zwe.wrap ((i10:Int)+1))) rfl (done ?_))))))
      exact hK10 () _ _ ⟨(sl ⟨rfl,rfl,rfl,(tr rfl (congrArg _ (Z9 hi10 hN10))),trivial⟩),((hC.xM [1] rfl).sP [1,2,3] rfl)⟩ h
   ·clear hC h
    rintro s10 e_ w16 K10 ⟨hS_,hC⟩ h
    rw [ue hS_]
    refine sr (Zo rfl rfl (dn (ZE9 (Ya rfl (decide_eq_false (by omega)) ?_))))
    refine ZFn (Zm (Zm (Z5 ?_)))
    refine Zd (sr (Zz 1 ZFt rfl sc28.size rfl rfl (Z6 hC 0 (u0_1) rfl sc28 rfl rfl (Zn0 (g:=94) [vQ b4] (Znz rfl rfl) (Zf [u0_1,.func (.func 94) #[] (ZE8 [vQ b4])] _ Tryz.func72 rfl rfl rfl (Zq8 a0.images (fun y0_ K_=>Zfi y0_ a0 K_) h _ (hC.getP 0 rfl) Tryz.func94 rfl rfl (fun y0_ yu0_0_ yf0_ K_ w_ hb_ rq0_ hq_=>Zq6 y0_ a0 hq_ w_ rq0_ (Yi ((hC.grow hb_).getP 1 rfl) ((hC.grow hb_).getP 0 rfl)) ((hC.grow hb_).getM 0 rfl))) ?_)))))
    rintro _ w17 ⟨r12,rfl,h,hB13⟩
    refine rt ?_
    replace hC:=hC.grow hB13
    refine Y4 rfl (Zc (v:=.bool (!r12)) rfl (dn (ZFh ?_)))
    exact Zk rfl (Zg rfl) ⟨!r12,rfl,h,hC.below⟩ (.inl rfl)
   ·skip
    exact⟨(slq rfl),hC⟩
def Zg3 (a0:List Term) (a1:Int) (K:Int→Prop):Prop :=
 (if Zwe.wrap (a1 - (a0.length:Int)) < 0 then K (-1) else K (Zwe.wrap (a1 - (a0.length:Int))))
theorem Zq9 (a0:List Term) (a1:Int)  {K:Int→Prop} (h:Zg3 a0 a1 K) (w0:World) (q0:ETerm.ty.sl.rep a0 [u0_0] fp0 w0) :
  Calls ZFb 55 #[u0_0,vI a1] w0 fun e w'=>∃ (r0:Int),
   e=.returned (vI r0)∧K r0∧Bel w0 w':=by
 unfold Zg3 at h
 refine cof Tryz.func55 rfl 12 Tryz.ntmps55 ?_
 have hC:=ZFu (X:=Nox) w0 [ZBl ETerm.ty.sl a0 [u0_0] fp0] (al1 q0)
 refine sr (Zc (v:=vI 0) rfl (dn (sr (Zb (v:=vI a1) rfl (Zb (v:=u0_0) rfl (Zx hC 0 rfl Tryz.underlying49 rfl (Zb2 rfl rfl (Zc (v:=vI (Zwe.wrap (a1 - (a0.length:Int)))) rfl (dn (ZE9 (sr (Zb (v:=vI (Zwe.wrap (a1 - (a0.length:Int)))) rfl (Zo rfl rfl (dn ?_))))))))))))))
 refine Zq rfl (fun hb5=>?_) (fun hb5=>?_)
 ·replace h:=ift h (ct hb5)
  refine sr (Zc (v:=vI (-1)) rfl (dn ?_))
  refine ZFh (Ze ?_)
  exact Zk rfl (Zg rfl) ⟨(-1),rfl,h,hC.below⟩ (.inl rfl)
 ·replace h:=Zl h (cf hb5)
  refine ZFc (Zd (sr (Zb (v:=vI (Zwe.wrap (a1 - (a0.length:Int)))) rfl (Zc (v:=vI (Zwe.wrap (a1 - (a0.length:Int)))) rfl (dn (ZFh ?_))))))
  exact Zk rfl (Zg rfl) ⟨Zwe.wrap (a1 - (a0.length:Int)),rfl,h,hC.below⟩ (.inl rfl)
def Zdt (a0:ZFd) (a1:Int) (K:Int→Prop):Prop :=
 Zg3 a0.terms a1 (fun r10=>(if r10 < 0 then K (-1) else K r10))
theorem Zra (a0:ZFd) (a1:Int)  {K:Int→Prop} (h:Zdt a0 a1 K) (w0:World) (q0:ZFv.rep a0 [u0_0] fp0 w0) :
  Calls ZFb 26 #[.agg #[u0_0],vI a1] w0 fun e w'=>∃ (r0:Int),
   e=.returned (vI r0)∧K r0∧Bel w0 w':=by
 unfold Zdt at h
 refine cof Tryz.func26 rfl 12 Tryz.ntmps26 ?_
 have hC:=ZFu (X:=Nox) w0 [ZBl TForm a0 [u0_0] fp0] (al1 q0)
 have hp2:=(hC.getP 0 rfl)
 replace hC:=hC.derive 0 rfl (ZBl ETerm.ty.sl a0.terms [u0_0] fp0) (fun _=>(Yn hp2)) (fun _ hb_=>hb_)
 refine sr (Yf (v:=.agg #[u0_0]) hC [u0_0] rfl rfl fun b4 w6 hB_ hC=>Zc (v:=vI 0) rfl (dn (sr (Zz 0 Tryz.underlying51 rfl sc49.size rfl rfl (Z6 hC 0 (u0_0) rfl sc49 rfl rfl (Zb (v:=vI a1) rfl (Zf [u0_0,vI a1] _ Tryz.func55 rfl rfl rfl (Zq9 a0.terms a1 h _ (hC.getP 0 rfl)) ?_)))))))
 rintro _ w9 ⟨r10,rfl,h,hB10⟩
 refine rt ?_
 replace hC:=hC.grow hB10
 refine Zc (v:=vI r10) rfl (dn (ZE9 (sr (Zb (v:=vI r10) rfl (Zo rfl rfl (dn ?_))))))
 refine Zq rfl (fun hb10=>?_) (fun hb10=>?_)
 ·replace h:=ift h (ct hb10)
  refine sr (Zc (v:=vI (-1)) rfl (dn ?_))
  refine ZFh (Ze ?_)
  exact Zk rfl (Zg rfl) ⟨(-1),rfl,h,hC.below⟩ (.inl rfl)
 ·replace h:=Zl h (cf hb10)
  refine ZFc (Zd (sr (Zb (v:=vI r10) rfl (Zc (v:=vI r10) rfl (dn (ZFh ?_))))))
  exact Zk rfl (Zg rfl) ⟨r10,rfl,h,hC.below⟩ (.inl rfl)
def Zck (a0:List ZFd) (a1:Int) (K:Int→Prop):Prop :=
 (if Zwe.wrap (a1 - (a0.length:Int)) < 0 then K (-1) else Yg (fun i10 (s10:Int) nx10=>Zdt (a0.getD i10 Zt0) s10 (fun r10=>(if r10 < 0 then K (-1) else nx10 r10))) (fun (s10:Int)=>K s10) a0.length 0 (Zwe.wrap (a1 - (a0.length:Int))))
theorem Ziv (a0:List ZFd) (a1:Int)  {K:Int→Prop} (h:Zck a0 a1 K) (w0:World) (q0:ZFv.sl.rep a0 [u0_0] fp0 w0) :
  Calls ZFb 7 #[u0_0,vI a1] w0 fun e w'=>∃ (r0:Int),
   e=.returned (vI r0)∧K r0∧Bel w0 w':=by
 unfold Zck at h
 refine cof Tryz.func7 rfl 27 Tryz.ntmps7 ?_
 have hC:=ZFu (X:=Nox) w0 [ZBl ZFv.sl a0 [u0_0] fp0] (al1 q0)
 refine sr (Zc (v:=vI 0) rfl (dn (sr (Zb (v:=vI a1) rfl (Zb (v:=u0_0) rfl (Zx hC 0 rfl ZLr rfl (Zb2 rfl rfl (Zc (v:=vI (Zwe.wrap (a1 - (a0.length:Int)))) rfl (dn (ZE9 (sr (Zb (v:=vI (Zwe.wrap (a1 - (a0.length:Int)))) rfl (Zo rfl rfl (dn ?_))))))))))))))
 refine Zq rfl (fun hb5=>?_) (fun hb5=>?_)
 ·replace h:=ift h (ct hb5)
  refine sr (Zc (v:=vI (-1)) rfl (dn ?_))
  refine ZFh (Ze ?_)
  exact Zk rfl (Zg rfl) ⟨(-1),rfl,h,hC.below⟩ (.inl rfl)
 ·replace h:=Zl h (cf hb5)
  refine ZFc (Zd (ZE9 (sr (Zc (v:=vI 0) rfl (dn (ZFf ?_))))))
  have hN10:a0.length≤9223372036854775807:=Y0 (hC.getP 0 rfl)
  refine Yp (S:=Int) _ _ (fun i10 s10 e_ w_=>Z2 e_ [(0,u0_0),(1,vI s10),(5,vI (i10:Int))]∧Ctx Nox w0 w_ [] [ZBl ZFv.sl a0 [u0_0] fp0]) a0.length ?_ ?_ (s0:=(Zwe.wrap (a1 - (a0.length:Int)))) ?_ h
  ·clear hC h
   rintro i10 s10 e_ w10 nx10 K10 hi10 ⟨hS_,hC⟩ h hK10
   rw [ue hS_]
   refine ZE9 (sr (Zb (v:=vI (i10:Int)) rfl (Zb (v:=u0_0) rfl (Zx hC 0 rfl ZLr rfl (Zo rfl rfl (dn (Z8 rfl (decide_eq_true (by omega)) (ZFc (Zd (ZE9 (ZFf (sr (Zb (v:=u0_0) rfl (Zb (v:=vI (i10:Int)) rfl ?_))))))))))))))
   obtain ⟨Ad10,c10,hv10⟩:=Z3 (hC.getP 0 rfl) i10 hi10
   refine Yu (len:=a0.length) ZLr ag51.size (tr rfl hv10) rfl (ZFq _) (ZF8.2 hi10) ?_
   obtain ⟨cs_,hl10,hc10,hr10⟩:=Xh (hC.getP 0 rfl) hv10 i10 hi10
   obtain ⟨u10,rfl⟩:=ZF7.1 hl10
   clear hl10
   rw [Xf _ _ hi10] at hr10
   have hp10:=hr10
   replace hC:=hC.derive 0 rfl (ZBl ETerm.ty.sl ((a0.getD i10 Zt0).terms) [u10] fp0) (fun _=>(Yn hp10)) (fun _ hb_=>hb_)
   refine X9 [u10] hc10 ag51 rfl rfl (Zb (v:=vI s10) rfl (Zf [.agg #[u10],vI s10] _ Tryz.func26 rfl rfl rfl (Zra (a0.getD i10 Zt0) s10 h _ (Yh (hC.getP 0 rfl))) ?_))
   rintro _ w11 ⟨r10,rfl,h,hB10⟩
   refine rt ?_
   replace hC:=hC.grow hB10
   refine Zc (v:=vI r10) rfl (dn (sr (Zb (v:=vI r10) rfl (Zo rfl rfl (dn ?_)))))
   refine Zq rfl (fun hb10=>?_) (fun hb10=>?_)
   ·replace h:=ift h (ct hb10)
    refine sr (Zc (v:=vI (-1)) rfl (dn ?_))
    refine ZFh (Zv (Ze (Ze (Zv (Ze ?_)))))
    exact Zk rfl (Zg rfl) ⟨(-1),rfl,h,hC.below⟩ (.inl rfl)
   ·replace h:=Zl h (cf hb10)
    refine ZFc (Zt (Zd (Zn (Zb (v:=vI (i10:Int)) rfl (Zr rfl rfl (Zc (v:=vI (Zwe.wrap ((i10:Int)+1))) rfl (done ?_)))))))
    exact hK10 r10 _ _ ⟨(sl ⟨rfl,rfl,(tr rfl (congrArg _ (Z9 hi10 hN10))),trivial⟩),(hC.sP [1] rfl)⟩ h
  ·clear hC h
   rintro s10 e_ w12 K10 ⟨hS_,hC⟩ h
   rw [ue hS_]
   refine ZE9 (sr (Zb (v:=vI (a0.length:Int)) rfl (Zb (v:=u0_0) rfl (Zx hC 0 rfl ZLr rfl (Zo rfl rfl (dn (Ya rfl (decide_eq_false (by omega)) ?_)))))))
   refine ZFn (Zm (Zm (Z5 ?_)))
   refine Zd (sr (Zb (v:=vI s10) rfl (Zc (v:=vI s10) rfl (dn (ZFh ?_)))))
   exact Zk rfl (Zg rfl) ⟨s10,rfl,h,hC.below⟩ (.inl rfl)
  ·skip
   exact⟨(slq rfl),hC⟩
def Zg4 (a0:List Int) (a1:Int) (K:Int→Prop):Prop :=
 (if Zwe.wrap (a1 - (a0.length:Int)) < 0 then K (-1) else K (Zwe.wrap (a1 - (a0.length:Int))))
theorem Zrb (a0:List Int) (a1:Int)  {K:Int→Prop} (h:Zg4 a0 a1 K) (w0:World) (q0:TInts.rep a0 [u0_0] fp0 w0) :
  Calls ZFb 25 #[u0_0,vI a1] w0 fun e w'=>∃ (r0:Int),
   e=.returned (vI r0)∧K r0∧Bel w0 w':=by
 unfold Zg4 at h
 refine cof Tryz.func25 rfl 12 Tryz.ntmps25 ?_
 have hC:=ZFu (X:=Nox) w0 [ZBl TInts a0 [u0_0] fp0] (al1 q0)
 refine sr (Zc (v:=vI 0) rfl (dn (sr (Zb (v:=vI a1) rfl (Zb (v:=u0_0) rfl (Zx hC 0 rfl ZFs rfl (Zb2 rfl rfl (Zc (v:=vI (Zwe.wrap (a1 - (a0.length:Int)))) rfl (dn (ZE9 (sr (Zb (v:=vI (Zwe.wrap (a1 - (a0.length:Int)))) rfl (Zo rfl rfl (dn ?_))))))))))))))
 refine Zq rfl (fun hb5=>?_) (fun hb5=>?_)
 ·replace h:=ift h (ct hb5)
  refine sr (Zc (v:=vI (-1)) rfl (dn ?_))
  refine ZFh (Ze ?_)
  exact Zk rfl (Zg rfl) ⟨(-1),rfl,h,hC.below⟩ (.inl rfl)
 ·replace h:=Zl h (cf hb5)
  refine ZFc (Zd (sr (Zb (v:=vI (Zwe.wrap (a1 - (a0.length:Int)))) rfl (Zc (v:=vI (Zwe.wrap (a1 - (a0.length:Int)))) rfl (dn (ZFh ?_))))))
  exact Zk rfl (Zg rfl) ⟨Zwe.wrap (a1 - (a0.length:Int)),rfl,h,hC.below⟩ (.inl rfl)
def Zcl (a0:Alg) (a1:Int) (K:Int→Prop):Prop :=
 Zg4 a0.degrees a1 (fun r10=>(if r10 < 0 then K (-1) else Zck a0.images r10 (fun r11=>(if r11 < 0 then K (-1) else K r11))))
theorem Ziw (a0:Alg) (a1:Int)  {K:Int→Prop} (h:Zcl a0 a1 K) (w0:World) (q0:TAlg.rep a0 [u0_0,u0_1] fp0 w0) :
  Calls ZFb 6 #[.agg #[u0_0,u0_1],vI a1] w0 fun e w'=>∃ (r0:Int),
   e=.returned (vI r0)∧K r0∧Bel w0 w':=by
 unfold Zcl at h
 refine cof Tryz.func6 rfl 18 Tryz.ntmps6 ?_
 have hC:=ZFu (X:=Nox) w0 [ZBl TAlg a0 [u0_0,u0_1] fp0] (al1 q0)
 replace hC:=hC.dAlg 0 rfl
 refine sr (Yf (v:=.agg #[u0_0,u0_1]) hC [u0_0,u0_1] rfl rfl fun b4 w6 hB_ hC=>Zc (v:=vI 0) rfl (dn (sr (Zz 0 ZL1 rfl sc22.size rfl rfl (Z6 hC 0 (u0_0) rfl sc22 rfl rfl (Zb (v:=vI a1) rfl (Zf [u0_0,vI a1] _ Tryz.func25 rfl rfl rfl (Zrb a0.degrees a1 h _ (hC.getP 1 rfl)) ?_)))))))
 rintro _ w9 ⟨r10,rfl,h,hB10⟩
 refine rt ?_
 replace hC:=hC.grow hB10
 refine Zc (v:=vI r10) rfl (dn (ZE9 (sr (Zb (v:=vI r10) rfl (Zo rfl rfl (dn ?_))))))
 refine Zq rfl (fun hb10=>?_) (fun hb10=>?_)
 ·replace h:=ift h (ct hb10)
  refine sr (Zc (v:=vI (-1)) rfl (dn ?_))
  refine ZFh (Ze ?_)
  exact Zk rfl (Zg rfl) ⟨(-1),rfl,h,hC.below⟩ (.inl rfl)
 ·replace h:=Zl h (cf hb10)
  refine ZFc (Zd (sr (Zz 1 ZL1 rfl sc23.size rfl rfl (Z6 hC 0 (u0_1) rfl sc23 rfl rfl (Zb (v:=vI r10) rfl (Zf [u0_1,vI r10] _ Tryz.func7 rfl rfl rfl (Ziv a0.images r10 h _ (hC.getP 0 rfl)) ?_))))))
  rintro _ w10 ⟨r11,rfl,h,hB11⟩
  refine rt ?_
  replace hC:=hC.grow hB11
  refine Zc (v:=vI r11) rfl (dn (ZE9 (sr (Zb (v:=vI r11) rfl (Zo rfl rfl (dn ?_))))))
  refine Zq rfl (fun hb11=>?_) (fun hb11=>?_)
  ·replace h:=ift h (ct hb11)
   refine sr (Zc (v:=vI (-1)) rfl (dn ?_))
   refine ZFh (Ze ?_)
   exact Zk rfl (Zg rfl) ⟨(-1),rfl,h,hC.below⟩ (.inl rfl)
  ·replace h:=Zl h (cf hb11)
   refine ZFc (Zd (sr (Zb (v:=vI r11) rfl (Zc (v:=vI r11) rfl (dn (ZFh ?_))))))
   exact Zk rfl (Zg rfl) ⟨r11,rfl,h,hC.below⟩ (.inl rfl)
def Jz (a0:List ZFd) (K:List ZFd→Prop):Prop :=
 ((0≤(a0.length:Int)∧(a0.length:Int) * 24≤281474976710656)∧Yg (fun i10 (s10:(List ZFd)) nx10=>Ze8 (a0.getD i10 Zt0) (fun r10=>((0≤(i10:Int)∧(i10:Int) < (s10.length:Int))∧nx10 (s10.set i10 r10)))) (fun (s10:(List ZFd))=>K s10) a0.length 0 (Ztv ((a0.length:Int).toNat) ((⟨[]⟩:ZFd):ZFd)))
theorem Zbc (a0:List ZFd)  {K:List ZFd→Prop} (h:Jz a0 K) (w0:World) (q0:ZFv.sl.rep a0 [u0_0] fp0 w0) :
  Calls ZFb 10 #[u0_0] w0 fun e w'=>∃ (r0:List ZFd) (z0_0:Value) (fz0:List Nat),
   e=.returned (z0_0)∧K r0∧(ZFo (ZLn 55 (Zj 90)) r0 [z0_0] fz0).holds w'∧(∀ b,b∈fz0→w0.heap.size≤b)∧Bel w0 w':=by
 unfold Jz at h
 refine cof Tryz.func10 rfl 23 Tryz.ntmps10 ?_
 have hC:=ZFu (X:=Nox) w0 [ZBl ZFv.sl a0 [u0_0] fp0] (al1 q0)
 refine sr (Zc (v:=.slice none 0 0) rfl (dn (sr (Zb (v:=u0_0) rfl (Zx hC 0 rfl ZLr rfl ?_)))))
 obtain ⟨hm7,h⟩:=h
 refine Zhx (sz:=1) hC (Ztv ((a0.length:Int).toNat) (.slice none 0 0)) ZFx Ziu (tr rfl (congrArg (Value.int .i64) (Int.toNat_of_nonneg hm7.1).symm)) (tr rfl (congrArg (Value.int .i64) (Int.toNat_of_nonneg hm7.1).symm)) (by omega) (by omega) (Zoy _) fun v5 w6 hB_ hC=>?_
 replace hC:=hC.pushM0 (Yl (Zj 90) (Ztv ((a0.length:Int).toNat) ((⟨[]⟩:ZFd):ZFd)) (Ztv ((a0.length:Int).toNat) (.slice none 0 0)) (Ztv ((a0.length:Int).toNat) [])) (Zo0 (Jr (Zbl _ _ _)) rfl _) (Zoz _)
 replace hC:=hC.gather (c:=ZFo (ZLn 55 (Zj 90)) (Ztv ((a0.length:Int).toNat) ((⟨[]⟩:ZFd):ZFd)) [v5] ((ZF6 (Zum v5))++(Ztv ((a0.length:Int).toNat) ([]:List Nat)).flatten)) (fun x_ hx_=>(Zud.1 hx_).symm) (fun h1_ h2_ hd_=>Zau (by rw [List.length_replicate]; exact h2_) h1_ (fun b_ hb_ hb2_=>hd_ b_ hb2_ hb_))
 refine Zc (v:=v5) rfl (dn (ZE9 (sr (Zc (v:=vI 0) rfl (dn (ZFf ?_))))))
 have hN10:a0.length≤9223372036854775807:=Y0 (hC.getP 0 rfl)
 refine Yp (S:=(List ZFd)) _ _ (fun i10 s10 e_ w_=>∃ (v10:Value),∃ (f10:List Nat),Z2 e_ [(0,u0_0),(3,v10),(4,vI (i10:Int))]∧Ctx Nox w0 w_ [ZFo (ZLn 55 (Zj 90)) s10 [v10] f10] [ZBl ZFv.sl a0 [u0_0] fp0]) a0.length ?_ ?_ (s0:=(Ztv ((a0.length:Int).toNat) ((⟨[]⟩:ZFd):ZFd))) ?_ h
 ·clear hC h
  rintro i10 s10 e_ w10 nx10 K10 hi10 ⟨v10,f10,hS_,hC⟩ h hK10
  rw [ue hS_]
  refine ZE9 (sr (Zb (v:=vI (i10:Int)) rfl (Zb (v:=u0_0) rfl (Zx hC 0 rfl ZLr rfl (Zo rfl rfl (dn (Z8 rfl (decide_eq_true (by omega)) (ZFc (Zd (ZE9 (ZFf (Zn (Zb (v:=v10) rfl (Zb (v:=vI (i10:Int)) rfl (Zb (v:=u0_0) rfl (Zb (v:=vI (i10:Int)) rfl ?_))))))))))))))))
  obtain ⟨Ad10,c10,hv10⟩:=Z3 (hC.getP 0 rfl) i10 hi10
  refine Yu (len:=a0.length) ZLr ag51.size (tr rfl hv10) rfl (ZFq _) (ZF8.2 hi10) ?_
  obtain ⟨cs_,hl10,hc10,hr10⟩:=Xh (hC.getP 0 rfl) hv10 i10 hi10
  obtain ⟨u11,rfl⟩:=ZF7.1 hl10
  clear hl10
  rw [Xf _ _ hi10] at hr10
  have hp10:=hr10
  replace hC:=hC.derive 0 rfl (ZBl ETerm.ty.sl ((a0.getD i10 Zt0).terms) [u11] fp0) (fun _=>(Yn hp10)) (fun _ hb_=>hb_)
  refine X9 [u11] hc10 ag51 rfl rfl (Zf [.agg #[u11]] _ Tryz.func30 rfl rfl rfl (Zqa (a0.getD i10 Zt0) h _ (Yh (hC.getP 0 rfl))) ?_)
  rintro _ w11 ⟨r10,u10,f11,rfl,h,hr11,hf10,hB10⟩
  refine rt ?_
  replace hC:=hC.push hB10 (ZFo (Zj 90) r10 [u10] f11) hr11 hf10
  obtain ⟨ho10,hf11⟩:=Xb (hC.getM 0 rfl)
  subst hf11
  replace hC:=hC.recast (c:=own 90 9 u10 r10.terms.length (ETerm.encs r10.terms)) (fun _ h_=>h_) (fun _=>ho10)
  obtain ⟨⟨h10,h11⟩,h⟩:=h
  obtain ⟨g10,cap10,hv11⟩:=Zpg (hC.getM 1 rfl) (Nat.lt_of_le_of_lt (Nat.zero_le _) (show i10 < s10.length by omega))
  refine Zbj (i10 * 1) ZFx ag55.size (tr rfl hv11) rfl h10 h11 rfl ?_
  replace hC:=hC.recast (c:=ZFo (Zj 90) r10 [u10] (ZF6 (Zum u10))) (fun _ h_=>h_) (fun h_=>Jr (Jq h_))
  replace hC:=hC.sM [1,0] (M':=[ZFo (ZLn 55 (Zj 90)) s10 [v10] f10,ZFo (Zj 90) r10 [u10] (ZF6 (Zum u10))]) (by decide) rfl
  refine Zph (u:=.agg #[u10]) hC (show i10 < s10.length by omega) hv11 ag55.size rfl rfl rfl rfl fun f12 w12 hC=>done (Zt (Zd (Zn (Zb (v:=vI (i10:Int)) rfl (Zr rfl rfl (Zc (v:=vI (Zwe.wrap ((i10:Int)+1))) rfl (done ?_)))))))
  exact hK10 (s10.set i10 r10) _ _ ⟨v10,f12,(sl ⟨rfl,rfl,(tr rfl (congrArg _ (Z9 hi10 hN10))),trivial⟩),(hC.sP [1] rfl)⟩ h
 ·clear hC h
  rintro s10 e_ w13 K10 ⟨v10,f10,hS_,hC⟩ h
  rw [ue hS_]
  refine ZE9 (sr (Zb (v:=vI (a0.length:Int)) rfl (Zb (v:=u0_0) rfl (Zx hC 0 rfl ZLr rfl (Zo rfl rfl (dn (Ya rfl (decide_eq_false (by omega)) ?_)))))))
  refine ZFn (Zm (Zm (Z5 ?_)))
  refine Zd (sr (Zb (v:=v10) rfl (Zc (v:=v10) rfl (dn (ZFh ?_)))))
  exact Zk rfl (Zg rfl) ⟨s10,v10,f10,rfl,h,(hC.getM 0 rfl),(Za5 hC 0 rfl),hC.below⟩ (.inl rfl)
 ·skip
  exact⟨v5,((ZF6 (Zum v5))++(Ztv ((a0.length:Int).toNat) ([]:List Nat)).flatten),(slq rfl),hC⟩
def Jf (a0:Alg) (K:Alg→Prop):Prop :=
 Ze3 a0.degrees (fun r10=>Jz a0.images (fun r11=>K (⟨r10,r11⟩:Alg)))
theorem Zah (a0:Alg)  {K:Alg→Prop} (h:Jf a0 K) (w0:World) (q0:TAlg.rep a0 [u0_0,u0_1] fp0 w0) :
  Calls ZFb 9 #[.agg #[u0_0,u0_1]] w0 fun e w'=>∃ (r0:Alg) (z0_0:Value) (z0_1:Value) (fz0:List Nat),
   e=.returned (.agg #[z0_0,z0_1])∧K r0∧(ZFo (Jx 2 90 55) r0 [z0_0,z0_1] fz0).holds w'∧(∀ b,b∈fz0→w0.heap.size≤b)∧Bel w0 w':=by
 unfold Jf at h
 refine cof Tryz.func9 rfl 13 Tryz.ntmps9 ?_
 have hC:=ZFu (X:=Nox) w0 [ZBl TAlg a0 [u0_0,u0_1] fp0] (al1 q0)
 replace hC:=hC.dAlg 0 rfl
 refine sr (Yf (v:=.agg #[u0_0,u0_1]) hC [u0_0,u0_1] rfl rfl fun b4 w6 hB_ hC=>Yb hC [.slice none 0 0,.slice none 0 0] z32 rfl fun b7 w9 hB_ hC=>dn (sr (Yb hC [.slice none 0 0,.slice none 0 0] z32 rfl fun b10 w10 hB_ hC=>dn (sr (Zz 0 ZL1 rfl sc22.size rfl rfl (Z6 hC 2 (u0_0) rfl sc22 rfl rfl (Zf [u0_0] _ Tryz.func18 rfl rfl rfl (Zp5 a0.degrees h _ (hC.getP 1 rfl)) ?_)))))))
 rintro _ w11 ⟨r10,u10,f11,rfl,h,hr10,hf10,hB10⟩
 refine rt ?_
 replace hC:=hC.push hB10 (ZFo (ZLn 2 (eI.tr)) r10 [u10] f11) hr10 hf10
 obtain ⟨ho10,hf11⟩:=Zda (hC.getM 0 rfl).1
 subst hf11
 replace hC:=hC.recast (c:=own 2 1 u10 r10.length (eI.encs r10)) (fun _ h_=>h_) (fun _=>ho10)
 refine Zz 0 ZFt rfl sc22.size rfl rfl (Zu (v:=u10) hC 1 [u10] [u10,.slice none 0 0] rfl sc22.size rfl rfl (Zb7 (hC.getM 0 rfl)) rfl (Ym (Y8 (hC.getM 0 rfl)) rfl) (ZFi rfl) rfl fun w12 hC=>dn (sr (Zz 1 ZL1 rfl sc23.size rfl rfl (Z6 hC 3 (u0_1) rfl sc23 rfl rfl (Zf [u0_1] _ Tryz.func10 rfl rfl rfl (Zbc a0.images h _ (hC.getP 0 rfl)) ?_)))))
 rintro _ w13 ⟨r11,u11,f10,rfl,h,hr11,hf12,hB11⟩
 refine rt ?_
 replace hC:=hC.push hB11 (ZFo (ZLn 55 (Zj 90)) r11 [u11] f10) hr11 hf12
 refine Zz 1 ZFt rfl sc28.size rfl rfl (Zu (v:=u11) hC 2 [u11] [u10,u11] rfl sc28.size rfl rfl (Zh4 (Tr.trep _ (hC.getM 0 rfl).1)) rfl (Ym (J2 (Tr.trep _ (hC.getM 0 rfl).1)) rfl) (ZFi rfl) rfl fun w14 hC=>dn (sr (Yd hC 2 [u10,u11] rfl ag32 rfl rfl rfl (Zu (v:=.agg #[u10,u11]) hC 3 [u10,u11] [u10,u11] rfl ag32.size rfl rfl rfl rfl (Ym (Y8 (hC.getM 1 rfl)) (Ym (J2 (Tr.trep _ (hC.getM 0 rfl).1)) rfl)) (ZFi rfl) rfl fun w15 hC=>dn (ZFh ?_)))))
 exact Zk rfl (X3 hC 3 rfl ag32 rfl rfl) ⟨(⟨r10,r11⟩:Alg),u10,u11,((ZF6 (Zum u10))++f10),rfl,h,(Zov (Jq (hC.getM 1 rfl)) (hC.getM 0 rfl) (fun x hx hx'=>hC.mm 1 0 rfl rfl (by decide) x hx hx')),(fun b hb=>(Zud.1 hb).elim (fun hb=>(Jo hC 1 rfl) b hb) (fun hb=>(Za5 hC 0 rfl) b hb)),hC.below⟩ (.inl rfl)
def Zbs (a0:Alg) (a1:Alg) (K:Bool→Prop):Prop :=
 Ze5 a0.degrees a1.degrees (fun r10=>(if¬ (r10=true) then K false else Zay a0.images a1.images (fun r11=>(if¬ (r11=true) then K false else K true))))
theorem Zix (a0:Alg) (a1:Alg)  {K:Bool→Prop} (h:Zbs a0 a1 K) (w0:World) (q0:TAlg.rep a0 [u0_0,u0_1] fp0 w0) (q1:TAlg.rep a1 [u1_0,u1_1] fp1 w0) :
  Calls ZFb 13 #[.agg #[u0_0,u0_1],.agg #[u1_0,u1_1]] w0 fun e w'=>∃ (r0:Bool),
   e=.returned (.bool r0)∧K r0∧Bel w0 w':=by
 unfold Zbs at h
 refine cof Tryz.func13 rfl 17 Tryz.ntmps13 ?_
 have hC:=ZFu (X:=Nox) w0 [ZBl TAlg a0 [u0_0,u0_1] fp0,ZBl TAlg a1 [u1_0,u1_1] fp1] (alc q0 (al1 q1))
 replace hC:=hC.dAlg 0 rfl
 replace hC:=hC.dAlg 3 rfl
 refine sr (Yf (v:=.agg #[u0_0,u0_1]) hC [u0_0,u0_1] rfl rfl fun b7 w9 hB_ hC=>Yf (v:=.agg #[u1_0,u1_1]) hC [u1_0,u1_1] rfl rfl fun b10 w10 hB_ hC=>Zc (v:=.bool false) rfl (dn (ZE9 (sr (Zz 0 ZFt rfl sc22.size rfl rfl (Z6 hC 1 (u0_0) rfl sc22 rfl rfl (Zz 0 ZFt rfl sc22.size rfl rfl (Z6 hC 0 (u1_0) rfl sc22 rfl rfl (Zf [u0_0,u1_0] _ Tryz.func20 rfl rfl rfl (Zp7 a0.degrees a1.degrees h _ (hC.getP 3 rfl) (hC.getP 1 rfl)) ?_)))))))))
 rintro _ w11 ⟨r10,rfl,h,hB10⟩
 refine rt ?_
 replace hC:=hC.grow hB10
 refine Y4 rfl (dn ?_)
 refine Zq rfl (fun hb10=>?_) (fun hb10=>?_)
 ·replace h:=ift h (Yq (Y5 hb10))
  refine sr (Zc (v:=.bool false) rfl (dn ?_))
  refine ZFh (Ze ?_)
  exact Zk rfl (Zg rfl) ⟨false,rfl,h,hC.below⟩ (.inl rfl)
 ·replace h:=Zl h (not_not_intro ((Y6 hb10)))
  refine ZFc (Zd (ZE9 (sr (Zz 1 ZFt rfl sc28.size rfl rfl (Z6 hC 1 (u0_1) rfl sc28 rfl rfl (Zz 1 ZFt rfl sc28.size rfl rfl (Z6 hC 0 (u1_1) rfl sc28 rfl rfl (Zf [u0_1,u1_1] _ Tryz.func12 rfl rfl rfl (Zdo a0.images a1.images h _ (hC.getP 2 rfl) (hC.getP 0 rfl)) ?_))))))))
  rintro _ w12 ⟨r11,rfl,h,hB11⟩
  refine rt ?_
  replace hC:=hC.grow hB11
  refine Y4 rfl (dn ?_)
  refine Zq rfl (fun hb11=>?_) (fun hb11=>?_)
  ·replace h:=ift h (Yq (Y5 hb11))
   refine sr (Zc (v:=.bool false) rfl (dn ?_))
   refine ZFh (Ze ?_)
   exact Zk rfl (Zg rfl) ⟨false,rfl,h,hC.below⟩ (.inl rfl)
  ·replace h:=Zl h (not_not_intro ((Y6 hb11)))
   refine ZFc (Zd (sr (Zc (v:=.bool true) rfl (dn (ZFh ?_)))))
   exact Zk rfl (Zg rfl) ⟨true,rfl,h,hC.below⟩ (.inl rfl)
def Zfk (a0:List Int) (K:Int→Prop):Prop :=
 Yg (fun i10 (s10:Unit) nx10=>(if a0.getD i10 Zt0≠0 then K (a0.getD i10 Zt0) else nx10 ())) (fun (s10:Unit)=>K 0) a0.length 0 ()
theorem Zrc (a0:List Int)  {K:Int→Prop} (h:Zfk a0 K) (w0:World) (q0:TInts.rep a0 [u0_0] fp0 w0) :
  Calls ZFb 31 #[u0_0] w0 fun e w'=>∃ (r0:Int),
   e=.returned (vI r0)∧K r0∧Bel w0 w':=by
 unfold Zfk at h
 refine cof Tryz.func31 rfl 15 Tryz.ntmps31 ?_
 have hC:=ZFu (X:=Nox) w0 [ZBl TInts a0 [u0_0] fp0] (al1 q0)
 refine sr (Zc (v:=vI 0) rfl (dn (ZE9 (sr (Zb (v:=u0_0) rfl (Zx hC 0 rfl ZFs rfl (Zb (v:=vI 0) rfl (dn (ZFf ?_)))))))))
 have hN10:a0.length≤9223372036854775807:=Y0 (hC.getP 0 rfl)
 refine Yp (S:=Unit) _ _ (fun i10 s10 e_ w_=>Z2 e_ [(5,u0_0),(6,vI (a0.length:Int)),(7,vI (i10:Int))]∧Ctx Nox w0 w_ [] [ZBl TInts a0 [u0_0] fp0]) a0.length ?_ ?_ (s0:=()) ?_ h
 ·clear hC h
  rintro i10 s10 e_ w10 nx10 K10 hi10 ⟨hS_,hC⟩ h hK10
  rw [ue hS_]
  refine sr (Zo rfl rfl (dn (ZE9 (Z8 rfl (decide_eq_true (by omega)) (ZFc (Zd (ZE9 (ZFf (sr ?_)))))))))
  obtain ⟨Ad10,c10,hv10⟩:=Z3 (hC.getP 0 rfl) i10 hi10
  refine Yu (len:=a0.length) ZFs sc2.size (tr rfl hv10) rfl (ZFq _) (ZF8.2 hi10) (Xz (vI (a0.getD i10 Zt0)) (Yj (hC.getP 0 rfl) hv10 i10 hi10) sc2 rfl (Zc (v:=vI (a0.getD i10 Zt0)) rfl (dn (sr (Zb (v:=vI (a0.getD i10 Zt0)) rfl (Y7 rfl rfl (dn ?_)))))))
  refine Zq rfl (fun hb10=>?_) (fun hb10=>?_)
  ·replace h:=ift h (ct hb10)
   refine sr (Zb (v:=vI (a0.getD i10 Zt0)) rfl (Zc (v:=vI (a0.getD i10 Zt0)) rfl (dn ?_)))
   refine ZFh (Zv (Ze (Ze (Zv (Ze ?_)))))
   exact Zk rfl (Zg rfl) ⟨a0.getD i10 Zt0,rfl,h,hC.below⟩ (.inl rfl)
  ·replace h:=Zl h (cf hb10)
   refine ZFc (Zt (Zd (Zn (Zr rfl rfl (Zb (v:=vI (Zwe.wrap ((i10:Int)+1))) rfl (done ?_))))))
   exact hK10 () _ _ ⟨(sl ⟨rfl,rfl,(tr rfl (congrArg _ (Z9 hi10 hN10))),trivial⟩),hC⟩ h
 ·clear hC h
  rintro s10 e_ w11 K10 ⟨hS_,hC⟩ h
  rw [ue hS_]
  refine sr (Zo rfl rfl (dn (ZE9 (Ya rfl (decide_eq_false (by omega)) ?_))))
  refine ZFn (Zm (Zm (Z5 ?_)))
  refine Zd (sr (Zc (v:=vI 0) rfl (dn (ZFh ?_))))
  exact Zk rfl (Zg rfl) ⟨0,rfl,h,hC.below⟩ (.inl rfl)
 ·skip
  exact⟨(slq rfl),hC⟩
def Zfl (a0:List Int) (a1:Int) (K:Int→List Int→Prop):Prop :=
 Jc (fun (s10:(List Int)×Int×Int) nx10=>(if s10.2.2 < (s10.1.length:Int) then((0≤s10.2.2∧s10.2.2 < (s10.1.length:Int))∧nx10 (s10.1.set s10.2.2.toNat s10.2.1,Zwe.wrap (s10.2.1+1),Zwe.wrap (s10.2.2+1))) else K s10.2.1 s10.1)) (a0,a1,0)
theorem Zrd (a0:List Int) (a1:Int)  {K:Int→List Int→Prop} (h:Zfl a0 a1 K) (w0:World) (qw0:(own 2 1 u0_0 a0.length (eI.encs a0)).holds w0) :
  Calls ZFb 21 #[u0_0,vI a1] w0 fun e w'=>∃ (r0:Int) (mw:List Int),
   e=.returned (vI r0)∧K r0 mw∧(own 2 1 u0_0 mw.length (eI.encs mw)).holds w'∧BelO ((ZF6 (Zum u0_0))) w0 w':=by
 unfold Zfl at h
 refine cof Tryz.func21 rfl 19 Tryz.ntmps21 ?_
 have hC:=Ctx.startL w0 ((ZF6 (Zum u0_0))) [own 2 1 u0_0 a0.length (eI.encs a0)] [] (by simp only [Ztw,Zv2,or_false,forall_eq_or_imp,forall_eq]; exact qw0) (by simp) (by simp only [Ztw,Zv2,or_false,forall_eq_or_imp,forall_eq]; exact fun b hb=>hb) (ZMc _ _) (by simp)
 refine sr (Zc (v:=vI 0) rfl (dn (ZE9 (sr (Zc (v:=vI 0) rfl (dn (ZFf ?_)))))))
 refine Jk (S:=(List Int)×Int×Int) _ (fun s10 e_ w_=>Z2 e_ [(0,u0_0),(1,vI s10.2.1),(5,vI s10.2.2)]∧Ctx (fun c_=>c_∈(ZF6 (Zum u0_0))) w0 w_ [own 2 1 u0_0 s10.1.length (eI.encs s10.1)] []) ?_ (s0:=(a0,a1,0)) ?_ h
 ·clear hC h
  rintro s10 e_ w10 nx10 K10 ⟨hS_,hC⟩ h hK10
  rw [ue hS_]
  refine ZE9 (sr (Zb (v:=vI s10.2.2) rfl (Zb (v:=u0_0) rfl (Zem hC 0 rfl ZFs rfl (Zo rfl rfl (dn ?_))))))
  refine Zq rfl (fun hb10=>?_) (fun hb10=>?_)
  ·replace h:=ift h (ct hb10)
   refine ZFc (Zd (ZE9 (ZFf (sr (Zb (v:=u0_0) rfl (Zb (v:=vI s10.2.2) rfl (Zb (v:=vI s10.2.1) rfl ?_)))))))
   obtain ⟨⟨h10,h11⟩,h⟩:=h
   obtain ⟨Ad10,c10,hv10⟩:=Za4 (hC.getM 0 rfl) (Nat.lt_of_le_of_lt (Nat.zero_le _) (show s10.2.2.toNat < s10.1.length by omega))
   refine Zbj (s10.2.2.toNat * 1) ZFs sc2.size (tr rfl hv10) rfl h10 h11 rfl (Zcy (v:=vI s10.2.1) hC 0 [vI s10.2.1] (eI.encs (s10.1.set s10.2.2.toNat s10.2.1)) rfl hv10 sc2.size rfl rfl rfl rfl rfl (by rw [Enc.encs_len]; exact Zan (sz:=1) (show s10.2.2.toNat < s10.1.length by omega)) (Zf6 _ _ _ (show s10.2.2.toNat < s10.1.length by omega)) fun w11 hC=>?_)
   replace hC:=J8 hC 0 ((s10.1.set s10.2.2.toNat s10.2.1).length) (eI.encs (s10.1.set s10.2.2.toNat s10.2.1)) rfl (by simp) rfl
   refine dn (Zn (Zb (v:=vI s10.2.1) rfl (Zr rfl rfl (Zc (v:=vI (Zwe.wrap (s10.2.1+1))) rfl (done (Zt (Zd (Zn (Zb (v:=vI s10.2.2) rfl (Zr rfl rfl (Zc (v:=vI (Zwe.wrap (s10.2.2+1))) rfl (done ?_))))))))))))
   exact hK10 (s10.1.set s10.2.2.toNat s10.2.1,Zwe.wrap (s10.2.1+1),Zwe.wrap (s10.2.2+1)) _ _ ⟨(slq rfl),hC⟩ h
  ·replace h:=Zl h (cf hb10)
   refine ZFn (Zm (Zm (Z5 ?_)))
   refine Zd (sr (Zb (v:=vI s10.2.1) rfl (Zc (v:=vI s10.2.1) rfl (dn (ZFh ?_)))))
   exact Zk rfl (Zg rfl) ⟨s10.2.1,s10.1,rfl,h,(hC.getM 0 rfl),hC.belO⟩ (.inl rfl)
 ·skip
  exact⟨(slq rfl),hC⟩
def Za1 (a0:List ZFd) (a1:Int) (K:Int→List ZFd→Prop):Prop :=
 Jc (fun (s10:(List ZFd)×Int×Int) nx10=>(if s10.2.2 < (s10.1.length:Int) then((0≤s10.2.2∧s10.2.2 < (s10.1.length:Int))∧Zfb ((s10.1.getD s10.2.2.toNat Zt0).terms) s10.2.1 (fun r10 m10=>nx10 (s10.1.set s10.2.2.toNat (⟨m10⟩:ZFd),r10,Zwe.wrap (s10.2.2+1)))) else K s10.2.1 s10.1)) (a0,a1,0)
theorem Zg5 (a0:List ZFd) (a1:Int)  {K:Int→List ZFd→Prop} (h:Za1 a0 a1 K) (w0:World) (qw0:(ZFo (ZLn 55 (Zj 90)) a0 [u0_0] fp0_0).holds w0) :
  Calls ZFb 15 #[u0_0,vI a1] w0 fun e w'=>∃ (r0:Int) (mw:List ZFd),
   e=.returned (vI r0)∧K r0 mw∧(ZFo (ZLn 55 (Zj 90)) mw [u0_0] fp0_0).holds w'∧BelO (fp0_0) w0 w':=by
 unfold Za1 at h
 refine cof Tryz.func15 rfl 20 Tryz.ntmps15 ?_
 have hC:=Ctx.startL w0 (fp0_0) [ZFo (ZLn 55 (Zj 90)) a0 [u0_0] fp0_0] [] (by simp only [Ztw,Zv2,or_false,forall_eq_or_imp,forall_eq]; exact qw0) (by simp) (by simp only [Ztw,Zv2,or_false,forall_eq_or_imp,forall_eq]; exact fun b hb=>hb) (ZMc _ _) (by simp)
 refine sr (Zc (v:=vI 0) rfl (dn (ZE9 (sr (Zc (v:=vI 0) rfl (dn (ZFf ?_)))))))
 refine Jk (S:=(List ZFd)×Int×Int) _ (fun s10 e_ w_=>Z2 e_ [(0,u0_0),(1,vI s10.2.1),(5,vI s10.2.2)]∧Ctx (fun c_=>c_∈fp0_0) w0 w_ [ZFo (ZLn 55 (Zj 90)) s10.1 [u0_0] fp0_0] []) ?_ (s0:=(a0,a1,0)) ?_ h
 ·clear hC h
  rintro s10 e_ w10 nx10 K10 ⟨hS_,hC⟩ h hK10
  rw [ue hS_]
  refine ZE9 (sr (Zb (v:=vI s10.2.2) rfl (Zb (v:=u0_0) rfl (Zpi hC 0 rfl ZFx rfl (Zo rfl rfl (dn ?_))))))
  refine Zq rfl (fun hb10=>?_) (fun hb10=>?_)
  ·replace h:=ift h (ct hb10)
   refine ZFc (Zd (ZE9 (ZFf (Zn (Zb (v:=u0_0) rfl (Zb (v:=vI s10.2.2) rfl ?_))))))
   obtain ⟨⟨h10,h11⟩,h⟩:=h
   obtain ⟨cs10,f10,⟨g10,cap10,hv10,hcell10⟩,hin10,hsub10,hout10⟩:=Zot (hC.getM 0 rfl) s10.2.2.toNat (show s10.2.2.toNat < s10.1.length by omega)
   refine Zbj (s10.2.2.toNat * 1) ZFx ag55.size (tr rfl hv10) rfl h10 h11 rfl (Zz (s10.2.2.toNat * 1+0) Tryz.underlying55 rfl sc53.size rfl rfl ?_)
   obtain ⟨u10,rfl⟩:=ZF7.1 (show cs10.length=1 from((Zj 90)).ty.len (Tr.trep _ hin10.1))
   have hin11:=hin10; rw [Xf _ _ (show s10.2.2.toNat < s10.1.length by omega)] at hin11
   obtain ⟨ho10,hf10⟩:=Zda (show (ZLn 90 ETerm.tr).tree ((s10.1.getD s10.2.2.toNat Zt0).terms) [u10] f10 _ from hin11.1)
   subst hf10
   refine Xz (u10) (Zn2 (o:=0) (k:=1) hcell10 rfl) sc53 rfl (Zb (v:=vI s10.2.1) rfl (Zf [u10,vI s10.2.1] _ Tryz.func36 rfl rfl rfl (Zqe ((s10.1.getD s10.2.2.toNat Zt0).terms) s10.2.1 h _ ho10) ?_))
   rintro _ w11 ⟨r10,m10,rfl,h,hm10,hB10⟩
   refine rt ?_
   replace hC:=hC.turn 0 (jt:=ZFo (ZLn 55 (Zj 90)) (s10.1.set s10.2.2.toNat (⟨m10⟩:ZFd)) [u0_0] fp0_0) rfl hB10.os hB10.tape hB10.output hB10.size hB10.drawn (fun c_ hc_ hn_=>hB10.old c_ hc_ (fun h_=>hn_ (hsub10 c_ h_))) (hout10 (⟨m10⟩:ZFd) _ (Zku hm10) hB10) (fun b_ hb_=>.inl hb_)
   refine Zc (v:=vI r10) rfl (done (Zt (Zd (Zn (Zb (v:=vI s10.2.2) rfl (Zr rfl rfl (Zc (v:=vI (Zwe.wrap (s10.2.2+1))) rfl (done ?_))))))))
   exact hK10 (s10.1.set s10.2.2.toNat (⟨m10⟩:ZFd),r10,Zwe.wrap (s10.2.2+1)) _ _ ⟨(slq rfl),hC⟩ h
  ·replace h:=Zl h (cf hb10)
   refine ZFn (Zm (Zm (Z5 ?_)))
   refine Zd (sr (Zb (v:=vI s10.2.1) rfl (Zc (v:=vI s10.2.1) rfl (dn (ZFh ?_)))))
   exact Zk rfl (Zg rfl) ⟨s10.2.1,s10.1,rfl,h,(hC.getM 0 rfl),hC.belO⟩ (.inl rfl)
 ·skip
  exact⟨(slq rfl),hC⟩
def Zcm (a0:Alg) (a1:Int) (K:Int→Alg→Prop):Prop :=
 Zfl a0.degrees a1 (fun r9 m10=>Za1 a0.images r9 (fun r10 m11=>K r10 (⟨m10,m11⟩:Alg)))
theorem Ziy (a0:Alg) (a1:Int)  {K:Int→Alg→Prop} (h:Zcm a0 a1 K) (w0:World) (qw0:(own 2 1 u0_0 a0.degrees.length (eI.encs a0.degrees)).holds w0) (qw1:(ZFo (ZLn 55 (Zj 90)) a0.images [u0_1] fp0_1).holds w0) (dw0_1:∀ x,x∈(ZF6 (Zum u0_0))→x∉fp0_1) :
  Calls ZFb 14 #[.agg #[u0_0,u0_1],vI a1] w0 fun e w'=>∃ (r0:Int) (mw:Alg),
   e=.returned (vI r0)∧K r0 mw∧(own 2 1 u0_0 mw.degrees.length (eI.encs mw.degrees)).holds w'∧(ZFo (ZLn 55 (Zj 90)) mw.images [u0_1] fp0_1).holds w'∧BelO ((ZF6 (Zum u0_0))++fp0_1) w0 w':=by
 unfold Zcm at h
 refine cof Tryz.func14 rfl 14 Tryz.ntmps14 ?_
 have hC:=Ctx.startL w0 ((ZF6 (Zum u0_0))++fp0_1) [own 2 1 u0_0 a0.degrees.length (eI.encs a0.degrees),ZFo (ZLn 55 (Zj 90)) a0.images [u0_1] fp0_1] [] (by simp only [Ztw,Zv2,or_false,forall_eq_or_imp,forall_eq]; exact⟨qw0,qw1⟩) (by simp) (by simp only [Ztw,Zv2,or_false,forall_eq_or_imp,forall_eq]; exact⟨fun b hb=>(Zus _ hb),fun b hb=>(Zun _ hb)⟩) (List.pairwise_cons.2 ⟨(by simp only [Ztw,Zv2,or_false,forall_eq_or_imp,forall_eq]; exact dw0_1),(ZMc _ _)⟩) (by simp)
 refine sr (Yf (v:=.agg #[u0_0,u0_1]) hC [u0_0,u0_1] rfl rfl fun b3 w5 hB_ hC=>Zc (v:=vI 0) rfl (dn (sr (Zz 0 ZFt rfl sc22.size rfl rfl (Z6 hC 0 (u0_0) rfl sc22 rfl rfl (Zb (v:=vI a1) rfl (Zf [u0_0,vI a1] _ Tryz.func21 rfl rfl rfl (Zrd a0.degrees a1 h _ (hC.getM 1 rfl)) ?_)))))))
 rintro _ w8 ⟨r9,m10,rfl,h,hm10,hB10⟩
 refine rt ?_
 replace hC:=hC.turnL hB10 (M':=[blk b3 32 [u0_0,u0_1],own 2 1 u0_0 m10.length (eI.encs m10),ZFo (ZLn 55 (Zj 90)) a0.images [u0_1] fp0_1]) rfl (fun x_ hx_=>⟨_,mg 1 rfl,hx_⟩) (by simp only [Ztw,Zv2,or_false,forall_eq_or_imp,forall_eq]; exact⟨(hC.stay 0 rfl hB10 (fun x_ hq_ hx_=>hC.mm 0 1 rfl rfl (by decide) x_ hq_ hx_)),hm10,(hC.stay 2 rfl hB10 (fun x_ hq_ hx_=>hC.mm 2 1 rfl rfl (by decide) x_ hq_ hx_))⟩)
 refine Zc (v:=vI r9) rfl (dn (sr (Zz 1 ZFt rfl sc28.size rfl rfl (Z6 hC 0 (u0_1) rfl sc28 rfl rfl (Zb (v:=vI r9) rfl (Zf [u0_1,vI r9] _ Tryz.func15 rfl rfl rfl (Zg5 a0.images r9 h _ (hC.getM 2 rfl)) ?_))))))
 rintro _ w10 ⟨r10,m11,rfl,h,hm11,hB11⟩
 refine rt ?_
 replace hC:=hC.turnL hB11 (M':=[blk b3 32 [u0_0,u0_1],own 2 1 u0_0 m10.length (eI.encs m10),ZFo (ZLn 55 (Zj 90)) m11 [u0_1] fp0_1]) rfl (fun x_ hx_=>⟨_,mg 2 rfl,hx_⟩) (by simp only [Ztw,Zv2,or_false,forall_eq_or_imp,forall_eq]; exact⟨(hC.stay 0 rfl hB11 (fun x_ hq_ hx_=>hC.mm 0 2 rfl rfl (by decide) x_ hq_ hx_)),(hC.stay 1 rfl hB11 (fun x_ hq_ hx_=>hC.mm 1 2 rfl rfl (by decide) x_ hq_ hx_)),hm11⟩)
 refine Zc (v:=vI r10) rfl (dn (sr (Zb (v:=vI r10) rfl (Zc (v:=vI r10) rfl (dn (ZFh ?_))))))
 exact Zk rfl (Zg rfl) ⟨r10,(⟨m10,m11⟩:Alg),rfl,h,(hC.getM 1 rfl),(hC.getM 2 rfl),hC.belO⟩ (.inl rfl)
def Zdu (a0:List ZFd) (a1:Int) (K:Int→Prop):Prop :=
 Yg (fun i10 (s10:Int) nx10=>Zfc ((a0.getD i10 Zt0).terms) s10 (fun r10=>(if r10 < 0 then K (-1) else nx10 r10))) (fun (s10:Int)=>K s10) a0.length 0 a1
theorem Zlt (a0:List ZFd) (a1:Int)  {K:Int→Prop} (h:Zdu a0 a1 K) (w0:World) (q0:ZFv.sl.rep a0 [u0_0] fp0 w0) :
  Calls ZFb 16 #[u0_0,vI a1] w0 fun e w'=>∃ (r0:Int),
   e=.returned (vI r0)∧K r0∧Bel w0 w':=by
 unfold Zdu at h
 refine cof Tryz.func16 rfl 22 Tryz.ntmps16 ?_
 have hC:=ZFu (X:=Nox) w0 [ZBl ZFv.sl a0 [u0_0] fp0] (al1 q0)
 refine sr (Zc (v:=vI 0) rfl (dn (ZE9 (sr (Zc (v:=vI 0) rfl (dn (ZFf ?_)))))))
 have hN10:a0.length≤9223372036854775807:=Y0 (hC.getP 0 rfl)
 refine Yp (S:=Int) _ _ (fun i10 s10 e_ w_=>Z2 e_ [(0,u0_0),(1,vI s10),(5,vI (i10:Int))]∧Ctx Nox w0 w_ [] [ZBl ZFv.sl a0 [u0_0] fp0]) a0.length ?_ ?_ (s0:=a1) ?_ h
 ·clear hC h
  rintro i10 s10 e_ w10 nx10 K10 hi10 ⟨hS_,hC⟩ h hK10
  rw [ue hS_]
  refine ZE9 (sr (Zb (v:=vI (i10:Int)) rfl (Zb (v:=u0_0) rfl (Zx hC 0 rfl ZFx rfl (Zo rfl rfl (dn (Z8 rfl (decide_eq_true (by omega)) (ZFc (Zd (ZE9 (ZFf (sr (Zb (v:=u0_0) rfl (Zb (v:=vI (i10:Int)) rfl ?_))))))))))))))
  obtain ⟨Ad10,c10,hv10⟩:=Z3 (hC.getP 0 rfl) i10 hi10
  refine Yu (len:=a0.length) ZFx ag55.size (tr rfl hv10) rfl (ZFq _) (ZF8.2 hi10) (Zal (i10 * 1+0) Tryz.underlying55 rfl sc53.size rfl rfl ?_)
  obtain ⟨cs_,hl10,hc10,hr10⟩:=Xh (hC.getP 0 rfl) hv10 i10 hi10
  obtain ⟨u10,rfl⟩:=ZF7.1 hl10
  clear hl10
  rw [Xf _ _ hi10] at hr10
  have hp10:=hr10
  replace hC:=hC.derive 0 rfl (ZBl ETerm.ty.sl ((a0.getD i10 Zt0).terms) [u10] fp0) (fun _=>(Yn hp10)) (fun _ hb_=>hb_)
  refine Xz (u10) (Xo (o:=0) (k:=1) hc10 rfl) sc53 rfl (Zb (v:=vI s10) rfl (Zf [u10,vI s10] _ Tryz.func37 rfl rfl rfl (Zqf ((a0.getD i10 Zt0).terms) s10 h _ (hC.getP 0 rfl)) ?_))
  rintro _ w11 ⟨r10,rfl,h,hB10⟩
  refine rt ?_
  replace hC:=hC.grow hB10
  refine Zc (v:=vI r10) rfl (dn (sr (Zb (v:=vI r10) rfl (Zo rfl rfl (dn ?_)))))
  refine Zq rfl (fun hb10=>?_) (fun hb10=>?_)
  ·replace h:=ift h (ct hb10)
   refine sr (Zc (v:=vI (-1)) rfl (dn ?_))
   refine ZFh (Zv (Ze (Ze (Zv (Ze ?_)))))
   exact Zk rfl (Zg rfl) ⟨(-1),rfl,h,hC.below⟩ (.inl rfl)
  ·replace h:=Zl h (cf hb10)
   refine ZFc (Zt (Zd (Zn (Zb (v:=vI (i10:Int)) rfl (Zr rfl rfl (Zc (v:=vI (Zwe.wrap ((i10:Int)+1))) rfl (done ?_)))))))
   exact hK10 r10 _ _ ⟨(sl ⟨rfl,rfl,(tr rfl (congrArg _ (Z9 hi10 hN10))),trivial⟩),(hC.sP [1] rfl)⟩ h
 ·clear hC h
  rintro s10 e_ w12 K10 ⟨hS_,hC⟩ h
  rw [ue hS_]
  refine ZE9 (sr (Zb (v:=vI (a0.length:Int)) rfl (Zb (v:=u0_0) rfl (Zx hC 0 rfl ZFx rfl (Zo rfl rfl (dn (Ya rfl (decide_eq_false (by omega)) ?_)))))))
  refine ZFn (Zm (Zm (Z5 ?_)))
  refine Zd (sr (Zb (v:=vI s10) rfl (Zc (v:=vI s10) rfl (dn (ZFh ?_)))))
  exact Zk rfl (Zg rfl) ⟨s10,rfl,h,hC.below⟩ (.inl rfl)
 ·skip
  exact⟨(slq rfl),hC⟩
end Go.Proofs.YtheenipahifleaaGreat
namespace Go.Proofs.YtheenipahifleaaGreat
open Go Vc
theorem Ziz {a b:A8} {K:Bool→Prop} (h:K (decide (pcmp a b < 0))):Zcf a b K:=by
  simp only [Zcf,Yg,A8.get]
  simp only [pcmp,A8.list,Xs] at h
  have e:∀ x y:Int,decide (x - y < 0)=decide (x < y):=fun x y=>decide_eq_decide.2 (by omega)
  repeat' split
  all_goals (simp_all)
theorem Zbd {x:Int} {K:Int→Prop} (h:K (x % 10007)):X6 x K:=by
  unfold X6
  have:=Zfg x
  rw [i64_in _ (by omega),Zlm]
  exact h
theorem Zlu {x:Int} {K:Int→Prop} (h:K (x % 10007)):Zbp x K:=by
  unfold Zbp
  have:=Zfg x
  rw [i64_in _ (by omega),Zlm]
  exact h
theorem Zg6 {a b:Int} (ha:0≤a∧a≤10006) (hb:0≤b∧b≤10006):0≤a * b∧a * b≤100120036 :=
  ⟨ZL3 ha.1 hb.1,by have:=ZMd ha.2 hb.2 hb.1 (by omega:(0:Int)≤10006); omega⟩
theorem Zi0 {S:Type} {c:Prop} [Decidable c] {A B:(S→Prop)→Prop} {T:S→Prop} (h:c) (k:A T):joinP (fun J=>if c then A J else B J) T:=by show if c then A T else B T; rw [if_pos h]; exact k
theorem Zg7 {S:Type} {c:Prop} [Decidable c] {A B:(S→Prop)→Prop} {T:S→Prop} (h:¬ c) (k:B T):joinP (fun J=>if c then A J else B J) T:=by show if c then A T else B T; rw [if_neg h]; exact k
theorem Zdv {A B:Prop} (h:A):if true=true then A else B:=by simpa using h
theorem Zg8 {A B:Prop} (h:B):if false=true then A else B:=by simpa using h
theorem Xi {c:Prop} [Decidable c] {A B:Prop} (h:c) (k:A):if c then A else B:=by rw [if_pos h]; exact k
theorem Xn {c:Prop} [Decidable c] {A B:Prop} (h:¬ c) (k:B):if c then A else B:=by rw [if_neg h]; exact k
theorem Zfm {f g : List Term} {k : Int} {K : ZFd → Prop} (cf : Canon f) (cg : Canon g) (hk : 0 ≤ k ∧ k ≤ 10006) (hf : f.length ≤ 100000000) (hg : g.length ≤ 100000000) (h : ∀ out, IsAdd f g k out → K ⟨out⟩) : Jy ⟨f⟩ ⟨g⟩ k K := by
  unfold Jy
  dsimp only
  refine Jd (fun (s:List Term×Int×Int)=>0≤s.2.1∧0≤s.2.2∧AddI f g k s.1 s.2.1.toNat s.2.2.toNat) (fun s=>(f.length - s.2.1.toNat)+(g.length - s.2.2.toNat)) ?_ ⟨ZLs _,ZLs _,AddI.zero f g k⟩
  rintro ⟨out,i,j⟩ next ⟨h1,h2,hI⟩ hn
  have hi:=hI.hi
  have hj:=hI.hj
  have hln:=hI.ln
  have hR:X4 (out.length+1) 16:=by unfold X4; dsimp only at hln hi hj ⊢; omega
  dsimp only at h1 h2 hI hi hj hR hn ⊢
  have ni:(i+1).toNat=i.toNat+1:=by omega
  have nj:(j+1).toNat=j.toNat+1:=by omega
  have wi:Zwe.wrap (i+1)=i+1:=i64_in _ (by omega)
  have wj:Zwe.wrap (j+1)=j+1:=i64_in _ (by omega)
  rw [wi,wj]
  have goF:i.toNat < f.length→(j.toNat < g.length→pcmp (f.getD i.toNat Zt0).mono (g.getD j.toNat Zt0).mono < 0)→next (out++[f.getD i.toNat Zt0],i+1,j):=fun a b =>
    hn _ ⟨by dsimp only; omega,by dsimp only; omega,by dsimp only; rw [ni]; exact hI.stepF cf cg a b⟩ (by dsimp only; omega)
  have bg:j.toNat < g.length→1≤(g.getD j.toNat Zt0).factor∧(g.getD j.toNat Zt0).factor≤10006:=fun a=>cg.at_range a
  have bf:i.toNat < f.length→1≤(f.getD i.toNat Zt0).factor∧(f.getD i.toNat Zt0).factor≤10006:=fun a=>cf.at_range a
  have wk:j.toNat < g.length→Zwe.wrap (k * (g.getD j.toNat Zt0).factor)=k * (g.getD j.toNat Zt0).factor:=fun a=>by
    have:=bg a
    have:=Zg6 hk (show 0≤(g.getD j.toNat Zt0).factor∧(g.getD j.toNat Zt0).factor≤10006 by omega)
    exact i64_in _ (by omega)
  have goG:j.toNat < g.length→(i.toNat < f.length→pcmp (g.getD j.toNat Zt0).mono (f.getD i.toNat Zt0).mono < 0) →
      X6 (Zwe.wrap (k * ((g.getD j.toNat Zt0).factor))) (fun r=>(if r≠0 then((0≤j∧j < (g.length:Int))∧(X4 (out.length+1) 16∧next (out++[(⟨(g.getD j.toNat Zt0).mono,r⟩:Term)],i,j+1))) else next (out,i,j+1))):=by
    intro a b
    refine Zbd ?_
    rw [wk a]
    split
    · rename_i q
      exact⟨by omega,hR,hn _ ⟨by dsimp only; omega,by dsimp only; omega,by dsimp only; rw [nj]; exact hI.stepG1 cf cg a b rfl q⟩ (by dsimp only; omega)⟩
    · rename_i q
      exact hn _ ⟨by dsimp only; omega,by dsimp only; omega,by dsimp only; rw [nj]; exact hI.stepG0 cf cg a (by omega)⟩ (by dsimp only; omega)
  have goB:i.toNat < f.length→j.toNat < g.length→(f.getD i.toNat Zt0).mono=(g.getD j.toNat Zt0).mono →
      ((0≤i∧i < (f.length:Int))∧((0≤j∧j < (g.length:Int))∧X6 (Zwe.wrap (k * ((g.getD j.toNat Zt0).factor))) (fun r753=>X6 (Zwe.wrap (((f.getD i.toNat Zt0).factor)+r753)) (fun r758=>(if r758≠0 then((0≤i∧i < (f.length:Int))∧(X4 (out.length+1) 16∧next (out++[(⟨(f.getD i.toNat Zt0).mono,r758⟩:Term)],i+1,j+1))) else next (out,i+1,j+1)))))):=by
    intro a b e
    refine⟨by omega,by omega,Zbd ?_⟩
    rw [wk b]
    have:=bf a
    rw [i64_in _ (by omega)]
    refine Zbd ?_
    rw [show ((f.getD i.toNat Zt0).factor+k * (g.getD j.toNat Zt0).factor % 10007) % 10007=((f.getD i.toNat Zt0).factor+k * (g.getD j.toNat Zt0).factor) % 10007 by omega]
    split
    · rename_i q
      exact⟨by omega,hR,hn _ ⟨by dsimp only; omega,by dsimp only; omega,by dsimp only; rw [ni,nj]; exact hI.stepB1 cf cg a b e rfl q⟩ (by dsimp only; omega)⟩
    · rename_i q
      exact hn _ ⟨by dsimp only; omega,by dsimp only; omega,by dsimp only; rw [ni,nj]; exact hI.stepB0 cf cg a b e (by omega)⟩ (by dsimp only; omega)
  by_cases hif:i < (f.length:Int)
  · refine Zi0 hif (Zdv ?_)
    by_cases hjg:j=(g.length:Int)
    · exact Zi0 hjg (Zdv ⟨by omega,hR,goF (by omega) (fun q=>by omega)⟩)
    · refine Zg7 hjg (Xi hif ⟨by omega,by omega,Ziz ?_⟩)
      by_cases hp:pcmp (f.getD i.toNat Zt0).mono (g.getD j.toNat Zt0).mono < 0
      · rw [decide_eq_true hp]
        exact Zdv ⟨by omega,hR,goF (by omega) (fun _=>hp)⟩
      · rw [decide_eq_false hp]
        refine Zg8 (Zg7 (by omega) ⟨by omega,by omega,Ziz ?_⟩)
        by_cases hq:pcmp (g.getD j.toNat Zt0).mono (f.getD i.toNat Zt0).mono < 0
        · rw [decide_eq_true hq]
          exact Zdv ⟨by omega,goG (by omega) (fun _=>hq)⟩
        · rw [decide_eq_false hq]
          exact Zg8 (goB (by omega) (by omega) (Zgy hp hq))
  · refine Zg7 hif ?_
    by_cases hjg:j < (g.length:Int)
    · rw [decide_eq_true hjg]
      refine Zdv (Zg7 (by omega) (Xn hif (Zg8 (Zi0 (by omega) (Zdv ⟨by omega,goG (by omega) (fun q=>by omega)⟩)))))
    · rw [decide_eq_false hjg]
      exact Zg8 (h _ (hI.done (by omega) (by omega)))
def OkForm (ds:List Int) (l:List Term):Prop:=l.length≤400∧∀ i,i < l.length→OkMono ds (l.getD i Zt0).mono∧(1≤(l.getD i Zt0).factor∧(l.getD i Zt0).factor≤10006)∧(0 < i→pcmp (l.getD (i - 1) Zt0).mono (l.getD i Zt0).mono < 0)
instance (ds:List Int) (l:List Term):Decidable (OkForm ds l):=inferInstanceAs (Decidable (_∧∀ i,i < l.length→_))
theorem OkForm.canon {ds:List Int} {l:List Term} (h:OkForm ds l):Canon l:=by
  have step:∀ n i,i+n+1 < l.length→pcmp (l.getD i Zt0).mono (l.getD (i+n+1) Zt0).mono < 0:=by
    intro n
    induction n with
    | zero=>intro i hi; have:=(h.2 (i+1) (by omega)).2.2 (by omega); simpa using this
    | succ n ih =>
      intro i hi
      have h1:=ih i (by omega)
      have h2:=(h.2 (i+(n+1)+1) (by omega)).2.2 (by omega)
      rw [show i+(n+1)+1 - 1=i+n+1 by omega] at h2
      exact Zao h1 h2
  refine⟨Zt3.2 fun i j hi hj hij=>?_,fun t ht=>?_⟩
  · have:=step (j - i - 1) i (by omega)
    rw [show i+(j - i - 1)+1=j by omega] at this
    simpa [Zt7,hi,hj] using this
  · obtain ⟨i,hi,rfl⟩:=Zuf ht
    have:=(h.2 i hi).2.1
    simpa [Zt7,hi] using this
theorem OkForm.mono {ds:List Int} {l:List Term} (h:OkForm ds l) {t:Term} (ht:t∈l):OkMono ds t.mono:=by
  obtain ⟨i,hi,rfl⟩:=Zuf ht
  have:=(h.2 i hi).1
  simpa [Zt7,hi] using this
def Zdw (l:List Term):Prop:=∀ t,t∈l→∀ i,i < 8→0≤t.mono.get i∧t.mono.get i≤255
theorem Zi1 {ds : List Int} {l : List Term} {K : Bool → Prop} (hd : ds.length ≤ 8) (hp : Zdw l) (hl : l.length ≤ 100000000) (h : K (decide (OkForm ds l))) : Zcg ds ⟨l⟩ K := by
  unfold Zcg
  dsimp only
  refine Jd (fun (s:Int)=>0≤s∧s≤l.length∧∀ i,i < s.toNat→OkMono ds (l.getD i Zt0).mono∧(1≤(l.getD i Zt0).factor∧(l.getD i Zt0).factor≤10006)∧(0 < i→pcmp (l.getD (i - 1) Zt0).mono (l.getD i Zt0).mono < 0)) (fun s=>l.length - s.toNat) ?_ ⟨by omega,by omega,fun i hi=>by omega⟩
  rintro i next ⟨h1,h2,h3⟩ hn
  have bad:(i.toNat < l.length)→¬ (OkMono ds (l.getD i.toNat Zt0).mono∧(1≤(l.getD i.toNat Zt0).factor∧(l.getD i.toNat Zt0).factor≤10006)∧(0 < i.toNat→pcmp (l.getD (i.toNat - 1) Zt0).mono (l.getD i.toNat Zt0).mono < 0))→K false:=by
    intro a b
    have:¬ OkForm ds l:=fun q=>b (q.2 _ a)
    rwa [decide_eq_false this] at h
  split
  · rename_i hi
    have a:i.toNat < l.length:=by omega
    refine⟨by omega,Zqi (fun q hq=>(hp _ (Xt a) q hq).1) hd ?_⟩
    split
    · rename_i q
      exact bad a fun z=>q (decide_eq_true z.1)
    · rename_i q1
      have q1:OkMono ds (l.getD i.toNat Zt0).mono:=by simpa using q1
      refine Zlc ?_
      split
      · rename_i q
        exact bad a fun z=>q (decide_eq_true z.2.1)
      · rename_i q2
        have q2:1≤(l.getD i.toNat Zt0).factor∧(l.getD i.toNat Zt0).factor≤10006:=by simpa using q2
        have w1:Zwe.wrap (i+1)=i+1:=i64_in _ (by omega)
        rw [w1]
        have ok:(0 < i.toNat→pcmp (l.getD (i.toNat - 1) Zt0).mono (l.getD i.toNat Zt0).mono < 0)→next (i+1):=fun q3=>by
          refine hn _ ⟨by omega,by omega,fun j hj=>?_⟩ (by omega)
          by_cases hji:j=i.toNat
          · subst hji; exact⟨q1,q2,q3⟩
          · exact h3 j (by omega)
        split
        · have w2:Zwe.wrap (i - 1)=i - 1:=i64_in _ (by omega)
          rw [w2,show (i - 1).toNat=i.toNat - 1 by omega]
          refine⟨by omega,Ziz ?_⟩
          split
          · rename_i q
            exact bad a fun z=>q (decide_eq_true (z.2.2 (by omega)))
          · rename_i q
            exact ok fun _=>by simpa using q
        · exact ok fun q=>by omega
  · rename_i hi
    have:OkForm ds l↔(l.length:Int)≤400:=⟨fun q=>by have:=q.1; omega,fun q=>⟨by omega,fun i hi'=>h3 i (by omega)⟩⟩
    rw [decide_eq_decide.2 this] at h
    exact h
theorem Zi2 {s a b:Int} (hs:s=1∨s=-1) (ha:1≤a∧a≤10006) (hb:1≤b∧b≤10006):Zwe.wrap (Zwe.wrap (s * a) * b)=s * (a * b):=by
  have:=Zg6 (show 0≤a∧a≤10006 by omega) (show 0≤b∧b≤10006 by omega)
  rcases hs with rfl | rfl
  · rw [i64_in (1 * a) (by omega),ZMe,i64_in _ (by omega)]
  · rw [i64_in (-1 * a) (by omega),ZMe,i64_in _ (by omega)]
theorem Zlv {ds:List Int} {t:Term} {g:List Term} {K:ZFd→Prop} (hd:OkDeg ds) (ht:X0 ds t.mono) (htf:1≤t.factor∧t.factor≤10006) (pt:∀ i,i < 8→0≤t.mono.get i) (cg:Canon g) (wg:∀ u,u∈g→X0 ds u.mono) (pg:Zdw g) (hl:g.length≤100000000)
    (h:∀ out,IsShift ds t g out→K ⟨out⟩):Zet ds t ⟨g⟩ K:=by
  unfold Zet
  dsimp only
  refine Jd (fun (s:List Term×Int)=>0≤s.2∧s.2≤g.length∧IsShift ds t (g.take s.2.toNat) s.1) (fun s=>g.length - s.2.toNat) ?_ ⟨by omega,by omega,by simpa using IsShift.nil ds t⟩
  rintro ⟨out,i⟩ next ⟨h1,h2,hI⟩ hn
  dsimp only at h1 h2 hI hn ⊢
  split
  · rename_i hi
    have a:i.toNat < g.length:=by omega
    have hu:=Xt a
    have ni:(i+1).toNat=i.toNat+1:=by omega
    have wi:Zwe.wrap (i+1)=i+1:=i64_in _ (by omega)
    rw [wi]
    have hct:Canon (g.take i.toNat++[g.getD i.toNat Zt0]):=by
      rw [← Zaa a]
      exact⟨cg.1.sublist (List.take_sublist _ _),fun s hs=>cg.2 s (ZMf hs)⟩
    refine⟨by omega,Zqq hd ht (wg _ hu) pt (fun q hq=>(pg _ hu q hq).1) ?_⟩
    split
    · rename_i hs
      have hf:=cg.at_range a
      have hln:=hI.ln
      simp only [Zwl] at hln
      refine⟨by omega,Zbd ?_⟩
      rw [Zi2 (Zfh hs).2.2 htf hf]
      refine⟨by unfold X4; omega,hn _ ⟨by dsimp only; omega,by dsimp only; omega,?_⟩ (by dsimp only; omega)⟩
      dsimp only
      rw [ni,Zaa a]
      exact hI.put hct htf hs rfl
    · rename_i hs
      refine hn _ ⟨by dsimp only; omega,by dsimp only; omega,?_⟩ (by dsimp only; omega)
      dsimp only
      rw [ni,Zaa a]
      exact hI.skip (by simpa using hs)
  · rename_i hi
    rw [Zvl (by omega)] at hI
    exact h _ hI
theorem Zlw {ds:List Int} {f g:List Term} {K:ZFd→Prop} (hd:OkDeg ds) (cf:Canon f) (wf:∀ u,u∈f→X0 ds u.mono) (pf:Zdw f) (cg:Canon g) (wg:∀ u,u∈g→X0 ds u.mono) (pg:Zdw g) (hf:f.length≤10000) (hg:g.length≤10000)
    (h:∀ out,IsProd ds f g out→K ⟨out⟩):X2 ds ⟨f⟩ ⟨g⟩ K:=by
  unfold X2
  dsimp only
  refine Jd (fun (s:List Term×Int)=>0≤s.2∧s.2≤f.length∧IsProd ds (f.take s.2.toNat) g s.1) (fun s=>f.length - s.2.toNat) ?_ ⟨by omega,by omega,by simpa using IsProd.nil ds g⟩
  rintro ⟨out,i⟩ next ⟨h1,h2,hI⟩ hn
  dsimp only at h1 h2 hI hn ⊢
  split
  · rename_i hi
    have a:i.toNat < f.length:=by omega
    have hu:=Xt a
    have ni:(i+1).toNat=i.toNat+1:=by omega
    have wi:Zwe.wrap (i+1)=i+1:=i64_in _ (by omega)
    rw [wi]
    refine⟨by omega,Zlv hd (wf _ hu) (cf.at_range a) (fun q hq=>(pf _ hu q hq).1) cg wg pg (by omega) fun sh hsh=>?_⟩
    have hln:=hI.ln
    have hls:=hsh.ln
    have:(f.take i.toNat).length * g.length≤10000 * 10000:=Nat.mul_le_mul (by rw [Zwl]; omega) hg
    refine Zfm hI.can hsh.can (by omega) (by omega) (by omega) fun out' ho=>?_
    refine hn _ ⟨by dsimp only; omega,by dsimp only; omega,?_⟩ (by dsimp only; omega)
    dsimp only
    rw [ni,Zaa a]
    exact hI.step hsh ho
  · rename_i hi
    rw [Zvl (by omega)] at hI
    exact h _ hI
end Go.Proofs.YtheenipahifleaaGreat
namespace Go.Proofs.YtheenipahifleaaGreat
open Go Vc
theorem Zre {a b:A8} {K:Int→Prop} (ha:OkP a) (hb:OkP b) (h:K (pcmp a b)):Zgq a b K:=Zkp ha hb h
def FitT (l:List Term):Prop:=∀ t,t∈l→Jp .u8 t.mono
theorem FitT.pos {l:List Term} (h:FitT l):Zdw l:=fun t ht i hi=>Zic (Zid (h t ht) hi)
theorem Zlx {a:A8} (h:Jp .u8 a):OkP a:=fun x hx=>by
  obtain ⟨i,hi,rfl⟩:=A8.mem_list.1 hx
  have:=Zic (Zid h hi)
  omega
theorem Zrf {x:Int} {K:Bool→Prop} (h:K (decide (1≤x∧x≤10006))):Zgu x K:=Zld h
theorem Zly {ds : List Int} {l : List Term} {K : Bool → Prop} (hd : OkDeg ds) (hp : FitT l) (h : K (decide (OkForm ds l))) : Zdl ds ⟨l⟩ K := by
  unfold Zdl
  dsimp only
  split
  · rename_i q
    have:¬ OkForm ds l:=fun z=>by have:=z.1; omega
    rwa [decide_eq_false this] at h
  · rename_i q0
    refine Yr (fun i _=>∀ j,j < i→OkMono ds (l.getD j Zt0).mono∧(1≤(l.getD j Zt0).factor∧(l.getD j Zt0).factor≤10006)∧(0 < j→pcmp (l.getD (j - 1) Zt0).mono (l.getD j Zt0).mono < 0)) l.length ?_ ?_ _ _ _ (by omega) (by intro j hj; omega)
    · intro i s next hi hI hn
      have bad:¬ (OkMono ds (l.getD i Zt0).mono∧(1≤(l.getD i Zt0).factor∧(l.getD i Zt0).factor≤10006)∧(0 < i→pcmp (l.getD (i - 1) Zt0).mono (l.getD i Zt0).mono < 0))→K false:=by
        intro b
        have:¬ OkForm ds l:=fun q=>b (q.2 _ hi)
        rwa [decide_eq_false this] at h
      refine Zqj hd (fun q hq=>(hp.pos _ (Xt hi) q hq).1) ?_
      split
      · rename_i q
        exact bad fun z=>q (decide_eq_true z.1)
      · rename_i q1
        have q1:OkMono ds (l.getD i Zt0).mono:=of_decide_eq_true (ZI0.1 q1)
        refine Zrf ?_
        split
        · rename_i q
          exact bad fun z=>q (decide_eq_true z.2.1)
        · rename_i q2
          have q2:1≤(l.getD i Zt0).factor∧(l.getD i Zt0).factor≤10006:=of_decide_eq_true (ZI0.1 q2)
          have ok:(0 < i→pcmp (l.getD (i - 1) Zt0).mono (l.getD i Zt0).mono < 0)→next ():=fun q3=>by
            refine hn _ fun j hj=>?_
            by_cases hji:j=i
            · subst hji; exact⟨q1,q2,q3⟩
            · exact hI j (by omega)
          split
          · have w2:Zwe.wrap ((i:Int) - 1)=(i:Int) - 1:=i64_in _ (by omega)
            rw [w2,show ((i:Int) - 1).toNat=i - 1 by omega]
            have f1:=hp _ (Xt (show i - 1 < l.length by omega))
            have f2:=hp _ (Xt hi)
            refine⟨by omega,Zgw f1 (Zgw f2 (Zre (Zlx f1) (Zlx f2) ?_))⟩
            split
            · rename_i q
              exact bad fun z=>by have:=z.2.2 (by omega); omega
            · rename_i q
              exact ok fun _=>by omega
          · exact ok fun q=>by omega
    · intro s hI
      have:OkForm ds l:=⟨by omega,hI⟩
      rwa [decide_eq_true this] at h
structure IsMap (l:List Term) (m:List (A8×Int)):Prop where
  ok:MapOk m
  cf:∀ x,co m x=coT l x
  ks:∀ p,p∈m→∃ t,t∈l∧t.mono=p.1
theorem Zdx {l : List Term} {K : List (A8 × Int) → Prop} (hc : Canon l) (hp : FitT l) (h : ∀ m, IsMap l m → K m) : Zaw ⟨l⟩ K := by
  unfold Zaw
  dsimp only
  refine Yr (fun i (s:List (A8×Int))=>IsMap (l.take i) s) l.length ?_ ?_ _ _ _ (by omega) ⟨MapOk.nil,by intro x; rfl,by simp⟩
  · intro i s next hi hI hn
    refine Zgw (hp _ (Xt hi)) (hn _ ?_)
    rw [Zaa hi]
    have hnew:co s (l.getD i Zt0).mono=0:=by
      rw [hI.cf]
      refine Zdq fun t ht=>?_
      obtain ⟨j,hj,rfl⟩:=Zuf ht
      rw [Zwl] at hj
      have:=hc.at_lt (show j < i by omega) hi
      have hjl:j < l.length:=by omega
      simp only [List.getElem_take]
      rw [show l.getD j Zt0=l[j] by simp [Zt7,hjl]] at this
      exact Zfe this
    refine⟨hI.ok.put (hc.at_range hi),fun x=>?_,fun p hpm=>?_⟩
    · rw [Zlq hI.ok.1,Zba,← hI.cf]
      by_cases hx:x=(l.getD i Zt0).mono
      · subst hx; rw [if_pos rfl,if_pos rfl,hnew,ZH0]
      · rw [if_neg hx,if_neg (fun e=>hx e.symm),ZLq]
    · rcases Zit hpm with rfl | q
      · exact⟨_,by simp,rfl⟩
      · obtain ⟨t,ht,e⟩:=hI.ks p q
        exact⟨t,by simp [ht],e⟩
  · intro s hI
    rw [List.take_length] at hI
    exact h _ hI
theorem Zlz {l:List (A8×Int)} {x:A8} {c:Int} {K:List (A8×Int)→Prop} (hl:MapOk l) (hc:-100000000000≤c∧c≤100000000000) (h:∀ l',IsPut l x c l'→K l'):Zdi l x c K:=by
  unfold Zdi
  rw [Zdr hl.1]
  have:=hl.range x
  rw [i64_in _ (by omega)]
  refine Zlu ?_
  split
  · rename_i q; exact h _ (IsPut.put hl rfl q)
  · rename_i q; exact h _ (IsPut.del hl (by omega))
structure IsSum (s t:List (A8×Int)) (k:Int) (out:List (A8×Int)):Prop where
  ok:MapOk out
  cf:∀ m,co out m % 10007=(co s m+k * co t m) % 10007
  ks:∀ p,p∈out→∃ q,(q∈s∨q∈t)∧q.1=p.1
  ln:out.length≤s.length+t.length
theorem Zg9 {s t : List (A8 × Int)} {k : Int} {K : List (A8 × Int) → Prop} (hs : MapOk s) (ht : MapOk t) (hk : 0 ≤ k ∧ k ≤ 10006) (h : ∀ out, IsSum s t k out → K out) : Zax s t k K := by
  unfold Zax
  refine Zc8 (fun l' (out:List (A8×Int))=>(∀ p,p∈l'→p∈t)∧MapOk out∧(∀ m,(co out m+k * co l' m) % 10007=(co s m+k * co t m) % 10007)∧(∀ p,p∈out→∃ q,(q∈s∨q∈t)∧q.1=p.1)∧out.length+l'.length≤s.length+t.length) ?_ ?_ t s ⟨fun _ h=>h,hs,fun _=>rfl,fun p hp=>⟨p,.inl hp,rfl⟩,by omega⟩
  · intro l' p l'' out next hp ⟨h0,h1,h2,h3,h4⟩ hn
    have hperm:=Zc9 hp
    have hpm:p∈l':=hperm.mem_iff.2 (by simp)
    have hpt:=ht.2 p (h0 p hpm)
    have hb:=Zg6 (show 0≤p.2∧p.2≤10006 by omega) hk
    rw [i64_in _ (by omega)]
    have htm:=Zfg (p.2 * k)
    refine Zlz h1 (by omega) fun out' ho=>hn _ ⟨fun q hq=>h0 q (hperm.mem_iff.2 (by simp [hq])),ho.ok,fun m=>?_,fun q hq=>?_,?_⟩
    · have e1:=ho.cf m
      have e2:=h2 m
      have e3:co l' m=(if p.1=m then p.2 else 0)+co l'' m:=by rw [co,Zci _ hperm]; rfl
      rw [e3,Int.mul_add] at e2
      by_cases hm:p.1=m
      · rw [if_pos hm] at e1 e2
        have e4:=Zln (p.2 * k)
        rw [Int.mul_comm k p.2] at e2
        omega
      · rw [if_neg hm] at e1 e2
        omega
    · rcases ho.ks q hq with e | ⟨q',hq',e⟩
      · exact⟨p,.inr (h0 p hpm),e.symm⟩
      · obtain ⟨z,hz,e'⟩:=h3 q' hq'
        exact⟨z,hz,e'.trans e⟩
    · have:=ho.ln
      have:=Zc5 hp
      omega
  · intro out ⟨_,h1,h2,h3,h4⟩
    exact h _ ⟨h1,fun m=>by have:=h2 m; rw [Za9,ZL0,ZLq] at this; exact this,h3,by simpa using h4⟩
def shM (ds:List Int) (p:A8×Int) (t:List (A8×Int)) (m:A8):Int:=tot (fun q=>pr1 ds p.1 p.2 q.1 q.2 m) t
def prM (ds:List Int) (s t:List (A8×Int)) (m:A8):Int:=tot (fun p=>shM ds p t m) s
structure IsProdM (ds:List Int) (s t out:List (A8×Int)):Prop where
  ok:MapOk out
  cf:∀ m,co out m % 10007=prM ds s t m % 10007
  ks:∀ p,p∈out→∃ a b,a∈s∧b∈t∧p.1=a.1.add b.1∧¬ Clash ds a.1 b.1
theorem Zi3 {ds : List Int} {s t : List (A8 × Int)} {K : List (A8 × Int) → Prop} (hd : OkDeg ds) (hs : MapOk s) (ws : ∀ p, p ∈ s → X0 ds p.1) (ps : ∀ p, p ∈ s → ∀ i, i < 8 → 0 ≤ p.1.get i) (ht : MapOk t) (wt : ∀ p, p ∈ t → X0 ds p.1) (pt : ∀ p, p ∈ t → ∀ i, i < 8 → 0 ≤ p.1.get i)
    (h:∀ out,IsProdM ds s t out→K out):J4 s ds t K:=by
  unfold J4
  refine Zc8 (fun l' (out:List (A8×Int))=>(∀ p,p∈l'→p∈s)∧MapOk out∧(∀ m,(co out m+prM ds l' t m) % 10007=prM ds s t m % 10007)∧(∀ p,p∈out→∃ a b,a∈s∧b∈t∧p.1=a.1.add b.1∧¬ Clash ds a.1 b.1)) ?_ ?_ s [] ⟨fun _ h=>h,MapOk.nil,fun m=>by rw [Za9,ZH0],by simp⟩
  · intro l' p l'' out next hp ⟨h0, h1, h2, h3⟩ hn
    have hperm:=Zc9 hp
    have hpm:p∈s:=h0 p (hperm.mem_iff.2 (by simp))
    have hpf:=hs.2 p hpm
    have e3:∀ m,prM ds l' t m=shM ds p t m+prM ds l'' t m:=fun m=>by rw [prM,Zci _ hperm]; rfl
    refine Zc8 (fun k' (o2:List (A8×Int))=>(∀ q,q∈k'→q∈t)∧MapOk o2∧(∀ m,(co o2 m+shM ds p k' m) % 10007=(co out m+shM ds p t m) % 10007)∧(∀ q,q∈o2→∃ a b,a∈s∧b∈t∧q.1=a.1.add b.1∧¬ Clash ds a.1 b.1)) ?_ ?_ t out ⟨fun _ h=>h,h1,fun _=>rfl,h3⟩
    · intro k' q k'' o2 next' hq ⟨g0, g1, g2, g3⟩ hn'
      have hperm2:=Zc9 hq
      have hqm:q∈t:=g0 q (hperm2.mem_iff.2 (by simp))
      have hqf:=ht.2 q hqm
      have e4:∀ m,shM ds p k' m=pr1 ds p.1 p.2 q.1 q.2 m+shM ds p k'' m:=fun m=>by rw [shM,Zci _ hperm2]; rfl
      refine Zqr hd (ws p hpm) (wt q hqm) (ps p hpm) (pt q hqm) ?_
      split
      · rename_i hsg
        rw [Zi2 (Zfh hsg).2.2 hpf hqf]
        have htm:=Zfg ((Ys ds p.1 q.1).2 * (p.2 * q.2))
        refine Zlz g1 (by omega) fun o3 ho=>hn' _ ⟨fun z hz=>g0 z (hperm2.mem_iff.2 (by simp [hz])),ho.ok,fun m=>?_,fun z hz=>?_⟩
        · have e1:=ho.cf m
          have e2:=g2 m
          rw [e4,pr1] at e2
          by_cases hm:(Ys ds p.1 q.1).1=m
          · rw [if_pos hm] at e1 e2
            have e5:=Zln ((Ys ds p.1 q.1).2 * (p.2 * q.2))
            omega
          · rw [if_neg hm] at e1 e2
            omega
        · rcases ho.ks z hz with e | ⟨z',hz',e⟩
          · exact⟨p,q,hpm,hqm,by rw [e,(Zfh hsg).2.1],(Zfh hsg).1⟩
          · obtain ⟨a,b,ha,hb,e',hc⟩:=g3 z' hz'
            exact⟨a,b,ha,hb,e ▸ e',hc⟩
      · rename_i hsg
        refine hn' _ ⟨fun z hz=>g0 z (hperm2.mem_iff.2 (by simp [hz])),g1,fun m=>?_,g3⟩
        have e2:=g2 m
        rw [e4,pr1,show (Ys ds p.1 q.1).2=0 by simpa using hsg] at e2
        simpa using e2
    · intro o2 ⟨_,g1,g2,g3⟩
      refine hn _ ⟨fun q hq=>h0 q (hperm.mem_iff.2 (by simp [hq])),g1,fun m=>?_,g3⟩
      have e1:=g2 m
      have e2:=h2 m
      rw [e3] at e2
      rw [show shM ds p [] m=0 from rfl] at e1
      omega
  · intro out ⟨_,h1,h2,h3⟩
    exact h _ ⟨h1,fun m=>by have:=h2 m; rw [show prM ds [] t m=0 from rfl,ZLq] at this; exact this,h3⟩
theorem Zfn {l : List Term} {k : List (A8 × Int)} (hk : IsMap l k) (hc : Canon l) (F : A8 → Int → Int) (hF : ∀ a, F a 0 = 0) : tot (fun p => F p.1 p.2) k = tot (fun t => F t.mono t.factor) l := by
  have hnd:(l.map fun t=>(t.mono,t.factor)).Nodup:=by
    refine ZMi.2 (hc.1.imp fun {a b} h e=>?_)
    exact Zfe h (congrArg Prod.fst e)
  have hperm:k.Perm (l.map fun t=>(t.mono,t.factor)):=by
    have hkn:k.Nodup:=by
      have:=hk.ok.1
      exact List.Pairwise.imp (fun {a b} h e=>h (congrArg Prod.fst e)) (ZMi.1 this)
    refine(List.perm_ext_iff_of_nodup hkn hnd).2 fun p=>?_
    have atk:∀ p,p∈k→co k p.1=p.2:=by
      intro p hp
      obtain ⟨i,hi,rfl⟩:=Zuf hp
      have hkk:=hk.ok.1
      clear hk hkn
      induction k generalizing i with
      | nil=>simp at hi
      | cons q k ih =>
        simp only [List.map_cons,ZH1] at hkk
        rw [J5]
        cases i with
        | zero=>rw [List.getElem_cons_zero,if_pos rfl,Zbb fun t ht e=>hkk.1 (Zvb.2 ⟨t,ht,e⟩),ZLq]
        | succ i =>
          have hi':i < k.length:=by simpa using hi
          rw [List.getElem_cons_succ,if_neg (fun e=>hkk.1 (Zvb.2 ⟨_,List.getElem_mem hi',e.symm⟩)),ZH0]
          exact ih i hi' (List.getElem_mem hi') hkk.2
    have atl:∀ t,t∈l→coT l t.mono=t.factor:=by
      intro t ht
      clear hk hkn hnd atk
      induction l with
      | nil=>simp at ht
      | cons q l ih =>
        rcases Ztw.1 ht with rfl | ht
        · exact hc.at_head
        · rw [Za8,if_neg (Zfe (hc.head t ht)),ZH0]; exact ih hc.tail ht
    constructor
    · intro hp
      obtain ⟨t,ht,e⟩:=hk.ks p hp
      refine Zvb.2 ⟨t,ht,?_⟩
      have h1:=atk p hp
      rw [hk.cf,← e,atl t ht] at h1
      rw [e,h1]
    · intro hp
      obtain ⟨t,ht,rfl⟩:=Zvb.1 hp
      have h1:=hk.cf t.mono
      rw [atl t ht] at h1
      have hnz:=hc.2 t ht
      have:∃ p,p∈k∧p.1=t.mono:=by
        refine ZMj fun hno=>?_
        rw [Zbb (fun p hp e=>hno ⟨p,hp,e⟩)] at h1
        omega
      obtain ⟨p,hp,e⟩:=this
      have h2:=atk p hp
      rw [e,h1] at h2
      rw [← e,h2]; exact hp
  rw [Zci _ hperm,Zap]
def Low (a:A8):Prop:=∀ i,i < 8→a.get i≤20
instance (a:A8):Decidable (Low a):=inferInstanceAs (Decidable (∀ i,i < 8→_))
def Zcn (l:List Term):ZFd×Int:=if l.length≤400∧∀ t,t∈l→Low t.mono then(⟨l⟩,0) else(⟨[]⟩,3)
theorem Zrg {m : List (A8 × Int)} {K : ZFd → Int → Prop} (hm : MapOk m) (hok : ∀ p, p ∈ m → OkP p.1) (h : ∀ l, Canon l → (∀ x, coT l x = co m x) → (∀ t, t ∈ l → ∃ p, p ∈ m ∧ p.1 = t.mono) → K (Zcn l).1 (Zcn l).2) : Zch m K := by
  by_cases hl:m.length≤400
  · have hlist:∀ xs:List A8,xs.Perm (m.map (·.1))→(∀ t,t∈xs.map (fun x=>(⟨x,(Yw m x).getD 0⟩:Term))→∃ p,p∈m∧p.1=t.mono)∧(xs.map (fun x=>(⟨x,(Yw m x).getD 0⟩:Term))).length=m.length:=by
      intro xs hp
      refine⟨fun t ht=>?_,by rw [ZLy,hp.length_eq,ZLy]⟩
      obtain ⟨x,hx,rfl⟩:=Zvb.1 ht
      obtain ⟨p,hpm,e⟩:=Zvb.1 (hp.mem_iff.1 hx)
      exact⟨p,hpm,e⟩
    refine Zqt hl hok ?_ ?_
    · intro hbad
      obtain ⟨xs,hxs,hw⟩:=Zg1 (m.map (·.1))
      obtain ⟨h1,h2⟩:=Zg0 hm hxs hw
      obtain ⟨h3,h4⟩:=hlist xs hxs
      have:=h _ h1 h2 h3
      rw [Zcn,if_neg] at this
      · exact this
      · rintro ⟨_,q⟩
        obtain ⟨p,hp,i,hi,hgt⟩:=hbad
        have hx:p.1∈xs:=hxs.mem_iff.2 (Zvb.2 ⟨p,hp,rfl⟩)
        have:=q _ (Zvb.2 ⟨p.1,hx,rfl⟩) i hi
        dsimp only at this
        omega
    · intro hle xs hxs hw
      obtain ⟨h1,h2⟩:=Zg0 hm hxs hw
      obtain ⟨h3,h4⟩:=hlist xs hxs
      have:=h _ h1 h2 h3
      rw [Zcn,if_pos] at this
      · exact this
      · refine⟨by omega,fun t ht i hi=>?_⟩
        obtain ⟨p,hp,e⟩:=h3 t ht
        rw [← e]; exact hle p hp i hi
  · obtain ⟨xs,hxs,hw⟩:=Zg1 (m.map (·.1))
    obtain ⟨h1,h2⟩:=Zg0 hm hxs hw
    have hln:(xs.map (fun x=>(⟨x,(Yw m x).getD 0⟩:Term))).length=m.length:=by rw [ZLy,hxs.length_eq,ZLy]
    have:=h _ h1 h2 (fun t ht=>by
      obtain ⟨x,hx,rfl⟩:=Zvb.1 ht
      obtain ⟨p,hpm,e⟩:=Zvb.1 (hxs.mem_iff.1 hx)
      exact⟨p,hpm,e⟩)
    rw [Zcn,if_neg (by omega)] at this
    unfold Zch
    rw [if_pos (by omega)]
    exact this
end Go.Proofs.YtheenipahifleaaGreat
namespace Vc
open Go
def A8.mkf (f:Nat→Int):A8:=⟨f 0,f 1,f 2,f 3,f 4,f 5,f 6,f 7⟩
theorem A8.get_mkf (f:Nat→Int) {i:Nat} (hi:i < 8):(A8.mkf f).get i=f i:=by
  match i,hi with
  | 0,_ | 1,_ | 2,_ | 3,_ | 4,_ | 5,_ | 6,_ | 7,_=>rfl
def Xu (m:A8) (i:Nat):A8:=A8.mkf fun j=>if j < i then m.get j else 0
def leftA (m:A8) (i:Nat):A8:=A8.mkf fun j=>if j < i then m.get j else if j=i then m.get i - 1 else 0
def backA (m:A8) (i:Nat):A8:=A8.mkf fun j=>if i < j then m.get j else 0
def wtU (ds:List Int) (m:A8):Nat→Int
  | 0=>0
  | i+1=>wtU ds m i+ds.getD i Zt0 * m.get i
theorem Zha (F : A8 → Int) (S : List A8) (hS : S.Nodup) : ∀ l : List Term, (∀ t, t ∈ l → t.mono ∈ S) → tot (fun t => F t.mono * t.factor) l = tot (fun x => F x * coT l x) S := by
  intro l
  induction l with
  | nil=>intro _; simp only [tot]; rw [Zgz]; intro x _; rw [Zbr,ZL0]
  | cons t l ih =>
    intro h
    simp only [tot]
    rw [ih fun s hs=>h s (by simp [hs])]
    have e:∀ x,F x * coT (t::l) x=(if t.mono=x then F x * t.factor else 0)+F x * coT l x:=fun x=>by
      rw [Za8,Int.mul_add]
      congr 1
      split
      · rfl
      · rw [ZL0]
    rw [Zaz (fun x _=>e x),Zqu]
    congr 1
    have ht:=h t (by simp)
    clear ih h e
    induction S with
    | nil=>cases ht
    | cons s S ihS =>
      simp only [tot]
      have hn:=ZH1.1 hS
      by_cases hs:t.mono=s
      · subst hs
        rw [if_pos rfl,Zgz]
        · omega
        · intro x hx
          rw [if_neg]
          rintro rfl
          exact hn.1 hx
      · rw [if_neg hs,ZH0]
        refine ihS hn.2 ?_
        rcases Ztw.1 ht with q | q
        · exact absurd q hs
        · exact q
def Za2:List A8→List A8
  | []=>[]
  | a::l=>if a∈Za2 l then Za2 l else a::Za2 l
theorem Zi4 {a:A8}:∀ l,a∈l→a∈Za2 l
  | b :: l, h => by
    simp only [Za2]
    rcases Ztw.1 h with rfl | h
    · split
      · assumption
      · simp
    · have:=Zi4 l h
      split
      · exact this
      · simp [this]
theorem Zhb:∀ l,(Za2 l).Nodup
  | []=>ZMk
  | a :: l => by
    simp only [Za2]
    split
    · exact Zhb l
    · exact ZH1.2 ⟨by assumption,Zhb l⟩
theorem lin (F:A8→Int) {l k:List Term} (h:∀ x,coT l x % 10007=coT k x % 10007):tot (fun t=>F t.mono * t.factor) l % 10007=tot (fun t=>F t.mono * t.factor) k % 10007:=by
  have S:=Za2 (l.map ZLu++k.map ZLu)
  rw [Zha F (Za2 (l.map ZLu++k.map ZLu)) (Zhb _) l fun t ht=>Zi4 _ (by simp; exact .inl ⟨t,ht,rfl⟩),
    Zha F (Za2 (l.map ZLu++k.map ZLu)) (Zhb _) k fun t ht=>Zi4 _ (by simp; exact .inr ⟨t,ht,rfl⟩)]
  refine Zir fun x _=>?_
  rw [ZLp,h x,← ZLp]
def tri (ds:List Int) (l b u:A8) (n:Int) (x:A8):Int:=if(Ys ds (Ys ds l u).1 b).1=x then(Ys ds (Ys ds l u).1 b).2 * ((Ys ds l u).2 * n) else 0
def triC (ds:List Int) (l b:A8) (img:List Term) (x:A8):Int:=tot (fun u=>tri ds l b u.mono u.factor x) img
theorem Zl0 {ds:List Int} {l b:A8} {img own prod:List Term} (h1:∀ y,coT own y % 10007=shC ds ⟨l,1⟩ img y % 10007) (h2:∀ x,coT prod x % 10007=prC ds own [⟨b,1⟩] x % 10007) (x:A8):coT prod x % 10007=triC ds l b img x % 10007:=by
  rw [h2]
  have e1:prC ds own [⟨b,1⟩] x=tot (fun t=>(if(Ys ds t.mono b).1=x then(Ys ds t.mono b).2 else 0) * t.factor) own:=by
    refine Zaz fun t _=>?_
    unfold shC pr1
    simp only [tot,ZL4,ZLq]
    split <;> simp
  have hL:∀ y,coT own y % 10007=coT (img.map fun u=>(⟨(Ys ds l u.mono).1,(Ys ds l u.mono).2 * u.factor⟩:Term)) y % 10007:=fun y=>by
    rw [h1 y,shC,coT,Zap]
    congr 1
    refine Zaz fun u _=>?_
    unfold pr1
    simp only [ZL5]
  rw [e1,lin (fun y=>if(Ys ds y b).1=x then(Ys ds y b).2 else 0) hL,Zap]
  congr 1
  refine Zaz fun u _=>?_
  unfold tri
  dsimp only
  split <;> simp
def dK (ds:List Int) (m:A8) (n:Int) (i:Nat):Int:=(sg (wtU ds m i) * (n * m.get i)) % 10007
def dS (ds:List Int) (imgs:List (List Term)) (m:A8) (n:Int) (x:A8):Nat→Nat→Int
  | 0,_=>0
  | r+1,i=>(if m.get i > 0 then dK ds m n i * triC ds (leftA m i) (backA m i) (imgs.getD i Zt0) x else 0)+dS ds imgs m n x r (i+1)
def dT (ds:List Int) (imgs:List (List Term)) (m:A8) (n:Int) (x:A8):Int:=dS ds imgs m n x 8 0
theorem Zrh (ds:List Int) (m:A8) (i:Nat):dK ds m 0 i=0:=by simp [dK]
theorem Zi5 (ds:List Int) (imgs:List (List Term)) (m x:A8):dT ds imgs m 0 x=0:=by
  have:∀ r i,dS ds imgs m 0 x r i=0:=by
    intro r
    induction r with
    | zero=>intro i; rfl
    | succ r ih=>intro i; simp only [dS,ih,Zrh]; split <;> simp
  exact this 8 0
theorem Zri {ds:List Int} {imgs:List (List Term)} {m:A8} {n:Int} {x:A8}:∀ r i,(∀ j,i≤j→j < i+r→m.get j=0)→dS ds imgs m n x r i=0:=by
  intro r
  induction r with
  | zero=>intro i _; rfl
  | succ r ih=>intro i h; simp only [dS]; rw [h i (by omega) (by omega),if_neg (by omega),ih (i+1) fun j h1 h2=>h j (by omega) (by omega)]; rfl
def DMono (ds:List Int) (imgs:List (List Term)) (x m:A8):Prop:=∃ i u,i < 8∧0 < m.get i∧u∈imgs.getD i Zt0∧x=((leftA m i).add u.mono).add (backA m i)∧¬ Clash ds (leftA m i) u.mono∧¬ Clash ds ((leftA m i).add u.mono) (backA m i)
structure IsD (ds:List Int) (imgs:List (List Term)) (f out:List Term):Prop where
  can:Canon out
  cf:∀ x,coT out x % 10007=tot (fun t=>dT ds imgs t.mono t.factor x) f % 10007
  mo:∀ y,y∈out→∃ t,t∈f∧DMono ds imgs y.mono t.mono
theorem Zl1 {ds : List Int} {m : A8} {i : Nat} (h : OkMono ds m) (hi : i < 8) (hp : 0 < m.get i) : X0 ds (leftA m i) ∧ X0 ds (backA m i) := by
  constructor
  · intro j hj
    rw [leftA,A8.get_mkf _ hj]
    have hm:=h j hj
    refine⟨fun hl=>?_,fun hl=>?_⟩
    · have h1:=hm.1 hl
      split
      · exact⟨by omega,h1.2⟩
      · split
        · rename_i e; subst e; exact⟨by omega,fun q=>by have:=h1.2 q; omega⟩
        · exact⟨by omega,fun _=>by omega⟩
    · have h1:=hm.2 hl
      split
      · exact h1
      · split
        · rename_i e; subst e; omega
        · rfl
  · intro j hj
    rw [backA,A8.get_mkf _ hj]
    have hm:=h j hj
    refine⟨fun hl=>?_,fun hl=>?_⟩
    · have h1:=hm.1 hl
      split
      · exact⟨by omega,h1.2⟩
      · exact⟨by omega,fun _=>by omega⟩
    · have h1:=hm.2 hl
      split
      · exact h1
      · rfl
theorem Zl2 {ds:List Int} {a b:A8} (ha:X0 ds a) (hb:X0 ds b) (pa:∀ i,i < 8→0≤a.get i) (pb:∀ i,i < 8→0≤b.get i) (hs:∀ i,i < 8→a.get i+b.get i≤100) (hc:¬ Clash ds a b):X0 ds (a.add b):=by
  intro j hj
  rw [ZLv]
  have h1:=ha j hj
  have h2:=hb j hj
  refine⟨fun hl=>⟨hs j hj,fun ho=>?_⟩,fun hl=>by rw [h1.2 hl,h2.2 hl]; rfl⟩
  have g1:=(h1.1 hl).2 ho
  have g2:=(h2.1 hl).2 ho
  have:=pa j hj
  have:=pb j hj
  have:¬ (0 < a.get j∧0 < b.get j):=fun q=>hc ⟨j,hl,ho,q⟩
  omega
end Vc
namespace Go.Proofs.YtheenipahifleaaGreat
open Go Vc
def asT (m:List (A8×Int)):List Term:=m.map fun p=>⟨p.1,p.2⟩
theorem Zi6 (m:List (A8×Int)) (x:A8):coT (asT m) x=co m x:=by rw [coT,asT,Zap]; rfl
theorem Zl3 {l : List Term} {out : List (A8 × Int)} (hc : Canon l) (ho : MapOk out) (h : ∀ x, co out x % 10007 = coT l x % 10007) : IsMap l out := by
  have hcf:∀ x,co out x=coT l x:=fun x=>by have:=h x; have:=ho.range x; have:=hc.range x; omega
  refine⟨ho,hcf,fun p hp=>ZMj fun hno=>?_⟩
  have h1:coT l p.1=0:=Zdq fun t ht e=>hno ⟨t,ht,e⟩
  rw [← hcf,← Zdr ho.1] at h1
  have h2:=ho.2 p hp
  have h3:(Yw out p.1).getD 0=p.2:=by
    rw [Zdr ho.1]
    have hk:=ho.1
    clear h hcf hno h1 h2 ho
    induction out with
    | nil=>simp at hp
    | cons q k ih =>
      simp only [List.map_cons,ZH1] at hk
      rw [J5]
      rcases Ztw.1 hp with rfl | hp
      · rw [if_pos rfl,Zbb fun t ht e=>hk.1 (Zvb.2 ⟨t,ht,e⟩),ZLq]
      · rw [if_neg (fun e=>hk.1 (Zvb.2 ⟨p,hp,e.symm⟩)),ZH0]
        exact ih hp hk.2
  omega
theorem Zrj {ds:List Int} {l b:A8} {img:List Term} {s own t:List (A8×Int)} (hs:IsMap img s) (hc:Canon img) (h1:IsProdM ds [(l,1)] s own) (h2:IsProdM ds own [(b,1)] t) (x:A8):co t x % 10007=triC ds l b img x % 10007:=by
  rw [← Zi6]
  refine Zl0 (own:=asT own) (fun y=>?_) (fun x=>?_) x
  · rw [Zi6,h1.cf]
    unfold prM shM shC
    simp only [tot,ZLq]
    rw [Zfn hs hc (fun a n=>pr1 ds l 1 a n y) (fun a=>by unfold pr1; split <;> simp)]
  · rw [Zi6,h2.cf]
    unfold prM shM prC shC asT
    rw [Zap]
    simp only [tot,ZLq]
structure IsDM (ds:List Int) (imgs:List (List Term)) (s out:List (A8×Int)):Prop where
  ok:MapOk out
  cf:∀ x,co out x % 10007=tot (fun p=>dT ds imgs p.1 p.2 x) s % 10007
  mo:∀ y,y∈out→∃ t,t∈s∧DMono ds imgs y.1 t.1
theorem Zrk {ds:List Int} {imgs:List (List Term)} {f:List Term} {s out':List (A8×Int)} {out:List Term} (hs:IsMap f s) (hc:Canon f) (h:IsD ds imgs f out) (h':IsDM ds imgs s out'):IsMap out out' :=
  Zl3 h.can h'.ok fun x=>by
    rw [h'.cf,h.cf,Zfn hs hc (fun a n=>dT ds imgs a n x) (fun a=>Zi5 ds imgs a x)]
theorem Zl4 {l:List Term} {m:List (A8×Int)} (h:IsMap l m) (hc:Canon l):m=[]↔l=[]:=by
  constructor
  · intro e
    cases l with
    | nil=>rfl
    | cons t l =>
      have h1:=h.cf t.mono
      rw [hc.at_head,e,Za9] at h1
      have:=hc.2 t (by simp)
      omega
  · intro e
    cases m with
    | nil=>rfl
    | cons p m =>
      obtain ⟨t,ht,_⟩:=h.ks p (by simp)
      rw [e] at ht; cases ht
end Go.Proofs.YtheenipahifleaaGreat
namespace Go.Proofs.YtheenipahifleaaGreat
open Go Vc
theorem Zrl {a b:Term} {K:Bool→Prop} (h:K (decide (a=b))):Ze9 a b K:=by
  unfold Ze9
  refine Zqn ?_
  cases a with | mk m x=>cases b with | mk n y =>
  by_cases h1:m=n
  · by_cases h2:x=y
    · simpa [h1,h2] using h
    · simpa [h1,h2] using h
  · simpa [h1] using h
theorem Zl5 {α : Type} [DecidableEq α] [Inhabited α] {a b : List α} {K : Bool → Prop} {eq : α → α → (Bool → Prop) → Prop} (he : ∀ x y K, K (decide (x = y)) → eq x y K) (h : K (decide (a = b))) :
    (if(a.length:Int)≠(b.length:Int) then K false else Yg (fun i (s:Unit) next=>((0≤(i:Int)∧(i:Int) < (b.length:Int))∧eq (a.getD i Zt0) (b.getD i Zt0) (fun r=>(if¬ (r=true) then K false else next ())))) (fun (s:Unit)=>K true) a.length 0 ()):=by
  split
  · rename_i h1
    have:¬ a=b:=fun e=>h1 (by rw [e])
    simpa [this] using h
  · rename_i h1
    have hl:a.length=b.length:=by omega
    refine Yr (fun i _=>∀ j,j < i→a.getD j Zt0=b.getD j Zt0) a.length ?_ ?_ _ _ _ (by omega) (by intro j hj; omega)
    · intro i s next hi hI hn
      refine⟨by omega,he _ _ _ ?_⟩
      split
      · rename_i h1
        have:¬ a=b:=fun e=>h1 (by rw [e]; simp)
        simpa [this] using h
      · rename_i h1
        refine hn _ fun j hj=>?_
        by_cases hji:j=i
        · subst hji; simpa only [decide_eq_true_eq,ZI0] using h1
        · exact hI j (by omega)
    · intro s hI
      have:a=b:=by
        apply List.ext_getElem hl
        intro i h1 h2
        have:=hI i h1
        simpa [Zt7,h1,h2] using this
      simpa [this] using h
theorem Zrm {a b:List Term} {K:Bool→Prop} (h:K (decide (a=b))):Zgv a b K:=Zl5 (fun _ _ _ h=>Zrl h) h
theorem Zrn {a b:ZFd} {K:Bool→Prop} (h:K (decide (a=b))):Zfa a b K:=by
  unfold Zfa
  refine Zrm ?_
  cases a with | mk s=>cases b with | mk t =>
  by_cases h1:s=t
  · simpa [h1] using h
  · simpa [h1] using h
theorem Zl6 {a b:List ZFd} {K:Bool→Prop} (h:K (decide (a=b))):Zay a b K:=Zl5 (fun _ _ _ h=>Zrn h) h
theorem Zro {a b:Alg} {K:Bool→Prop} (h:K (decide (a=b))):Zbs a b K:=by
  unfold Zbs
  refine Zqo ?_
  cases a with | mk s t=>cases b with | mk u v =>
  dsimp only
  by_cases h1:s=u
  · simp only [h1,decide_true,not_true_eq_false,if_false]
    refine Zl6 ?_
    by_cases h2:t=v
    · simpa [h1,h2] using h
    · simpa [h2] using h
  · simpa [h1] using h
theorem Zbt {α:Type} [Inhabited α] {xs:List α} {i j:Nat} {x:α} (hi:i < xs.length):(xs.set i x).getD j Zt0=if j=i then x else xs.getD j Zt0:=by
  by_cases h:j=i
  · subst h; simp [Zt7,hi]
  · simp [Zt7,List.getElem?_set_ne (fun e=>h e.symm),h]
def Zfo (t:Term) (c:Int):Prop:=(∀ q,q < 8→t.mono.get q=ZFl.wrap (c+q))∧t.factor=c+8
theorem Zrp {x:List Term} {m:Int} {K':Int→Prop} (hm:0≤m∧m+9 * x.length≤4611686018427387904) (h:∀ j:Nat,j < x.length→Zfo (x.getD j Zt0) (m+9 * j)) (hK:K' (m+9 * x.length)):Zfc x m K':=by
  unfold Zfc
  refine Yr (fun i (s:Int)=>s=m+9 * i) x.length ?_ ?_ _ _ _ (by omega) (by simp)
  · intro i s next hi hs hn
    obtain ⟨g1,g2⟩:=h i hi
    refine Yr (fun q (t:Int)=>t=s+q) 8 ?_ ?_ _ _ _ (by omega) (by simp)
    · intro q t next' hq ht hn'
      rw [if_neg (by rw [g1 q hq,ht,hs]; simp),i64_in (t+1) (by omega)]
      exact hn' _ (by omega)
    · intro t ht
      rw [if_neg (by rw [g2,ht,hs]; omega),i64_in (t+1) (by omega)]
      exact hn _ (by omega)
  · intro s hs
    rw [hs]; exact hK
theorem Zl7 {l : List Term} {m : Int} {K : Int → List Term → Prop} (hm : 0 ≤ m ∧ m + 9 * l.length ≤ 4611686018427387904) (h : ∀ x', x'.length = l.length → (∀ j : Nat, j < x'.length → Zfo (x'.getD j Zt0) (m + 9 * j)) → K (m + 9 * l.length) x') : Zfb l m K := by
  unfold Zfb
  refine Jd (fun (s:List Term×Int×Int)=>s.1.length=l.length∧(0≤s.2.2∧s.2.2≤l.length)∧s.2.1=m+9 * s.2.2∧∀ j:Nat,(j:Int) < s.2.2→Zfo (s.1.getD j Zt0) (m+9 * j)) (fun s=>l.length - s.2.2.toNat) ?_ ⟨rfl,by dsimp only; omega,by simp,by intro j hj; dsimp only at hj; omega⟩
  rintro ⟨x,c,i⟩ next ⟨h1,h2,h3,h4⟩ hn
  dsimp only at h1 h2 h3 h4 ⊢
  split
  · rename_i hi
    refine Yr (fun q (s:List Term×Int)=>s.1.length=l.length∧s.2=c+q∧(∀ j:Nat,(j:Int) < i→Zfo (s.1.getD j Zt0) (m+9 * j))∧∀ r,r < q→(s.1.getD i.toNat Zt0).mono.get r=ZFl.wrap (c+r)) 8 ?_ ?_ _ _ _ (by omega) ⟨h1,by simp,h4,by intro r hr; omega⟩
    · rintro q ⟨y,d⟩ next' hq ⟨g1,g2,g3,g4⟩ hn'
      dsimp only at g1 g2 g3 g4 ⊢
      refine⟨by omega,?_⟩
      rw [i64_in (d+1) (by omega)]
      refine hn' _ ⟨by simpa using g1,by dsimp only; omega,fun j hj=>?_,fun r hr=>?_⟩
      · dsimp only; rw [Zbt (by omega),if_neg (by omega)]; exact g3 j hj
      · dsimp only; rw [Zbt (by omega),if_pos rfl]
        dsimp only
        rw [ZH2 hq]
        split
        · rename_i e; rw [g2,e]
        · exact g4 r (by omega)
    · rintro ⟨y,d⟩ ⟨g1,g2,g3,g4⟩
      dsimp only at g1 g2 g3 g4 ⊢
      refine⟨by omega,?_⟩
      rw [i64_in (d+1) (by omega),i64_in (i+1) (by omega)]
      refine hn _ ⟨by simpa using g1,by dsimp only; omega,by dsimp only; omega,fun j hj=>?_⟩ (by dsimp only; omega)
      dsimp only at hj ⊢
      rw [Zbt (by omega)]
      split
      · rename_i e
        have hc:c=m+9 * (j:Int):=by rw [h3]; omega
        exact⟨fun q hq=>by dsimp only; rw [g4 q hq,hc],by dsimp only; omega⟩
      · exact g3 j (by omega)
  · rename_i hi
    have hc:c=m+9 * l.length:=by rw [h3]; omega
    rw [hc]
    exact h x h1 fun j hj=>h4 j (by omega)
end Go.Proofs.YtheenipahifleaaGreat
namespace Go.Proofs.YtheenipahifleaaGreat
open Go Vc
theorem Zrq {t:Term} {K:Term→Prop} (h:K t):Ze6 t K:=by
  unfold Ze6
  exact Zql h
theorem Zrr {l:List Term} {K:List Term→Prop} (hl:l.length≤1048576) (h:K l):Ze7 l K:=by
  unfold Ze7
  refine⟨by omega,?_⟩
  refine Yr (fun i (s:List Term)=>s.length=l.length∧∀ j,j < i→s.getD j Zt0=l.getD j Zt0) l.length ?_ ?_ _ _ _ (by omega) ⟨by simp,by intro j hj; omega⟩
  · intro i s next hi ⟨h1,h2⟩ hn
    refine Zrq ⟨by omega,hn _ ⟨by simpa using h1,fun j hj=>?_⟩⟩
    rw [Zbt (by omega)]
    by_cases e:j=i
    · rw [if_pos e,e]
    · rw [if_neg e]; exact h2 j (by omega)
  · intro s ⟨h1,h2⟩
    have:s=l:=List.ext_getElem h1 fun j hj hj'=>by have:=h2 j (by omega); simpa [Zt7,hj,hj'] using this
    rw [this]; exact h
theorem Zrs {f:ZFd} {K:ZFd→Prop} (hl:f.terms.length≤1048576) (h:K f):Ze8 f K:=by
  unfold Ze8
  exact Zrr hl h
theorem Zrt {f:ZFd} {n:Int} {K:Int→Prop} (hl:(f.terms.length:Int)≤9223372036854775807) (hn:0≤n∧n≤1048576) (h1:(f.terms.length:Int)≤n→K (n - f.terms.length)) (h2:∀ r,r < 0→K r):Zdt f n K:=by
  unfold Zdt Zg3
  rw [i64_in _ (by omega)]
  split
  · exact h2 _ (by omega)
  · dsimp only
    rw [if_neg (by assumption)]
    exact h1 (by omega)
theorem Zdy {ds:List Int} {a:A8} (h:OkMono ds a):Low a:=fun i hi=>by
  by_cases hl:i < ds.length
  · exact((h i hi).1 hl).1
  · rw [(h i hi).2 (by omega)]; omega
theorem Zhc {b:Bool} {c:Int} {K:Int→Prop} (h:K (if b=true then c else 0)):Zfd b c K:=by
  unfold Zfd
  split
  · rename_i q; rwa [if_pos q] at h
  · rename_i q; rwa [if_neg q] at h
theorem Zbu {A B:Prop} (h:B):if¬ (true=true) then A else B:=by simpa using h
theorem Zhd {c:Int} {A B:Prop} (h:B):if c≠c then A else B:=by simpa using h
theorem Zi7 {c:Int} {A B:Prop} (hc:0≤c) (h:B):if c < 0 then A else B:=by rw [if_neg (by omega)]; exact h
end Go.Proofs.YtheenipahifleaaGreat
namespace Go.Proofs.YtheenipahifleaaGreat
open Go Vc
def imgsT (a:Alg):List (List Term):=a.images.map Vc.Form.terms
theorem Zhe (a:Alg) {i:Nat} (h:i < a.images.length):(imgsT a).getD i Zt0=(a.images.getD i Zt0).terms:=by
  simp [imgsT,Zt7,h]
structure AlgF (a:Alg):Prop where
  deg:OkDeg a.degrees
  len:a.images.length=a.degrees.length
  frm:∀ i,i < a.images.length→OkForm a.degrees (a.images.getD i Zt0).terms
  fit:∀ i,i < a.images.length→FitT (a.images.getD i Zt0).terms
theorem Zi8 {m:A8} {K:ZFd→Prop} (h:K ⟨[⟨m,1⟩]⟩):X1 m 1 K:=by
  unfold X1
  refine Zbd ?_
  rw [if_neg (by decide)]
  exact Zbd h
theorem Zdz {ds:List Int} {m:A8} (hd:OkDeg ds) (hm:∀ i,i < 8→0≤m.get i∧m.get i≤255):∀ k,k≤ds.length→0≤wtU ds m k∧wtU ds m k≤3060 * k:=by
  intro k
  induction k with
  | zero=>intro _; simp [wtU]
  | succ k ih =>
    intro hk
    have h1:=ih (by omega)
    have h2:=hd.2 k (by omega)
    have h3:=hm k (by have:=hd.1; omega)
    have h4:0≤ds.getD k Zt0 * m.get k:=ZL3 (by omega) h3.1
    have h5:ds.getD k Zt0 * m.get k≤12 * 255:=ZMd h2.2 h3.2 h3.1 (by omega)
    simp only [wtU]
    omega
theorem Zl8 {ds:List Int} {m:A8} (hd:OkDeg ds) (hm:∀ i,i < 8→0≤m.get i∧m.get i≤255) {k:Nat} (hk:k < ds.length):0≤ds.getD k Zt0 * m.get k∧ds.getD k Zt0 * m.get k≤3060:=by
  have h2:=hd.2 k hk
  have h3:=hm k (by have:=hd.1; omega)
  exact⟨ZL3 (by omega) h3.1,ZMd h2.2 h3.2 h3.1 (by omega)⟩
theorem Zi9 {ds:List Int} {m:A8} {K:Int→Prop} (hd:OkDeg ds) (hm:∀ i,i < 8→0≤m.get i∧m.get i≤255) (h:K (wtU ds m ds.length)):Zbo ds m K:=by
  unfold Zbo
  have h8:=hd.1
  refine Yr (fun i (s:Int)=>s=wtU ds m i) ds.length ?_ ?_ _ _ _ (by omega) rfl
  · intro i s next hi hs hn
    have h1:=hm i (by omega)
    have h2:=Zl8 hd hm hi
    have h3:=Zdz hd hm i (by omega)
    refine⟨by omega,?_⟩
    rw [i64_in (m.get i) (by omega),i64_in (ds.getD i Zt0 * m.get i) (by omega),i64_in _ (by omega)]
    exact hn _ (by simp only [wtU]; rw [hs])
  · intro s hs; rw [hs]; exact h
theorem Zru {ds:List Int} {m:A8} {K:Int→Prop} (hd:OkDeg ds) (hm:∀ i,i < 8→0≤m.get i∧m.get i≤255) (h:K (wtU ds m ds.length)):Zez m ds K:=by
  unfold Zez
  have h8:=hd.1
  refine Yr (fun i (s:Int)=>s=wtU ds m i) ds.length ?_ ?_ _ _ _ (by omega) rfl
  · intro i s next hi hs hn
    have h2:=Zl8 hd hm hi
    have h3:=Zdz hd hm i (by omega)
    refine⟨by omega,?_⟩
    rw [i64_in (ds.getD i Zt0 * m.get i) (by omega),i64_in _ (by omega)]
    exact hn _ (by simp only [wtU]; rw [hs])
  · intro s hs; rw [hs]; exact h
theorem Zrv {ds:List Int} {m:A8} {i:Nat} (h8:ds.length≤8):∀ k,k≤ds.length→wtU ds (Xu m i) k=wtU ds m (min i k):=by
  intro k
  induction k with
  | zero=>intro _; simp [wtU]
  | succ k ih =>
    intro hk
    simp only [wtU]
    rw [ih (by omega),Xu,A8.get_mkf _ (by omega)]
    by_cases h:k < i
    · rw [if_pos h,show min i (k+1)=k+1 by omega,show min i k=k by omega]
      simp only [wtU]
    · rw [if_neg h,show min i (k+1)=i by omega,show min i k=i by omega]
      simp
theorem Zja (m:A8):Canon [⟨m,1⟩]:=⟨by simp,by intro t ht; obtain rfl:=Zvn.1 ht; simp⟩
theorem Zrw {l g:List Term} {m:A8} (h:l.length≤([⟨m,1⟩]:List Term).length * g.length):l.length≤g.length:=by simpa using h
theorem Zhf {a:A8} (h:Low a) (p:∀ i,i < 8→0≤a.get i∧a.get i≤255):∀ i,i < 8→0≤a.get i∧a.get i≤20:=fun i hi=>⟨(p i hi).1,h i hi⟩
theorem Zl9 {m:A8} {i:Nat} (hm:∀ i,i < 8→0≤m.get i∧m.get i≤20) (hp:0 < m.get i):(∀ j,j < 8→0≤(leftA m i).get j∧(leftA m i).get j≤20)∧(∀ j,j < 8→0≤(backA m i).get j∧(backA m i).get j≤20)∧∀ j,j < 8→(leftA m i).get j+(backA m i).get j≤20:=by
  refine⟨fun j hj=>?_,fun j hj=>?_,fun j hj=>?_⟩
  · rw [leftA,A8.get_mkf _ hj]
    have:=hm j hj
    split
    · exact this
    · split
      · rename_i e; subst e; omega
      · omega
  · rw [backA,A8.get_mkf _ hj]
    have:=hm j hj
    split <;> omega
  · rw [leftA,backA,A8.get_mkf _ hj,A8.get_mkf _ hj]
    have:=hm j hj
    split
    · rw [if_neg (by omega)]; omega
    · split
      · rename_i e; subst e; rw [if_neg (by omega)]; omega
      · split <;> omega
theorem Zma (ds:List Int) (m:A8) (n:Int) (i:Nat):0≤dK ds m n i∧dK ds m n i≤10006:=by unfold dK; omega
theorem Zrx {w:Int} (hw:0≤w):(Zul w 2≠0∧sg w=-1)∨(¬ Zul w 2≠0∧sg w=1):=by
  rw [ZH5 hw]
  unfold sg
  by_cases h:w % 2=0
  · right; rw [if_pos h]; exact⟨by omega,rfl⟩
  · left; rw [if_neg h]; exact⟨h,rfl⟩
structure StepD (ds:List Int) (imgs:List (List Term)) (m:A8) (n:Int) (i:Nat) (out out':List Term):Prop where
  can:Canon out'
  cf:∀ x,coT out' x % 10007=(coT out x+dK ds m n i * triC ds (leftA m i) (backA m i) (imgs.getD i Zt0) x) % 10007
  mo:∀ y,y∈out'→(∃ z,z∈out∧z.mono=y.mono)∨DMono ds imgs y.mono m
  ln:out'.length≤out.length+400
theorem Zry {a:Alg} {K:ZFd→Prop} {m:A8} {n v:Int} {i:Nat} {out:List Term} (ha:AlgF a) (hi:i < a.images.length) (hm:OkMono a.degrees m) (pm:∀ i,i < 8→0≤m.get i∧m.get i≤255) (hp:0 < m.get i) (hc:Canon out) (hl:out.length≤50000000) (hv:v % 10007=dK a.degrees m n i)
    (h:∀ out',StepD a.degrees (imgsT a) m n i out out'→K ⟨out'⟩) :
    X1 (leftA m i) 1 (fun r=>X2 a.degrees r (a.images.getD i Zt0) (fun r'=>X1 (backA m i) 1 (fun r2=>X2 a.degrees r' r2 (fun r3=>X6 v (fun k=>Jy ⟨out⟩ r3 k K))))):=by
  have hd:=ha.deg
  have hi8:i < 8:=by have:=hd.1; have:=ha.len; omega
  have hf:=ha.frm i hi
  have ff:=ha.fit i hi
  have hm20:=Zhf (Zdy hm) pm
  obtain ⟨lb,bb,lbb⟩:=Zl9 hm20 hp
  obtain ⟨wl,wb⟩:=Zl1 hm hi8 hp
  refine Zi8 ?_
  have hL:(⟨(a.images.getD i Zt0).terms⟩:ZFd)=a.images.getD i Zt0:=rfl
  rw [← hL]
  refine Zlw hd (Zja _) (fun u hu=>by obtain rfl:=Zvn.1 hu; exact wl) (fun u hu q hq=>by obtain rfl:=Zvn.1 hu; have:=lb q hq; dsimp only; omega) hf.canon (fun u hu=>(hf.mono hu).wk) ff.pos (by simp) (by have:=hf.1; omega) fun own ho=>?_
  refine Zi8 ?_
  have hown:∀ u,u∈own→∃ z,z∈(a.images.getD i Zt0).terms∧u.mono=(leftA m i).add z.mono∧¬ Clash a.degrees (leftA m i) z.mono∧(∀ q,q < 8→0≤z.mono.get q∧z.mono.get q≤20):=fun u hu=>by
    obtain ⟨t,z,ht,hz,e,hcl⟩:=ho.mo u hu
    obtain rfl:=Zvn.1 ht
    exact⟨z,hz,e,hcl,Zhf (Zdy (hf.mono hz)) (ff.pos z hz)⟩
  have wown:∀ u,u∈own→X0 a.degrees u.mono∧∀ q,q < 8→0≤u.mono.get q∧u.mono.get q≤40:=fun u hu=>by
    obtain ⟨z,hz,e,hcl,hz20⟩:=hown u hu
    rw [e]
    refine⟨Zl2 wl (hf.mono hz).wk (fun q hq=>(lb q hq).1) (fun q hq=>(hz20 q hq).1) (fun q hq=>by have:=lb q hq; have:=hz20 q hq; omega) hcl,fun q hq=>?_⟩
    rw [ZLv]
    have:=lb q hq
    have:=hz20 q hq
    omega
  have lo:=Zrw ho.ln
  refine Zlw hd ho.can (fun u hu=>(wown u hu).1) (fun u hu q hq=>by have:=(wown u hu).2 q hq; omega) (Zja _) (fun u hu=>by obtain rfl:=Zvn.1 hu; exact wb) (fun u hu q hq=>by obtain rfl:=Zvn.1 hu; have:=bb q hq; dsimp only; omega) (by have:=hf.1; omega) (by simp) fun prod hpr=>?_
  have lp:prod.length≤400:=by have h1:=hpr.ln; have:=hf.1; simp at h1; omega
  refine Zbd ?_
  rw [hv]
  refine Zfm hc hpr.can (Zma _ _ _ _) (by omega) (by omega) fun out' hout=>h out' ⟨hout.can,fun x=>?_,fun y hy=>?_,by have:=hout.ln; omega⟩
  · rw [hout.cf]
    have e1:=Zl0 (ds:=a.degrees) (l:=leftA m i) (b:=backA m i) (img:=(a.images.getD i Zt0).terms) (own:=own) (prod:=prod) (fun y=>by rw [ho.cf]; simp [prC,tot]) (fun x=>hpr.cf x) x
    rw [Zhe a hi,ZL6,ZLp,e1,← ZLp,← ZL6]
  · obtain ⟨z,hz,e⟩:=hout.mo y hy
    rcases hz with hz | hz
    · exact .inl ⟨z,hz,e⟩
    · obtain ⟨t,b,ht,hb,e2,hcl2⟩:=hpr.mo z hz
      obtain rfl:=Zvn.1 hb
      obtain ⟨u,hu,e3,hcl,_⟩:=hown t ht
      refine .inr ⟨i,u,hi8,hp,by rw [Zhe a hi]; exact hu,by rw [← e,e2,e3],hcl,?_⟩
      rw [← e3]; exact hcl2
theorem Zmb {a : Alg} {f : List Term} {K : ZFd → Prop} (ha : AlgF a) (hf : OkForm a.degrees f) (ff : FitT f) (h : ∀ out, IsD a.degrees (imgsT a) f out → out.length ≤ 1280000 → K ⟨out⟩) : Zdg a ⟨f⟩ K := by
  have hd:=ha.deg
  have h8:=hd.1
  have hlen:=ha.len
  have hl4:=hf.1
  unfold Zdg
  dsimp only
  refine Jd (fun (s:List Term×Int)=>0≤s.2∧s.2≤f.length∧IsD a.degrees (imgsT a) (f.take s.2.toNat) s.1∧s.1.length≤3200 * s.2.toNat) (fun s=>f.length - s.2.toNat) ?_ ⟨ZLs _,by dsimp only; omega,⟨Canon.nil,by intro x; rfl,by intro y hy; cases hy⟩,by simp⟩
  rintro ⟨out0,k⟩ next ⟨h1,h2,hI,hL⟩ hn
  dsimp only at h1 h2 hI hL hn ⊢
  split
  · rename_i hk
    have kn:k.toNat < f.length:=by omega
    refine⟨by omega,?_⟩
    have tm:=Xt kn
    have hm:=hf.mono tm
    have pm:=ff.pos _ tm
    have hfac:=hf.canon.at_range kn
    generalize hgm:(f.getD k.toNat Zt0).mono=m at hm pm ⊢
    generalize hgn:(f.getD k.toNat Zt0).factor=n at hfac ⊢
    have nk:(k+1).toNat=k.toNat+1:=by omega
    have wk1:Zwe.wrap (k+1)=k+1:=i64_in _ (by omega)
    refine Jd (fun (s:List Term×Int)=>0≤s.2∧s.2≤a.degrees.length∧Canon s.1∧(∀ x,(coT s.1 x+dS a.degrees (imgsT a) m n x (8 - s.2.toNat) s.2.toNat) % 10007=(tot (fun t=>dT a.degrees (imgsT a) t.mono t.factor x) (f.take k.toNat)+dT a.degrees (imgsT a) m n x) % 10007)∧(∀ y,y∈s.1→∃ t,t∈f.take (k.toNat+1)∧DMono a.degrees (imgsT a) y.mono t.mono)∧s.1.length≤3200 * k.toNat+400 * s.2.toNat)
      (fun s=>a.degrees.length - s.2.toNat) ?_ ⟨ZLs _,by dsimp only; omega,hI.can,fun x=>?_,fun y hy=>?_,by dsimp only; omega⟩
    · rintro ⟨out,i⟩ next' ⟨g1,g2,gc,gf,gm,gl⟩ hn'
      dsimp only at g1 g2 gc gf gm gl hn' ⊢
      have ni:(i+1).toNat=i.toNat+1:=by omega
      have wi:Zwe.wrap (i+1)=i+1:=i64_in _ (by omega)
      rw [wi,wk1]
      split
      · rename_i hi
        have hin:i.toNat < a.degrees.length:=by omega
        have hi8:i.toNat < 8:=by omega
        have pmi:=pm i.toNat hi8
        have hdS:∀ x,dS a.degrees (imgsT a) m n x (8 - i.toNat) i.toNat=(if m.get i.toNat > 0 then dK a.degrees m n i.toNat * triC a.degrees (leftA m i.toNat) (backA m i.toNat) ((imgsT a).getD i.toNat Zt0) x else 0)+dS a.degrees (imgsT a) m n x (8 - (i.toNat+1)) (i.toNat+1):=fun x=>by
          rw [show 8 - i.toNat=(8 - (i.toNat+1))+1 by omega]; rfl
        refine⟨by omega,?_⟩
        split
        · rename_i he
          refine hn' _ ⟨by dsimp only; omega,by dsimp only; omega,gc,fun x=>?_,gm,by dsimp only; omega⟩ (by dsimp only; omega)
          dsimp only
          rw [ni]
          have:=gf x
          rw [hdS,if_neg (by omega),ZH0] at this
          exact this
        · rename_i he
          have hp:0 < m.get i.toNat:=by omega
          refine Yr (fun j (s:A8×A8)=>∀ q,q < 8→(s.1.get q=if q < j∧i.toNat≤q then 0 else m.get q)∧(s.2.get q=if q < j∧q≤i.toNat then 0 else m.get q)) 8 ?_ ?_ _ _ _ (by omega) (fun q hq=>⟨by rw [if_neg (by omega)],by rw [if_neg (by omega)]⟩)
          · rintro j ⟨s1,s2⟩ nx hj hs hnx
            dsimp only at hs ⊢
            have fin:∀ t1 t2:A8,(∀ q,q < 8→t1.get q=if q=j∧i.toNat≤j then 0 else s1.get q)→(∀ q,q < 8→t2.get q=if q=j∧j≤i.toNat then 0 else s2.get q)→nx (t1,t2):=fun t1 t2 e1 e2=>hnx _ fun q hq=>by
              obtain ⟨a1,a2⟩:=hs q hq
              dsimp only
              rw [e1 q hq,e2 q hq]
              constructor
              · by_cases c1:q=j∧i.toNat≤j
                · rw [if_pos c1,if_pos ⟨by omega,by omega⟩]
                · rw [if_neg c1,a1]
                  by_cases c2:q < j∧i.toNat≤q
                  · rw [if_pos c2,if_pos ⟨by omega,c2.2⟩]
                  · rw [if_neg c2,if_neg (by omega)]
              · by_cases c1:q=j∧j≤i.toNat
                · rw [if_pos c1,if_pos ⟨by omega,by omega⟩]
                · rw [if_neg c1,a2]
                  by_cases c2:q < j∧q≤i.toNat
                  · rw [if_pos c2,if_pos ⟨by omega,c2.2⟩]
                  · rw [if_neg c2,if_neg (by omega)]
            have z0:∀ (s:A8) q,(s.set j 0).get q=if q=j then 0 else s.get q:=fun s q=>ZH2 hj
            split
            · rename_i hge
              split
              · rename_i hle
                exact fin _ _ (fun q hq=>by rw [z0]; by_cases e:q=j <;> simp [e]; omega) (fun q hq=>by rw [z0]; by_cases e:q=j <;> simp [e]; omega)
              · rename_i hle
                exact fin _ _ (fun q hq=>by rw [z0]; by_cases e:q=j <;> simp [e]; omega) (fun q hq=>by rw [if_neg (by omega)])
            · rename_i hge
              split
              · rename_i hle
                exact fin _ _ (fun q hq=>by rw [if_neg (by omega)]) (fun q hq=>by rw [z0]; by_cases e:q=j <;> simp [e]; omega)
              · rename_i hle
                exact fin _ _ (fun q hq=>by rw [if_neg (by omega)]) (fun q hq=>by rw [if_neg (by omega)])
          · rintro ⟨s1,s2⟩ hs
            have e1:s1=Xu m i.toNat:=ZH3 fun q hq=>by
              rw [(hs q hq).1,Xu,A8.get_mkf _ hq]
              by_cases hh:q < i.toNat
              · rw [if_neg (by omega),if_pos hh]
              · rw [if_pos ⟨hq,by omega⟩,if_neg hh]
            have e2:s2=backA m i.toNat:=ZH3 fun q hq=>by
              rw [(hs q hq).2,backA,A8.get_mkf _ hq]
              by_cases hh:i.toNat < q
              · rw [if_neg (by omega),if_pos hh]
              · rw [if_pos ⟨hq,by omega⟩,if_neg hh]
            dsimp only
            rw [e1,e2]
            have hw:∀ q,q < 8→0≤(Xu m i.toNat).get q∧(Xu m i.toNat).get q≤255:=fun q hq=>by
              rw [Xu,A8.get_mkf _ hq]
              have:=pm q hq
              split <;> omega
            have hwt:wtU a.degrees (Xu m i.toNat) a.degrees.length=wtU a.degrees m i.toNat:=by rw [Zrv h8 _ (Ztz _),show min i.toNat a.degrees.length=i.toNat by omega]
            have hwb:=Zdz hd pm i.toNat (by omega)
            have hml:=Zdy hm i.toNat hi8
            have hset:(Xu m i.toNat).set i.toNat (ZFl.wrap (m.get i.toNat - 1))=leftA m i.toNat:=ZH3 fun q hq=>by
              rw [ZH2 hi8,Zgh _ (by omega),Xu,leftA,A8.get_mkf _ hq,A8.get_mkf _ hq]
              by_cases e:q=i.toNat
              · subst e; rw [if_pos rfl,if_neg (by omega),if_pos rfl]
              · rw [if_neg e]
                by_cases hh:q < i.toNat
                · rw [if_pos hh,if_pos hh]
                · rw [if_neg hh,if_neg hh,if_neg e]
            rw [hset]
            have hwm:Zwe.wrap (m.get i.toNat)=m.get i.toNat:=i64_in _ (by omega)
            have hpb:0≤n * m.get i.toNat∧n * m.get i.toNat≤100120036:=Zg6 (by omega) (by omega)
            rw [hwm,i64_in (n * m.get i.toNat) (by omega),i64_in (0 - n * m.get i.toNat) (by omega)]
            refine⟨by omega,by omega,by omega,by omega,Zi9 hd hw ?_⟩
            rw [hwt]
            have key:∀ v,v % 10007=dK a.degrees m n i.toNat→X1 (leftA m i.toNat) 1 (fun r=>X2 a.degrees r (a.images.getD i.toNat Zt0) (fun r'=>X1 (backA m i.toNat) 1 (fun r2=>X2 a.degrees r' r2 (fun r3=>X6 v (fun k=>Jy ⟨out⟩ r3 k (fun r=>next' (r.terms,i+1))))))):=fun v hv =>
              Zry ha (by omega) hm pm hp gc (by omega) hv fun out' hs' => by
                refine hn' _ ⟨by dsimp only; omega,by dsimp only; omega,hs'.can,fun x=>?_,fun y hy=>?_,by have:=hs'.ln; dsimp only; omega⟩ (by dsimp only; omega)
                · dsimp only
                  rw [ni]
                  have b1:=gf x
                  have b2:=hs'.cf x
                  rw [hdS,if_pos (by omega)] at b1
                  omega
                · rcases hs'.mo y hy with ⟨z,hz,e⟩ | hD
                  · obtain ⟨t,ht,q⟩:=gm z hz
                    exact⟨t,ht,e ▸ q⟩
                  · exact⟨f.getD k.toNat Zt0,by rw [Zaa kn]; exact Zun _ (Zvn.2 rfl),by rw [hgm]; exact hD⟩
            rcases Zrx hwb.1 with ⟨q1,q2⟩ | ⟨q1,q2⟩
            · rw [if_pos q1]
              refine⟨by omega,key _ ?_⟩
              unfold dK; rw [q2]; congr 1; omega
            · rw [if_neg q1]
              refine⟨by omega,key _ ?_⟩
              unfold dK; rw [q2]; congr 1; omega
      · rename_i hi
        refine hn _ ⟨by dsimp only; omega,by dsimp only; omega,⟨gc,fun x=>?_,fun y hy=>?_⟩,by dsimp only; omega⟩ (by dsimp only; omega)
        · dsimp only
          rw [nk,Zaa kn,Zdp]
          simp only [tot]
          rw [hgm,hgn]
          have:=gf x
          rw [Zri _ _ (fun j hj1 hj2=>(hm j (by omega)).2 (by omega))] at this
          omega
        · dsimp only
          rw [nk]; exact gm y hy
    · dsimp only
      have:=hI.cf x
      show (coT out0 x+dT a.degrees (imgsT a) m n x) % 10007=_
      omega
    · obtain ⟨t,ht,q⟩:=hI.mo y hy
      exact⟨t,ZMf (i:=k.toNat) (by rw [List.take_take,show min k.toNat (k.toNat+1)=k.toNat by omega]; exact ht),q⟩
  · rename_i hk
    rw [Zvl (by omega)] at hI
    exact h _ hI (by omega)
end Go.Proofs.YtheenipahifleaaGreat
namespace Go.Proofs.YtheenipahifleaaGreat
open Go Vc
theorem Zrz {a:Alg} {K:List (Option (List (A8×Int)))→Prop} (ha:AlgF a) (h:∀ ls:List (Option (List (A8×Int))),(∀ i,i < a.images.length→∃ m,ls[i]? = some (some m)∧IsMap (a.images.getD i Zt0).terms m)→K ls):Ze1 a K:=by
  unfold Ze1
  have h8:a.images.length≤8:=by have:=ha.deg.1; have:=ha.len; omega
  refine Yr (fun i (s:List (Option (List (A8×Int))))=>s.length=8∧∀ j,j < i→∃ m,s[j]? = some (some m)∧IsMap (a.images.getD j Zt0).terms m) a.images.length ?_ ?_ _ _ _ (by omega) ⟨by simp,by intro j hj; omega⟩
  · intro i s next hi ⟨h1,h2⟩ hn
    have hL:(⟨(a.images.getD i Zt0).terms⟩:ZFd)=a.images.getD i Zt0:=rfl
    rw [← hL]
    refine Zdx (ha.frm i hi).canon (ha.fit i hi) fun m hm=>⟨by omega,hn _ ⟨by simpa using h1,fun j hj=>?_⟩⟩
    by_cases e:j=i
    · subst e
      exact⟨m,by rw [List.getElem?_set_self (by omega)],hm⟩
    · rw [List.getElem?_set_ne (fun q=>e q.symm)]
      exact h2 j (by omega)
  · intro s ⟨h1,h2⟩
    exact h s h2
theorem Zhg (m:A8):MapOk [(m,1)]:=⟨by simp,by intro p hp; obtain rfl:=Zvn.1 hp; simp⟩
theorem Zr0 {a:Alg} {K:List (A8×Int)→Prop} {m:A8} {n v:Int} {i:Nat} {out ml:List (A8×Int)} (ha:AlgF a) (hi:i < a.images.length) (hm:OkMono a.degrees m) (pm:∀ i,i < 8→0≤m.get i∧m.get i≤255) (hp:0 < m.get i) (ho:MapOk out) (hml:IsMap (a.images.getD i Zt0).terms ml) (hv:v % 10007=dK a.degrees m n i)
    (h:∀ out',MapOk out'→(∀ x,co out' x % 10007=(co out x+dK a.degrees m n i * triC a.degrees (leftA m i) (backA m i) ((imgsT a).getD i Zt0) x) % 10007)→(∀ y,y∈out'→(∃ z,z∈out∧z.1=y.1)∨DMono a.degrees (imgsT a) y.1 m)→K out') :
    J4 (Yk ([]:List (A8×Int)) (leftA m i) 1) a.degrees ml (fun r=>J4 r a.degrees (Yk ([]:List (A8×Int)) (backA m i) 1) (fun r2=>Zbp v (fun k=>Zax out r2 k K))):=by
  have hd:=ha.deg
  have hi8:i < 8:=by have:=hd.1; have:=ha.len; omega
  have hf:=ha.frm i hi
  have ff:=ha.fit i hi
  have hm20:=Zhf (Zdy hm) pm
  obtain ⟨lb,bb,lbb⟩:=Zl9 hm20 hp
  obtain ⟨wl,wb⟩:=Zl1 hm hi8 hp
  have hml20:∀ p,p∈ml→OkMono a.degrees p.1∧∃ t,t∈(a.images.getD i Zt0).terms∧t.mono=p.1∧∀ q,q < 8→0≤p.1.get q∧p.1.get q≤20:=fun p hpm=>by
    obtain ⟨t,ht,e⟩:=hml.ks p hpm
    rw [← e]
    exact⟨hf.mono ht,t,ht,rfl,Zhf (Zdy (hf.mono ht)) (ff.pos t ht)⟩
  show J4 [(leftA m i,1)] a.degrees ml _
  refine Zi3 hd (Zhg _) (fun p hp'=>by obtain rfl:=Zvn.1 hp'; exact wl) (fun p hp' q hq=>by obtain rfl:=Zvn.1 hp'; exact(lb q hq).1) hml.ok (fun p hpm=>(hml20 p hpm).1.wk) (fun p hpm q hq=>by obtain ⟨_,t,_,_,b⟩:=hml20 p hpm; exact(b q hq).1) fun own hown=>?_
  have wown:∀ u,u∈own→∃ z,z∈(a.images.getD i Zt0).terms∧u.1=(leftA m i).add z.mono∧¬ Clash a.degrees (leftA m i) z.mono∧X0 a.degrees u.1∧∀ q,q < 8→0≤u.1.get q∧u.1.get q≤40:=fun u hu=>by
    obtain ⟨t,z,ht,hz,e,hcl⟩:=hown.ks u hu
    obtain rfl:=Zvn.1 ht
    obtain ⟨hzm,tt,htt,ett,hz20⟩:=hml20 z hz
    refine⟨tt,htt,by rw [ett]; exact e,by rw [ett]; exact hcl,?_,fun q hq=>?_⟩
    · rw [e]
      exact Zl2 wl hzm.wk (fun q hq=>(lb q hq).1) (fun q hq=>(hz20 q hq).1) (fun q hq=>by have:=lb q hq; have:=hz20 q hq; dsimp only; omega) hcl
    · rw [e,ZLv]
      have:=lb q hq
      have:=hz20 q hq
      dsimp only
      omega
  show J4 own a.degrees [(backA m i,1)] _
  refine Zi3 hd hown.ok (fun u hu=>by obtain ⟨_,_,_,_,w,_⟩:=wown u hu; exact w) (fun u hu q hq=>by obtain ⟨_,_,_,_,_,b⟩:=wown u hu; exact(b q hq).1) (Zhg _) (fun p hp'=>by obtain rfl:=Zvn.1 hp'; exact wb) (fun p hp' q hq=>by obtain rfl:=Zvn.1 hp'; exact(bb q hq).1) fun prod hpr=>?_
  refine Zlu ?_
  rw [hv]
  refine Zg9 ho hpr.ok (Zma _ _ _ _) fun out' hout=>h out' hout.ok (fun x=>?_) fun y hy=>?_
  · rw [hout.cf,Zhe a hi]
    have e1:=Zrj hml hf.canon hown hpr x
    rw [ZL6,ZLp,e1,← ZLp,← ZL6]
  · obtain ⟨z,hz,e⟩:=hout.ks y hy
    rcases hz with hz | hz
    · exact .inl ⟨z,hz,e⟩
    · obtain ⟨t,b,ht,hb,e2,hcl2⟩:=hpr.ks z hz
      obtain rfl:=Zvn.1 hb
      obtain ⟨u,hu,e3,hcl,_⟩:=wown t ht
      refine .inr ⟨i,u,hi8,hp,by rw [Zhe a hi]; exact hu,by rw [← e,e2,e3],hcl,?_⟩
      rw [← e3]; exact hcl2
theorem Zr1 (m:A8):A8.zero=Xu m 0:=ZH3 fun q hq=>by rw [A8.get_zero,Xu,A8.get_mkf _ hq,if_neg (by omega)]
theorem Zr2 {m:A8} {i:Nat} (hi:i < 8):(Xu m i).set i (m.get i)=Xu m (i+1):=ZH3 fun q hq=>by
  rw [ZH2 hi,Xu,Xu,A8.get_mkf _ hq,A8.get_mkf _ hq]
  by_cases e:q=i
  · subst e; rw [if_pos rfl,if_pos (by omega)]
  · rw [if_neg e]
    by_cases hh:q < i
    · rw [if_pos hh,if_pos (by omega)]
    · rw [if_neg hh,if_neg (by omega)]
theorem Zr3 {d e:Int} (hd:1≤d∧d≤12) (he:0≤e):sg (d * e)=if Zul d 2=1∧Zul e 2=1 then -1 else 1:=by
  rw [ZH5 (by omega),ZH5 he]
  unfold sg
  have h:=ZLp d e 2
  rcases (by omega:d % 2=0∨d % 2=1) with a | a <;> rcases (by omega:e % 2=0∨e % 2=1) with b | b <;> rw [a,b] at h <;> simp [h,a,b]
theorem m_d {a : Alg} {f : List Term} {s : List (A8 × Int)} {K : List (A8 × Int) → Prop} (ha : AlgF a) (hs : IsMap f s) (hf : OkForm a.degrees f) (ff : FitT f) (h : ∀ out, IsDM a.degrees (imgsT a) s out → K out) : Zdn a s K := by
  have hd:=ha.deg
  have h8:=hd.1
  have hlen:=ha.len
  unfold Zdn
  refine Zrz ha fun ls hls=>?_
  refine Zc8 (fun l' (out:List (A8×Int))=>(∀ p,p∈l'→p∈s)∧MapOk out∧(∀ x,(co out x+tot (fun p=>dT a.degrees (imgsT a) p.1 p.2 x) l') % 10007=tot (fun p=>dT a.degrees (imgsT a) p.1 p.2 x) s % 10007)∧(∀ y,y∈out→∃ t,t∈s∧DMono a.degrees (imgsT a) y.1 t.1)) ?_ ?_ s [] ⟨fun _ h=>h,MapOk.nil,fun x=>by rw [Za9,ZH0],by simp⟩
  · intro l' p l'' out next hpk ⟨h0, h1, h2, h3⟩ hn
    have hperm:=Zc9 hpk
    have hpm:p∈s:=h0 p (hperm.mem_iff.2 (by simp))
    have hpf:=hs.ok.2 p hpm
    obtain ⟨t,ht,et⟩:=hs.ks p hpm
    have hm:OkMono a.degrees p.1:=by rw [← et]; exact hf.mono ht
    have pm:∀ i,i < 8→0≤p.1.get i∧p.1.get i≤255:=by rw [← et]; exact ff.pos t ht
    have e3:∀ x,tot (fun p=>dT a.degrees (imgsT a) p.1 p.2 x) l'=dT a.degrees (imgsT a) p.1 p.2 x+tot (fun p=>dT a.degrees (imgsT a) p.1 p.2 x) l'':=fun x=>by rw [Zci _ hperm]; rfl
    refine Yr (fun i (t:A8×(List (A8×Int))×Int)=>t.1=Xu p.1 i∧MapOk t.2.1∧t.2.2=sg (wtU a.degrees p.1 i)∧(∀ x,(co t.2.1 x+dS a.degrees (imgsT a) p.1 p.2 x (8 - i) i) % 10007=(co out x+dT a.degrees (imgsT a) p.1 p.2 x) % 10007)∧(∀ y,y∈t.2.1→∃ t,t∈s∧DMono a.degrees (imgsT a) y.1 t.1)) 8 ?_ ?_ _ _ _ (by omega) ⟨Zr1 _,h1,rfl,fun x=>rfl,h3⟩
    · rintro i ⟨t1,o1,sg1⟩ nx hi ⟨g1,g2,g3,g4,g5⟩ hnx
      dsimp only at g1 g2 g3 g4 g5 ⊢
      subst g1 g3
      have pmi:=pm i hi
      have hdS:∀ x,dS a.degrees (imgsT a) p.1 p.2 x (8 - i) i=(if p.1.get i > 0 then dK a.degrees p.1 p.2 i * triC a.degrees (leftA p.1 i) (backA p.1 i) ((imgsT a).getD i Zt0) x else 0)+dS a.degrees (imgsT a) p.1 p.2 x (8 - (i+1)) (i+1):=fun x=>by
        rw [show 8 - i=(8 - (i+1))+1 by omega]; rfl
      have hspm:=Zkr (wtU a.degrees p.1 i)
      have tail:∀ o2:List (A8×Int),MapOk o2→(∀ x,(co o2 x+dS a.degrees (imgsT a) p.1 p.2 x (8 - (i+1)) (i+1)) % 10007=(co out x+dT a.degrees (imgsT a) p.1 p.2 x) % 10007)→(∀ y,y∈o2→∃ t,t∈s∧DMono a.degrees (imgsT a) y.1 t.1) →
          (if(i:Int) < (a.degrees.length:Int) then((0≤(i:Int)∧(i:Int) < (a.degrees.length:Int))∧(if Zul (a.degrees.getD i Zt0) 2=1 then(if Zul (p.1.get i) 2=1 then nx ((Xu p.1 i).set i (p.1.get i),o2,Zwe.wrap (0 - sg (wtU a.degrees p.1 i))) else nx ((Xu p.1 i).set i (p.1.get i),o2,sg (wtU a.degrees p.1 i))) else nx ((Xu p.1 i).set i (p.1.get i),o2,sg (wtU a.degrees p.1 i)))) else nx ((Xu p.1 i).set i (p.1.get i),o2,sg (wtU a.degrees p.1 i))):=by
        intro o2 k1 k2 k3
        rw [Zr2 hi]
        have go:∀ z,z=sg (wtU a.degrees p.1 (i+1))→nx (Xu p.1 (i+1),o2,z):=fun z hz=>hnx _ ⟨rfl,k1,hz,k2,k3⟩
        have hw:wtU a.degrees p.1 (i+1)=wtU a.degrees p.1 i+a.degrees.getD i Zt0 * p.1.get i:=rfl
        split
        · rename_i hin
          have hdi:=hd.2 i (by omega)
          have hstep:=Zr3 hdi pmi.1
          refine⟨by omega,?_⟩
          split
          · rename_i q1
            split
            · rename_i q2
              rw [if_pos ⟨q1,q2⟩] at hstep
              rw [i64_in _ (by omega)]
              exact go _ (by rw [hw,Zgi,hstep]; omega)
            · rename_i q2
              rw [if_neg (fun z=>q2 z.2)] at hstep
              exact go _ (by rw [hw,Zgi,hstep,ZL4])
          · rename_i q1
            rw [if_neg (fun z=>q1 z.1)] at hstep
            exact go _ (by rw [hw,Zgi,hstep,ZL4])
        · rename_i hin
          have:=(hm i hi).2 (by omega)
          exact go _ (by rw [hw,this,ZL0,ZLq])
      split
      · rename_i hp0
        have hp0':0 < p.1.get i:=hp0
        have hin:i < a.images.length:=by
          rcases Nat.lt_or_ge i a.images.length with q | q
          · exact q
          · have:=(hm i hi).2 (by omega); omega
        have wi:Zwe.wrap ((i:Int)+1)=(i:Int)+1:=i64_in _ (by omega)
        rw [wi]
        refine Jd (fun (t:A8×Int)=>0≤t.2∧t.2≤i+1∧∀ q,q < 8→t.1.get q=if(q:Int) < t.2 then 0 else p.1.get q) (fun t=>i+1 - t.2.toNat) ?_ ⟨ZLs _,by dsimp only; omega,fun q hq=>by rw [if_neg (by dsimp only; omega)]⟩
        rintro ⟨t1,k⟩ nk ⟨b1,b2,b3⟩ hnk
        dsimp only at b1 b2 b3 hnk ⊢
        split
        · rename_i hk
          refine⟨by omega,?_⟩
          rw [i64_in (k+1) (by omega)]
          refine hnk _ ⟨by dsimp only; omega,by dsimp only; omega,fun q hq=>?_⟩ (by dsimp only; omega)
          dsimp only
          rw [ZH2 (by omega),b3 q hq]
          by_cases e:q=k.toNat
          · rw [if_pos e,if_pos (by omega)]
          · rw [if_neg e]
            by_cases hh:(q:Int) < k
            · rw [if_pos hh,if_pos (by omega)]
            · rw [if_neg hh,if_neg (by omega)]
        · rename_i hk
          have eb:t1=backA p.1 i:=ZH3 fun q hq=>by
            rw [b3 q hq,backA,A8.get_mkf _ hq]
            by_cases hh:i < q
            · rw [if_neg (by omega),if_pos hh]
            · rw [if_pos (by omega),if_neg hh]
          have hml:=Zdy hm i hi
          have el:(Xu p.1 i).set i (Zwe.wrap (p.1.get i - 1))=leftA p.1 i:=ZH3 fun q hq=>by
            rw [ZH2 hi,i64_in _ (by omega),Xu,leftA,A8.get_mkf _ hq,A8.get_mkf _ hq]
            by_cases e:q=i
            · subst e; rw [if_pos rfl,if_neg (by omega),if_pos rfl]
            · rw [if_neg e]
              by_cases hh:q < i
              · rw [if_pos hh,if_pos hh]
              · rw [if_neg hh,if_neg hh,if_neg e]
          rw [eb,el]
          obtain ⟨ml,hml1,hml2⟩:=hls i hin
          refine⟨ml,hml1,?_⟩
          refine Zr0 (n:=p.2) ha hin hm pm hp0' g2 hml2 ?_ fun o2 k1 k2 k3=>?_
          · rw [Zi2 hspm hpf (by omega)]; rfl
          · refine tail o2 k1 (fun x=>?_) fun y hy=>?_
            · have c1:=g4 x
              have c2:=k2 x
              rw [hdS,if_pos hp0] at c1
              omega
            · rcases k3 y hy with ⟨z,hz,e⟩ | hD
              · obtain ⟨t,ht,q⟩:=g5 z hz
                exact⟨t,ht,e ▸ q⟩
              · exact⟨p,hpm,hD⟩
      · rename_i hp0
        refine tail o1 g2 (fun x=>?_) g5
        have c1:=g4 x
        rw [hdS,if_neg hp0,ZH0] at c1
        exact c1
    · rintro ⟨t1,o1,sg1⟩ ⟨g1,g2,g3,g4,g5⟩
      dsimp only at g2 g4 g5 ⊢
      refine hn _ ⟨fun q hq=>h0 q (hperm.mem_iff.2 (by simp [hq])),g2,fun x=>?_,g5⟩
      have c1:=g4 x
      have c2:=h2 x
      rw [e3] at c2
      simp only [Nat.sub_self,dS] at c1
      omega
  · intro out ⟨_,h1,h2,h3⟩
    exact h _ ⟨h1,fun x=>by have:=h2 x; simp only [tot,ZLq] at this; exact this,h3⟩
theorem Zr4 {m:List (A8×Int)} (hm:MapOk m):∃ l,Canon l∧(∀ x,coT l x=co m x)∧∀ t,t∈l→∃ p,p∈m∧p.1=t.mono:=by
  obtain ⟨xs,hxs,hw⟩:=Zg1 (m.map (·.1))
  obtain ⟨h1,h2⟩:=Zg0 hm hxs hw
  refine⟨_,h1,h2,fun t ht=>?_⟩
  obtain ⟨x,hx,rfl⟩:=Zvb.1 ht
  obtain ⟨p,hpm,e⟩:=Zvb.1 (hxs.mem_iff.1 hx)
  exact⟨p,hpm,e⟩
theorem Zr5 {ds:List Int} {imgs:List (List Term)} {f:List Term} {s out':List (A8×Int)} (hs:IsMap f s) (hc:Canon f) (h':IsDM ds imgs s out'):out'=[]↔∀ out,IsD ds imgs f out→out=[]:=by
  constructor
  · intro e out ho
    exact(Zl4 (Zrk hs hc ho h') ho.can).1 e
  · intro hall
    obtain ⟨l,hl,hcf,hks⟩:=Zr4 h'.ok
    have hd:IsD ds imgs f l:=⟨hl,fun x=>by rw [hcf,h'.cf,Zfn hs hc (fun a n=>dT ds imgs a n x) (fun a=>Zi5 ds imgs a x)],fun y hy=>by
      obtain ⟨p,hp,e⟩:=hks y hy
      obtain ⟨t,ht,q⟩:=h'.mo p hp
      obtain ⟨u,hu,e2⟩:=hs.ks t ht
      exact⟨u,hu,by rw [← e,e2]; exact q⟩⟩
    have e:=hall l hd
    have hm:IsMap l out':=Zl3 hl h'.ok fun x=>by rw [hcf]
    exact(Zl4 hm hl).2 e
theorem Zr6 {ds:List Int} {imgs:List (List Term)} {f out out2:List Term} (h:IsD ds imgs f out) (k:IsD ds imgs f out2):out=out2:=Zll h.can k.can fun x=>by rw [h.cf,k.cf]
def Hom (ds:List Int) (l:List Term) (n:Int):Prop:=∀ i,i < l.length→wtU ds (l.getD i Zt0).mono ds.length=n
instance (ds:List Int) (l:List Term) (n:Int):Decidable (Hom ds l n):=inferInstanceAs (Decidable (∀ i,i < l.length→_))
theorem Zr7 {ds : List Int} {l : List Term} {K : Int → Bool → Prop} (hd : OkDeg ds) (hp : FitT l) (h0 : l.length = 0 → K (-1) true) (h1 : 0 < l.length → Hom ds l (wtU ds (l.getD 0 Zt0).mono ds.length) → K (wtU ds (l.getD 0 Zt0).mono ds.length) true) (h2 : (∀ n, ¬ Hom ds l n) → K 0 false) : Ze0 ds ⟨l⟩ K := by
  unfold Ze0
  dsimp only
  refine Yr (fun i (s:Int)=>(i=0∧s=-1)∨(0 < i∧s=wtU ds (l.getD 0 Zt0).mono ds.length∧∀ j,j < i→wtU ds (l.getD j Zt0).mono ds.length=wtU ds (l.getD 0 Zt0).mono ds.length)) l.length ?_ ?_ _ _ _ (by omega) (.inl ⟨rfl,rfl⟩)
  · intro i s next hi hI hn
    have f1:=hp _ (Xt hi)
    have b0:=hp.pos _ (Xt hi)
    have hw:=Zdz hd b0 ds.length (Ztz _)
    refine Zgw f1 (Zru hd b0 ?_)
    rcases hI with ⟨e1,e2⟩ | ⟨e1,e2,e3⟩
    · subst e1 e2
      rw [if_neg (by omega)]
      exact hn _ (.inr ⟨by omega, rfl, fun j hj => by obtain rfl : j = 0 := by omega
                                                      rfl⟩)
    · have hw0:=Zdz hd (hp.pos _ (Xt (show 0 < l.length by omega))) ds.length (Ztz _)
      rw [if_pos (by omega)]
      split
      · rename_i q
        refine h2 fun n hn'=>q ?_
        rw [hn' i hi,e2,hn' 0 (by omega)]
      · rename_i q
        have q:wtU ds (l.getD i Zt0).mono ds.length=s:=ZI0.1 q
        refine hn _ (.inr ⟨by omega,by rw [q,e2],fun j hj=>?_⟩)
        by_cases e:j=i
        · subst e; rw [q,e2]
        · exact e3 j (by omega)
  · intro s hI
    rcases hI with ⟨e1,e2⟩ | ⟨e1,e2,e3⟩
    · rw [e2]; exact h0 e1
    · rw [e2]; exact h1 e1 e3
theorem Zmc {ds:List Int} {l:List Term} {n:Int} {K:Bool→Prop} (hd:OkDeg ds) (hp:FitT l) (h:K (decide (Hom ds l n))):Zdm ds ⟨l⟩ n K:=by
  unfold Zdm
  refine Zr7 hd hp (fun e=>?_) (fun e hh=>?_) (fun hno=>?_)
  · rw [if_pos rfl,if_pos rfl]
    have:Hom ds l n:=fun i hi=>by omega
    rwa [decide_eq_true this] at h
  · have hw0:=Zdz hd (hp.pos _ (Xt e)) ds.length (Ztz _)
    rw [if_pos rfl,if_neg (by omega)]
    have:Hom ds l n↔wtU ds (l.getD 0 Zt0).mono ds.length=n:=⟨fun q=>q 0 e,fun q=>q ▸ hh⟩
    rwa [decide_eq_decide.2 this] at h
  · rw [if_neg (by simp)]
    rwa [decide_eq_false (hno n)] at h
theorem Zmd {ds : List Int} {l : List Term} {K : Int → Bool → Prop} (hd : OkDeg ds) (hp : Zdw l) (hl : l.length ≤ 100000000) (h0 : l.length = 0 → K (-1) true) (h1 : 0 < l.length → Hom ds l (wtU ds (l.getD 0 Zt0).mono ds.length) → K (wtU ds (l.getD 0 Zt0).mono ds.length) true) (h2 : (∀ n, ¬ Hom ds l n) → K 0 false) : Zdf ds ⟨l⟩ K := by
  unfold Zdf
  dsimp only
  split
  · exact h0 (by omega)
  · rename_i q0
    have hpos:0 < l.length:=by omega
    refine⟨by omega,Zi9 hd (hp _ (Xt hpos)) ?_⟩
    refine Jd (fun (s:Int)=>1≤s∧s≤l.length∧∀ j:Nat,(j:Int) < s→wtU ds (l.getD j Zt0).mono ds.length=wtU ds (l.getD 0 Zt0).mono ds.length) (fun s=>l.length - s.toNat) ?_ ⟨ZLs _,by omega,fun j hj=>by
      have hj':(j:Int) < 1:=hj
      obtain rfl:j=0:=by omega
      rfl⟩
    rintro i next ⟨g1,g2,g3⟩ hn
    split
    · rename_i hi
      have a:i.toNat < l.length:=by omega
      refine⟨by omega,Zi9 hd (hp _ (Xt a)) ?_⟩
      split
      · rename_i q
        refine h2 fun n hn'=>q ?_
        rw [hn' _ a,hn' 0 hpos]
      · rename_i q
        have q:=ZI0.1 q
        rw [i64_in _ (by omega)]
        refine hn _ ⟨by omega,by omega,fun j hj=>?_⟩ (by omega)
        by_cases e:j=i.toNat
        · subst e; exact q
        · exact g3 j (by omega)
    · exact h1 hpos fun j hj=>g3 j (by omega)
structure OkAlg (a:Alg):Prop where
  deg:OkDeg a.degrees
  len:a.images.length=a.degrees.length
  frm:∀ i,i < a.images.length→OkForm a.degrees (a.images.getD i Zt0).terms
  hom:∀ i,i < a.images.length→Hom a.degrees (a.images.getD i Zt0).terms (a.degrees.getD i Zt0+1)
  clo:∀ i,i < a.images.length→∀ out,IsD a.degrees (imgsT a) (a.images.getD i Zt0).terms out→out=[]
def Jg (a:Alg):Prop:=∀ i,i < a.images.length→FitT (a.images.getD i Zt0).terms∧(a.images.getD i Zt0).terms.length≤1048576
theorem OkAlg.algF {a:Alg} (h:OkAlg a) (hf:Jg a):AlgF a:=⟨h.deg,h.len,h.frm,fun i hi=>(hf i hi).1⟩
theorem Zme {a : Alg} {K : Bool → Prop} (hf : Jg a) (h1 : OkAlg a → K true) (h2 : ¬ OkAlg a → K false) : Zdh a K := by
  unfold Zdh
  refine Zqh ?_
  split
  · rename_i q; exact h2 fun z=>q (decide_eq_true z.deg)
  · rename_i q1
    have q1:=of_decide_eq_true (ZI0.1 q1)
    have h8:=q1.1
    split
    · rename_i q; exact h2 fun z=>q (by rw [z.len])
    · rename_i q2
      have q2:a.images.length=a.degrees.length:=by have:=ZI0.1 q2; omega
      refine Jd (fun (s:Int)=>0≤s∧s≤a.images.length∧∀ i:Nat,(i:Int) < s→OkForm a.degrees (a.images.getD i Zt0).terms∧Hom a.degrees (a.images.getD i Zt0).terms (a.degrees.getD i Zt0+1)) (fun s=>a.images.length - s.toNat) ?_ ⟨ZLs _,by omega,fun i hi=>by omega⟩
      rintro i next ⟨g1,g2,g3⟩ hn
      split
      · rename_i hi
        have hin:i.toNat < a.images.length:=by omega
        obtain ⟨hft,hfl⟩:=hf i.toNat hin
        have hL:(⟨(a.images.getD i.toNat Zt0).terms⟩:ZFd)=a.images.getD i.toNat Zt0:=rfl
        have hdi:=q1.2 i.toNat (by omega)
        have wi:Zwe.wrap (i+1)=i+1:=i64_in _ (by omega)
        rw [wi,← hL]
        refine⟨by omega,Zi1 h8 hft.pos (by omega) ?_⟩
        split
        · rename_i q; exact h2 fun z=>q (decide_eq_true (z.frm _ hin))
        · rename_i q3
          have q3:=of_decide_eq_true (ZI0.1 q3)
          have good:Hom a.degrees (a.images.getD i.toNat Zt0).terms (a.degrees.getD i.toNat Zt0+1)→next (i+1):=fun hh=>hn _ ⟨by omega,by omega,fun j hj=>by
            by_cases e:j=i.toNat
            · subst e; exact⟨q3,hh⟩
            · exact g3 j (by omega)⟩ (by omega)
          have hwd:Zwe.wrap (a.degrees.getD i.toNat Zt0+1)=a.degrees.getD i.toNat Zt0+1:=i64_in _ (by omega)
          rw [hwd]
          refine⟨by omega,Zmd q1 hft.pos (by omega) (fun e=>?_) (fun e hh=>?_) (fun hno=>?_)⟩
          · rw [if_neg (by simp)]
            dsimp only
            refine⟨by omega,?_⟩
            rw [if_neg (by omega)]
            exact good fun j hj=>by omega
          · rw [if_neg (by simp)]
            dsimp only
            refine⟨by omega,?_⟩
            rw [if_pos (by omega)]
            refine⟨by omega,?_⟩
            split
            · rename_i q
              exact h2 fun z=>q (z.hom _ hin 0 e)
            · rename_i q
              have q:=ZI0.1 q
              exact good (q ▸ hh)
          · rw [if_pos (by simp)]
            exact h2 fun z=>hno _ (z.hom _ hin)
      · rename_i hi
        have hF:AlgF a:=⟨q1,q2,fun i hi=>(g3 i (by omega)).1,fun i hi=>(hf i hi).1⟩
        refine Jd (fun (s:Int)=>0≤s∧s≤a.images.length∧∀ i:Nat,(i:Int) < s→∀ out,IsD a.degrees (imgsT a) (a.images.getD i Zt0).terms out→out=[]) (fun s=>a.images.length - s.toNat) ?_ ⟨ZLs _,by omega,fun i hi=>by omega⟩
        rintro k next' ⟨k1,k2,k3⟩ hn'
        split
        · rename_i hk
          have hkn:k.toNat < a.images.length:=by omega
          have hL:(⟨(a.images.getD k.toNat Zt0).terms⟩:ZFd)=a.images.getD k.toNat Zt0:=rfl
          rw [← hL]
          refine⟨by omega,Zmb hF (hF.frm _ hkn) (hF.fit _ hkn) fun out ho _=>?_⟩
          dsimp only
          split
          · rename_i q
            refine h2 fun z=>?_
            have:=z.clo _ hkn out ho
            rw [this] at q; simp at q
          · rename_i q
            rw [i64_in _ (by omega)]
            have e:out=[]:=List.length_eq_zero_iff.1 (by omega)
            refine hn' _ ⟨by omega,by omega,fun j hj=>?_⟩ (by omega)
            by_cases ej:j=k.toNat
            · subst ej; intro o2 ho2; rw [Zr6 ho2 ho,e]
            · exact k3 j (by omega)
        · rename_i hk
          exact h1 ⟨q1,q2,hF.frm,fun i hi=>(g3 i (by omega)).2,fun i hi=>k3 i (by omega)⟩
theorem Zr8 {l:List ZFd} {p:ZFd→(Bool→Prop)→Prop} {K:Bool→Prop} {Q:ZFd→Prop} (hp:∀ i,i < l.length→∀ K':Bool→Prop,(Q (l.getD i Zt0)→K' true)→(¬ Q (l.getD i Zt0)→K' false)→p (l.getD i Zt0) K')
    (h1:(∃ i,i < l.length∧Q (l.getD i Zt0))→K true) (h2:(∀ i,i < l.length→¬ Q (l.getD i Zt0))→K false):Zfj l p K:=by
  unfold Zfj Zg2
  refine Yr (fun i (_:Unit)=>∀ j,j < i→¬ Q (l.getD j Zt0)) l.length ?_ ?_ _ _ _ (by omega) (by intro j hj; omega)
  · intro i s next hi hI hn
    refine hp i hi _ (fun q=>?_) (fun q=>?_)
    · rw [if_pos rfl]
      show K (decide ((i:Int)≥0))
      rw [decide_eq_true (show (i:Int)≥0 by omega)]
      exact h1 ⟨i,hi,q⟩
    · rw [if_neg (by simp)]
      refine hn _ fun j hj=>?_
      by_cases e:j=i
      · subst e; exact q
      · exact hI j (by omega)
  · intro s hI
    show K (decide ((-1:Int)≥0))
    rw [decide_eq_false (show ¬ (-1:Int)≥0 by omega)]
    exact h2 hI
theorem Zmf {a : Alg} {K : Bool → Prop} (hf : Jg a) (h1 : OkAlg a → K true) (h2 : ¬ OkAlg a → K false) : Zds a K := by
  unfold Zds
  refine Zqk ?_
  split
  · rename_i q; exact h2 fun z=>q (decide_eq_true z.deg)
  · rename_i q1
    have q1:=of_decide_eq_true (ZI0.1 q1)
    have h8:=q1.1
    split
    · rename_i q; exact h2 fun z=>q (by rw [z.len])
    · rename_i q2
      have q2:a.images.length=a.degrees.length:=by have:=ZI0.1 q2; omega
      refine Yr (fun i (_:Unit)=>∀ j:Nat,j < i→OkForm a.degrees (a.images.getD j Zt0).terms∧Hom a.degrees (a.images.getD j Zt0).terms (a.degrees.getD j Zt0+1)) a.images.length ?_ ?_ _ _ _ (by omega) (by intro j hj; omega)
      · intro i s next hi hI hn
        obtain ⟨hft,hfl⟩:=hf i hi
        have hL:(⟨(a.images.getD i Zt0).terms⟩:ZFd)=a.images.getD i Zt0:=rfl
        have hdi:=q1.2 i (by omega)
        rw [← hL]
        refine Zly q1 hft ?_
        split
        · rename_i q; exact h2 fun z=>q (decide_eq_true (z.frm _ hi))
        · rename_i q3
          have q3:=of_decide_eq_true (ZI0.1 q3)
          rw [i64_in _ (by omega)]
          refine⟨by omega,Zmc q1 hft ?_⟩
          split
          · rename_i q; exact h2 fun z=>q (decide_eq_true (z.hom _ hi))
          · rename_i q4
            have q4:=of_decide_eq_true (ZI0.1 q4)
            refine hn _ fun j hj=>?_
            by_cases e:j=i
            · subst e; exact⟨q3,q4⟩
            · exact hI j (by omega)
      · intro s hI
        have hF:AlgF a:=⟨q1,q2,fun i hi=>(hI i hi).1,fun i hi=>(hf i hi).1⟩
        refine Zr8 (Q:=fun f=>¬ ∀ out,IsD a.degrees (imgsT a) f.terms out→out=[]) (fun i hi K' c1 c2=>?_) (fun hex=>?_) (fun hall=>?_)
        · unfold Zfi
          have hL:(⟨(a.images.getD i Zt0).terms⟩:ZFd)=a.images.getD i Zt0:=rfl
          rw [← hL]
          refine Zdx (hF.frm i hi).canon (hF.fit i hi) fun m hm=>m_d hF hm (hF.frm i hi) (hF.fit i hi) fun out ho=>?_
          have hiff:=Zr5 hm (hF.frm i hi).canon ho
          by_cases e:out=[]
          · subst e
            rw [decide_eq_false (by simp)]
            exact c2 fun z=>z (hiff.1 rfl)
          · have hlen:0 < out.length:=List.length_pos_iff.2 e
            rw [decide_eq_true (by omega)]
            exact c1 fun z=>e (hiff.2 z)
        · obtain ⟨i,hi,hq⟩:=hex
          exact h2 fun z=>hq (z.clo i hi)
        · exact h1 ⟨q1,q2,hF.frm,fun i hi=>(hI i hi).2,fun i hi=>ZMj (hall i hi)⟩
end Go.Proofs.YtheenipahifleaaGreat
namespace Go.Proofs.YtheenipahifleaaGreat
open Go Vc
def Zco (ds:List Int) (f g:List Term):List Term:=(f.map fun t=>g.map fun u=>(⟨(Ys ds t.mono u.mono).1,(Ys ds t.mono u.mono).2 * (t.factor * u.factor)⟩:Term)).flatten
theorem Zr9 (f g:List Term) (m:A8):coT (f++g) m=coT f m+coT g m:=Zdp _ f g
theorem Zsa (ds:List Int) (f g:List Term) (m:A8):coT (Zco ds f g) m=prC ds f g m:=by
  induction f with
  | nil=>rfl
  | cons t f ih =>
    have e:Zco ds (t::f) g=(g.map fun u=>(⟨(Ys ds t.mono u.mono).1,(Ys ds t.mono u.mono).2 * (t.factor * u.factor)⟩:Term))++Zco ds f g:=rfl
    rw [e,Zr9,ih]
    have e2:coT (g.map fun u=>(⟨(Ys ds t.mono u.mono).1,(Ys ds t.mono u.mono).2 * (t.factor * u.factor)⟩:Term)) m=shC ds t g m:=by
      unfold coT shC
      rw [Zap]
      exact Zaz fun u _=>rfl
    rw [e2]; rfl
theorem Zsb (l:List A8):∃ S:List A8,S.Nodup∧∀ x,x∈l→x∈S:=by
  induction l with
  | nil=>exact⟨[],ZMk,fun x h=>h⟩
  | cons a l ih =>
    obtain ⟨S,h1,h2⟩:=ih
    by_cases c:a∈S
    · exact⟨S,h1,fun x hx=>(Ztw.1 hx).elim (fun e=>e ▸ c) (h2 x)⟩
    · exact⟨a::S,ZH1.2 ⟨c,h1⟩,fun x hx=>(Ztw.1 hx).elim (fun e=>e ▸ ZLw) fun q=>ZLt _ (h2 x q)⟩
theorem Zmg (F:A8→Int) {f f':List Term} (c:Int) (h:∀ x,coT f x % 10007=(c * coT f' x) % 10007):tot (fun t=>F t.mono * t.factor) f % 10007=(c * tot (fun t=>F t.mono * t.factor) f') % 10007:=by
  obtain ⟨S,hS,hc⟩:=Zsb ((f++f').map ZLu)
  rw [Zha F S hS f fun t ht=>hc _ (Zvb.2 ⟨t,Zus _ ht,rfl⟩),Zha F S hS f' fun t ht=>hc _ (Zvb.2 ⟨t,Zun _ ht,rfl⟩),← Zlj]
  refine Zir fun x _=>?_
  rw [ZLp,h,← ZLp,Int.mul_left_comm]
theorem Zsc (ds:List Int) (a:A8) (n:Int) (b:A8) (k:Int) (m:A8):pr1 ds a n b k m=n * pr1 ds a 1 b k m:=by
  unfold pr1; split
  · rw [ZL5,Int.mul_left_comm]
  · rw [ZL0]
theorem Zsd (ds:List Int) (a:A8) (n:Int) (b:A8) (k:Int) (m:A8):pr1 ds a n b k m=pr1 ds a n b 1 m * k:=by
  unfold pr1; split
  · rw [ZL4,ZMe]
  · rw [Int.zero_mul]
theorem Zse {ds:List Int} {f f' g:List Term} (c:Int) (h:∀ x,coT f x % 10007=(c * coT f' x) % 10007) (m:A8):prC ds f g m % 10007=(c * prC ds f' g m) % 10007:=by
  have e:∀ l:List Term,prC ds l g m=tot (fun t=>shC ds ⟨t.mono,1⟩ g m * t.factor) l:=fun l=>Zaz fun t _=>by
    unfold shC
    rw [Int.mul_comm,← Zlj]
    exact Zaz fun u _=>Zsc ..
  rw [e,e]; exact Zmg (fun a=>shC ds ⟨a,1⟩ g m) c h
theorem Zsf {ds:List Int} {f g g':List Term} (h:∀ x,coT g x % 10007=coT g' x % 10007) (m:A8):prC ds f g m % 10007=prC ds f g' m % 10007:=by
  refine Zir fun t _=>?_
  have e:∀ l:List Term,shC ds t l m=tot (fun u=>pr1 ds t.mono t.factor u.mono 1 m * u.factor) l:=fun l=>Zaz fun u _=>Zsd ..
  rw [e,e]
  have:=Zmg (fun b=>pr1 ds t.mono t.factor b 1 m) (f:=g) (f':=g') 1 fun x=>by rw [ZL5]; exact h x
  rwa [ZL5] at this
theorem Zjb {ds:List Int} {f f' g g':List Term} (c:Int) (h1:∀ x,coT f x % 10007=(c * coT f' x) % 10007) (h2:∀ x,coT g x % 10007=coT g' x % 10007) (m:A8):prC ds f g m % 10007=(c * coT (Zco ds f' g') m) % 10007:=by
  rw [Zsa,Zse c h1 m,ZLp,Zsf h2,← ZLp]
def tl (s:List (A8×Int)):List Term:=s.map fun q=>⟨q.1,q.2⟩
theorem Zmh (s:List (A8×Int)) (x:A8):coT (tl s) x=co s x:=by
  unfold coT co tl
  rw [Zap]
theorem Zsg (ds:List Int) (s t:List (A8×Int)) (m:A8):prM ds s t m=prC ds (tl s) (tl t) m:=by
  unfold prM prC tl
  rw [Zap]
  refine Zaz fun q _=>?_
  unfold shM shC
  rw [Zap]
theorem Zmi {ds:List Int} {s t:List (A8×Int)} {f' g':List Term} (c:Int) (h1:∀ x,co s x % 10007=(c * coT f' x) % 10007) (h2:∀ x,co t x % 10007=coT g' x % 10007) (m:A8):prM ds s t m % 10007=(c * coT (Zco ds f' g') m) % 10007:=by
  rw [Zsg]
  exact Zjb c (fun x=>by rw [Zmh]; exact h1 x) (fun x=>by rw [Zmh]; exact h2 x) m
end Go.Proofs.YtheenipahifleaaGreat
namespace Go.Proofs.YtheenipahifleaaGreat
open Go Vc
structure WM (ds:List Int) (w:Int) (m:A8):Prop where
  pos:∀ i,i < 8→0≤m.get i
  odd:∀ i,i < ds.length→Zul (ds.getD i Zt0) 2≠0→m.get i≤1
  out:∀ i,i < 8→ds.length≤i→m.get i=0
  wt:wtU ds m ds.length=w
theorem Zmj (ds:List Int) (a b:A8):∀ k,wtU ds (a.add b) k=wtU ds a k+wtU ds b k
  | 0=>rfl
  | k+1=>by simp only [wtU]; rw [Zmj ds a b k,ZLv,Int.mul_add]; omega
theorem Zfp {ds:List Int} {m:A8} (hd:OkDeg ds) (hp:∀ i,i < 8→0≤m.get i):∀ k,k≤ds.length→0≤wtU ds m k∧∀ i,i < k→ds.getD i Zt0 * m.get i≤wtU ds m k
  | 0,_=>⟨ZLs _,fun i hi=>by omega⟩
  | k + 1, h => by
    obtain ⟨h0,h1⟩:=Zfp hd hp k (by omega)
    have h8:=hd.1
    have hk:=hd.2 k (by omega)
    have hm:=hp k (by omega)
    have hx:0≤ds.getD k Zt0 * m.get k:=ZL3 (by omega) hm
    simp only [wtU]
    refine⟨by omega,fun i hi=>?_⟩
    by_cases e:i=k
    · subst e; omega
    · have:=h1 i (by omega); omega
theorem WM.le {ds:List Int} {w:Int} {m:A8} (hd:OkDeg ds) (h:WM ds w m) {i:Nat} (hi:i < 8):m.get i≤w∨m.get i=0:=by
  by_cases c:i < ds.length
  · left
    have h1:=(Zfp hd h.pos ds.length (Ztz _)).2 i c
    have hk:=hd.2 i c
    have hp:=h.pos i hi
    have:m.get i≤ds.getD i Zt0 * m.get i:=by
      have:=ZM4 hk.1 hp
      omega
    rw [h.wt] at h1; omega
  · exact .inr (h.out i hi (by omega))
theorem WM.wk {ds:List Int} {w:Int} {m:A8} (hd:OkDeg ds) (h:WM ds w m) (hw:w≤40):X0 ds m∧∀ i,i < 8→0≤m.get i∧m.get i≤255:=by
  have b:∀ i,i < 8→m.get i≤40:=fun i hi=>by rcases h.le hd hi with q | q <;> omega
  exact⟨fun i hi=>⟨fun hl=>⟨by have:=b i hi; omega,h.odd i hl⟩,h.out i hi⟩,fun i hi=>⟨h.pos i hi,by have:=b i hi; omega⟩⟩
theorem WM.six {ds : List Int} {w : Int} {m : A8} (hd : OkDeg ds) (h : WM ds w m) (hw : w ≤ 13) {i : Nat} (hi : i < 8) : 0 ≤ m.get i ∧ m.get i ≤ 6 := by
  refine⟨h.pos i hi,?_⟩
  by_cases c:i < ds.length
  · have h1:=(Zfp hd h.pos ds.length (Ztz _)).2 i c
    have hk:=hd.2 i c
    have hp:=h.pos i hi
    rw [h.wt] at h1
    by_cases o:Zul (ds.getD i Zt0) 2=0
    · have h2:2≤ds.getD i Zt0:=by
        rw [ZH5 (by omega)] at o; omega
      have:=ZM4 h2 hp
      omega
    · have:=h.odd i c o; omega
  · rw [h.out i hi (by omega)]; omega
theorem WM.add {ds:List Int} {v w:Int} {a b:A8} (ha:WM ds v a) (hb:WM ds w b) (hc:¬ Clash ds a b) (h8:ds.length≤8):WM ds (v+w) (a.add b) where
  pos i hi:=by rw [ZLv]; have:=ha.pos i hi; have:=hb.pos i hi; omega
  odd i hi o:=by
    rw [ZLv]
    have h1:=ha.odd i hi o
    have h2:=hb.odd i hi o
    have h3:=ha.pos i (by omega)
    have h4:=hb.pos i (by omega)
    by_cases c:0 < a.get i∧0 < b.get i
    · exact absurd ⟨i,hi,o,c.1,c.2⟩ hc
    · omega
  out i hi hl:=by rw [ZLv,ha.out i hi hl,hb.out i hi hl]; rfl
  wt:=by rw [Zmj,ha.wt,hb.wt]
def Zd0 (m:A8):Nat:=(m.get 0+7 * (m.get 1+7 * (m.get 2+7 * (m.get 3+7 * (m.get 4+7 * (m.get 5+7 * (m.get 6+7 * m.get 7))))))).toNat
theorem Zsh {m:A8} (h:∀ i,i < 8→0≤m.get i∧m.get i≤6):Zd0 m < 5764801:=by
  have h0:=h 0 (by omega); have h1:=h 1 (by omega); have h2:=h 2 (by omega); have h3:=h 3 (by omega)
  have h4:=h 4 (by omega); have h5:=h 5 (by omega); have h6:=h 6 (by omega); have h7:=h 7 (by omega)
  unfold Zd0; omega
theorem Zsi {a b:A8} (ha:∀ i,i < 8→0≤a.get i∧a.get i≤6) (hb:∀ i,i < 8→0≤b.get i∧b.get i≤6) (h:Zd0 a=Zd0 b):a=b:=by
  have h0:=ha 0 (by omega); have h1:=ha 1 (by omega); have h2:=ha 2 (by omega); have h3:=ha 3 (by omega)
  have h4:=ha 4 (by omega); have h5:=ha 5 (by omega); have h6:=ha 6 (by omega); have h7:=ha 7 (by omega)
  have g0:=hb 0 (by omega); have g1:=hb 1 (by omega); have g2:=hb 2 (by omega); have g3:=hb 3 (by omega)
  have g4:=hb 4 (by omega); have g5:=hb 5 (by omega); have g6:=hb 6 (by omega); have g7:=hb 7 (by omega)
  unfold Zd0 at h
  have e0:a.get 0=b.get 0:=by omega
  have e1:a.get 1=b.get 1:=by omega
  have e2:a.get 2=b.get 2:=by omega
  have e3:a.get 3=b.get 3:=by omega
  have e4:a.get 4=b.get 4:=by omega
  have e5:a.get 5=b.get 5:=by omega
  have e6:a.get 6=b.get 6:=by omega
  have e7:a.get 7=b.get 7:=by omega
  cases a; cases b
  simp only [A8.get] at *
  simp_all
theorem Zmk:∀ {l k:List Nat}, l.Nodup→(∀ q,q∈l→q∈k)→l.length≤k.length
  | [],_,_,_=>Nat.zero_le _
  | x :: l, k, hn, h => by
    obtain ⟨h1,h2⟩:=ZH1.1 hn
    have hx:=h x (by simp)
    have:=Zmk h2 (k:=k.erase x) fun q hq=>(List.mem_erase_of_ne (fun e=>h1 (by rw [← e]; exact hq))).2 (h q (by simp [hq]))
    rw [List.length_erase_of_mem hx] at this
    have:=List.length_pos_of_mem hx
    simp only [List.length_cons]; omega
theorem Zbv {ds:List Int} {w:Int} {l:List Term} (hd:OkDeg ds) (hw:w≤13) (hc:Canon l) (h:∀ t,t∈l→WM ds w t.mono):l.length≤5764801:=by
  have hn:(l.map fun t=>Zd0 t.mono).Nodup:=by
    rw [List.Nodup,ZMi]
    refine hc.1.imp_of_mem fun {a b} ha hb q e=>?_
    have:=Zsi (fun i hi=>(h a ha).six hd hw hi) (fun i hi=>(h b hb).six hd hw hi) e
    exact Zfe q this
  have:=Zmk hn (k:=List.range 5764801) fun q hq=>by
    obtain ⟨t,ht,rfl⟩:=Zvb.1 hq
    exact List.mem_range.2 (Zsh fun i hi=>(h t ht).six hd hw hi)
  rw [ZLy,List.length_range] at this
  exact this
structure HomF (ds:List Int) (w:Int) (f:List Term):Prop where
  can:Canon f
  hom:∀ t,t∈f→WM ds w t.mono
theorem Zml {ds:List Int} {v w:Int} {f g out:List Term} (h8:ds.length≤8) (hf:∀ t,t∈f→WM ds v t.mono) (hg:∀ t,t∈g→WM ds w t.mono) (h:IsProd ds f g out):HomF ds (v+w) out:=⟨h.can,fun x hx=>by
  obtain ⟨t,u,ht,hu,e,hc⟩:=h.mo x hx
  rw [e]; exact(hf t ht).add (hg u hu) hc h8⟩
theorem Zmm {ds:List Int} {v w:Int} {f g:List Term} {K:ZFd→Prop} (hd:OkDeg ds) (hf:HomF ds v f) (hg:HomF ds w g) (hv:v≤13) (hw:w≤13) (hvw:v+w≤13) (h:∀ out,IsProd ds f g out→HomF ds (v+w) out→K ⟨out⟩):X2 ds ⟨f⟩ ⟨g⟩ K:=by
  have lf:=Zbv hd hv hf.can hf.hom
  have lg:=Zbv hd hw hg.can hg.hom
  unfold X2
  dsimp only
  refine Jd (fun (s:List Term×Int)=>0≤s.2∧s.2≤f.length∧IsProd ds (f.take s.2.toNat) g s.1) (fun s=>f.length - s.2.toNat) ?_ ⟨by omega,by omega,by simpa using IsProd.nil ds g⟩
  rintro ⟨out,i⟩ next ⟨h1,h2,hI⟩ hn
  dsimp only at h1 h2 hI hn ⊢
  split
  · rename_i hi
    have a:i.toNat < f.length:=by omega
    have hu:=Xt a
    have ni:(i+1).toNat=i.toNat+1:=by omega
    have wi:Zwe.wrap (i+1)=i+1:=i64_in _ (by omega)
    rw [wi]
    have wu:=(hf.hom _ hu).wk hd (by omega)
    refine⟨by omega,Zlv hd wu.1 (hf.can.at_range a) (fun q hq=>(wu.2 q hq).1) hg.can (fun u hu=>((hg.hom u hu).wk hd (by omega)).1) (fun u hu=>((hg.hom u hu).wk hd (by omega)).2) (by omega) fun sh hsh=>?_⟩
    have hls:=hsh.ln
    have hlo:=Zbv hd hvw hI.can (Zml hd.1 (fun t ht=>hf.hom t (ZMf ht)) hg.hom hI).hom
    refine Zfm hI.can hsh.can (by omega) (by omega) (by omega) fun out' ho=>?_
    refine hn _ ⟨by dsimp only; omega,by dsimp only; omega,?_⟩ (by dsimp only; omega)
    dsimp only
    rw [ni,Zaa a]
    exact hI.step hsh ho
  · rename_i hi
    rw [Zvl (by omega)] at hI
    exact h _ hI (Zml hd.1 hf.hom hg.hom hI)
end Go.Proofs.YtheenipahifleaaGreat
namespace Vc
open Go Go.RowKit
section
variable {P:Program} {ops:Array Oper} {Q:Exit→Act→World→Prop} {n:Nat} {e:Env} {w w':World} {rest:List Oper}
variable {X:Nat→Prop} {w0:World} {M Ps:List Item}
variable {d ty:Nat} {pos:String} {af:Array Edge}
end
section
variable {X:Nat→Prop} {w0 w w':World} {M Ps:List Item}
end
section
variable {P:Program} {ops:Array Oper} {Q:Exit→Act→World→Prop} {n:Nat} {e:Env} {w w':World} {rest:List Oper}
variable {d ty:Nat} {pos:String} {af:Array Edge}
end
end Vc
namespace Vc
open Go Go.RowKit
section
variable {α β:Type}
def Zbw (kv : α → Value) (vv : β → Value) : Ty (List (α × β)) where
  sz:=1
  rep l cs fp w:=∃ b,cs=[.map (some b)]∧b∈fp∧(∀ c,c∈fp→c < w.heap.size)∧(Zy kv vv b l).holds w
  keep h hw:=by
    obtain ⟨b,rfl,hb,hl,hm⟩:=hw
    exact⟨b,rfl,hb,Zf5 h hl,ZL7 _ _ _ (fun c hc=>h c (by obtain rfl:=Zvn.1 hc; exact hb)) hm⟩
  low hw:=by
    obtain ⟨b,rfl,hb,hl,hm⟩:=hw
    exact hl
  len hw:=by obtain ⟨b,rfl,_⟩:=hw; rfl
  one hw u hu:=by
    obtain ⟨b,rfl,_⟩:=hw
    obtain rfl:=Zvn.1 hu
    rfl
  more hw h1 h2:=by
    obtain ⟨b,rfl,hb,hl,hm⟩:=hw
    exact⟨b,rfl,h1 b hb,h2,hm⟩
def Y9 (kv : α → Value) (vv : β → Value) : Tr (List (α × β)) where
  ty:=Zbw kv vv
  tree l cs fp w:=∃ b,cs=[.map (some b)]∧fp=[b]∧(Zy kv vv b l).holds w
  tkeep h hw:=by
    obtain ⟨b,rfl,rfl,hm⟩:=hw
    exact⟨b,rfl,rfl,ZL7 _ _ _ h hm⟩
  tlow hw:=by
    obtain ⟨b,rfl,rfl,hm⟩:=hw
    exact fun c hc=>Item.low _ _ hm c hc
  trep hw:=by
    obtain ⟨b,rfl,rfl,hm⟩:=hw
    exact⟨b,rfl,ZLo _,fun c hc=>Item.low _ _ hm c hc,hm⟩
theorem Zmn {kv:α→Value} {vv:β→Value} {b:Nat} {l:List (α×β)} {w:World} (h:(Zy kv vv b l).holds w):((Y9 kv vv).item l [.map (some b)] [b]).holds w :=
  ⟨⟨b,rfl,rfl,h⟩,ZH1.2 ⟨by simp,ZMk⟩⟩
theorem Zsj {kv:α→Value} {vv:β→Value} {ls:List (List (α×β))} {v:Value} {fp:List Nat} {w:World} (h:(Zbw kv vv).sl.rep ls [v] fp w) (i:Nat) (hi:i < ls.length) :
    ∃ A c b,v=.slice (some A) ls.length c∧Xe w (A.add i) [.map (some b)]∧b∈fp∧(Zy kv vv b ls[i]).holds w:=by
  obtain ⟨A,c,hv,cs,hl,hc,b,rfl,hb,_,hm⟩:=Zcx h i hi
  exact⟨A,c,b,hv,by simpa [Zbw] using hc,hb,hm⟩
end
structure Derive where
  alg:Alg
  drop:Int
  images:List (List (A8×Int))
  deriving Inhabited
def TSum:Ty (List (A8×Int)):=Zbw (kvA .i64) (vvI .i64)
section
variable {α β:Type} {kv:α→Value} {vv:β→Value}
def Zcp (e : Nat) (kv : α → Value) (vv : β → Value) (v : Value) (bs : List Nat) (xs : List (List (α × β))) : Item where
  fp:=v.ownBlock.toList++bs
  holds w:=(own e 1 v xs.length (bs.map fun b=>ZHy (some b))).holds w∧bs.length=xs.length∧(∀ i,i < xs.length→(Zy kv vv (bs.getD i 0) (xs.getD i [])).holds w)∧(v.ownBlock.toList++bs).Nodup
  keep w w' h hw:=by
    refine⟨ZL7 _ _ _ (fun b hb=>h b (Zus _ hb)) hw.1,hw.2.1,fun i hi=>ZL7 _ w w' (fun b hb=>h b (Zun _ ?_)) (hw.2.2.1 i hi),hw.2.2.2⟩
    obtain rfl:b=bs.getD i 0:=Zvn.1 hb
    have:i < bs.length:=by rw [hw.2.1]; exact hi
    simp [Zt7,this]
  low w hw b hb := by
    rcases Zud.1 hb with hb | hb
    · exact Item.low _ w hw.1 b hb
    · obtain ⟨i,hi,rfl⟩:=Zuf hb
      have:=Item.low _ w (hw.2.2.1 i (by rw [← hw.2.1]; exact hi)) (bs.getD i 0) (ZLo _)
      simpa [Zt7,hi] using this
theorem Zsk {α:Type} {l:List α} {i:Nat} {x:α} (h:(l.drop (i * 1)).take 1=[x]):l[i]? = some x:=by
  have:=congrArg (fun z=>z[0]?) h
  simpa using this
theorem Zsl {e : Nat} {xs : List (List (α × β))} {v : Value} {fp : List Nat} {w : World} (h : ((ZLn e (Y9 kv vv)).item xs [v] fp).holds w) : ∃ bs, (Zcp e kv vv v bs xs).holds w ∧ fp = v.ownBlock.toList ++ bs := by
  obtain ⟨ecs,fps,a1,⟨⟨h1,h2,h3⟩,hn⟩,rfl,a4⟩:=Zel h
  have hz:(Y9 kv vv).ty.sz=1:=rfl
  rw [hz] at h1 h3 a1
  have key:∀ i,i < xs.length→∃ b,ecs[i]? = some (ZHy (some b))∧fps[i]? = some [b]∧(Zy kv vv b (xs.getD i [])).holds w:=fun i hi=>by
    obtain ⟨b,hb,hf,hm⟩:=h3 i hi
    refine⟨b,Zsk hb,?_,by simpa [Zt7,hi] using hm⟩
    have hi':i < fps.length:=by omega
    simpa [Zt7,hi'] using hf
  let bs:=fps.map fun f=>f.headD 0
  have hbs:∀ i b,i < xs.length→fps[i]? = some [b]→bs[i]? = some b:=fun i b hi hf=>by simp [bs,hf]
  have hfl:fps.flatten=bs:=by
    have:∀ l:List (List Nat),(∀ f,f∈l→∃ b,f=[b])→l.flatten=l.map fun f=>f.headD 0:=by
      intro l
      induction l with
      | nil=>intro _; rfl
      | cons f l ih =>
        intro hl
        obtain ⟨b,rfl⟩:=hl f (by simp)
        simp [ih fun g hg=>hl g (by simp [hg])]
    refine this fps fun f hf=>?_
    obtain ⟨i,hi,rfl⟩:=Zuf hf
    obtain ⟨b,_,hb,_⟩:=key i (by omega)
    rw [List.getElem?_eq_getElem hi] at hb
    exact⟨b,Option.some.inj hb⟩
  have hln:bs.length=xs.length:=by simp [bs,h2]
  have hec:ecs=bs.map fun b=>ZHy (some b):=by
    apply List.ext_getElem?
    intro i
    rcases Nat.lt_or_ge i xs.length with hi | hi
    · obtain ⟨b,hb1,hb2,_⟩:=key i hi
      rw [hb1,List.getElem?_map,hbs i b hi hb2]; rfl
    · rw [List.getElem?_eq_none (by omega),List.getElem?_eq_none (by simp [hln]; omega)]
  refine⟨bs,⟨hec ▸ a1,hln,fun i hi=>?_,?_⟩,by rw [hfl]⟩
  · obtain ⟨b,_,hb2,hm⟩:=key i hi
    have:=hbs i b hi hb2
    rw [Zt7,this]; exact hm
  · rw [← hfl]
    exact List.nodup_append.2 ⟨Zig v,hn,fun a ha b hb e=>a4 a ha (e ▸ hb)⟩
theorem Zmo {e:Nat} {xs:List (List (α×β))} {v:Value} {bs:List Nat} {w:World} (h:(Zcp e kv vv v bs xs).holds w):((ZLn e (Y9 kv vv)).item xs [v] (v.ownBlock.toList++bs)).holds w:=by
  obtain ⟨h1,h2,h3,h4⟩:=h
  have hfl:∀ l:List Nat,(l.map fun b=>[b]).flatten=l:=by
    intro l
    induction l with
    | nil=>rfl
    | cons b l ih=>simp [ih]
  obtain ⟨n1,n2,n3⟩:=List.nodup_append.1 h4
  have ht:(Yl (Y9 kv vv) xs (bs.map fun b=>ZHy (some b)) (bs.map fun b=>[b])).holds w:=by
    refine⟨⟨by rw [ZLy,h2]; exact(Nat.mul_one _).symm,by simp [h2],fun i hi=>?_⟩,by rw [hfl]; exact n2⟩
    have hi':i < bs.length:=by omega
    refine⟨bs.getD i 0,?_,by simp [Zt7,hi'],by have:=h3 i hi; simpa [Zt7,hi] using this⟩
    show ((bs.map fun b=>ZHy (some b)).drop (i * 1)).take 1=_
    rw [Nat.mul_one,List.drop_eq_getElem_cons (by simpa using hi')]
    simp [Zt7,hi']
  have:=Zau (e:=e) (T:=Y9 kv vv) (v:=v) h1 ht (fun b hb hb'=>n3 b hb b (by rwa [hfl] at hb') rfl)
  rwa [hfl] at this
theorem Zsm {e g c n i:Nat} {xs:List (List (α×β))} {v:Value} {bs:List Nat} {w:World} (h:(Zcp e kv vv v bs xs).holds w) (hv:v=.slice (some ⟨g,0,none⟩) n c) (hi:i < xs.length):Xe w ⟨g,i * 1,none⟩ [.map (some (bs.getD i 0))]:=by
  let E:Enc Nat:=⟨1,by decide,fun b=>[.map (some b)],fun _=>rfl,fun _ u hu=>by obtain rfl:=Zvn.1 hu; rfl⟩
  have he:∀ l:List Nat,E.encs l=l.map fun b=>ZHy (some b):=by
    intro l
    induction l with
    | nil=>rfl
    | cons b l ih=>simpa [Enc.encs,E] using ih
  have h0:(own e E.sz v bs.length (E.encs bs)).holds w:=by rw [he,h.2.1]; exact h.1
  exact Zj4 (E:=E) h0 hv i (by rw [h.2.1]; exact hi)
theorem Zsn {e i:Nat} {xs:List (List (α×β))} {v:Value} {bs:List Nat} {w:World} (h:(Zcp e kv vv v bs xs).holds w) (hi:i < xs.length):(Zy kv vv (bs.getD i 0) (xs.getD i [])).holds w∧bs.getD i 0∈(Zcp e kv vv v bs xs).fp:=by
  refine⟨h.2.2.1 i hi,Zun _ ?_⟩
  have:i < bs.length:=by rw [h.2.1]; exact hi
  simp [Zt7,this]
end
end Vc
namespace Vc
open Go Go.RowKit
section
variable {X:Nat→Prop} {w0 w w':World} {M Ps:List Item}
end
section
variable {P:Program} {ops:Array Oper} {Q:Exit→Act→World→Prop} {n:Nat} {e:Env} {w w':World} {rest:List Oper}
variable {X:Nat→Prop} {w0:World} {M Ps:List Item}
variable {d ty:Nat} {pos:String} {af:Array Edge}
end
section
variable {P:Program} {ops:Array Oper} {Q:Exit→Act→World→Prop} {n:Nat} {e:Env} {w w':World} {rest:List Oper}
variable {d ty:Nat} {pos:String} {af:Array Edge}
end
section
variable {P:Program} {ops:Array Oper} {Q:Exit→Act→World→Prop} {n:Nat} {e:Env} {w w':World} {rest:List Oper}
variable {X:Nat→Prop} {w0:World} {M Ps:List Item}
variable {d ty:Nat} {pos:String} {af:Array Edge} {gd:Option (Nat×Bool)}
end
end Vc
namespace Vc
open Go Go.RowKit
section
variable {P:Program} {ops:Array Oper} {Q:Exit→Act→World→Prop} {n:Nat} {e:Env} {w w':World} {rest:List Oper}
variable {X:Nat→Prop} {w0:World} {M Ps:List Item}
variable {d ty:Nat} {pos:String} {af:Array Edge}
end
end Vc
namespace Vc
open Go Go.RowKit
structure Elem where
  gen:Int
  mono:A8
  deriving DecidableEq,Inhabited
def Elem.enc (t:Elem):List Value:=.int .i64 t.gen::A8.enc .i64 t.mono
section
variable {P:Program} {k:Nat} {ik:IntKind}
end
section
variable {P:Program} {ops:Array Oper} {Q:Exit→Act→World→Prop} {n:Nat} {e:Env} {w w':World} {rest:List Oper}
variable {X:Nat→Prop} {w0:World} {M Ps:List Item}
variable {d ty:Nat} {pos:String} {af:Array Edge}
theorem Zjc {f:FuncId} {l:List Operand} {fn:Func} {c:Code} {at_:Array Nat} (vs:List Value) (hf:P.funcs[f]? = some fn) (hb:fn.body=some c) (hne:(fn.name == "runtime.NumGoroutine")=false) (m:Nat) (hm:fn.ntmps=m) (hl:vs.length≤m)
    (hp:l.map (ev n e)=vs) (h:c.wp P (bodyPost P fn (fun ret w''=>∃ v,ret=.returned v∧W P ops Q rest n (upd e d v) w'')) (actOf m (Zd9 vs)) w) :
    W P ops Q (⟨some d,.call { callee:=.value (.func f),args:=l.toArray,argTypes:=at_ }, ty,pos,af,none⟩::rest) n e w :=
  Zf vs _ hf (by rw [hb]; rfl) hne hp (Zjo hf hb m hm hl h) (fun ret w'' h=>h)
end
section
variable {P:Program} {ops:Array Oper} {Q:Exit→Act→World→Prop} {n:Nat} {e:Env} {w w':World} {rest:List Oper}
variable {X:Nat→Prop} {w0:World} {M Ps:List Item}
variable {d ty:Nat} {pos:String} {af:Array Edge}
end
end Vc
namespace Vc
open Go Go.RowKit
abbrev hd (ecs:List Value) (i:Nat):Value:=ecs.getD i undef
section
variable {α:Type} {E:Enc α} {t e:Nat} {v:Value} {ecs:List Value} {xs:List (List α)} {w w':World}
end
section
variable {α:Type} {E:Enc α} {t e:Nat} {v:Value} {ecs:List Value} {xs:List (List α)} {w w':World}
variable {X:Nat→Prop} {w0:World} {M Ps:List Item}
end
section
variable {P:Program} {ops:Array Oper} {Q:Exit→Act→World→Prop} {n:Nat} {ev_:Env} {w w':World} {rest:List Oper}
variable {X:Nat→Prop} {w0:World} {M Ps:List Item}
variable {d ty:Nat} {pos:String} {af:Array Edge}
variable {α:Type} {E:Enc α} {t e:Nat} {v:Value} {ecs:List Value} {xs:List (List α)}
end
section
variable {α:Type}
end
section
variable {P:Program} {ops:Array Oper} {Q:Exit→Act→World→Prop} {n:Nat} {ev_:Env} {w:World} {rest:List Oper}
variable {d ty:Nat} {pos:String} {af:Array Edge}
end
end Vc
namespace Vc
open Go Go.RowKit
structure Lvl where
  list:List A8
  place:List (A8×Int)
  deriving Inhabited
structure Lev where
  n:Int
  b:Nat
  pb:Nat
  vl:Value
  vm:Value
  vc:Value
  vd:Value
  vk:Value
  md:Bool
  c3:Bool
  c4:Bool
  c5:Bool
def Lev.cells (e:Lev):List Value:=[e.vl,.map (some e.pb),e.vm,e.vc,e.vd,e.vk]
def Lev.key (e:Lev):Int×Nat:=(e.n,e.b)
structure Cx where
  LV:Int→List A8
  PL:Int→List (A8×Int)
  MX:Int→List (List Int)
  CL:Int→List (List Int)
  BD:Int→List (List Int)
  KL:Int→List (List Int)
section
variable {lt:Nat} {D D1 D2:List Lev} {e:Lev} {w w':World}
end
section
variable {C:Cx} {D:List Lev} {F:List Nat} {e:Lev} {w:World}
end
section
variable {C:Cx} {D:List Lev} {F:List Nat} {e:Lev} {w:World} {n:Int}
end
section
variable {P:Program} {ops:Array Oper} {Q:Exit→Act→World→Prop} {n:Nat} {e:Env} {w w':World} {rest:List Oper}
variable {X:Nat→Prop} {w0:World} {M Ps:List Item}
variable {d ty:Nat} {pos:String} {af:Array Edge}
theorem Zso {α β:Type} [DecidableEq α] {kv:α→Value} {vv:β→Value} {t k el b:Nat} {l:List (α×β)} {x y:Operand} (kx:α) (z:Value) (hh:(Zy kv vv b l).holds w) (K:KeyT P k kv) (ht:P.underlying t=some (.map k el)) (hz:Xj P el z)
    (hx:ev n e x=.map (some b)) (hy:ev n e y=kv kx) (h1:∀ c,Yw l kx=some c→W P ops Q rest n (upd e d (.tuple #[vv c,.bool true])) w) (h0:Yw l kx=none→W P ops Q rest n (upd e d (.tuple #[z,.bool false])) w) :
    W P ops Q (⟨some d,.lookup t x y true,ty,pos,af,none⟩::rest) n e w:=by
  obtain ⟨es,clock,g1,g2,g3⟩:=hh
  have hg:(getObj b).run P w=.ok (.map es clock) w:=by simp [getObj,Sem.run,g1]
  cases hf:Jl l kx 0 with
  | none =>
    refine Yx _ rfl rfl ?_ (h0 (Zb8 hf).1)
    have hl:(ZL9 t (.map (some b)) (kv kx) true).run P w=.ok (.tuple #[z,.bool false]) w:=by
      simp only [ZL9,Ztt,run_underlying ht,Ztu,hg,Sem.run_pure,K.check,Zcb K w kx es.toList l g2]
      simp [hf,Zfw hz]
    simp [execOp,hx,hy,hl]
  | some q =>
    obtain ⟨j,v⟩:=q
    refine Yx _ rfl rfl ?_ (h1 v (Zb9 hf).2.2.1)
    have hl:(ZL9 t (.map (some b)) (kv kx) true).run P w=.ok (.tuple #[vv v,.bool true]) w:=by
      simp only [ZL9,Ztt,run_underlying ht,Ztu,hg,Sem.run_pure,K.check,Zcb K w kx es.toList l g2]
      simp [hf]
    simp [execOp,hx,hy,hl]
end
section
variable {X:Nat→Prop} {w0 w w':World} {M Ps:List Item}
theorem Ctx.turnMP (h : Ctx X w0 w M Ps) (k j : Nat) {it jt pt qt : Item} (hk : M[k]? = some it) (hj : Ps[j]? = some pt) (hB : BelO it.fp w w') (hh : jt.holds w') (hq : qt.holds w')
    (hf:∀ b,b∈jt.fp→b∈it.fp∨w.heap.size≤b) (hg:∀ b,b∈qt.fp→b∈pt.fp∨w.heap.size≤b) (hd:∀ b,b∈qt.fp→b∉jt.fp):Ctx X w0 w' (M.set k jt) (Ps.set j qt):=by
  have h1:=h.turn k hk hB.os hB.tape hB.output hB.size hB.drawn hB.old hh hf
  refine { h1 with p:=fun x hx=>?_,pd:=fun x hx b hb m hm=>?_ }
  · rcases ZBs hx with q | q
    · exact h1.p x q
    · subst q; exact hq
  · rcases ZBs hx with q | q
    · exact h1.pd x q b hb m hm
    · subst q
      rcases hg b hb with g | g
      · rcases ZBs hm with z | z
        · exact h.pd pt (List.mem_of_getElem? hj) b g m z
        · subst z; exact hd b hb
      · rcases ZBs hm with z | z
        · exact fun hbm=>absurd (m.low w (h.m m z) b hbm) (Nat.not_lt.2 g)
        · subst z; exact hd b hb
theorem Ctx.turnMPN (h:Ctx X w0 w M Ps) (k j:Nat) {it jt pt qt nt:Item} (hk:M[k]? = some it) (hj:Ps[j]? = some pt) (hB:BelO it.fp w w') (hh:jt.holds w') (hq:qt.holds w') (hn:nt.holds w')
    (hf:∀ b,b∈jt.fp→b∈it.fp∨w.heap.size≤b) (hg:∀ b,b∈qt.fp→b∈pt.fp∨w.heap.size≤b) (hd:∀ b,b∈qt.fp→b∉jt.fp) (hnf:∀ b,b∈nt.fp→w.heap.size≤b) (hnj:∀ b,b∈nt.fp→b∉jt.fp∧b∉qt.fp) :
    Ctx X w0 w' (nt::M.set k jt) (Ps.set j qt):=by
  have h1:=h.turnMP k j hk hj hB hh hq hf hg hd
  refine { h1 with m:=fun x hx=>?_,mfp:=fun x hx b hb=>?_,dis:=?_,pd:=fun x hx b hb m hm=>?_ }
  · rcases Ztw.1 hx with rfl | hx
    · exact hn
    · exact h1.m x hx
  · rcases Ztw.1 hx with rfl | hx
    · exact .inl (Zt1 h.size (hnf b hb))
    · exact h1.mfp x hx b hb
  · refine List.pairwise_cons.2 ⟨fun m hm x hx hxm=>?_,h1.dis⟩
    rcases ZBs hm with z | z
    · exact absurd (m.low w (h.m m z) x hxm) (Nat.not_lt.2 (hnf x hx))
    · subst z; exact(hnj x hx).1 hxm
  · rcases Ztw.1 hm with rfl | hm
    · intro hbm
      rcases ZBs hx with z | z
      · exact absurd (x.low w (h.p x z) b hb) (Nat.not_lt.2 (hnf b hbm))
      · subst z; exact(hnj b hbm).2 hb
    · exact h1.pd x hx b hb m hm
theorem Y3 (b:Nat):PreW (BelB b) :=
  ⟨fun w=>⟨rfl,rfl,rfl,Ztz _,Ztz _,fun _ _ _=>rfl⟩,fun h k=>⟨k.os.trans h.os,k.tape.trans h.tape,k.output.trans h.output,Zt1 h.size k.size,Zt1 h.drawn k.drawn,fun c hc hne=>(k.old c (Nat.lt_of_lt_of_le hc h.size) hne).trans (h.old c hc hne)⟩⟩
end
structure Lev.Le (e e':Lev):Prop where
  n:e'.n=e.n
  b:e'.b=e.b
  md:e.md=true→e'.md=true
  c3:e.c3=true→e'.c3=true
  c4:e.c4=true→e'.c4=true
  c5:e.c5=true→e'.c5=true
structure CpX (S:Nat→Prop) (D D':List Lev) (F F':List Nat):Prop where
  up:∀ e,e∈D→∃ e',e'∈D'∧e.Le e'
  dn:∀ e',e'∈D'→¬ S e'.b→e'.c3=true→(e'.c4=true∧e'.c5=true)∨∃ e,e∈D∧e.b=e'.b∧e.c3=true∧(e.c4=true→e'.c4=true)∧(e.c5=true→e'.c5=true)
  fp:∀ x,x∈F→x∈F'
theorem CpX.some {S T:Nat→Prop} {D D':List Lev} {F F':List Nat} (h:CpX S D D' F F') (hs:∀ b,S b→T b):CpX T D D' F F':=⟨h.up,fun e he ht h3=>h.dn e he (fun q=>ht (hs _ q)) h3,h.fp⟩
section
variable {C:Cx} {lt mb:Nat} {D:List Lev} {F:List Nat} {w:World} {n:Int} {b:Nat} {md cd:Bool}
end
section
variable {X:Nat→Prop} {w0 w w':World} {M Ps:List Item}
theorem Ctx.growC (h:Ctx X w0 w M Ps) (k:Nat) {it:Item} {b:Nat} (hk:M[k]? = some it) (hb:b∈it.fp) (hB:BelB b w w'):Ctx X w0 w' (M.eraseIdx k) Ps:=by
  have hlt:k < M.length:=(List.getElem?_eq_some_iff.1 hk).1
  have hget:M[k]=it:=(List.getElem?_eq_some_iff.1 hk).2
  have hmem:it∈M:=List.mem_of_getElem? hk
  have g:=h.sub (M':=M.eraseIdx k) (Ps':=Ps) (List.eraseIdx_sublist ..) (fun _ x=>x)
  have sep:∀ m,m∈M.eraseIdx k→b∉m.fp:=by
    intro m hm hbm
    obtain ⟨i,hi,hmi⟩:=Zuf hm
    rw [List.getElem_eraseIdx] at hmi
    split at hmi
    · rename_i hik
      subst hmi
      exact(Zt3.1 h.dis i k (by omega) hlt hik) b hbm (hget ▸ hb)
    · rename_i hik
      have hi2:i < M.length - 1:=by rw [List.length_eraseIdx_of_lt hlt] at hi; exact hi
      subst hmi
      exact(Zt3.1 h.dis k (i+1) hlt (by omega) (by omega)) b (hget ▸ hb) hbm
  refine { g with os:=hB.os.trans h.os,tape:=hB.tape.trans h.tape,output:=hB.output.trans h.output,size:=Zt1 h.size hB.size,drawn:=Zt1 h.drawn hB.drawn,old:=fun c hc hx=>?_,m:=fun x hx=>?_,p:=fun x hx=>?_ }
  · by_cases e:c=b
    · subst e
      rcases h.mfp it hmem c hb with q | q
      · omega
      · exact absurd q hx
    · rw [hB.old c (Nat.lt_of_lt_of_le hc h.size) e]; exact h.old c hc hx
  · exact x.keep w w' (fun c hc=>hB.old c (x.low w (g.m x hx) c hc) (fun e=>sep x hx (e ▸ hc))) (g.m x hx)
  · exact x.keep w w' (fun c hc=>hB.old c (x.low w (h.p x hx) c hc) (fun e=>h.pd x hx c hc it hmem (e ▸ hb))) (h.p x hx)
theorem Zfq {b:Nat} (h:Bel w w'):BelB b w w':=⟨h.os,h.tape,h.output,h.size,h.drawn,fun c hc _=>h.block c hc⟩
theorem Zjd {P:Program} {Q:Exit→Act→World→Prop} {l:List Oper} {n:Nat} {e:Env} (b:Nat) {id:Nat} (m:Nat) (hm:P.follows .mixedOrders=true) (rows lk lf:List Nat) (hro:Zb5 l rows=true) (hk:lk.all (Zac rows l m)=true) (hf:lf.all (Zac rows l l.length)=true)
    (h:(∀ i,lk.contains i=true→Xm .any l.toArray m i=true)→(∀ i,lf.contains i=true→Xm .any l.toArray l.toArray.size i=true)→∀ w',Bel w w'→AE (BelB b) P .any l.toArray Q m n l.length (Ztv l.length false).toArray e w'):(Code.region id l.toArray true).wp P Q (actOf n e) w:=by
  refine wp_region_any hm ?_
  have:=(h (fun i hi=>Zc1 hro (List.all_eq_true.1 hk i (by simpa using hi))) (fun i hi=>Zc1 (m:=l.length) hro (List.all_eq_true.1 hf i (by simpa using hi))) { w with drawn:=w.drawn+1 } ⟨⟨rfl,rfl,rfl,Ztz _,fun _ _=>rfl⟩,Nat.le_succ _⟩).out (Zh0 _)
  have h2:=Zhy _ _ _ _ this
  simpa using h2
theorem BelB.belO {b:Nat} {l:List Nat} (h:BelB b w w') (hb:b∈l):BelO l w w':=⟨h.os,h.tape,h.output,h.size,h.drawn,fun c hc hn=>h.old c hc (fun e=>hn (e ▸ hb))⟩
end
end Vc
namespace Vc
open Go Go.RowKit
def kv2 (p:Int×Int):Value:=.agg #[.int .i64 p.1,.int .i64 p.2]
abbrev vvM (p:Nat):Value:=.map (some p)
section
variable {P:Program} {k el:TypeId}
theorem Zsp (hk:P.underlying k=some (.array 2 el)) (he:P.underlying el=some (.int .i64)) (hs:ScaT P el):KeyT P k kv2 where
  under:=⟨_,hk,.inl fun x u=>by cases u <;> rfl⟩
  check em w x:=by
    have hi:∀ m y,(Zvr em (m+1) el (.int .i64 y)).run P w=.ok () w:=by
      intro m y; unfold Zvr; simp [Ztt,run_underlying he]
    show (Zvr em (9999+1) k _).run P w=_
    unfold Zvr
    simp only [Ztt,run_underlying hk,Ztu]
    simp [Zx4,List.range',Jt hs.size,part,Zbz hs,kv2,Ztt,hi 9998]
  equal w x y:=by
    show (Op.equalIn (9999+1) k _ _).run P w=_
    unfold Op.equalIn
    simp only [Ztt,run_underlying hk,Ztu]
    simp [Zx4,List.range',Jt hs.size,part,Zbz hs,kv2,Ztt,Zkj (d:=9998) he]
    have e:(x=y)↔(x.1=y.1∧x.2=y.2):=by cases x; cases y; simp
    simp only [e]
    (repeat' split) <;> simp_all
  stays x:=by simp [Instr.sameBits,kv2]
end
theorem Zsq {w w':World} {a:Addr} {cs:List Value} (h:Xe w a cs) (hb:w'.heap[a.block]? = w.heap[a.block]?):Xe w' a cs:=by
  intro j u hj
  have e:(a.add j).block=a.block:=by unfold Addr.add; split <;> rfl
  exact(World.cell?_of_block (by rw [e]; exact hb)).trans (h j u hj)
theorem Zsr {α:Type} {t:Ty α} {xs:List α} {v:Value} {fp:List Nat} {w:World} (h:t.sl.rep xs [v] fp w) (hi:0 < xs.length):∃ A c,v=.slice (some A) xs.length c∧A.block∈fp:=by
  obtain ⟨v',ecs,e,⟨a0,a1,a2,A,c,rfl,anc,a3⟩,h2⟩:=h
  obtain rfl:v=_:=by simpa using e
  obtain ⟨a,rfl,ha,hc⟩:=a3 (by omega)
  exact⟨a,c,rfl,ha⟩
theorem Zss {mb:Nat} {ls:List (List (A8×Int))} {v:Value} {fp:List Nat} {w:World} (h:TSum.sl.rep ls [v] fp w) (i:Nat) (hi:i < ls.length) (hm:mb∉fp) :
    ∃ A c b,v=.slice (some A) ls.length c∧(∀ w',BelB mb w w'→Xe w' (A.add i) [.map (some b)])∧b∈fp∧(mapS b (ls.getD i [])).holds w:=by
  obtain ⟨A,c,b,e,hc,hb,hq⟩:=Zsj h i hi
  obtain ⟨A',c',e',hA⟩:=Zsr h (by omega)
  rw [e] at e'
  injection e' with e1
  injection e1 with e1
  subst e1
  refine⟨A,c,b,e,fun w' hB=>Zsq hc ?_,hb,by rwa [show ls.getD i []=ls[i] by simp [Zt7,hi]]⟩
  have eb:(A.add i).block=A.block:=by unfold Addr.add; split <;> rfl
  rw [eb]
  exact hB.old _ (TSum.sl.low h _ hA) fun e=>hm (e ▸ hA)
structure Kp where
  i:Int
  e:Int
  p:Nat
  s:List (A8×Int)
def Kp.key (d:Kp):(Int×Int)×Nat:=((d.i,d.e),d.p)
def Kp.ent (d:Kp):Nat×List (A8×Int):=(d.p,d.s)
def ldI (C : Int → Int → List (A8 × Int) → Prop) (mb : Nat) (D : List Kp) (E : List (Nat × List (A8 × Int))) : Item where
  fp:=mb::E.map (·.1)
  holds w:=(Zy kv2 vvM mb (D.map Kp.key)).holds w∧(∀ q,q∈E→(mapS q.1 q.2).holds w)∧(∀ d,d∈D→d.ent∈E∧C d.i d.e d.s)∧mb∉E.map (·.1)
  keep w w' h hw:=by
    obtain ⟨h1,h2,h3,h4⟩:=hw
    refine⟨(Zy kv2 vvM mb _).keep w w' (fun c hc=>h c ?_) h1,fun q hq=>(mapS q.1 q.2).keep w w' (fun c hc=>h c ?_) (h2 q hq),h3,h4⟩
    · obtain rfl:c=mb:=by simpa [Zy] using hc
      exact ZLw
    · obtain rfl:c=q.1:=by simpa [Zy] using hc
      exact ZLt _ (Zvb.2 ⟨q,hq,rfl⟩)
  low w hw b hb := by
    obtain ⟨h1,h2,h3,h4⟩:=hw
    rcases Ztw.1 hb with rfl | hb
    · exact(Zy kv2 vvM b _).low w h1 b (by simp [Zy])
    · obtain ⟨q,hq,rfl⟩:=Zvb.1 hb
      exact(mapS q.1 q.2).low w (h2 q hq) _ (by simp [Zy])
section
variable {C:Int→Int→List (A8×Int)→Prop} {mb:Nat} {D:List Kp} {E:List (Nat×List (A8×Int))} {w w':World}
theorem Zst (h:(ldI C mb D E).holds w) {p:Nat} {s:List (A8×Int)} (hp:(mapS p s).holds w) (ne:p≠mb):(ldI C mb D ((p,s)::E)).holds w:=by
  obtain ⟨h1,h2,h3,h4⟩:=h
  refine⟨h1,fun q hq=>?_,fun d hd=>⟨ZLt _ (h3 d hd).1,(h3 d hd).2⟩,fun hm=>?_⟩
  · rcases Ztw.1 hq with rfl | hq
    · exact hp
    · exact h2 q hq
  · rcases Ztw.1 hm with e | hm
    · exact ne e.symm
    · exact h4 hm
theorem Zsu {n:Int×Int} {b:Nat} (h:Yw (D.map Kp.key) n=some b):∃ d,d∈D∧((d.i,d.e):Int×Int)=n∧d.p=b:=by
  cases hf:Jl (D.map Kp.key) n 0 with
  | none=>rw [(Zb8 hf).1] at h; cases h
  | some q =>
    obtain ⟨j,v⟩:=q
    obtain ⟨_,h1,h2,h3⟩:=Zb9 hf
    rw [h2] at h
    obtain rfl:v=b:=by simpa using h
    have hm:=List.mem_of_getElem? h1
    obtain ⟨d,hd,e⟩:=Zvb.1 hm
    have e1:(d.i,d.e)=n:=congrArg Prod.fst e
    have e2:d.p=v:=congrArg Prod.snd e
    exact⟨d,hd,e1,e2⟩
theorem Zsv (D:List Kp) (n:Int×Int) (p:Nat) (s:List (A8×Int)):∃ D':List Kp,D'.map Kp.key=Yk (D.map Kp.key) n p∧∀ d,d∈D'→d∈D∨d=⟨n.1,n.2,p,s⟩:=by
  cases hf:Jl (D.map Kp.key) n 0 with
  | none=>exact⟨D++[⟨n.1,n.2,p,s⟩],by rw [(Zb8 hf).2.1 p,List.map_append]; rfl,fun d hd=>by
      rcases Zud.1 hd with q | q
      · exact .inl q
      · exact .inr (Zvn.1 q)⟩
  | some q =>
    obtain ⟨j,v⟩:=q
    refine⟨D.set j ⟨n.1,n.2,p,s⟩,?_,fun d hd=>?_⟩
    · rw [(Zb9 hf).2.2.2.1 p,List.map_set]; rfl
    · exact ZBs hd
end
def ldE (C : Int → Int → List (A8 × Int) → Prop) (D : List Kp) (E : List (Nat × List (A8 × Int))) : Item where
  fp:=E.map (·.1)
  holds w:=(∀ q,q∈E→(mapS q.1 q.2).holds w)∧(∀ d,d∈D→d.ent∈E∧C d.i d.e d.s)
  keep w w' h hw:=⟨fun q hq=>(mapS q.1 q.2).keep w w' (fun c hc=>h c (by
    obtain rfl:c=q.1:=by simpa [Zy] using hc
    exact Zvb.2 ⟨q,hq,rfl⟩)) (hw.1 q hq),hw.2⟩
  low w hw b hb:=by
    obtain ⟨q,hq,rfl⟩:=Zvb.1 hb
    exact(mapS q.1 q.2).low w (hw.1 q hq) _ (by simp [Zy])
theorem Zhh {C:Int→Int→List (A8×Int)→Prop} {mb:Nat} {D:List Kp} {E:List (Nat×List (A8×Int))} {w:World} (h:(ldI C mb D E).holds w):(Zy kv2 vvM mb (D.map Kp.key)).holds w∧(ldE C D E).holds w∧mb∉E.map (·.1):=⟨h.1,⟨h.2.1,h.2.2.1⟩,h.2.2.2⟩
theorem Zhi {C:Int→Int→List (A8×Int)→Prop} {mb:Nat} {D:List Kp} {E:List (Nat×List (A8×Int))} {w:World} (h1:(Zy kv2 vvM mb (D.map Kp.key)).holds w) (h2:(ldE C D E).holds w) (h3:mb∉E.map (·.1)):(ldI C mb D E).holds w:=⟨h1,h2.1,h2.2,h3⟩
def LdLe (w0:World) (E0 E:List (Nat×List (A8×Int))):Prop:=∀ x,x∈E.map (·.1)→x∈E0.map (·.1)∨w0.heap.size≤x
theorem LdLe.refl (w0:World) (E:List (Nat×List (A8×Int))):LdLe w0 E E:=fun x hx=>.inl hx
theorem LdLe.step {w0 w:World} {E0 E E':List (Nat×List (A8×Int))} (h:LdLe w0 E0 E) (hs:w0.heap.size≤w.heap.size) (hf:LdLe w E E'):LdLe w0 E0 E':=fun x hx=>(hf x hx).elim (h x) fun q=>.inr (Zt1 hs q)
theorem Zmp (C:Int→Int→List (A8×Int)→Prop) (w:World):(ldE C [] []).holds w:=⟨by simp,by simp⟩
section
variable {X:Nat→Prop} {w0 w w':World} {M Ps:List Item} {C:Int→Int→List (A8×Int)→Prop} {mb:Nat} {D D':List Kp} {E E':List (Nat×List (A8×Int))}
theorem Ctx.ldOff (h:Ctx X w0 w M Ps) (k j:Nat) (hk:M[k]? = some (Zy kv2 vvM mb (D.map Kp.key))) (hj:Ps[j]? = some (ldE C D E)):mb∉E.map (·.1):=fun hm =>
  h.pd _ (List.mem_of_getElem? hj) mb hm _ (List.mem_of_getElem? hk) (ZLo _)
theorem Ctx.ldTurn (h:Ctx X w0 w M Ps) (k j:Nat) (hk:M[k]? = some (Zy kv2 vvM mb (D.map Kp.key))) (hj:Ps[j]? = some (ldE C D E)) (hB:BelB mb w w') (h1:(Zy kv2 vvM mb (D'.map Kp.key)).holds w') (h2:(ldE C D' E').holds w') (h3:mb∉E'.map (·.1)) (hg:LdLe w E E') :
    Ctx X w0 w' (M.set k (Zy kv2 vvM mb (D'.map Kp.key))) (Ps.set j (ldE C D' E')) :=
  h.turnMP k j hk hj (hB.belO (ZLo _)) h1 h2 (fun b hb=>.inl hb) hg fun b hb hb2=>h3 (by obtain rfl:=Zvn.1 hb2; exact hb)
theorem Ctx.ldTurnP (h:Ctx X w0 w M Ps) (k j:Nat) (hk:M[k]? = some (Zy kv2 vvM mb (D.map Kp.key))) (hj:Ps[j]? = some (ldE C D E)) (hB:BelB mb w w') (h1:(Zy kv2 vvM mb (D'.map Kp.key)).holds w') (h2:(ldE C D' E').holds w') (h3:mb∉E'.map (·.1)) (hg:LdLe w E E')
    {nt:Item} (hn:nt.holds w') (hnf:∀ b,b∈nt.fp→w.heap.size≤b) (hnd:∀ b,b∈nt.fp→b∉E'.map (·.1)):Ctx X w0 w' (nt::M.set k (Zy kv2 vvM mb (D'.map Kp.key))) (Ps.set j (ldE C D' E')):=by
  have hmb:mb < w.heap.size:=(Zy kv2 vvM mb (D.map Kp.key)).low w (h.getM k hk) mb (ZLo _)
  exact h.turnMPN k j hk hj (hB.belO (ZLo _)) h1 h2 hn (fun b hb=>.inl hb) hg (fun b hb hb2=>h3 (by obtain rfl:=Zvn.1 hb2; exact hb)) hnf (fun b hb=>⟨fun q=>by have:=hnf b hb; obtain rfl:=Zvn.1 q; omega,hnd b hb⟩)
end
end Vc
set_option maxRecDepth 4000
set_option maxHeartbeats 4000000
namespace Go.Proofs.YtheenipahifleaaGreat
open Go Go.RowKit Vc
variable {b0 bp0 b1 bp1 b2 bp2 b3 bp3 b4 bp4 b5 bp5 b6 bp6 b7 bp7 mb0:Nat} {u0_0 u0_1 u0_2 u0_3 u0_4 u0_5 u1_0 u1_1 u1_2 u1_3 u1_4 u1_5 u2_0 u2_1 u2_2 u2_3 u2_4 u2_5 u3_0 u3_1 u3_2 u3_3 u3_4 u3_5 u4_0 u4_1 u4_2 u4_3 u4_4 u4_5 u5_0 u5_1 u5_2 u5_3 u5_4 u5_5 u6_0 u6_1 u6_2 u6_3 u6_4 u6_5 u7_0 u7_1 u7_2 u7_3 u7_4 u7_5:Value} {fp0 fp1 fp2 fp3 fp4 fp5 fp6 fp7 fp0_0 fp0_1 fp0_2 fp0_3 fp0_4 fp0_5 fp1_0 fp1_1 fp1_2 fp1_3 fp1_4 fp1_5 F0:List Nat}
def Zcq  (K:List (A8×Int)→Prop):Prop :=
 K (Yk ([]:List (A8×Int)) A8.zero 1)
theorem Zmq   {K:List (A8×Int)→Prop} (h:Zcq  K) (w0:World)  :
  Calls ZFb 86 #[] w0 fun e w'=>∃ (r0:List (A8×Int)) (zb0:Nat),
   e=.returned (.map (some zb0))∧K r0∧(mapS zb0 r0).holds w'∧w0.heap.size≤zb0∧Bel w0 w':=by
 unfold Zcq at h
 refine cof Tryz.func86 rfl 4 Tryz.ntmps86 ?_
 have hC:=ZFu (X:=Nox) w0 [] (by simp)
 refine sr (Zc (v:=.map none) rfl (dn (sr (Zbk hC (kvA .i64) (vvI .i64) fun b1 w3 hB_ hC=>Xp [] rfl (Zgo   _) ?_))))
 refine Zgg hC 0 A8.zero 1 rfl X5 ZF5 rfl rfl rfl (fun w4 hC=>?_) (.inr rfl)
 refine Zb (v:=.map (some b1)) rfl (Zc (v:=.map (some b1)) rfl (dn (ZFh ?_)))
 exact Zk rfl (Zg rfl) ⟨Yk ([]:List (A8×Int)) A8.zero 1,b1,rfl,h,(hC.getM 0 rfl),(Zei hC 0 rfl),hC.below⟩ (.inl rfl)
end Go.Proofs.YtheenipahifleaaGreat
set_option maxRecDepth 4000
set_option maxHeartbeats 4000000
namespace Go.Proofs.YtheenipahifleaaGreat
open Go Go.RowKit Vc
theorem lsc94:ScaT ZFb 94:=⟨⟨_,ZMn,rfl⟩,by kernel_rfl⟩
theorem lsc95:ScaT ZFb 95:=⟨⟨_,Tryz.underlying95,rfl⟩,by kernel_rfl⟩
theorem lag141:AggT ZFb 141 2:=⟨⟨_,Tryz.underlying141,rfl⟩,by kernel_rfl⟩
theorem Zsw:Xj ZFb 141 (.agg #[.int .i64 0,.int .i64 0]):=by unfold Xj; kernel_rfl
theorem Zsx:Xj ZFb 99 (.map none):=by unfold Xj; kernel_rfl
theorem Zmr:KeyT ZFb 141 kv2:=Zsp Tryz.underlying141 Tryz.underlying3 sc3
theorem Zsy (a b:Int) (w:World):(Instr.build 141 #[(0,.int .i64 a),(1,.int .i64 b)]).run ZFb w=.ok (.agg #[.int .i64 a,.int .i64 b]) w:=by kernel_rfl
def Zd1 (C:Int→Int→List (A8×Int)→Prop) (to:List Int) (imgs:List (List (A8×Int))) (i:Nat) (e:Nat):Prop :=
  Zcq (fun r=>C i 0 r)∧∀ k:Nat,k < e→∀ r,C i k r→J4 r to (imgs.getD i []) (fun s=>C i ((k:Int)+1) s)
theorem Zsz (C : Int → Int → List (A8 × Int) → Prop) (to : List Int) (imgs : List (List (A8 × Int))) (i : Nat) (hi : i < imgs.length) {lb mb : Nat} {uf ut ui : Value} {ft fi : List Nat} : ∀ (e : Nat) (he : e ≤ 1000) {D : List Kp} {E : List (Nat × List (A8 × Int))} (h : Zd1 C to imgs i e) (w0 : World)
    (ql:(blk lb 97 [uf,ut,ui,.map (some mb)]).holds w0) (qt:TInts.rep to [ut] ft w0) (qi:TSum.sl.rep imgs [ui] fi w0) (qd:(ldI C mb D E).holds w0) (dl:lb≠mb) (dt:∀ b,b∈ft→b≠mb) (di:∀ b,b∈fi→b≠mb),
    Calls ZFb 88 #[.pointer (some ⟨lb,0,none⟩),.int .i64 (i:Int),.int .i64 (e:Int)] w0 fun ret w'=>∃ (p:Nat) (s:List (A8×Int)) (D':List Kp) (E':List (Nat×List (A8×Int))),
      ret=.returned (.map (some p))∧C i e s∧(p,s)∈E'∧(ldI C mb D' E').holds w'∧(∀ x,x∈(ldI C mb D' E').fp→x∈(ldI C mb D E).fp∨w0.heap.size≤x)∧BelB mb w0 w':=by
  intro e
  induction e with
  | zero =>
    intro he D E h w0 ql qt qi qd dl dt di
    obtain ⟨k1,k2,k3⟩:=Zhh qd
    refine cof (args:=[.pointer (some ⟨lb,0,none⟩),.int .i64 (i:Int),.int .i64 ((0:Nat):Int)]) ZMa rfl 52 Tryz.ntmps88 ?_
    have hC:=Ctx.start1 w0 mb (it:=Zy kv2 vvM mb (D.map Kp.key)) rfl [ldE C D E] k1 (al1 k2) (al1 fun c hc ec=>k3 (ec ▸ hc))
    refine sr (Zc (v:=.map none) rfl (dn (ZE9 (sr (Zb (v:=.int .i64 ((0:Nat):Int)) rfl (Jh rfl rfl (dn ?_)))))))
    refine Z8 rfl (decide_eq_true rfl) (sr (Zf [] _ Tryz.func86 rfl rfl rfl (Zmq h.1 _) ?_))
    rintro _ w1 ⟨r,p,rfl,hr,hm,hf,hB⟩
    refine rt ?_
    replace hC:=hC.push hB (mapS p r) hm (fun b_ hb_=>by obtain rfl:=Zvn.1 hb_; exact hf)
    refine Zc (v:=.map (some p)) rfl (dn (ZFh ?_))
    have lowE:∀ x,x∈E.map (·.1)→x < w0.heap.size:=fun x hx=>(ldE C D E).low w0 k2 x hx
    have hmb:mb < w0.heap.size:=(Zy kv2 vvM mb (D.map Kp.key)).low w0 k1 mb (by simp [Zy])
    refine Ze (Zk (v:=.map (some p)) rfl (Zg rfl) ⟨p,r,D,(p,r)::E,rfl,hr,ZLw,?_,?_,hC.belB⟩ (.inl rfl))
    · exact Zst (Zhi (hC.getM 1 rfl) (hC.getP 0 rfl) k3) (hC.getM 0 rfl) (by omega)
    · intro x hx
      rcases Ztw.1 hx with e | hx
      · exact .inl (e ▸ ZLw)
      · rcases Ztw.1 hx with e | hx
        · exact .inr (by rw [e]; exact hf)
        · exact .inl (ZLt _ hx)
  | succ e ih =>
    intro he D E h w0 ql qt qi qd dl dt di
    obtain ⟨k1,k2,k3⟩:=Zhh qd
    have wr:Zwe.wrap (((e+1:Nat):Int) - 1)=(e:Int):=by rw [i64_in _ (by omega)]; omega
    have hP:Zd1 C to imgs i e:=⟨h.1,fun k hk=>h.2 k (by omega)⟩
    refine cof (args:=[.pointer (some ⟨lb,0,none⟩),.int .i64 (i:Int),.int .i64 ((e+1:Nat):Int)]) ZMa rfl 52 Tryz.ntmps88 ?_
    have hC:=Ctx.start1 w0 mb (it:=Zy kv2 vvM mb (D.map Kp.key)) rfl [ldE C D E,blk lb 97 [uf,ut,ui,.map (some mb)],ZBl TInts to [ut] ft,ZBl TSum.sl imgs [ui] fi] k1 (alc k2 (alc ql (alc qt (al1 qi))))
      (alc (fun c hc ec=>k3 (ec ▸ hc)) (alc (fun c hc ec=>dl ((Zvn.1 hc).symm.trans ec)) (alc dt (al1 di))))
    refine sr (Zc (v:=.map none) rfl (dn (ZE9 (sr (Zb (v:=.int .i64 ((e+1:Nat):Int)) rfl (Jh rfl rfl (dn ?_)))))))
    refine Ya rfl (decide_eq_false (by omega)) (ZFc (Zd ?_))
    refine sr (Zb (v:=.int .i64 (i:Int)) rfl (Zb (v:=.int .i64 ((e+1:Nat):Int)) rfl (Xp [(0,.int .i64 (i:Int)),(1,.int .i64 ((e+1:Nat):Int))] rfl (Zsy _ _ _) (Yb hC [.int .i64 0,.int .i64 0] Zsw rfl fun kb w1 hB_ hC=>?_))))
    refine Zu (v:=.agg (ZE8 [.int .i64 (i:Int),.int .i64 ((e+1:Nat):Int)])) hC 0 [.int .i64 (i:Int),.int .i64 ((e+1:Nat):Int)] [.int .i64 (i:Int),.int .i64 ((e+1:Nat):Int)] rfl lag141.size rfl rfl rfl rfl rfl (ZFi rfl) rfl fun w2 hC=>?_
    refine dn ?_
    refine ZE9 (ZE9 ?_)
    refine Zh1 10 mixed [0,1,3,7,0,31,63,127,127,255,1023] [3,4] [0,1,2,6,7,8,9] (by kernel_rfl) (by kernel_rfl) (by kernel_rfl) (fun hM1 hM2 w3 hB_=>?_)
    replace hC:=hC.grow hB_
    refine aF 0 (.pointer (some ⟨lb,0,none⟩)) rfl rfl (hM2 0 rfl) rfl (fun _=>by exact Xw (v:=.pointer (some ⟨lb,0,none⟩)) rfl) (Za 11 1) ?_
    refine aF 1 (.pointer (some ⟨lb,0,none⟩)) rfl rfl (hM2 1 rfl) rfl (fun _=>by exact Jn rfl) (Za 11 3) ?_
    refine aF 2 (.pointer (some ⟨lb,3,none⟩)) rfl rfl (hM2 2 rfl) rfl (fun _=>by exact Ye 3 ZLz rfl lsc94.size rfl rfl) (Za 11 7) ?_
    refine aL 3 (.map (some mb)) rfl rfl (hM1 3 rfl) rfl (fun _ hB_=>by exact Zae (.map (some mb)) ((hC.grow hB_).getP 1 rfl) lsc94 rfl rfl) (Za 11 15) ?_
    refine aL 4 (.agg (ZE8 [.int .i64 (i:Int),.int .i64 ((e+1:Nat):Int)])) rfl rfl (hM1 4 rfl) rfl (fun _ hB_=>by exact Yo (hC.grow hB_) 0 [.int .i64 (i:Int),.int .i64 ((e+1:Nat):Int)] rfl lag141 rfl rfl rfl) (Za 11 31) ?_
    refine aO 5 rfl (Zso ((i:Int),((e+1:Nat):Int)) (.map none) (hC.getM 1 rfl) Zmr ZMn Zsx rfl rfl (fun b hg=>?_) (fun hg=>?_))
    · refine done (aK (Bel.refl _) (Za 11 63) ?_)
      obtain ⟨d,hd,ed,rfl⟩:=Zsu hg
      refine aF 6 (.tuple #[vvM d.p,.bool true]) rfl rfl (hM2 6 rfl) rfl (fun _=>by exact Xw (v:=.tuple #[vvM d.p,.bool true]) rfl) (Za 11 127) ?_
      refine aF 7 (vvM d.p) rfl rfl (hM2 7 rfl) rfl (fun _=>by exact Jm (v:=vvM d.p) rfl rfl) (Za 11 255) ?_
      refine aF 8 (.bool true) rfl rfl (hM2 8 rfl) rfl (fun _=>by exact Jm (v:=.bool true) rfl rfl) (Za 11 511) ?_
      refine aF 9 (vvM d.p) rfl rfl (hM2 9 rfl) rfl (fun _=>by exact Zhs (v:=vvM d.p) rfl) (Za 11 1023) ?_
      refine Z0 10 (by decide) (by decide) (by kernel_rfl) (by kernel_rfl) rfl ?_
      refine Zc (v:=.bool true) rfl (done (Z1 ?_))
      refine Zd (sr (Zb (v:=.bool true) rfl (dn ?_)))
      refine Z8 rfl rfl (sr (Zb (v:=vvM d.p) rfl (Zc (v:=vvM d.p) rfl (dn (ZFh ?_)))))
      obtain ⟨hE,hCd⟩:=k2.2 d hd
      obtain ⟨ei,ee⟩:d.i=(i:Int)∧d.e=((e+1:Nat):Int):=⟨congrArg Prod.fst ed,congrArg Prod.snd ed⟩
      rw [ei,ee] at hCd
      refine Ze (Zk (v:=vvM d.p) rfl (Zg rfl) ⟨d.p,d.s,D,E,rfl,hCd,hE,?_,fun x hx=>.inl hx,hC.belB⟩ (.inl rfl))
      exact Zhi (hC.getM 1 rfl) (hC.getP 0 rfl) k3
    · refine done (aK (Bel.refl _) (Za 11 63) ?_)
      refine aF 6 (.tuple #[.map none,.bool false]) rfl rfl (hM2 6 rfl) rfl (fun _=>by exact Xw (v:=.tuple #[.map none,.bool false]) rfl) (Za 11 127) ?_
      refine aF 7 (.map none) rfl rfl (hM2 7 rfl) rfl (fun _=>by exact Jm (v:=.map none) rfl rfl) (Za 11 255) ?_
      refine aF 8 (.bool false) rfl rfl (hM2 8 rfl) rfl (fun _=>by exact Jm (v:=.bool false) rfl rfl) (Za 11 511) ?_
      refine aF 9 (.map none) rfl rfl (hM2 9 rfl) rfl (fun _=>by exact Zhs (v:=.map none) rfl) (Za 11 1023) ?_
      refine Z0 10 (by decide) (by decide) (by kernel_rfl) (by kernel_rfl) rfl ?_
      refine Zc (v:=.bool false) rfl (done (Z1 ?_))
      refine Zd (sr (Zb (v:=.bool false) rfl (dn ?_)))
      refine Ya rfl rfl (ZFc (Zd ?_))
      have hmf:mb∉fi:=fun hb=>di mb hb rfl
      obtain ⟨Ai,ci,pi,rfl,hci,hpi,hmi⟩:=Zss (hC.getP 3 rfl) i hi hmf
      refine ZE9 ?_
      refine Zjd mb 16 mixed [0,0,0,4,15,0,32,96,224,0,512,1536,3584,0,15872,32256,65535,131071] [8,12,15] [0,1,2,3,5,6,7,9,10,11,13,14] (by kernel_rfl) (by kernel_rfl) (by kernel_rfl) (fun hM1 hM2 w4 hB_=>?_)
      replace hC:=hC.grow hB_
      have hci:∀ w',BelB mb w4 w'→Xe w' (Ai.add i) [.map (some pi)]:=fun w' hB=>hci w' ((Y3 mb).trans (Zfq hB_) hB)
      refine bMR (Y3 mb) 0 (.pointer (some ⟨lb,0,none⟩)) rfl hM2 (Za 18 1) (bMR (Y3 mb) 1 (.int .i64 (i:Int)) rfl hM2 (Za 18 3) (bMR (Y3 mb) 2 (.int .i64 ((e+1:Nat):Int)) rfl hM2 (Za 18 7) ?_))
      refine Zp (Y3 mb) 3 (.int .i64 (e:Int)) rfl rfl (by kernel_rfl) (hM2 3 rfl) (fun w_=>.inl ⟨rfl,by rw [← wr]; exact Zht rfl rfl⟩) (l9:=(Za 18 15)) (by kernel_rfl) ?_
      refine bMR (Y3 mb) 5 (.pointer (some ⟨lb,0,none⟩)) rfl hM2 (Za 18 47) ?_
      refine Zp (Y3 mb) 6 (.pointer (some ⟨lb,0,none⟩)) rfl rfl (by kernel_rfl) (hM2 6 rfl) (fun w_=>.inl ⟨rfl,by exact Jn rfl⟩) (l9:=(Za 18 111)) (by kernel_rfl) ?_
      refine Zp (Y3 mb) 7 (.pointer (some ⟨lb,1,none⟩)) rfl rfl (by kernel_rfl) (hM2 7 rfl) (fun w_=>.inl ⟨rfl,by exact Ye 1 ZLz rfl sc22.size rfl rfl⟩) (l9:=(Za 18 239)) (by kernel_rfl) ?_
      refine Ja (Y3 mb) 8 ut rfl rfl (by kernel_rfl) (hM1 8 rfl) (fun w_ hB_=>.inl ⟨rfl,by exact Zae ut ((hC.growC 1 rfl (ZLo _) hB_).getP 1 rfl) sc22 rfl rfl⟩) (l9:=(Za 18 495)) (by kernel_rfl) ?_
      refine bMR (Y3 mb) 9 (.pointer (some ⟨lb,0,none⟩)) rfl hM2 (Za 18 1007) ?_
      refine Zp (Y3 mb) 10 (.pointer (some ⟨lb,0,none⟩)) rfl rfl (by kernel_rfl) (hM2 10 rfl) (fun w_=>.inl ⟨rfl,by exact Jn rfl⟩) (l9:=(Za 18 2031)) (by kernel_rfl) ?_
      refine Zp (Y3 mb) 11 (.pointer (some ⟨lb,2,none⟩)) rfl rfl (by kernel_rfl) (hM2 11 rfl) (fun w_=>.inl ⟨rfl,by exact Ye 2 ZLz rfl lsc95.size rfl rfl⟩) (l9:=(Za 18 4079)) (by kernel_rfl) ?_
      refine Ja (Y3 mb) 12 (.slice (some Ai) imgs.length ci) rfl rfl (by kernel_rfl) (hM1 12 rfl) (fun w_ hB_=>.inl ⟨rfl,by exact Zae (.slice (some Ai) imgs.length ci) ((hC.growC 1 rfl (ZLo _) hB_).getP 1 rfl) lsc95 rfl rfl⟩) (l9:=(Za 18 8175)) (by kernel_rfl) ?_
      refine bMR (Y3 mb) 13 (.int .i64 (i:Int)) rfl hM2 (Za 18 16367) ?_
      refine Zp (Y3 mb) 14 (.pointer (some (Ai.add (i * 1)))) rfl rfl (by kernel_rfl) (hM2 14 rfl) (fun w_=>.inl ⟨rfl,by exact Yy (len:=imgs.length) Tryz.underlying95 sc99.size rfl rfl (ZFq _) (ZF8.2 hi)⟩) (l9:=(Za 18 32751)) (by kernel_rfl) ?_
      refine Ja (Y3 mb) 15 (.map (some pi)) rfl rfl (by kernel_rfl) (hM1 15 rfl) (fun w_ hB_=>.inl ⟨rfl,by exact J7 (.map (some pi)) (by rw [Nat.mul_one]; exact hci w_ hB_) sc99 rfl⟩) (l9:=(Za 18 65519)) (by kernel_rfl) ?_
      refine aO 4 rfl ?_
      refine Zf [.pointer (some ⟨lb,0,none⟩),.int .i64 (i:Int),.int .i64 (e:Int)] _ ZMa rfl rfl rfl (ih (by omega) hP _ (hC.getP 1 rfl) (hC.getP 2 rfl) (hC.getP 3 rfl) (Zhi (hC.getM 1 rfl) (hC.getP 0 rfl) k3) dl dt di) ?_
      rintro _ w5 ⟨p,r,D1,E1,rfl,hCr,hpr,hld,hfp,hB1⟩
      refine rt ?_
      obtain ⟨j1,j2,j3⟩:=Zhh hld
      have hs4:=hC.size
      have hmi:=(mapS pi (imgs.getD i [])).keep _ w5 (fun c hc=>by
        obtain rfl:c=pi:=by simpa [Zy] using hc
        exact((Y3 mb).trans (Zfq hB_) hB1).old _ ((mapS c (imgs.getD i [])).low _ hmi c hc) (fun q=>hmf (q ▸ hpi))) hmi
      replace hC:=hC.turnMP 1 0 (jt:=Zy kv2 vvM mb (D1.map Kp.key)) (qt:=ldE C D1 E1) rfl rfl (hB1.belO (ZLo _)) j1 j2 (fun b hb=>.inl hb) (fun b hb=>(hfp b (ZLt _ hb)).elim (fun q=>by
        rcases Ztw.1 q with q | q
        · exact absurd (q ▸ hb) j3
        · exact .inl q) .inr) (fun b hb hb2=>j3 (by obtain rfl:=Zvn.1 hb2; exact hb))
      refine done (aK hB1 (Za 18 65535) ?_)
      refine Z0 16 (by decide) (by decide) (by kernel_rfl) (by kernel_rfl) rfl ?_
      have e1:((e+1:Nat):Int)=(e:Int)+1:=by omega
      refine Zf [.map (some p),ut,.map (some pi)] _ Tryz.func87 rfl rfl rfl (X7 r to (imgs.getD i []) (h.2 e (by omega) r hCr) _ ((hC.getP 0 rfl).1 (p,r) hpr) (hC.getP 2 rfl) hmi) ?_
      rintro _ w6 ⟨s,ps,rfl,hs,hsm,hsf,hB2⟩
      refine rt ?_
      have hs5:=hC.size
      replace hC:=hC.push hB2 (mapS ps s) hsm (fun b_ hb_=>by obtain rfl:=Zvn.1 hb_; exact hsf)
      refine Zc (v:=.map (some ps)) rfl (done (Z1 ?_))
      refine Zd (ZE9 ?_)
      refine Zh1 6 mixed [0,1,3,7,0,0,63] [3,4] [0,1,2,5] (by kernel_rfl) (by kernel_rfl) (by kernel_rfl) (fun hM1 hM2 w7 hB_=>?_)
      replace hC:=hC.grow hB_
      refine aF 0 (.pointer (some ⟨lb,0,none⟩)) rfl rfl (hM2 0 rfl) rfl (fun _=>by exact Xw (v:=.pointer (some ⟨lb,0,none⟩)) rfl) (Za 7 1) ?_
      refine aF 1 (.pointer (some ⟨lb,0,none⟩)) rfl rfl (hM2 1 rfl) rfl (fun _=>by exact Jn rfl) (Za 7 3) ?_
      refine aF 2 (.pointer (some ⟨lb,3,none⟩)) rfl rfl (hM2 2 rfl) rfl (fun _=>by exact Ye 3 ZLz rfl lsc94.size rfl rfl) (Za 7 7) ?_
      refine aL 3 (.map (some mb)) rfl rfl (hM1 3 rfl) rfl (fun _ hB_=>by exact Zae (.map (some mb)) ((hC.grow hB_).getP 1 rfl) lsc94 rfl rfl) (Za 7 15) ?_
      refine aL 4 (.agg (ZE8 [.int .i64 (i:Int),.int .i64 ((e+1:Nat):Int)])) rfl rfl (hM1 4 rfl) rfl (fun _ hB_=>by exact Yo (hC.grow hB_) 1 [.int .i64 (i:Int),.int .i64 ((e+1:Nat):Int)] rfl lag141 rfl rfl rfl) (Za 7 31) ?_
      refine aF 5 (.map (some ps)) rfl rfl (hM2 5 rfl) rfl (fun _=>by exact Xw (v:=.map (some ps)) rfl) (Za 7 63) ?_
      refine Z0 6 (by decide) (by decide) (by kernel_rfl) (by kernel_rfl) rfl ?_
      refine Zgg hC 2 ((i:Int),((e+1:Nat):Int)) ps rfl Zmr ZMn rfl rfl rfl (fun w8 hC=>?_) (.inl rfl)
      refine done (Z1 ?_)
      refine Zd (sr (Zb (v:=.map (some ps)) rfl (Zc (v:=.map (some ps)) rfl (dn (ZFh ?_)))))
      obtain ⟨D2,hD2,hD2m⟩:=Zsv D1 ((i:Int),((e+1:Nat):Int)) ps s
      have hmb:mb < w0.heap.size:=(Zy kv2 vvM mb (D.map Kp.key)).low w0 k1 mb (by simp [Zy])
      have hCs:C i ((e+1:Nat):Int) s:=by rw [e1]; exact hs
      refine Zk (v:=.map (some ps)) rfl (Zg rfl) ⟨ps,s,D2,(ps,s)::E1,rfl,hCs,ZLw,?_,?_,hC.belB⟩ (.inl rfl)
      · have f1:=hC.getM 2 rfl
        rw [← hD2] at f1
        have f2:=hC.getP 0 rfl
        refine⟨f1,fun q hq=>?_,fun d hd=>?_,fun hm=>?_⟩
        · rcases Ztw.1 hq with rfl | hq
          · exact hC.getM 0 rfl
          · exact f2.1 q hq
        · rcases hD2m d hd with q | rfl
          · exact⟨ZLt _ (f2.2 d q).1,(f2.2 d q).2⟩
          · exact⟨ZLw,hCs⟩
        · rcases Ztw.1 hm with q | q
          · dsimp only at q; omega
          · exact j3 q
      · intro x hx
        rcases Ztw.1 hx with q | hx
        · exact .inl (q ▸ ZLw)
        · rcases Ztw.1 hx with q | hx
          · exact .inr (by rw [q]; dsimp only; omega)
          · exact(hfp x (ZLt _ hx)).imp id fun q=>by omega
theorem Zs0 (C:Int→Int→List (A8×Int)→Prop) (to:List Int) (imgs:List (List (A8×Int))) (i:Nat) (e:Int) {lb mb:Nat} {uf ut ui:Value} {ft fi:List Nat} {D:List Kp} {E:List (Nat×List (A8×Int))} (h:(i < imgs.length∧0≤e∧e≤1000)∧Zd1 C to imgs i e.toNat) (w0:World)
    (ql:(blk lb 97 [uf,ut,ui,.map (some mb)]).holds w0) (qt:TInts.rep to [ut] ft w0) (qi:TSum.sl.rep imgs [ui] fi w0) (q1:(Zy kv2 vvM mb (D.map Kp.key)).holds w0) (q2:(ldE C D E).holds w0) (q3:mb∉E.map (·.1)) (dl:lb≠mb) (dt:∀ b,b∈ft→b≠mb) (di:∀ b,b∈fi→b≠mb) :
    Calls ZFb 88 #[.pointer (some ⟨lb,0,none⟩),.int .i64 (i:Int),.int .i64 e] w0 fun ret w'=>∃ (p:Nat) (s:List (A8×Int)) (D':List Kp) (E':List (Nat×List (A8×Int))),
      ret=.returned (.map (some p))∧C i e s∧(p,s)∈E'∧(Zy kv2 vvM mb (D'.map Kp.key)).holds w'∧(ldE C D' E').holds w'∧mb∉E'.map (·.1)∧LdLe w0 E E'∧BelB mb w0 w':=by
  obtain ⟨⟨hi,h0,h1⟩,hp⟩:=h
  obtain ⟨n,rfl⟩:∃ n:Nat,e=(n:Int):=⟨e.toNat,by omega⟩
  rw [Int.toNat_natCast] at hp
  refine(Zsz C to imgs i hi n (by omega) hp w0 ql qt qi (Zhi q1 q2 q3) dl dt di).mono ?_
  rintro r w' ⟨p,s,D',E',rfl,hc,hps,hld,hfp,hB⟩
  obtain ⟨j1,j2,j3⟩:=Zhh hld
  refine⟨p,s,D',E',rfl,hc,hps,j1,j2,j3,fun x hx=>(hfp x (ZLt _ hx)).imp (fun q=>?_) id,hB⟩
  rcases Ztw.1 q with q | q
  · exact absurd (q ▸ hx) j3
  · exact q
end Go.Proofs.YtheenipahifleaaGreat
set_option maxRecDepth 4000
set_option maxHeartbeats 4000000
namespace Go.Proofs.YtheenipahifleaaGreat
open Go Go.RowKit Vc
variable {b0 bp0 b1 bp1 b2 bp2 b3 bp3 b4 bp4 b5 bp5 b6 bp6 b7 bp7 mb0:Nat} {Dk0:List Kp} {Ek0:List (Nat×List (A8×Int))} {u0_0 u0_1 u0_2 u0_3 u0_4 u0_5 u1_0 u1_1 u1_2 u1_3 u1_4 u1_5 u2_0 u2_1 u2_2 u2_3 u2_4 u2_5 u3_0 u3_1 u3_2 u3_3 u3_4 u3_5 u4_0 u4_1 u4_2 u4_3 u4_4 u4_5 u5_0 u5_1 u5_2 u5_3 u5_4 u5_5 u6_0 u6_1 u6_2 u6_3 u6_4 u6_5 u7_0 u7_1 u7_2 u7_3 u7_4 u7_5:Value} {fp0 fp1 fp2 fp3 fp4 fp5 fp6 fp7 fp0_0 fp0_1 fp0_2 fp0_3 fp0_4 fp0_5 fp1_0 fp1_1 fp1_2 fp1_3 fp1_4 fp1_5 F0:List Nat}
def Zd2 (Cl:Int→Int→List (A8×Int)→Prop) (a5:List Int) (a6:List Int) (a7:List (List (A8×Int))) (a1:List (A8×Int)) (K:List (A8×Int)→Prop):Prop :=
 Zaf (fun (q10:A8×Int) (s11:(List (A8×Int))) nx11=>Zcq  (fun r11=>Yg (fun i10 (s10:(List (A8×Int))) nx10=>((0≤(i10:Int)∧(i10:Int) < 8)∧(if q10.1.get i10 > 0 then((0≤(i10:Int)∧(i10:Int) < 8)∧(((i10 < a7.length∧0≤q10.1.get i10∧q10.1.get i10≤1000)∧Zd1 Cl a6 a7 i10 (q10.1.get i10).toNat)∧∀ (r10:List (A8×Int)),Cl (i10:Int) (q10.1.get i10) r10→J4 s10 a6 r10 (fun r12=>nx10 r12))) else nx10 s10))) (fun (s10:(List (A8×Int)))=>Zax s11 s10 q10.2 (fun m10=>nx11 m10)) a5.length 0 r11)) (fun (s11:(List (A8×Int)))=>K s11) a1.length a1 ([]:List (A8×Int))
theorem Zms (Cl:Int→Int→List (A8×Int)→Prop) (a5:List Int) (a6:List Int) (a7:List (List (A8×Int))) (a1:List (A8×Int))  {K:List (A8×Int)→Prop} (h:Zd2 Cl a5 a6 a7 a1 K) (w0:World) (q5:TInts.rep a5 [u5_0] fp5 w0) (q6:TInts.rep a6 [u6_0] fp6 w0) (q7:((Zbw (kvA .i64) (vvI .i64)).sl).rep a7 [u7_0] fp7 w0) (qbp0:(blk bp0 97 [u5_0,u6_0,u7_0,.map (some mb0)]).holds w0) (qm0:(Zy kv2 vvM mb0 (Dk0.map Kp.key)).holds w0) (qe0:(ldE Cl Dk0 Ek0).holds w0) (qo0:mb0∉Ek0.map (·.1)) (dbp0:bp0≠mb0) (d5:∀ c,c∈fp5→c≠mb0) (d6:∀ c,c∈fp6→c≠mb0) (d7:∀ c,c∈fp7→c≠mb0) (q1:(mapS b1 a1).holds w0) (d1:∀ c,c∈[b1]→c≠mb0) :
  Calls ZFb 65 #[vQ bp0,.map (some b1)] w0 fun e w'=>∃ (r0:List (A8×Int)) (zb0:Nat) (Dz:List Kp) (Ez:List (Nat×List (A8×Int))),
   e=.returned (.map (some zb0))∧K r0∧(mapS zb0 r0).holds w'∧w0.heap.size≤zb0∧(Zy kv2 vvM mb0 (Dz.map Kp.key)).holds w'∧(ldE Cl Dz Ez).holds w'∧mb0∉Ez.map (·.1)∧LdLe w0 Ek0 Ez∧zb0∉Ez.map (·.1)∧BelB mb0 w0 w':=by
 unfold Zd2 at h
 refine cof Tryz.func65 rfl 49 Tryz.ntmps65 ?_
 have hC:=Ctx.start1 w0 mb0 (it:=Zy kv2 vvM mb0 (Dk0.map Kp.key)) rfl [ZBl TInts a5 [u5_0] fp5,ZBl TInts a6 [u6_0] fp6,ZBl ((Zbw (kvA .i64) (vvI .i64)).sl) a7 [u7_0] fp7,mapS b1 a1,ldE Cl Dk0 Ek0,blk bp0 97 [u5_0,u6_0,u7_0,.map (some mb0)]] qm0 (alc q5 (alc q6 (alc q7 (alc q1 (alc qe0 (al1 qbp0)))))) (alc d5 (alc d6 (alc d7 (alc d1 (alc (fun c_ hc_ e_=>qo0 (e_ ▸ hc_)) (al1 (fun c_ hc_ e_=>dbp0 ((Zvn.1 hc_).symm.trans e_))))))))
 refine sr (Zc (v:=.map none) rfl (dn (sr (Zbk hC (kvA .i64) (vvI .i64) fun b8 w10 hB_ hC=>Zc (v:=.map (some b8)) rfl (dn (ZE9 (sr (Zb (v:=.map (some b1)) rfl (Zc2 hC 3 rfl ZF5 rfl fun r13 es10 ck10 w11 hB_ hn10 hbn10 hC=>dn (ZFf ?_))))))))))
 refine Zc6 (S:=(List (A8×Int))) _ _ (fun l11 s11 e_ w_=>∃ (D350:List Kp),∃ (E351:List (Nat×List (A8×Int))),∃ (la10:Option MapEntry),Z2 e_ [(0,vQ bp0),(5,.map (some b8)),(12,vQ r13)]∧LdLe w0 Ek0 E351∧Ctx (fun c_=>c_=mb0) w0 w_ [itI (kvA .i64) (vvI .i64) r13 b1 es10 ck10 la10 l11,mapS b8 s11,Zy kv2 vvM mb0 (D350.map Kp.key)] [Jw b1 es10 ck10,ZBl TInts a5 [u5_0] fp5,ZBl TInts a6 [u6_0] fp6,ZBl ((Zbw (kvA .i64) (vvI .i64)).sl) a7 [u7_0] fp7,mapS b1 a1,ldE Cl D350 E351,blk bp0 97 [u5_0,u6_0,u7_0,.map (some mb0)]]) ?_ (l0:=a1) (s0:=([]:List (A8×Int))) ?_ h
 ·clear hC h
  rintro l11 s11 e_ w12 nx11 K11 ⟨D350,E351,la10,hS_,hq11,hC⟩ h hK11
  rw [ue hS_]
  refine sr ?_
  refine Zc3 hC 0 0 rfl rfl hn10 hbn10 rfl (fun hr10=>?_) (fun q10 l10 ent10 w13 hp10 hk10 hv10 hC=>?_)
  ·replace h:=h.1 hr10
   refine Y2 (v:=.bool false) rfl rfl (dn (ZE9 (Ya rfl rfl ?_)))
   refine ZFn (Zm (Zm (Z5 ?_)))
   refine Zd (sr (Zb (v:=.map (some b8)) rfl (Zc (v:=.map (some b8)) rfl (dn (ZFh ?_)))))
   exact Zk rfl (Zg rfl) ⟨s11,b8,D350,E351,rfl,h,(hC.getM 1 rfl),((hC.mfk 1 rfl _ (ZLo _)).elim id (fun e_=>absurd (Zvn.2 e_) (hC.mm 1 2 rfl rfl (by decide) _ (ZLo _)))),(hC.getM 2 rfl),(hC.getP 5 rfl),(hC.ldOff 2 5 rfl rfl),hq11,(fun hm_=>hC.pdk 5 1 rfl rfl _ hm_ (ZLo _)),hC.belB⟩ (.inl rfl)
  ·replace h:=h.2 q10 l10 hp10
   refine Y2 (v:=.bool true) rfl rfl (dn (ZE9 (Z8 rfl rfl (ZFc (Zd (ZFf (sr (Zc4 hC 0 0 q10 rfl rfl hn10 rfl hk10 hv10 (Y2 (v:=.agg (ZE8 (A8.enc .i64 q10.1))) rfl rfl (Y2 (v:=vI q10.2) rfl rfl (Yb hC (A8.enc .i64 A8.zero) J3 rfl fun b11 w14 hB_ hC=>Zu (v:=.agg (ZE8 (A8.enc .i64 q10.1))) hC 0 (A8.enc .i64 q10.1) (A8.enc .i64 q10.1) rfl ag110.size rfl rfl rfl rfl rfl (ZFi rfl) rfl fun w15 hC=>Zc (v:=vI q10.2) rfl (dn (sr (Zf [] _ Tryz.func86 rfl rfl rfl (Zmq h _) ?_))))))))))))))
   rintro _ w16 ⟨r11,b12,rfl,h,hr11,hf10,hB10⟩
   refine rt ?_
   replace hC:=hC.push hB10 (mapS b12 r11) hr11 (fun b_ hb_=>by obtain rfl:=Zvn.1 hb_; exact hf10)
   refine Zc (v:=.map (some b12)) rfl (dn (ZE9 (sr (Zb (v:=vQ bp0) rfl (Za3 rfl (Zz 0 ZLz rfl sc22.size rfl rfl (Zb6 (u5_0) (hC.getP 6 rfl) sc22 rfl rfl (Zx hC 1 rfl ZFs rfl (Zb (v:=vI 0) rfl (dn (ZFf ?_)))))))))))
   have hN10:a5.length≤9223372036854775807:=Y0 (hC.getP 1 rfl)
   refine Yp (S:=(List (A8×Int))) _ _ (fun i10 s10 e_ w_=>∃ (D467:List Kp),∃ (E468:List (Nat×List (A8×Int))),∃ (b10:Nat),Z2 e_ [(0,vQ bp0),(5,.map (some b8)),(6,vQ b11),(7,vI q10.2),(8,.map (some b10)),(12,vQ r13),(23,vI (a5.length:Int)),(24,vI (i10:Int))]∧LdLe w0 Ek0 E468∧Ctx (fun c_=>c_=mb0) w0 w_ [mapS b10 s10,blk b11 110 (A8.enc .i64 q10.1),itI (kvA .i64) (vvI .i64) r13 b1 es10 ck10 (some ent10) l10,mapS b8 s11,Zy kv2 vvM mb0 (D467.map Kp.key)] [Jw b1 es10 ck10,ZBl TInts a5 [u5_0] fp5,ZBl TInts a6 [u6_0] fp6,ZBl ((Zbw (kvA .i64) (vvI .i64)).sl) a7 [u7_0] fp7,mapS b1 a1,ldE Cl D467 E468,blk bp0 97 [u5_0,u6_0,u7_0,.map (some mb0)]]) a5.length ?_ ?_ (s0:=r11) ?_ h
   ·clear hC h
    rintro i10 s10 e_ w17 nx10 K10 hi10 ⟨D467,E468,b10,hS_,hq10,hC⟩ h hK10
    rw [ue hS_]
    refine sr (Zo rfl rfl (dn (ZE9 (Z8 rfl (decide_eq_true (by omega)) (ZFc (Zd (ZE9 (ZFf (sr (Zb (v:=vI (i10:Int)) rfl (Zc (v:=vI (i10:Int)) rfl (dn (sr (Zb (v:=vI (i10:Int)) rfl ?_))))))))))))))
    obtain ⟨⟨h10,h11⟩,h⟩:=h
    refine Xc i10 Tryz.underlying110 sc3.size rfl rfl h10 h11 (by omega) (Z6 hC 1 (vI (q10.1.get i10)) rfl sc3 rfl (A8.enc_get _ _ (show i10 < 8 by omega)) (Xx rfl rfl (dn ?_)))
    refine Zq rfl (fun hb10=>?_) (fun hb10=>?_)
    ·replace h:=ift h (ct hb10)
     refine Zjd mb0 11 mixed [0,0,2,6,14,0,0,0,128,384,992,2047,4095] [4,8,9] [0,1,2,3,5,6,7] (by kernel_rfl) (by kernel_rfl) (by kernel_rfl) (fun hM11 hM10 w18 hB_=>?_)
     replace hC:=hC.grow hB_
     refine bMR (Y3 mb0) 0 (.map (some b10)) rfl hM10 (Za 13 1) (bMR (Y3 mb0) 1 (vQ bp0) rfl hM10 (Za 13 3) (Zp (Y3 mb0) 2 (vQ bp0) rfl rfl (by kernel_rfl) (hM10 2 rfl) (fun w_=>.inl ⟨rfl,by exact Jn rfl⟩) (l9:=(Za 13 7)) (by kernel_rfl) (Zp (Y3 mb0) 3 (.pointer (some ⟨bp0,1,none⟩)) rfl rfl (by kernel_rfl) (hM10 3 rfl) (fun w_=>.inl ⟨rfl,by exact Ye 1 ZLz rfl sc22.size rfl rfl⟩) (l9:=(Za 13 15)) (by kernel_rfl) (Ja (Y3 mb0) 4 (u6_0) rfl rfl (by kernel_rfl) (hM11 4 rfl) (fun w_ hB_=>.inl ⟨rfl,by exact Zae (u6_0) ((hC.growC 4 rfl (ZLo _) hB_).getP 6 rfl) sc22 rfl rfl⟩) (l9:=(Za 13 31)) (by kernel_rfl) (bMR (Y3 mb0) 5 (vQ bp0) rfl hM10 (Za 13 63) (bMR (Y3 mb0) 6 (vI (i10:Int)) rfl hM10 (Za 13 127) (bMR (Y3 mb0) 7 (vI (i10:Int)) rfl hM10 (Za 13 255) ?_)))))))
     obtain ⟨⟨h12,h13⟩,h⟩:=h
     refine Ja (Y3 mb0) 8 (.pointer (some ⟨b11,i10,none⟩)) rfl rfl (by kernel_rfl) (hM11 8 rfl) (fun w_ hB_=>.inl ⟨rfl,by exact Jb i10 Tryz.underlying110 sc3.size rfl rfl h12 h13 (by omega)⟩) (l9:=(Za 13 511)) (by kernel_rfl) (Ja (Y3 mb0) 9 (vI (q10.1.get i10)) rfl rfl (by kernel_rfl) (hM11 9 rfl) (fun w_ hB_=>.inl ⟨rfl,by exact Yc (hC.growC 4 rfl (ZLo _) hB_) 1 (vI (q10.1.get i10)) rfl sc3 rfl (A8.enc_get _ _ (show i10 < 8 by omega))⟩) (l9:=(Za 13 1023)) (by kernel_rfl) (aO 10 rfl ?_))
     obtain ⟨hok496,h⟩:=h
     refine Zf [vQ bp0,vI (i10:Int),vI (q10.1.get i10)] _ ZMa rfl rfl rfl (Zs0 Cl a6 a7 i10 (q10.1.get i10) hok496 _ (hC.getP 6 rfl) (hC.getP 2 rfl) (hC.getP 3 rfl) (hC.getM 4 rfl) (hC.getP 5 rfl) (hC.ldOff 4 5 rfl rfl) (fun e_=>hC.pdk 6 4 rfl rfl _ (ZLo _) (Zvn.2 e_)) (fun c_ hc_ e_=>hC.pdk 2 4 rfl rfl c_ hc_ (Zvn.2 e_)) (fun c_ hc_ e_=>hC.pdk 3 4 rfl rfl c_ hc_ (Zvn.2 e_))) ?_
     rintro _ w19 ⟨b13,r10,D488,E489,rfl,hc10,hps498,hj10,hj11,hj12,hle493,hB11⟩
     refine rt ?_
     replace h:=h r10 hc10
     have hs10:=hC.size
     replace hC:=hC.ldTurn 4 5 rfl rfl hB11 hj10 hj11 hj12 hle493
     replace hC:=hC.derive 5 rfl (mapS b13 r10) (fun h_=>h_.1 (b13,r10) hps498) (fun b_ hb_=>by obtain rfl:=Zvn.1 hb_; exact Zvb.2 ⟨_,hps498,rfl⟩)
     refine done (aK (by first | assumption | exact Zfq (by assumption)) (Za 13 2047) (Z0 11 (by decide) (by decide) (by kernel_rfl) (by kernel_rfl) rfl (Zf [.map (some b10),u6_0,.map (some b13)] _ Tryz.func87 rfl rfl rfl (X7 s10 a6 r10 h _ (hC.getM 0 rfl) (hC.getP 3 rfl) (hC.getP 0 rfl)) ?_)))
     rintro _ w20 ⟨r12,b14,rfl,h,hr12,hf11,hB12⟩
     refine rt ?_
     replace hC:=hC.push hB12 (mapS b14 r12) hr12 (fun b_ hb_=>by obtain rfl:=Zvn.1 hb_; exact hf11)
     refine Zc (v:=.map (some b14)) rfl (done (Z1 (Zt (Zd (Zn (Zr rfl rfl (Zb (v:=vI (Zwe.wrap ((i10:Int)+1))) rfl (done ?_))))))))
     exact hK10 r12 _ _ ⟨D488,E489,b14,(sl ⟨rfl,rfl,rfl,rfl,rfl,rfl,rfl,(tr rfl (congrArg _ (Z9 hi10 hN10))),trivial⟩),(hq10.step hs10 hle493),((hC.xM [0,2,3,4,5] rfl).sP [1,2,3,4,5,6,7] rfl)⟩ h
    ·replace h:=Zl h (cf hb10)
     refine ZFc (Zt (Zd (Zn (Zr rfl rfl (Zb (v:=vI (Zwe.wrap ((i10:Int)+1))) rfl (done ?_))))))
     exact hK10 s10 _ _ ⟨D467,E468,b10,(sl ⟨rfl,rfl,rfl,rfl,rfl,rfl,rfl,(tr rfl (congrArg _ (Z9 hi10 hN10))),trivial⟩),hq10,hC⟩ h
   ·clear hC h
    rintro s10 e_ w21 K10 ⟨D467,E468,b10,hS_,hq10,hC⟩ h
    rw [ue hS_]
    refine sr (Zo rfl rfl (dn (ZE9 (Ya rfl (decide_eq_false (by omega)) ?_))))
    refine ZFn (Zm (Zm (Z5 ?_)))
    refine Zd (Zn (Zb (v:=.map (some b8)) rfl (Zb (v:=.map (some b10)) rfl (Zb (v:=vI q10.2) rfl (Zf [.map (some b8),.map (some b10),vI q10.2] _ Tryz.func89 rfl rfl rfl (Zgr s11 s10 q10.2 h _ (hC.getM 3 rfl) (fun c_ hc_ e_=>hC.mm 0 3 rfl rfl (by decide) c_ hc_ (Zvn.2 e_)) (hC.getM 0 rfl)) ?_)))))
    rintro _ w22 ⟨m10,rfl,h,hm10,hB13⟩
    refine rt ?_
    replace hC:=hC.turnB 3 rfl hB13 rfl rfl hm10
    refine done (Zt ?_)
    exact hK11 q10 l10 m10 _ _ hp10 ⟨D467,E468,(some ent10),(slq rfl),hq10,(hC.xM [2,3,4] rfl)⟩ h
   ·skip
    exact⟨D350,E351,b12,(slq rfl),hq11,hC⟩
 ·skip
  exact⟨Dk0,Ek0,none,(slq rfl),(LdLe.refl _ _),hC⟩
end Go.Proofs.YtheenipahifleaaGreat
