import Derived.Test.YtaagfepgbofmlaaGreatQ2
set_option linter.unusedSectionVars false
set_option linter.unusedSimpArgs false
set_option linter.unusedVariables false
open Classical renaming byContradiction→ZS7
open Decidable renaming not_not→ZPz
open Go renaming wp_seq→ZMh,wp_ret→ZMp,wp_skip→ZMl,wp_block→ZMn,wp_exit→ZMv
open Go.Addr renaming add_lit→ZTc
open Go.Builtin renaming zeroCells→ZSk,append_→ZHa
open Go.Instr renaming lookup→ZSz
open Go.IntKind renaming i64→ZG5,wrap_i64→ZSy,u8→ZMt
open Go.Program renaming elem→ZSm
open Go.Proofs.Tryz renaming prog→ZMk,underlying32→ZM1,underlying22→ZM0,underlying23→ZSe,underlying30→ZM5,underlying25→ZSu
open Go.Result renaming andThen_ok→ZEi
open Go.Sem renaming run_bind→ZEh,run_pure→ZEm
open Go.Value renaming ownBlock→ZFi,slice→ZTd
open Inhabited renaming default→ZEo
open Int renaming add_zero→ZSd,zero_add→ZO0,le_refl→ZSg,mul_emod→ZSh,natCast_nonneg→ZMx,ofNat_lt→ZNf,tmod→ZFf,mul_zero→ZSw,add_emod→ZSx,mul_nonneg→ZS3,mul_le_mul→ZS4,tmod_eq_emod_of_nonneg→ZO4
open List renaming mem_cons→ZEk,mem_append→ZEv,getD→ZEy,mem_map→ZF2,mem_append_left→ZFa,mem_singleton→ZFz,replicate→ZEj,mem_append_right→ZE5,toArray→ZMf,mem_cons_of_mem→ZSc,pairwise_cons→ZFb,not_mem_nil→ZGu,getElem_of_mem→ZEx,length_take→ZGs,nodup_append→ZFg,map_append→ZSi,length_eq_one_iff→ZNd,pairwise_iff_getElem→ZEq,map_cons→ZFq,nodup_cons→ZO1,mem_singleton_self→ZSl,mem_or_eq_of_mem_set→ZJa,mem_cons_self→ZSo,length_replicate→ZSp,length_append→ZEz,mem_flatten→ZF4,mem_of_mem_take→ZSv,ext_getElem→ZHb,length_drop→ZFy,length_set→ZFs,pairwise_singleton→ZS2,take_of_length_le→ZFo,pairwise_map→ZS6,getElem_mem→ZE1,take_take→ZTa,all_eq_true→ZFe,eq_nil_of_length_eq_zero→ZTz
open Nat renaming le_refl→ZEn,le_trans→ZEp,mul_le_mul_right→ZG8,add_mul→ZEw,not_lt→ZE6,le_of_ble_eq_true→ZMq,lt_of_lt_of_le→ZG0
open Option renaming toList→ZNg,map_some→ZF1,map_none→ZSr
open Vc renaming Form→ZMj,TForm→ZM3
open Vc.A8 renaming ext_get→ZO3,get_set→ZO2
open Vc.Ctx renaming start→ZM2
open Vc.Enc renaming encs→ZSs
open Vc.Item renaming low→ZSa,keep→ZSb
open Vc.Term renaming mono→ZSj
open Vc.Tr renaming sl→ZR9,item→ZMy
open Vc.Ty renaming item→ZMg,more→ZSn
set_option maxRecDepth 4000
set_option maxHeartbeats 4000000
namespace Go.Proofs.YtaagfepgbofmlaaGreat
open Go Go.RowKit Vc
variable {b0 bp0 b1 bp1 b2 bp2 b3 bp3 b4 bp4 b5 bp5 b6 bp6 b7 bp7 mb0:Nat} {u0_0 u0_1 u0_2 u0_3 u0_4 u0_5 u1_0 u1_1 u1_2 u1_3 u1_4 u1_5 u2_0 u2_1 u2_2 u2_3 u2_4 u2_5 u3_0 u3_1 u3_2 u3_3 u3_4 u3_5 u4_0 u4_1 u4_2 u4_3 u4_4 u4_5 u5_0 u5_1 u5_2 u5_3 u5_4 u5_5 u6_0 u6_1 u6_2 u6_3 u6_4 u6_5 u7_0 u7_1 u7_2 u7_3 u7_4 u7_5:Value} {fp0 fp1 fp2 fp3 fp4 fp5 fp6 fp7 fp0_0 fp0_1 fp0_2 fp0_3 fp0_4 fp0_5 fp1_0 fp1_1 fp1_2 fp1_3 fp1_4 fp1_5 F0:List Nat}
theorem sc66:ScaT ZMk 66:=⟨⟨_,Tryz.underlying66,rfl⟩,by kernel_rfl⟩
theorem ag50:AggT ZMk 50 1:=⟨⟨_,Tryz.underlying50,rfl⟩,by kernel_rfl⟩
theorem sc23:ScaT ZMk 23:=⟨⟨_,ZSe,rfl⟩,by kernel_rfl⟩
theorem Zxb:J3 ZMk 55 (.agg #[.slice none 0 0]) 1 24:=by unfold J3; kernel_rfl
theorem z32:X7 ZMk 32 (.agg #[.slice none 0 0,.slice none 0 0]):=by unfold X7; kernel_rfl
def Zh0 (a0:ZMj) (a1:Alg) (K:Bool→Prop):Prop :=
 Zel a0 (fun r11=>Zdx a1 r11 (fun r10=>K (decide ((r10.length:Int) > 0))))
theorem Zxc (a0:ZMj) (a1:Alg)  {K:Bool→Prop} (h:Zh0 a0 a1 K) (w0:World) (q0:ZM3.rep a0 [u0_0] fp0 w0) (q1:TAlg.rep a1 [u1_0,u1_1] fp1 w0) (qb1:(blk b1 32 [u1_0,u1_1]).holds w0) :
  Calls ZMk 153 #[.agg #[u0_0],vQ b1] w0 fun e w'=>∃ (r0:Bool),
   e=.returned (.bool r0)∧K r0∧Bel w0 w':=by
 unfold Zh0 at h
 refine cof Tryz.func153 rfl 9 Tryz.ntmps153 ?_
 have hC:=ZM2 (X:=Nox) w0 [ZMg TForm a0 [u0_0] fp0,ZMg TAlg a1 [u1_0,u1_1] fp1,blk b1 32 [u1_0,u1_1]] (alc q0 (alc q1 (al1 qb1)))
 have hp4:=(hC.getP 0 rfl)
 replace hC:=hC.derive 0 rfl (ZMg ETerm.ty.sl a0.terms [u0_0] fp0) (fun _=>(Xk hp4)) (fun _ hb_=>hb_)
 replace hC:=hC.dAlg 2 rfl
 refine sr (Yg (v:=.agg #[u0_0]) hC [u0_0] rfl rfl fun b8 w10 hB_ hC=>Zd (v:=.bool false) rfl (dn (sr (Yq hC 0 [u0_0] rfl ag55 rfl rfl rfl (Zf [.agg #[u0_0]] _ Tryz.func78 rfl rfl rfl (Zna a0 h _ (Y3 (hC.getP 2 rfl))) ?_)))))
 rintro _ w11 ⟨r11,b10,rfl,h,hr10,hf10,hB10⟩
 refine rt ?_
 replace hC:=hC.push hB10 (mapS b10 r11) hr10 (fun b_ hb_=>by obtain rfl:=ZFz.1 hb_; exact hf10)
 refine Zf [vQ b1,.map (some b10)] _ Tryz.func154 rfl rfl rfl (Znb a1 r11 h _ (Yk (hC.getP 1 rfl) (hC.getP 0 rfl)) (hC.getP 5 rfl) (hC.getM 0 rfl)) ?_
 rintro _ w12 ⟨r10,b11,rfl,h,hr11,hf11,hB11⟩
 refine rt ?_
 replace hC:=hC.push hB11 (mapS b11 r10) hr11 (fun b_ hb_=>by obtain rfl:=ZFz.1 hb_; exact hf11)
 refine Zuo (hC.getM 0 rfl) Tryz.underlying115 rfl rfl (Jh rfl rfl (Zd (v:=.bool (decide ((r10.length:Int) > 0))) rfl (dn (ZMp ?_))))
 exact Zi rfl (Zg rfl) ⟨decide ((r10.length:Int) > 0),rfl,h,hC.below⟩ (.inl rfl)
def Zko (a0:List ZMj) (p1:ZMj→(Bool→Prop)→Prop) (K:Int→Prop):Prop :=
 Z8 (fun i10 (s10:Unit) nx10=>p1 (a0.getD i10 ZEo) (fun r10=>(if r10=true then K (i10:Int) else nx10 ()))) (fun (s10:Unit)=>K (-1)) a0.length 0 ()
theorem Zxd (a0:List ZMj) (p1:ZMj→(Bool→Prop)→Prop)  {K:Int→Prop} (h:Zko a0 p1 K) (w0:World) (q0:ZM3.sl.rep a0 [u0_0] fp0 w0) {g1:Nat} {cp1:List Value} {fn1:Func} (hf1:ZMk.funcs[g1]? = some fn1) (hb1:fn1.body.isNone=false) (hn1:(fn1.name == "runtime.NumGoroutine")=false) (hp1:∀ (y0:ZMj) (yu0_0:Value) (yf0:List Nat) (K_:Bool→Prop) (w_:World),Bel w0 w_→ZM3.rep y0 [yu0_0] yf0 w_→p1 y0 K_→Calls ZMk g1 (ZMf ([.agg #[yu0_0]]++cp1)) w_ fun e w'=>∃ (z0:Bool),e=.returned (.bool z0)∧K_ z0∧Bel w_ w') :
  Calls ZMk 155 #[u0_0,.func (.func g1) #[] (ZMf cp1)] w0 fun e w'=>∃ (r0:Int),
   e=.returned (vI r0)∧K r0∧Bel w0 w':=by
 unfold Zko at h
 refine cof Tryz.func155 rfl 19 Tryz.ntmps155 ?_
 have hC:=ZM2 (X:=Nox) w0 [ZMg ZM3.sl a0 [u0_0] fp0] (al1 q0)
 refine sr (Zd (v:=vI 0) rfl (dn (ZMh (sr (Za (v:=u0_0) rfl (Zu hC 0 rfl ZM5 rfl (Za (v:=vI 0) rfl (dn (ZMn ?_)))))))))
 have hN10:a0.length≤9223372036854775807:=Yw (hC.getP 0 rfl)
 refine Yi (S:=Unit) _ _ (fun i10 s10 e_ w_=>Zt e_ [(0,u0_0),(1,.func (.func g1) #[] (ZMf cp1)),(7,vI (a0.length:Int)),(8,vI (i10:Int))]∧Ctx Nox w0 w_ [] [ZMg ZM3.sl a0 [u0_0] fp0]) a0.length ?_ ?_ (s0:=()) ?_ h
 ·clear hC h
  rintro i10 s10 e_ w10 nx10 K10 hi10 ⟨hS_,hC⟩ h hK10
  rw [ue hS_]
  refine sr (Zn rfl rfl (dn (ZMh (Z5 rfl (decide_eq_true (by omega)) (ZMl (Ze (ZMh (ZMn (sr (Za (v:=vI (i10:Int)) rfl (Zd (v:=vI (i10:Int)) rfl (dn (sr (Za (v:=.func (.func g1) #[] (ZMf cp1)) rfl (Za (v:=u0_0) rfl (Za (v:=vI (i10:Int)) rfl ?_))))))))))))))))
  obtain ⟨Ad10,c10,hv10⟩:=Zw (hC.getP 0 rfl) i10 hi10
  refine Yn (len:=a0.length) ZM5 ag55.size (tr rfl hv10) rfl (ZMx _) (ZNf.2 hi10) ?_
  obtain ⟨cs_,hl10,hc10,hr10⟩:=Xg (hC.getP 0 rfl) hv10 i10 hi10
  obtain ⟨u10,rfl⟩:=ZNd.1 hl10
  clear hl10
  rw [Xd _ _ hi10] at hr10
  have hp10:=hr10
  replace hC:=hC.derive 0 rfl (ZMg ETerm.ty.sl ((a0.getD i10 ZEo).terms) [u10] fp0) (fun _=>(Xk hp10)) (fun _ hb_=>hb_)
  refine Jd [u10] hc10 ag55 rfl rfl ?_
  refine Zmj [.agg #[u10]] _ rfl hf1 hb1 hn1 rfl (hp1 _ _ _ _ _ hC.below (Y3 (hC.getP 0 rfl)) h) (fun ret10 w11 hR10=>?_)
  obtain ⟨r10,rfl,h,hB10⟩:=hR10
  refine⟨_,rfl,?_⟩
  replace hC:=hC.grow hB10
  refine dn ?_
  refine Zs rfl (fun hb10=>?_) (fun hb10=>?_)
  ·replace h:=ift h (hb10)
   refine sr (Za (v:=vI (i10:Int)) rfl (Zd (v:=vI (i10:Int)) rfl (dn ?_)))
   refine ZMp (Ya (Zm (Zm (Ya (Zm ?_)))))
   exact Zi rfl (Zg rfl) ⟨(i10:Int),rfl,h,hC.below⟩ (.inl rfl)
  ·replace h:=Zk h (Y4 hb10)
   refine ZMl (Zr (Ze (Zh (Zq rfl rfl (Za (v:=vI (ZG5.wrap ((i10:Int)+1))) rfl (done ?_))))))
   exact hK10 () _ _ ⟨(sl ⟨rfl,rfl,rfl,(tr rfl (congrArg _ (Z2 hi10 hN10))),trivial⟩),(hC.sP [1] rfl)⟩ h
 ·clear hC h
  rintro s10 e_ w12 K10 ⟨hS_,hC⟩ h
  rw [ue hS_]
  refine sr (Zn rfl rfl (dn (ZMh (Z1 rfl (decide_eq_false (by omega)) ?_))))
  refine ZMv (Zj (Zj (Zx ?_)))
  refine Ze (sr (Zd (v:=vI (-1)) rfl (dn (ZMp ?_))))
  exact Zi rfl (Zg rfl) ⟨(-1),rfl,h,hC.below⟩ (.inl rfl)
 ·skip
  exact⟨(slq rfl),hC⟩
def Zfs (a0:List ZMj) (p1:ZMj→(Bool→Prop)→Prop) (K:Bool→Prop):Prop :=
 Zko a0 p1 (fun r5=>K (decide (r5≥0)))
theorem Zqz (a0:List ZMj) (p1:ZMj→(Bool→Prop)→Prop)  {K:Bool→Prop} (h:Zfs a0 p1 K) (w0:World) (q0:ZM3.sl.rep a0 [u0_0] fp0 w0) {g1:Nat} {cp1:List Value} {fn1:Func} (hf1:ZMk.funcs[g1]? = some fn1) (hb1:fn1.body.isNone=false) (hn1:(fn1.name == "runtime.NumGoroutine")=false) (hp1:∀ (y0:ZMj) (yu0_0:Value) (yf0:List Nat) (K_:Bool→Prop) (w_:World),Bel w0 w_→ZM3.rep y0 [yu0_0] yf0 w_→p1 y0 K_→Calls ZMk g1 (ZMf ([.agg #[yu0_0]]++cp1)) w_ fun e w'=>∃ (z0:Bool),e=.returned (.bool z0)∧K_ z0∧Bel w_ w') :
  Calls ZMk 97 #[u0_0,.func (.func g1) #[] (ZMf cp1)] w0 fun e w'=>∃ (r0:Bool),
   e=.returned (.bool r0)∧K r0∧Bel w0 w':=by
 unfold Zfs at h
 refine cof Tryz.func97 rfl 9 Tryz.ntmps97 ?_
 have hC:=ZM2 (X:=Nox) w0 [ZMg ZM3.sl a0 [u0_0] fp0] (al1 q0)
 refine sr (Zd (v:=.bool false) rfl (dn (sr (Za (v:=u0_0) rfl (Za (v:=.func (.func g1) #[] (ZMf cp1)) rfl (Zf [u0_0,.func (.func g1) #[] (ZMf cp1)] _ Tryz.func155 rfl rfl rfl (Zxd a0 p1 h _ (hC.getP 0 rfl) hf1 hb1 hn1 (fun x0_ x1_ x2_ K_ w_ hb_=>hp1 x0_ x1_ x2_ K_ w_ (Zmm hC.below hb_))) ?_))))))
 rintro _ w4 ⟨r5,rfl,h,hB6⟩
 refine rt ?_
 replace hC:=hC.grow hB6
 refine J7 rfl rfl (Zd (v:=.bool (decide (r5≥0))) rfl (dn (ZMp ?_)))
 exact Zi rfl (Zg rfl) ⟨decide (r5≥0),rfl,h,hC.below⟩ (.inl rfl)
def Zh1 (a0:Alg) (K:Bool→Prop):Prop :=
 Zhe a0.degrees (fun r11=>(if¬ (r11=true) then K false else(if(a0.images.length:Int)≠(a0.degrees.length:Int) then K false else Z8 (fun i10 (s10:Unit) nx10=>Zfp a0.degrees (a0.images.getD i10 ZEo) (fun r10=>(if¬ (r10=true) then K false else((0≤(i10:Int)∧(i10:Int) < (a0.degrees.length:Int))∧Zhi a0.degrees (a0.images.getD i10 ZEo) (ZG5.wrap ((a0.degrees.getD i10 ZEo)+1)) (fun r13=>(if¬ (r13=true) then K false else nx10 ())))))) (fun (s10:Unit)=>Zfs a0.images (fun y0_ K_=>Zh0 y0_ a0 K_) (fun r12=>K (!r12))) a0.images.length 0 ())))
theorem Zxe (a0:Alg)  {K:Bool→Prop} (h:Zh1 a0 K) (w0:World) (q0:TAlg.rep a0 [u0_0,u0_1] fp0 w0) :
  Calls ZMk 96 #[.agg #[u0_0,u0_1]] w0 fun e w'=>∃ (r0:Bool),
   e=.returned (.bool r0)∧K r0∧Bel w0 w':=by
 unfold Zh1 at h
 refine cof Tryz.func96 rfl 50 Tryz.ntmps96 ?_
 have hC:=ZM2 (X:=Nox) w0 [ZMg TAlg a0 [u0_0,u0_1] fp0] (al1 q0)
 replace hC:=hC.dAlg 0 rfl
 refine sr (Yg (v:=.agg #[u0_0,u0_1]) hC [u0_0,u0_1] rfl rfl fun b4 w6 hB_ hC=>Zd (v:=.bool false) rfl (dn (ZMh (sr (Z0 0 ZM1 rfl sc22.size rfl rfl (Yb hC 0 (u0_0) rfl sc22 rfl rfl (Zf [u0_0] _ Tryz.func151 rfl rfl rfl (Zv4 a0.degrees h _ (hC.getP 1 rfl)) ?_)))))))
 rintro _ w9 ⟨r11,rfl,h,hB10⟩
 refine rt ?_
 replace hC:=hC.grow hB10
 refine Xe rfl (Za (v:=.bool (!r11)) rfl ?_)
 refine Y7 (!r11) (fun hb11=>?_) (fun hb11=>?_)
 ·replace h:=ift h (Y4 (Xi hb11))
  refine Zl (b:=true) 4 9 rfl (tr rfl (congrArg _ hb11)) (by decide) (Zl (b:=true) 4 9 rfl (tr rfl (congrArg _ hb11)) (by decide) (Zl (b:=true) 4 9 rfl (tr rfl (congrArg _ hb11)) (by decide) (Zl (b:=true) 4 9 rfl (tr rfl (congrArg _ hb11)) (by decide) (Zl (b:=true) 4 9 rfl (tr rfl (congrArg _ hb11)) (by decide) (Zl (b:=true) 4 9 rfl (tr rfl (congrArg _ hb11)) (by decide) (Zl (b:=true) 4 9 rfl (tr rfl (congrArg _ hb11)) (by decide) (Z4 (v:=.bool true) (b:=true) (tr rfl (congrArg _ hb11)) rfl (dn (Z5 rfl rfl (sr (Zd (v:=.bool false) rfl (dn ?_))))))))))))
  refine ZMp (Zm ?_)
  exact Zi rfl (Zg rfl) ⟨false,rfl,h,hC.below⟩ (.inl rfl)
 ·replace h:=Zk h (not_not_intro ((Xj hb11)))
  refine Zp 4 9 rfl rfl hb11 (Z0 1 ZM1 rfl sc30.size rfl rfl (Zp 4 9 rfl rfl hb11 (Yb hC 0 (u0_1) rfl sc30 rfl rfl (Zp 4 9 rfl rfl hb11 (Zu hC 0 rfl ZM5 rfl (Zp 4 9 rfl rfl hb11 (Z0 0 ZM1 rfl sc22.size rfl rfl (Zp 4 9 rfl rfl hb11 (Yb hC 0 (u0_0) rfl sc22 rfl rfl (Zp 4 9 rfl rfl hb11 (Zu hC 1 rfl ZM0 rfl (Zp 4 9 rfl rfl hb11 (Y6 rfl rfl (Z4 (v:=.bool (decide ((a0.images.length:Int)≠(a0.degrees.length:Int)))) (b:=false) (tr rfl (congrArg _ hb11)) rfl (dn ?_)))))))))))))))
  refine Zs rfl (fun hb12=>?_) (fun hb12=>?_)
  ·replace h:=ift h (ct hb12)
   refine sr (Zd (v:=.bool false) rfl (dn ?_))
   refine ZMp (Zm ?_)
   exact Zi rfl (Zg rfl) ⟨false,rfl,h,hC.below⟩ (.inl rfl)
  ·replace h:=Zk h (cf hb12)
   refine ZMl (Ze (ZMh (sr (Z0 1 ZM1 rfl sc30.size rfl rfl (Yb hC 0 (u0_1) rfl sc30 rfl rfl (Zu hC 0 rfl ZM5 rfl (Za (v:=vI 0) rfl (dn (ZMn ?_)))))))))
   have hN10:a0.images.length≤9223372036854775807:=Yw (hC.getP 0 rfl)
   refine Yi (S:=Unit) _ _ (fun i10 s10 e_ w_=>Zt e_ [(1,vQ b4),(19,u0_1),(20,vI (a0.images.length:Int)),(21,vI (i10:Int))]∧Ctx Nox w0 w_ [blk b4 32 [u0_0,u0_1]] [ZMg ZM3.sl a0.images [u0_1] fp0,ZMg TInts a0.degrees [u0_0] fp0,ZMg TAlg a0 [u0_0,u0_1] fp0]) a0.images.length ?_ ?_ (s0:=()) ?_ h
   ·clear hC h
    rintro i10 s10 e_ w10 nx10 K10 hi10 ⟨hS_,hC⟩ h hK10
    rw [ue hS_]
    refine sr (Zn rfl rfl (dn (ZMh (Z5 rfl (decide_eq_true (by omega)) (ZMl (Ze (ZMh (ZMn (sr (Za (v:=vI (i10:Int)) rfl ?_))))))))))
    obtain ⟨Ad11,c10,hv10⟩:=Zw (hC.getP 0 rfl) i10 hi10
    refine Yn (len:=a0.images.length) ZM5 ag55.size (tr rfl hv10) rfl (ZMx _) (ZNf.2 hi10) ?_
    obtain ⟨cs_,hl10,hc10,hr10⟩:=Xg (hC.getP 0 rfl) hv10 i10 hi10
    obtain ⟨u10,rfl⟩:=ZNd.1 hl10
    clear hl10
    rw [Xd _ _ hi10] at hr10
    have hp10:=hr10
    replace hC:=hC.derive 0 rfl (ZMg ETerm.ty.sl ((a0.images.getD i10 ZEo).terms) [u10] fp0) (fun _=>(Xk hp10)) (fun _ hb_=>hb_)
    refine Jd [u10] hc10 ag55 rfl rfl (Ys hC [.slice none 0 0] z55 rfl fun b10 w11 hB_ hC=>Zd (v:=vI (i10:Int)) rfl (Z3 (v:=.agg #[u10]) hC 0 [u10] [u10] rfl ag55.size rfl rfl rfl rfl (Xp (Zdo (hC.getP 0 rfl)) rfl) (ZMq rfl) rfl fun w12 hC=>dn (ZMh ?_)))
    refine cwd 15 Yo [0,1,0,7,15,31,63,127,63,63,575,63,3647,7743,15935,32767,65535,131071] [1,2,7,8,10,12,13] [0,4,5,6,7,8,9,10,11,12,13,14] (fun hM11 hM10 w13 hB_=>?_)
    replace hC:=hC.grow hB_
    refine bF 0 (vQ b4) rfl rfl hM10 (fun _=>by exact Yt 0 ZM1 rfl sc22.size rfl rfl) (Zc 18 1) (bL 1 (u0_0) rfl rfl hM11 (fun _ hB_=>by exact Yh (hC.grow hB_) 1 (u0_0) rfl sc22 rfl rfl) (Zc 18 3) (bL 2 (.agg #[u10]) rfl rfl hM11 (fun _ hB_=>by exact Xa (hC.grow hB_) 0 [u10] rfl ag55 rfl rfl rfl) (Zc 18 7) (aO 3 rfl (Zf [u0_0,.agg #[u10]] _ Tryz.func99 rfl rfl rfl (Zqn a0.degrees (a0.images.getD i10 ZEo) h _ (hC.getP 2 rfl) (Y3 (hC.getP 0 rfl))) ?_))))
    rintro _ w14 ⟨r10,rfl,h,hB11⟩
    refine rt ?_
    replace hC:=hC.grow hB11
    refine done (aK (by assumption) (Zc 18 15) (bF 4 (.bool (!r10)) rfl rfl hM10 (fun _=>by exact Zmc rfl) (Zc 18 31) (bM 5 (.bool (!r10)) rfl hM10 (Zc 18 63) ?_)))
    refine Y7 (!r10) (fun hb10=>?_) (fun hb10=>?_)
    ·replace h:=ift h (Y4 (Xi hb10))
     refine Zv Zz 6 undef rfl rfl (by kernel_rfl) (hM10 6 rfl) (fun w_=>.inr ⟨Yf (b:=true) 5 31 rfl (tr rfl (congrArg _ hb10)) (by decide),rfl⟩) (l9:=(Zc 18 127)) (by kernel_rfl) (Zv Zz 7 undef rfl rfl (by kernel_rfl) (hM10 7 rfl) (fun w_=>.inr ⟨Yf (b:=true) 5 31 rfl (tr rfl (congrArg _ hb10)) (by decide),rfl⟩) (l9:=(Zc 18 255)) (by kernel_rfl) (Zv Zz 8 undef rfl rfl (by kernel_rfl) (hM10 8 rfl) (fun w_=>.inr ⟨Yf (b:=true) 5 31 rfl (tr rfl (congrArg _ hb10)) (by decide),rfl⟩) (l9:=(Zc 18 511)) (by kernel_rfl) (Zv Zz 9 undef rfl rfl (by kernel_rfl) (hM10 9 rfl) (fun w_=>.inr ⟨Yf (b:=true) 5 31 rfl (tr rfl (congrArg _ hb10)) (by decide),rfl⟩) (l9:=(Zc 18 1023)) (by kernel_rfl) (Zv Zz 10 undef rfl rfl (by kernel_rfl) (hM10 10 rfl) (fun w_=>.inr ⟨Yf (b:=true) 5 31 rfl (tr rfl (congrArg _ hb10)) (by decide),rfl⟩) (l9:=(Zc 18 2047)) (by kernel_rfl) (Zv Zz 11 undef rfl rfl (by kernel_rfl) (hM10 11 rfl) (fun w_=>.inr ⟨Yf (b:=true) 5 31 rfl (tr rfl (congrArg _ hb10)) (by decide),rfl⟩) (l9:=(Zc 18 4095)) (by kernel_rfl) (Zv Zz 12 undef rfl rfl (by kernel_rfl) (hM10 12 rfl) (fun w_=>.inr ⟨Yf (b:=true) 5 31 rfl (tr rfl (congrArg _ hb10)) (by decide),rfl⟩) (l9:=(Zc 18 8191)) (by kernel_rfl) (Zv Zz 13 undef rfl rfl (by kernel_rfl) (hM10 13 rfl) (fun w_=>.inr ⟨Yf (b:=true) 5 31 rfl (tr rfl (congrArg _ hb10)) (by decide),rfl⟩) (l9:=(Zc 18 16383)) (by kernel_rfl) (Zv Zz 14 undef rfl rfl (by kernel_rfl) (hM10 14 rfl) (fun w_=>.inr ⟨Yf (b:=true) 5 31 rfl (tr rfl (congrArg _ hb10)) (by decide),rfl⟩) (l9:=(Zc 18 32767)) (by kernel_rfl) (Z6 15 (by decide) (by decide) (by kernel_rfl) (by kernel_rfl) rfl (Zl (b:=true) 5 31 rfl (tr rfl (congrArg _ hb10)) (by decide) (Zl (b:=true) 5 31 rfl (tr rfl (congrArg _ hb10)) (by decide) (Z4 (v:=.bool true) (b:=true) (tr rfl (congrArg _ hb10)) rfl (done (Z7 (Ze (Z5 rfl rfl (sr (Zd (v:=.bool false) rfl (dn ?_)))))))))))))))))))
     refine ZMp (Ya (Zm (Zm (Ya (Zm ?_)))))
     exact Zi rfl (Zg rfl) ⟨false,rfl,h,hC.below⟩ (.inl rfl)
    ·replace h:=Zk h (not_not_intro ((Xj hb10)))
     refine aF 6 (vQ b4) rfl rfl (hM10 6 rfl) (Yl 5 31 rfl rfl hb10) (fun _=>by exact Yt 0 ZM1 rfl sc22.size rfl rfl) (Zc 18 127) (aL 7 (u0_0) rfl rfl (hM11 7 rfl) (Yl 5 31 rfl rfl hb10) (fun _ hB_=>by exact Yh (hC.grow hB_) 1 (u0_0) rfl sc22 rfl rfl) (Zc 18 255) (aL 8 (.agg #[u10]) rfl rfl (hM11 8 rfl) (Yl 5 31 rfl rfl hb10) (fun _ hB_=>by exact Xa (hC.grow hB_) 0 [u10] rfl ag55 rfl rfl rfl) (Zc 18 511) (aF 9 (vQ b4) rfl rfl (hM10 9 rfl) (Yl 5 31 rfl rfl hb10) (fun _=>by exact Yt 0 ZM1 rfl sc22.size rfl rfl) (Zc 18 1023) (aL 10 (u0_0) rfl rfl (hM11 10 rfl) (Yl 5 31 rfl rfl hb10) (fun _ hB_=>by exact Yh (hC.grow hB_) 1 (u0_0) rfl sc22 rfl rfl) (Zc 18 2047) (aF 11 (vI (i10:Int)) rfl rfl (hM10 11 rfl) (Yl 5 31 rfl rfl hb10) (fun _=>by exact Zax (v:=vI (i10:Int)) rfl) (Zc 18 4095) ?_)))))
     obtain ⟨⟨h10,h11⟩,h⟩:=h
     obtain ⟨Ad10,c11,hv11⟩:=Zw (hC.getP 2 rfl) i10 (show i10 < a0.degrees.length by omega)
     refine aL 12 (.pointer (some (Ad10.add (i10 * 1)))) rfl rfl (hM11 12 rfl) (Yl 5 31 rfl rfl hb10) (fun _ hB_=>by exact Y2 (len:=a0.degrees.length) ZM0 sc2.size (by exact tr rfl hv11) rfl h10 h11) (Zc 18 8191) (aL 13 (vI (a0.degrees.getD i10 ZEo)) rfl rfl (hM11 13 rfl) (Yl 5 31 rfl rfl hb10) (fun _ hB_=>by exact Xn (vI (a0.degrees.getD i10 ZEo)) (Yd ((hC.grow hB_).getP 2 rfl) hv11 i10 (show i10 < a0.degrees.length by omega)) sc2 rfl) (Zc 18 16383) (aF 14 (vI (ZG5.wrap ((a0.degrees.getD i10 ZEo)+1))) rfl rfl (hM10 14 rfl) (Yl 5 31 rfl rfl hb10) (fun _=>by exact Zb6 rfl rfl) (Zc 18 32767) (Z6 15 (by decide) (by decide) (by kernel_rfl) (by kernel_rfl) rfl (Zp 5 31 rfl rfl hb10 (Zf [u0_0,.agg #[u10],vI (ZG5.wrap ((a0.degrees.getD i10 ZEo)+1))] _ Tryz.func152 rfl rfl rfl (Zv9 a0.degrees (a0.images.getD i10 ZEo) (ZG5.wrap ((a0.degrees.getD i10 ZEo)+1)) h _ (hC.getP 2 rfl) (Y3 (hC.getP 0 rfl))) ?_)))))
     rintro _ w15 ⟨r13,rfl,h,hB12⟩
     refine rt ?_
     replace hC:=hC.grow hB12
     refine Zp 5 31 rfl rfl hb10 (Xe rfl (Z4 (v:=.bool (!r13)) (b:=false) (tr rfl (congrArg _ hb10)) rfl (done (Z7 (Ze ?_)))))
     refine Zs rfl (fun hb13=>?_) (fun hb13=>?_)
     ·replace h:=ift h (Y4 (Xi hb13))
      refine sr (Zd (v:=.bool false) rfl (dn ?_))
      refine ZMp (Ya (Zm (Zm (Ya (Zm ?_)))))
      exact Zi rfl (Zg rfl) ⟨false,rfl,h,hC.below⟩ (.inl rfl)
     ·replace h:=Zk h (not_not_intro ((Xj hb13)))
      refine ZMl (Zr (Ze (Zh (Zq rfl rfl (Za (v:=vI (ZG5.wrap ((i10:Int)+1))) rfl (done ?_))))))
      exact hK10 () _ _ ⟨(sl ⟨rfl,rfl,rfl,(tr rfl (congrArg _ (Z2 hi10 hN10))),trivial⟩),((hC.xM [1] rfl).sP [1,2,3] rfl)⟩ h
   ·clear hC h
    rintro s10 e_ w16 K10 ⟨hS_,hC⟩ h
    rw [ue hS_]
    refine sr (Zn rfl rfl (dn (ZMh (Z1 rfl (decide_eq_false (by omega)) ?_))))
    refine ZMv (Zj (Zj (Zx ?_)))
    refine Ze (sr (Z0 1 ZM1 rfl sc30.size rfl rfl (Yb hC 0 (u0_1) rfl sc30 rfl rfl (Zml (g:=153) [vQ b4] (Zmk rfl rfl) (Zf [u0_1,.func (.func 153) #[] (ZMf [vQ b4])] _ Tryz.func97 rfl rfl rfl (Zqz a0.images (fun y0_ K_=>Zh0 y0_ a0 K_) h _ (hC.getP 0 rfl) Tryz.func153 rfl rfl (fun y0_ yu0_0_ yf0_ K_ w_ hb_ rq0_ hq_=>Zxc y0_ a0 hq_ w_ rq0_ (Yk ((hC.grow hb_).getP 1 rfl) ((hC.grow hb_).getP 0 rfl)) ((hC.grow hb_).getM 0 rfl))) ?_)))))
    rintro _ w17 ⟨r12,rfl,h,hB13⟩
    refine rt ?_
    replace hC:=hC.grow hB13
    refine Xe rfl (Zd (v:=.bool (!r12)) rfl (dn (ZMp ?_)))
    exact Zi rfl (Zg rfl) ⟨!r12,rfl,h,hC.below⟩ (.inl rfl)
   ·skip
    exact⟨(slq rfl),hC⟩
def Zkp (a0:ZMj) (a1:Alg) (K:Bool→Prop):Prop :=
 Zfp a1.degrees a0 (fun r10=>K (!r10))
theorem Zxf (a0:ZMj) (a1:Alg)  {K:Bool→Prop} (h:Zkp a0 a1 K) (w0:World) (q0:ZM3.rep a0 [u0_0] fp0 w0) (q1:TAlg.rep a1 [u1_0,u1_1] fp1 w0) (qb1:(blk b1 32 [u1_0,u1_1]).holds w0) (qbp1:(blk bp1 66 [vQ b1]).holds w0) :
  Calls ZMk 98 #[.agg #[u0_0],vQ bp1] w0 fun e w'=>∃ (r0:Bool),
   e=.returned (.bool r0)∧K r0∧Bel w0 w':=by
 unfold Zkp at h
 refine cof Tryz.func98 rfl 11 Tryz.ntmps98 ?_
 have hC:=ZM2 (X:=Nox) w0 [ZMg TForm a0 [u0_0] fp0,ZMg TAlg a1 [u1_0,u1_1] fp1,blk b1 32 [u1_0,u1_1],blk bp1 66 [vQ b1]] (alc q0 (alc q1 (alc qb1 (al1 qbp1))))
 have hp5:=(hC.getP 0 rfl)
 replace hC:=hC.derive 0 rfl (ZMg ETerm.ty.sl a0.terms [u0_0] fp0) (fun _=>(Xk hp5)) (fun _ hb_=>hb_)
 replace hC:=hC.dAlg 2 rfl
 refine sr (Yg (v:=.agg #[u0_0]) hC [u0_0] rfl rfl fun b9 w10 hB_ hC=>Zd (v:=.bool false) rfl (dn (ZMh ?_)))
 refine cwd 5 Yo [0,1,3,7,0,31,63,127] [0,3,4] [1,2] (fun hM10 hM11 w11 hB_=>?_)
 replace hC:=hC.grow hB_
 refine bL 0 (vQ b1) rfl rfl hM10 (fun _ hB_=>by exact Zc3 (vQ b1) ((hC.grow hB_).getP 6 rfl) sc66 rfl rfl) (Zc 8 1) (bF 1 (vQ b1) rfl rfl hM11 (fun _=>by exact Zas rfl) (Zc 8 3) (bF 2 (vQ b1) rfl rfl hM11 (fun _=>by exact Yt 0 ZM1 rfl sc22.size rfl rfl) (Zc 8 7) (bL 3 (u1_0) rfl rfl hM10 (fun _ hB_=>by exact Zc3 (u1_0) ((hC.grow hB_).getP 5 rfl) sc22 rfl rfl) (Zc 8 15) (bL 4 (.agg #[u0_0]) rfl rfl hM10 (fun _ hB_=>by exact Xa (hC.grow hB_) 0 [u0_0] rfl ag55 rfl rfl rfl) (Zc 8 31) (Z6 5 (by decide) (by decide) (by kernel_rfl) (by kernel_rfl) rfl (Zf [u1_0,.agg #[u0_0]] _ Tryz.func99 rfl rfl rfl (Zqn a1.degrees a0 h _ (hC.getP 1 rfl) (Y3 (hC.getP 2 rfl))) ?_))))))
 rintro _ w12 ⟨r10,rfl,h,hB10⟩
 refine rt ?_
 replace hC:=hC.grow hB10
 refine Xe rfl (Zd (v:=.bool (!r10)) rfl (done (Z7 (Ze (ZMp ?_)))))
 exact Zi rfl (Zg rfl) ⟨!r10,rfl,h,hC.below⟩ (.inl rfl)
def Zh2 (a0:Alg) (a1:List ZMj) (K:Int→Prop):Prop :=
 Zh1 a0 (fun r11=>(if¬ (r11=true) then Zda true 1 (fun r12=>K r12) else Zfs a1 (fun y0_ K_=>Zkp y0_ a0 K_) (fun r10=>Zda r10 1 (fun r13=>K r13))))
theorem Zxg (a0:Alg) (a1:List ZMj)  {K:Int→Prop} (h:Zh2 a0 a1 K) (w0:World) (q0:TAlg.rep a0 [u0_0,u0_1] fp0 w0) (qb0:(blk b0 32 [u0_0,u0_1]).holds w0) (q1:ZM3.sl.rep a1 [u1_0] fp1 w0) :
  Calls ZMk 44 #[vQ b0,u1_0] w0 fun e w'=>∃ (r0:Int),
   e=.returned (vI r0)∧K r0∧Bel w0 w':=by
 unfold Zh2 at h
 refine cof Tryz.func44 rfl 18 Tryz.ntmps44 ?_
 have hC:=ZM2 (X:=Nox) w0 [ZMg TAlg a0 [u0_0,u0_1] fp0,ZMg ZM3.sl a1 [u1_0] fp1,blk b0 32 [u0_0,u0_1]] (alc q0 (alc q1 (al1 qb0)))
 replace hC:=hC.dAlg 0 rfl
 refine sr (Yg (v:=vQ b0) hC [vQ b0] rfl rfl fun b6 w8 hB_ hC=>Zd (v:=vI 0) rfl (dn (sr (Yb hC 0 (vQ b0) rfl sc66 rfl rfl (Xy rfl (Zuf [u0_0,u0_1] (hC.getP 4 rfl) ag32 rfl rfl rfl (Zf [.agg #[u0_0,u0_1]] _ Tryz.func96 rfl rfl rfl (Zxe a0 h _ (Yk (hC.getP 1 rfl) (hC.getP 0 rfl))) ?_)))))))
 rintro _ w10 ⟨r11,rfl,h,hB10⟩
 refine rt ?_
 replace hC:=hC.grow hB10
 refine Xe rfl (Za (v:=.bool (!r11)) rfl ?_)
 refine Y7 (!r11) (fun hb10=>?_) (fun hb10=>?_)
 ·replace h:=ift h (Y4 (Xi hb10))
  refine Zl (b:=true) 5 11 rfl (tr rfl (congrArg _ hb10)) (by decide) (Zl (b:=true) 5 11 rfl (tr rfl (congrArg _ hb10)) (by decide) (Zl (b:=true) 5 11 rfl (tr rfl (congrArg _ hb10)) (by decide) (Z4 (v:=.bool true) (b:=true) (tr rfl (congrArg _ hb10)) rfl (Zd (v:=.bool true) rfl (dn (sr (Za (v:=.bool true) rfl (Zf [.bool true,vI 1] _ Tryz.func45 rfl rfl rfl (Zht true 1 h _) ?_))))))))
  rintro _ w11 ⟨r12,rfl,h,hB11⟩
  refine rt ?_
  replace hC:=hC.grow hB11
  refine Zd (v:=vI r12) rfl (dn (ZMp ?_))
  exact Zi rfl (Zg rfl) ⟨r12,rfl,h,hC.below⟩ (.inl rfl)
 ·replace h:=Zk h (not_not_intro ((Xj hb10)))
  refine Zp 5 11 rfl rfl hb10 (Za (v:=u1_0) rfl (Zp 5 11 rfl rfl hb10 (Zml (g:=98) [vQ b6] (Zmk rfl rfl) (Zp 5 11 rfl rfl hb10 (Zf [u1_0,.func (.func 98) #[] (ZMf [vQ b6])] _ Tryz.func97 rfl rfl rfl (Zqz a1 (fun y0_ K_=>Zkp y0_ a0 K_) h _ (hC.getP 3 rfl) Tryz.func98 rfl rfl (fun y0_ yu0_0_ yf0_ K_ w_ hb_ rq0_ hq_=>Zxf y0_ a0 hq_ w_ rq0_ (Yk ((hC.grow hb_).getP 1 rfl) ((hC.grow hb_).getP 0 rfl)) ((hC.grow hb_).getP 4 rfl) ((hC.grow hb_).getM 0 rfl))) ?_)))))
  rintro _ w12 ⟨r10,rfl,h,hB12⟩
  refine rt ?_
  replace hC:=hC.grow hB12
  refine Z4 (v:=.bool r10) (b:=false) (tr rfl (congrArg _ hb10)) rfl (Zd (v:=.bool r10) rfl (dn (sr (Za (v:=.bool r10) rfl (Zf [.bool r10,vI 1] _ Tryz.func45 rfl rfl rfl (Zht r10 1 h _) ?_)))))
  rintro _ w13 ⟨r13,rfl,h,hB13⟩
  refine rt ?_
  replace hC:=hC.grow hB13
  refine Zd (v:=vI r13) rfl (dn (ZMp ?_))
  exact Zi rfl (Zg rfl) ⟨r13,rfl,h,hC.below⟩ (.inl rfl)
def Zkq (a0:List Term) (a1:Int) (K:Int→Prop):Prop :=
 (if ZG5.wrap (a1 - (a0.length:Int)) < 0 then K (-1) else K (ZG5.wrap (a1 - (a0.length:Int))))
theorem Zxh (a0:List Term) (a1:Int)  {K:Int→Prop} (h:Zkq a0 a1 K) (w0:World) (q0:ETerm.ty.sl.rep a0 [u0_0] fp0 w0) :
  Calls ZMk 67 #[u0_0,vI a1] w0 fun e w'=>∃ (r0:Int),
   e=.returned (vI r0)∧K r0∧Bel w0 w':=by
 unfold Zkq at h
 refine cof Tryz.func67 rfl 12 Tryz.ntmps67 ?_
 have hC:=ZM2 (X:=Nox) w0 [ZMg ETerm.ty.sl a0 [u0_0] fp0] (al1 q0)
 refine sr (Zd (v:=vI 0) rfl (dn (sr (Za (v:=vI a1) rfl (Za (v:=u0_0) rfl (Zu hC 0 rfl Tryz.underlying48 rfl (X3 rfl rfl (Zd (v:=vI (ZG5.wrap (a1 - (a0.length:Int)))) rfl (dn (ZMh (sr (Za (v:=vI (ZG5.wrap (a1 - (a0.length:Int)))) rfl (Zn rfl rfl (dn ?_))))))))))))))
 refine Zs rfl (fun hb5=>?_) (fun hb5=>?_)
 ·replace h:=ift h (ct hb5)
  refine sr (Zd (v:=vI (-1)) rfl (dn ?_))
  refine ZMp (Zm ?_)
  exact Zi rfl (Zg rfl) ⟨(-1),rfl,h,hC.below⟩ (.inl rfl)
 ·replace h:=Zk h (cf hb5)
  refine ZMl (Ze (sr (Za (v:=vI (ZG5.wrap (a1 - (a0.length:Int)))) rfl (Zd (v:=vI (ZG5.wrap (a1 - (a0.length:Int)))) rfl (dn (ZMp ?_))))))
  exact Zi rfl (Zg rfl) ⟨ZG5.wrap (a1 - (a0.length:Int)),rfl,h,hC.below⟩ (.inl rfl)
def Zft (a0:ZMj) (a1:Int) (K:Int→Prop):Prop :=
 Zkq a0.terms a1 (fun r10=>(if r10 < 0 then K (-1) else K r10))
theorem Zxi (a0:ZMj) (a1:Int)  {K:Int→Prop} (h:Zft a0 a1 K) (w0:World) (q0:ZM3.rep a0 [u0_0] fp0 w0) :
  Calls ZMk 28 #[.agg #[u0_0],vI a1] w0 fun e w'=>∃ (r0:Int),
   e=.returned (vI r0)∧K r0∧Bel w0 w':=by
 unfold Zft at h
 refine cof Tryz.func28 rfl 12 Tryz.ntmps28 ?_
 have hC:=ZM2 (X:=Nox) w0 [ZMg TForm a0 [u0_0] fp0] (al1 q0)
 have hp2:=(hC.getP 0 rfl)
 replace hC:=hC.derive 0 rfl (ZMg ETerm.ty.sl a0.terms [u0_0] fp0) (fun _=>(Xk hp2)) (fun _ hb_=>hb_)
 refine sr (Yg (v:=.agg #[u0_0]) hC [u0_0] rfl rfl fun b4 w6 hB_ hC=>Zd (v:=vI 0) rfl (dn (sr (Z0 0 Tryz.underlying50 rfl sc48.size rfl rfl (Yb hC 0 (u0_0) rfl sc48 rfl rfl (Za (v:=vI a1) rfl (Zf [u0_0,vI a1] _ Tryz.func67 rfl rfl rfl (Zxh a0.terms a1 h _ (hC.getP 0 rfl)) ?_)))))))
 rintro _ w9 ⟨r10,rfl,h,hB10⟩
 refine rt ?_
 replace hC:=hC.grow hB10
 refine Zd (v:=vI r10) rfl (dn (ZMh (sr (Za (v:=vI r10) rfl (Zn rfl rfl (dn ?_))))))
 refine Zs rfl (fun hb10=>?_) (fun hb10=>?_)
 ·replace h:=ift h (ct hb10)
  refine sr (Zd (v:=vI (-1)) rfl (dn ?_))
  refine ZMp (Zm ?_)
  exact Zi rfl (Zg rfl) ⟨(-1),rfl,h,hC.below⟩ (.inl rfl)
 ·replace h:=Zk h (cf hb10)
  refine ZMl (Ze (sr (Za (v:=vI r10) rfl (Zd (v:=vI r10) rfl (dn (ZMp ?_))))))
  exact Zi rfl (Zg rfl) ⟨r10,rfl,h,hC.below⟩ (.inl rfl)
def Zh3 (a0:List ZMj) (a1:Int) (K:Int→Prop):Prop :=
 (if ZG5.wrap (a1 - (a0.length:Int)) < 0 then K (-1) else Z8 (fun i10 (s10:Int) nx10=>Zft (a0.getD i10 ZEo) s10 (fun r10=>(if r10 < 0 then K (-1) else nx10 r10))) (fun (s10:Int)=>K s10) a0.length 0 (ZG5.wrap (a1 - (a0.length:Int))))
theorem Zxj (a0:List ZMj) (a1:Int)  {K:Int→Prop} (h:Zh3 a0 a1 K) (w0:World) (q0:ZM3.sl.rep a0 [u0_0] fp0 w0) :
  Calls ZMk 38 #[u0_0,vI a1] w0 fun e w'=>∃ (r0:Int),
   e=.returned (vI r0)∧K r0∧Bel w0 w':=by
 unfold Zh3 at h
 refine cof Tryz.func38 rfl 27 Tryz.ntmps38 ?_
 have hC:=ZM2 (X:=Nox) w0 [ZMg ZM3.sl a0 [u0_0] fp0] (al1 q0)
 refine sr (Zd (v:=vI 0) rfl (dn (sr (Za (v:=vI a1) rfl (Za (v:=u0_0) rfl (Zu hC 0 rfl ZSe rfl (X3 rfl rfl (Zd (v:=vI (ZG5.wrap (a1 - (a0.length:Int)))) rfl (dn (ZMh (sr (Za (v:=vI (ZG5.wrap (a1 - (a0.length:Int)))) rfl (Zn rfl rfl (dn ?_))))))))))))))
 refine Zs rfl (fun hb5=>?_) (fun hb5=>?_)
 ·replace h:=ift h (ct hb5)
  refine sr (Zd (v:=vI (-1)) rfl (dn ?_))
  refine ZMp (Zm ?_)
  exact Zi rfl (Zg rfl) ⟨(-1),rfl,h,hC.below⟩ (.inl rfl)
 ·replace h:=Zk h (cf hb5)
  refine ZMl (Ze (ZMh (sr (Zd (v:=vI 0) rfl (dn (ZMn ?_))))))
  have hN10:a0.length≤9223372036854775807:=Yw (hC.getP 0 rfl)
  refine Yi (S:=Int) _ _ (fun i10 s10 e_ w_=>Zt e_ [(0,u0_0),(1,vI s10),(5,vI (i10:Int))]∧Ctx Nox w0 w_ [] [ZMg ZM3.sl a0 [u0_0] fp0]) a0.length ?_ ?_ (s0:=(ZG5.wrap (a1 - (a0.length:Int)))) ?_ h
  ·clear hC h
   rintro i10 s10 e_ w10 nx10 K10 hi10 ⟨hS_,hC⟩ h hK10
   rw [ue hS_]
   refine ZMh (sr (Za (v:=vI (i10:Int)) rfl (Za (v:=u0_0) rfl (Zu hC 0 rfl ZSe rfl (Zn rfl rfl (dn (Z5 rfl (decide_eq_true (by omega)) (ZMl (Ze (ZMh (ZMn (sr (Za (v:=u0_0) rfl (Za (v:=vI (i10:Int)) rfl ?_))))))))))))))
   obtain ⟨Ad10,c10,hv10⟩:=Zw (hC.getP 0 rfl) i10 hi10
   refine Yn (len:=a0.length) ZSe ag50.size (tr rfl hv10) rfl (ZMx _) (ZNf.2 hi10) ?_
   obtain ⟨cs_,hl10,hc10,hr10⟩:=Xg (hC.getP 0 rfl) hv10 i10 hi10
   obtain ⟨u10,rfl⟩:=ZNd.1 hl10
   clear hl10
   rw [Xd _ _ hi10] at hr10
   have hp10:=hr10
   replace hC:=hC.derive 0 rfl (ZMg ETerm.ty.sl ((a0.getD i10 ZEo).terms) [u10] fp0) (fun _=>(Xk hp10)) (fun _ hb_=>hb_)
   refine Jd [u10] hc10 ag50 rfl rfl (Za (v:=vI s10) rfl (Zf [.agg #[u10],vI s10] _ Tryz.func28 rfl rfl rfl (Zxi (a0.getD i10 ZEo) s10 h _ (Y3 (hC.getP 0 rfl))) ?_))
   rintro _ w11 ⟨r10,rfl,h,hB10⟩
   refine rt ?_
   replace hC:=hC.grow hB10
   refine Zd (v:=vI r10) rfl (dn (sr (Za (v:=vI r10) rfl (Zn rfl rfl (dn ?_)))))
   refine Zs rfl (fun hb10=>?_) (fun hb10=>?_)
   ·replace h:=ift h (ct hb10)
    refine sr (Zd (v:=vI (-1)) rfl (dn ?_))
    refine ZMp (Ya (Zm (Zm (Ya (Zm ?_)))))
    exact Zi rfl (Zg rfl) ⟨(-1),rfl,h,hC.below⟩ (.inl rfl)
   ·replace h:=Zk h (cf hb10)
    refine ZMl (Zr (Ze (Zh (Za (v:=vI (i10:Int)) rfl (Zq rfl rfl (Zd (v:=vI (ZG5.wrap ((i10:Int)+1))) rfl (done ?_)))))))
    exact hK10 r10 _ _ ⟨(sl ⟨rfl,rfl,(tr rfl (congrArg _ (Z2 hi10 hN10))),trivial⟩),(hC.sP [1] rfl)⟩ h
  ·clear hC h
   rintro s10 e_ w12 K10 ⟨hS_,hC⟩ h
   rw [ue hS_]
   refine ZMh (sr (Za (v:=vI (a0.length:Int)) rfl (Za (v:=u0_0) rfl (Zu hC 0 rfl ZSe rfl (Zn rfl rfl (dn (Z1 rfl (decide_eq_false (by omega)) ?_)))))))
   refine ZMv (Zj (Zj (Zx ?_)))
   refine Ze (sr (Za (v:=vI s10) rfl (Zd (v:=vI s10) rfl (dn (ZMp ?_)))))
   exact Zi rfl (Zg rfl) ⟨s10,rfl,h,hC.below⟩ (.inl rfl)
  ·skip
   exact⟨(slq rfl),hC⟩
def Zkr (a0:List Int) (a1:Int) (K:Int→Prop):Prop :=
 (if ZG5.wrap (a1 - (a0.length:Int)) < 0 then K (-1) else K (ZG5.wrap (a1 - (a0.length:Int))))
theorem Zxk (a0:List Int) (a1:Int)  {K:Int→Prop} (h:Zkr a0 a1 K) (w0:World) (q0:TInts.rep a0 [u0_0] fp0 w0) :
  Calls ZMk 37 #[u0_0,vI a1] w0 fun e w'=>∃ (r0:Int),
   e=.returned (vI r0)∧K r0∧Bel w0 w':=by
 unfold Zkr at h
 refine cof Tryz.func37 rfl 12 Tryz.ntmps37 ?_
 have hC:=ZM2 (X:=Nox) w0 [ZMg TInts a0 [u0_0] fp0] (al1 q0)
 refine sr (Zd (v:=vI 0) rfl (dn (sr (Za (v:=vI a1) rfl (Za (v:=u0_0) rfl (Zu hC 0 rfl ZM0 rfl (X3 rfl rfl (Zd (v:=vI (ZG5.wrap (a1 - (a0.length:Int)))) rfl (dn (ZMh (sr (Za (v:=vI (ZG5.wrap (a1 - (a0.length:Int)))) rfl (Zn rfl rfl (dn ?_))))))))))))))
 refine Zs rfl (fun hb5=>?_) (fun hb5=>?_)
 ·replace h:=ift h (ct hb5)
  refine sr (Zd (v:=vI (-1)) rfl (dn ?_))
  refine ZMp (Zm ?_)
  exact Zi rfl (Zg rfl) ⟨(-1),rfl,h,hC.below⟩ (.inl rfl)
 ·replace h:=Zk h (cf hb5)
  refine ZMl (Ze (sr (Za (v:=vI (ZG5.wrap (a1 - (a0.length:Int)))) rfl (Zd (v:=vI (ZG5.wrap (a1 - (a0.length:Int)))) rfl (dn (ZMp ?_))))))
  exact Zi rfl (Zg rfl) ⟨ZG5.wrap (a1 - (a0.length:Int)),rfl,h,hC.below⟩ (.inl rfl)
def Zh4 (a0:Alg) (a1:Int) (K:Int→Prop):Prop :=
 Zkr a0.degrees a1 (fun r10=>(if r10 < 0 then K (-1) else Zh3 a0.images r10 (fun r11=>(if r11 < 0 then K (-1) else K r11))))
theorem Zxl (a0:Alg) (a1:Int)  {K:Int→Prop} (h:Zh4 a0 a1 K) (w0:World) (q0:TAlg.rep a0 [u0_0,u0_1] fp0 w0) :
  Calls ZMk 10 #[.agg #[u0_0,u0_1],vI a1] w0 fun e w'=>∃ (r0:Int),
   e=.returned (vI r0)∧K r0∧Bel w0 w':=by
 unfold Zh4 at h
 refine cof Tryz.func10 rfl 18 Tryz.ntmps10 ?_
 have hC:=ZM2 (X:=Nox) w0 [ZMg TAlg a0 [u0_0,u0_1] fp0] (al1 q0)
 replace hC:=hC.dAlg 0 rfl
 refine sr (Yg (v:=.agg #[u0_0,u0_1]) hC [u0_0,u0_1] rfl rfl fun b4 w6 hB_ hC=>Zd (v:=vI 0) rfl (dn (sr (Z0 0 ZSu rfl sc22.size rfl rfl (Yb hC 0 (u0_0) rfl sc22 rfl rfl (Za (v:=vI a1) rfl (Zf [u0_0,vI a1] _ Tryz.func37 rfl rfl rfl (Zxk a0.degrees a1 h _ (hC.getP 1 rfl)) ?_)))))))
 rintro _ w9 ⟨r10,rfl,h,hB10⟩
 refine rt ?_
 replace hC:=hC.grow hB10
 refine Zd (v:=vI r10) rfl (dn (ZMh (sr (Za (v:=vI r10) rfl (Zn rfl rfl (dn ?_))))))
 refine Zs rfl (fun hb10=>?_) (fun hb10=>?_)
 ·replace h:=ift h (ct hb10)
  refine sr (Zd (v:=vI (-1)) rfl (dn ?_))
  refine ZMp (Zm ?_)
  exact Zi rfl (Zg rfl) ⟨(-1),rfl,h,hC.below⟩ (.inl rfl)
 ·replace h:=Zk h (cf hb10)
  refine ZMl (Ze (sr (Z0 1 ZSu rfl sc23.size rfl rfl (Yb hC 0 (u0_1) rfl sc23 rfl rfl (Za (v:=vI r10) rfl (Zf [u0_1,vI r10] _ Tryz.func38 rfl rfl rfl (Zxj a0.images r10 h _ (hC.getP 0 rfl)) ?_))))))
  rintro _ w10 ⟨r11,rfl,h,hB11⟩
  refine rt ?_
  replace hC:=hC.grow hB11
  refine Zd (v:=vI r11) rfl (dn (ZMh (sr (Za (v:=vI r11) rfl (Zn rfl rfl (dn ?_))))))
  refine Zs rfl (fun hb11=>?_) (fun hb11=>?_)
  ·replace h:=ift h (ct hb11)
   refine sr (Zd (v:=vI (-1)) rfl (dn ?_))
   refine ZMp (Zm ?_)
   exact Zi rfl (Zg rfl) ⟨(-1),rfl,h,hC.below⟩ (.inl rfl)
  ·replace h:=Zk h (cf hb11)
   refine ZMl (Ze (sr (Za (v:=vI r11) rfl (Zd (v:=vI r11) rfl (dn (ZMp ?_))))))
   exact Zi rfl (Zg rfl) ⟨r11,rfl,h,hC.below⟩ (.inl rfl)
def Zh5 (a0:List ZMj) (K:List ZMj→Prop):Prop :=
 ((0≤(a0.length:Int)∧(a0.length:Int) * 24≤281474976710656)∧Z8 (fun i10 (s10:(List ZMj)) nx10=>Zhp (a0.getD i10 ZEo) (fun r10=>((0≤(i10:Int)∧(i10:Int) < (s10.length:Int))∧nx10 (s10.set i10 r10)))) (fun (s10:(List ZMj))=>K s10) a0.length 0 (ZEj ((a0.length:Int).toNat) ((⟨[]⟩:ZMj):ZMj)))
theorem Zxm (a0:List ZMj)  {K:List ZMj→Prop} (h:Zh5 a0 K) (w0:World) (q0:ZM3.sl.rep a0 [u0_0] fp0 w0) :
  Calls ZMk 42 #[u0_0] w0 fun e w'=>∃ (r0:List ZMj) (z0_0:Value) (fz0:List Nat),
   e=.returned (z0_0)∧K r0∧(ZMy (ZR9 55 (Yj 162)) r0 [z0_0] fz0).holds w'∧(∀ b,b∈fz0→w0.heap.size≤b)∧Bel w0 w':=by
 unfold Zh5 at h
 refine cof Tryz.func42 rfl 23 Tryz.ntmps42 ?_
 have hC:=ZM2 (X:=Nox) w0 [ZMg ZM3.sl a0 [u0_0] fp0] (al1 q0)
 refine sr (Zd (v:=.slice none 0 0) rfl (dn (sr (Za (v:=u0_0) rfl (Zu hC 0 rfl ZSe rfl ?_)))))
 obtain ⟨hm7,h⟩:=h
 refine Zb8 (sz:=1) hC (ZEj ((a0.length:Int).toNat) (.slice none 0 0)) ZM5 Zxb (tr rfl (congrArg (Value.int .i64) (Int.toNat_of_nonneg hm7.1).symm)) (tr rfl (congrArg (Value.int .i64) (Int.toNat_of_nonneg hm7.1).symm)) (by omega) (by omega) (Zu8 _) fun v5 w6 hB_ hC=>?_
 replace hC:=hC.pushM0 (Z9 (Yj 162) (ZEj ((a0.length:Int).toNat) ((⟨[]⟩:ZMj):ZMj)) (ZEj ((a0.length:Int).toNat) (.slice none 0 0)) (ZEj ((a0.length:Int).toNat) [])) (Zva (Zcn (Zba _ _ _)) rfl _) (Zu9 _)
 replace hC:=hC.gather (c:=ZMy (ZR9 55 (Yj 162)) (ZEj ((a0.length:Int).toNat) ((⟨[]⟩:ZMj):ZMj)) [v5] ((ZNg (ZFi v5))++(ZEj ((a0.length:Int).toNat) ([]:List Nat)).flatten)) (fun x_ hx_=>(ZEv.1 hx_).symm) (fun h1_ h2_ hd_=>X1 (by rw [ZSp]; exact h2_) h1_ (fun b_ hb_ hb2_=>hd_ b_ hb2_ hb_))
 refine Zd (v:=v5) rfl (dn (ZMh (sr (Zd (v:=vI 0) rfl (dn (ZMn ?_))))))
 have hN10:a0.length≤9223372036854775807:=Yw (hC.getP 0 rfl)
 refine Yi (S:=(List ZMj)) _ _ (fun i10 s10 e_ w_=>∃ (v10:Value),∃ (f10:List Nat),Zt e_ [(0,u0_0),(3,v10),(4,vI (i10:Int))]∧Ctx Nox w0 w_ [ZMy (ZR9 55 (Yj 162)) s10 [v10] f10] [ZMg ZM3.sl a0 [u0_0] fp0]) a0.length ?_ ?_ (s0:=(ZEj ((a0.length:Int).toNat) ((⟨[]⟩:ZMj):ZMj))) ?_ h
 ·clear hC h
  rintro i10 s10 e_ w10 nx10 K10 hi10 ⟨v10,f10,hS_,hC⟩ h hK10
  rw [ue hS_]
  refine ZMh (sr (Za (v:=vI (i10:Int)) rfl (Za (v:=u0_0) rfl (Zu hC 0 rfl ZSe rfl (Zn rfl rfl (dn (Z5 rfl (decide_eq_true (by omega)) (ZMl (Ze (ZMh (ZMn (Zh (Za (v:=v10) rfl (Za (v:=vI (i10:Int)) rfl (Za (v:=u0_0) rfl (Za (v:=vI (i10:Int)) rfl ?_))))))))))))))))
  obtain ⟨Ad10,c10,hv10⟩:=Zw (hC.getP 0 rfl) i10 hi10
  refine Yn (len:=a0.length) ZSe ag50.size (tr rfl hv10) rfl (ZMx _) (ZNf.2 hi10) ?_
  obtain ⟨cs_,hl10,hc10,hr10⟩:=Xg (hC.getP 0 rfl) hv10 i10 hi10
  obtain ⟨u11,rfl⟩:=ZNd.1 hl10
  clear hl10
  rw [Xd _ _ hi10] at hr10
  have hp10:=hr10
  replace hC:=hC.derive 0 rfl (ZMg ETerm.ty.sl ((a0.getD i10 ZEo).terms) [u11] fp0) (fun _=>(Xk hp10)) (fun _ hb_=>hb_)
  refine Jd [u11] hc10 ag50 rfl rfl (Zf [.agg #[u11]] _ Tryz.func30 rfl rfl rfl (Zwg (a0.getD i10 ZEo) h _ (Y3 (hC.getP 0 rfl))) ?_)
  rintro _ w11 ⟨r10,u10,f11,rfl,h,hr11,hf10,hB10⟩
  refine rt ?_
  replace hC:=hC.push hB10 (ZMy (Yj 162) r10 [u10] f11) hr11 hf10
  obtain ⟨ho10,hf11⟩:=X6 (hC.getM 0 rfl)
  subst hf11
  replace hC:=hC.recast (c:=own 162 9 u10 r10.terms.length (ETerm.encs r10.terms)) (fun _ h_=>h_) (fun _=>ho10)
  obtain ⟨⟨h10,h11⟩,h⟩:=h
  obtain ⟨g10,cap10,hv11⟩:=Zvo (hC.getM 1 rfl) (Nat.lt_of_le_of_lt (Nat.zero_le _) (show i10 < s10.length by omega))
  refine Xv (i10 * 1) ZM5 ag55.size (tr rfl hv11) rfl h10 h11 rfl ?_
  replace hC:=hC.recast (c:=ZMy (Yj 162) r10 [u10] (ZNg (ZFi u10))) (fun _ h_=>h_) (fun h_=>Zcn (Xf h_))
  replace hC:=hC.sM [1,0] (M':=[ZMy (ZR9 55 (Yj 162)) s10 [v10] f10,ZMy (Yj 162) r10 [u10] (ZNg (ZFi u10))]) (by decide) rfl
  refine Zvp (u:=.agg #[u10]) hC (show i10 < s10.length by omega) hv11 ag55.size rfl rfl rfl rfl fun f12 w12 hC=>done (Zr (Ze (Zh (Za (v:=vI (i10:Int)) rfl (Zq rfl rfl (Zd (v:=vI (ZG5.wrap ((i10:Int)+1))) rfl (done ?_)))))))
  exact hK10 (s10.set i10 r10) _ _ ⟨v10,f12,(sl ⟨rfl,rfl,(tr rfl (congrArg _ (Z2 hi10 hN10))),trivial⟩),(hC.sP [1] rfl)⟩ h
 ·clear hC h
  rintro s10 e_ w13 K10 ⟨v10,f10,hS_,hC⟩ h
  rw [ue hS_]
  refine ZMh (sr (Za (v:=vI (a0.length:Int)) rfl (Za (v:=u0_0) rfl (Zu hC 0 rfl ZSe rfl (Zn rfl rfl (dn (Z1 rfl (decide_eq_false (by omega)) ?_)))))))
  refine ZMv (Zj (Zj (Zx ?_)))
  refine Ze (sr (Za (v:=v10) rfl (Zd (v:=v10) rfl (dn (ZMp ?_)))))
  exact Zi rfl (Zg rfl) ⟨s10,v10,f10,rfl,h,(hC.getM 0 rfl),(Zai hC 0 rfl),hC.below⟩ (.inl rfl)
 ·skip
  exact⟨v5,((ZNg (ZFi v5))++(ZEj ((a0.length:Int).toNat) ([]:List Nat)).flatten),(slq rfl),hC⟩
def Zdz (a0:Alg) (K:Alg→Prop):Prop :=
 Zhl a0.degrees (fun r10=>Zh5 a0.images (fun r11=>K (⟨r10,r11⟩:Alg)))
theorem Zks (a0:Alg)  {K:Alg→Prop} (h:Zdz a0 K) (w0:World) (q0:TAlg.rep a0 [u0_0,u0_1] fp0 w0) :
  Calls ZMk 12 #[.agg #[u0_0,u0_1]] w0 fun e w'=>∃ (r0:Alg) (z0_0:Value) (z0_1:Value) (fz0:List Nat),
   e=.returned (.agg #[z0_0,z0_1])∧K r0∧(ZMy (Zeh 2 162 55) r0 [z0_0,z0_1] fz0).holds w'∧(∀ b,b∈fz0→w0.heap.size≤b)∧Bel w0 w':=by
 unfold Zdz at h
 refine cof Tryz.func12 rfl 13 Tryz.ntmps12 ?_
 have hC:=ZM2 (X:=Nox) w0 [ZMg TAlg a0 [u0_0,u0_1] fp0] (al1 q0)
 replace hC:=hC.dAlg 0 rfl
 refine sr (Yg (v:=.agg #[u0_0,u0_1]) hC [u0_0,u0_1] rfl rfl fun b4 w6 hB_ hC=>Ys hC [.slice none 0 0,.slice none 0 0] z32 rfl fun b7 w9 hB_ hC=>dn (sr (Ys hC [.slice none 0 0,.slice none 0 0] z32 rfl fun b10 w10 hB_ hC=>dn (sr (Z0 0 ZSu rfl sc22.size rfl rfl (Yb hC 2 (u0_0) rfl sc22 rfl rfl (Zf [u0_0] _ Tryz.func41 rfl rfl rfl (Zwc a0.degrees h _ (hC.getP 1 rfl)) ?_)))))))
 rintro _ w11 ⟨r10,u10,f11,rfl,h,hr10,hf10,hB10⟩
 refine rt ?_
 replace hC:=hC.push hB10 (ZMy (ZR9 2 (eI.tr)) r10 [u10] f11) hr10 hf10
 obtain ⟨ho10,hf11⟩:=Yv (hC.getM 0 rfl).1
 subst hf11
 replace hC:=hC.recast (c:=own 2 1 u10 r10.length (eI.encs r10)) (fun _ h_=>h_) (fun _=>ho10)
 refine Z0 0 ZM1 rfl sc22.size rfl rfl (Z3 (v:=u10) hC 1 [u10] [u10,.slice none 0 0] rfl sc22.size rfl rfl (Zb9 (hC.getM 0 rfl)) rfl (Xp (X4 (hC.getM 0 rfl)) rfl) (ZMq rfl) rfl fun w12 hC=>dn (sr (Z0 1 ZSu rfl sc23.size rfl rfl (Yb hC 3 (u0_1) rfl sc23 rfl rfl (Zf [u0_1] _ Tryz.func42 rfl rfl rfl (Zxm a0.images h _ (hC.getP 0 rfl)) ?_)))))
 rintro _ w13 ⟨r11,u11,f10,rfl,h,hr11,hf12,hB11⟩
 refine rt ?_
 replace hC:=hC.push hB11 (ZMy (ZR9 55 (Yj 162)) r11 [u11] f10) hr11 hf12
 refine Z0 1 ZM1 rfl sc30.size rfl rfl (Z3 (v:=u11) hC 2 [u11] [u10,u11] rfl sc30.size rfl rfl (Zmo (Tr.trep _ (hC.getM 0 rfl).1)) rfl (Xp (Zdo (Tr.trep _ (hC.getM 0 rfl).1)) rfl) (ZMq rfl) rfl fun w14 hC=>dn (sr (Yq hC 2 [u10,u11] rfl ag32 rfl rfl rfl (Z3 (v:=.agg #[u10,u11]) hC 3 [u10,u11] [u10,u11] rfl ag32.size rfl rfl rfl rfl (Xp (X4 (hC.getM 1 rfl)) (Xp (Zdo (Tr.trep _ (hC.getM 0 rfl).1)) rfl)) (ZMq rfl) rfl fun w15 hC=>dn (ZMp ?_)))))
 exact Zi rfl (J8 hC 3 rfl ag32 rfl rfl) ⟨(⟨r10,r11⟩:Alg),u10,u11,((ZNg (ZFi u10))++f10),rfl,h,(Zu6 (Xf (hC.getM 1 rfl)) (hC.getM 0 rfl) (fun x hx hx'=>hC.mm 1 0 rfl rfl (by decide) x hx hx')),(fun b hb=>(ZEv.1 hb).elim (fun hb=>(Y8 hC 1 rfl) b hb) (fun hb=>(Zai hC 0 rfl) b hb)),hC.below⟩ (.inl rfl)
def Zfu (a0:Alg) (a1:Alg) (K:Bool→Prop):Prop :=
 Zc9 a0.degrees a1.degrees (fun r10=>(if¬ (r10=true) then K false else Zkg a0.images a1.images (fun r11=>(if¬ (r11=true) then K false else K true))))
theorem Zxn (a0:Alg) (a1:Alg)  {K:Bool→Prop} (h:Zfu a0 a1 K) (w0:World) (q0:TAlg.rep a0 [u0_0,u0_1] fp0 w0) (q1:TAlg.rep a1 [u1_0,u1_1] fp1 w0) :
  Calls ZMk 15 #[.agg #[u0_0,u0_1],.agg #[u1_0,u1_1]] w0 fun e w'=>∃ (r0:Bool),
   e=.returned (.bool r0)∧K r0∧Bel w0 w':=by
 unfold Zfu at h
 refine cof Tryz.func15 rfl 17 Tryz.ntmps15 ?_
 have hC:=ZM2 (X:=Nox) w0 [ZMg TAlg a0 [u0_0,u0_1] fp0,ZMg TAlg a1 [u1_0,u1_1] fp1] (alc q0 (al1 q1))
 replace hC:=hC.dAlg 0 rfl
 replace hC:=hC.dAlg 3 rfl
 refine sr (Yg (v:=.agg #[u0_0,u0_1]) hC [u0_0,u0_1] rfl rfl fun b7 w9 hB_ hC=>Yg (v:=.agg #[u1_0,u1_1]) hC [u1_0,u1_1] rfl rfl fun b10 w10 hB_ hC=>Zd (v:=.bool false) rfl (dn (ZMh (sr (Z0 0 ZM1 rfl sc22.size rfl rfl (Yb hC 1 (u0_0) rfl sc22 rfl rfl (Z0 0 ZM1 rfl sc22.size rfl rfl (Yb hC 0 (u1_0) rfl sc22 rfl rfl (Zf [u0_0,u1_0] _ Tryz.func25 rfl rfl rfl (Zke a0.degrees a1.degrees h _ (hC.getP 3 rfl) (hC.getP 1 rfl)) ?_)))))))))
 rintro _ w11 ⟨r10,rfl,h,hB10⟩
 refine rt ?_
 replace hC:=hC.grow hB10
 refine Xe rfl (dn ?_)
 refine Zs rfl (fun hb10=>?_) (fun hb10=>?_)
 ·replace h:=ift h (Y4 (Xi hb10))
  refine sr (Zd (v:=.bool false) rfl (dn ?_))
  refine ZMp (Zm ?_)
  exact Zi rfl (Zg rfl) ⟨false,rfl,h,hC.below⟩ (.inl rfl)
 ·replace h:=Zk h (not_not_intro ((Xj hb10)))
  refine ZMl (Ze (ZMh (sr (Z0 1 ZM1 rfl sc30.size rfl rfl (Yb hC 1 (u0_1) rfl sc30 rfl rfl (Z0 1 ZM1 rfl sc30.size rfl rfl (Yb hC 0 (u1_1) rfl sc30 rfl rfl (Zf [u0_1,u1_1] _ Tryz.func51 rfl rfl rfl (Zwk a0.images a1.images h _ (hC.getP 2 rfl) (hC.getP 0 rfl)) ?_))))))))
  rintro _ w12 ⟨r11,rfl,h,hB11⟩
  refine rt ?_
  replace hC:=hC.grow hB11
  refine Xe rfl (dn ?_)
  refine Zs rfl (fun hb11=>?_) (fun hb11=>?_)
  ·replace h:=ift h (Y4 (Xi hb11))
   refine sr (Zd (v:=.bool false) rfl (dn ?_))
   refine ZMp (Zm ?_)
   exact Zi rfl (Zg rfl) ⟨false,rfl,h,hC.below⟩ (.inl rfl)
  ·replace h:=Zk h (not_not_intro ((Xj hb11)))
   refine ZMl (Ze (sr (Zd (v:=.bool true) rfl (dn (ZMp ?_)))))
   exact Zi rfl (Zg rfl) ⟨true,rfl,h,hC.below⟩ (.inl rfl)
def Zer (a0:List Int) (K:Int→Prop):Prop :=
 Z8 (fun i10 (s10:Unit) nx10=>(if a0.getD i10 ZEo≠0 then K (a0.getD i10 ZEo) else nx10 ())) (fun (s10:Unit)=>K 0) a0.length 0 ()
theorem Znf (a0:List Int)  {K:Int→Prop} (h:Zer a0 K) (w0:World) (q0:TInts.rep a0 [u0_0] fp0 w0) :
  Calls ZMk 43 #[u0_0] w0 fun e w'=>∃ (r0:Int),
   e=.returned (vI r0)∧K r0∧Bel w0 w':=by
 unfold Zer at h
 refine cof Tryz.func43 rfl 15 Tryz.ntmps43 ?_
 have hC:=ZM2 (X:=Nox) w0 [ZMg TInts a0 [u0_0] fp0] (al1 q0)
 refine sr (Zd (v:=vI 0) rfl (dn (ZMh (sr (Za (v:=u0_0) rfl (Zu hC 0 rfl ZM0 rfl (Za (v:=vI 0) rfl (dn (ZMn ?_)))))))))
 have hN10:a0.length≤9223372036854775807:=Yw (hC.getP 0 rfl)
 refine Yi (S:=Unit) _ _ (fun i10 s10 e_ w_=>Zt e_ [(5,u0_0),(6,vI (a0.length:Int)),(7,vI (i10:Int))]∧Ctx Nox w0 w_ [] [ZMg TInts a0 [u0_0] fp0]) a0.length ?_ ?_ (s0:=()) ?_ h
 ·clear hC h
  rintro i10 s10 e_ w10 nx10 K10 hi10 ⟨hS_,hC⟩ h hK10
  rw [ue hS_]
  refine sr (Zn rfl rfl (dn (ZMh (Z5 rfl (decide_eq_true (by omega)) (ZMl (Ze (ZMh (ZMn (sr ?_)))))))))
  obtain ⟨Ad10,c10,hv10⟩:=Zw (hC.getP 0 rfl) i10 hi10
  refine Yn (len:=a0.length) ZM0 sc2.size (tr rfl hv10) rfl (ZMx _) (ZNf.2 hi10) (Yp (vI (a0.getD i10 ZEo)) (Yd (hC.getP 0 rfl) hv10 i10 hi10) sc2 rfl (Zd (v:=vI (a0.getD i10 ZEo)) rfl (dn (sr (Za (v:=vI (a0.getD i10 ZEo)) rfl (Y6 rfl rfl (dn ?_)))))))
  refine Zs rfl (fun hb10=>?_) (fun hb10=>?_)
  ·replace h:=ift h (ct hb10)
   refine sr (Za (v:=vI (a0.getD i10 ZEo)) rfl (Zd (v:=vI (a0.getD i10 ZEo)) rfl (dn ?_)))
   refine ZMp (Ya (Zm (Zm (Ya (Zm ?_)))))
   exact Zi rfl (Zg rfl) ⟨a0.getD i10 ZEo,rfl,h,hC.below⟩ (.inl rfl)
  ·replace h:=Zk h (cf hb10)
   refine ZMl (Zr (Ze (Zh (Zq rfl rfl (Za (v:=vI (ZG5.wrap ((i10:Int)+1))) rfl (done ?_))))))
   exact hK10 () _ _ ⟨(sl ⟨rfl,rfl,(tr rfl (congrArg _ (Z2 hi10 hN10))),trivial⟩),hC⟩ h
 ·clear hC h
  rintro s10 e_ w11 K10 ⟨hS_,hC⟩ h
  rw [ue hS_]
  refine sr (Zn rfl rfl (dn (ZMh (Z1 rfl (decide_eq_false (by omega)) ?_))))
  refine ZMv (Zj (Zj (Zx ?_)))
  refine Ze (sr (Zd (v:=vI 0) rfl (dn (ZMp ?_))))
  exact Zi rfl (Zg rfl) ⟨0,rfl,h,hC.below⟩ (.inl rfl)
 ·skip
  exact⟨(slq rfl),hC⟩
def Zd0 (a0:List Int) (a1:Int) (K:Int→List Int→Prop):Prop :=
 Xt (fun (s10:(List Int)×Int×Int) nx10=>(if s10.2.2 < (s10.1.length:Int) then((0≤s10.2.2∧s10.2.2 < (s10.1.length:Int))∧nx10 (s10.1.set s10.2.2.toNat s10.2.1,ZG5.wrap (s10.2.1+1),ZG5.wrap (s10.2.2+1))) else K s10.2.1 s10.1)) (a0,a1,0)
theorem Zq0 (a0:List Int) (a1:Int)  {K:Int→List Int→Prop} (h:Zd0 a0 a1 K) (w0:World) (qw0:(own 2 1 u0_0 a0.length (eI.encs a0)).holds w0) :
  Calls ZMk 26 #[u0_0,vI a1] w0 fun e w'=>∃ (r0:Int) (mw:List Int),
   e=.returned (vI r0)∧K r0 mw∧(own 2 1 u0_0 mw.length (eI.encs mw)).holds w'∧BelO ((ZNg (ZFi u0_0))) w0 w':=by
 unfold Zd0 at h
 refine cof Tryz.func26 rfl 19 Tryz.ntmps26 ?_
 have hC:=Ctx.startL w0 ((ZNg (ZFi u0_0))) [own 2 1 u0_0 a0.length (eI.encs a0)] [] (by simp only [ZEk,ZGu,or_false,forall_eq_or_imp,forall_eq]; exact qw0) (by simp) (by simp only [ZEk,ZGu,or_false,forall_eq_or_imp,forall_eq]; exact fun b hb=>hb) (ZS2 _ _) (by simp)
 refine sr (Zd (v:=vI 0) rfl (dn (ZMh (sr (Zd (v:=vI 0) rfl (dn (ZMn ?_)))))))
 refine Xz (S:=(List Int)×Int×Int) _ (fun s10 e_ w_=>Zt e_ [(0,u0_0),(1,vI s10.2.1),(5,vI s10.2.2)]∧Ctx (fun c_=>c_∈(ZNg (ZFi u0_0))) w0 w_ [own 2 1 u0_0 s10.1.length (eI.encs s10.1)] []) ?_ (s0:=(a0,a1,0)) ?_ h
 ·clear hC h
  rintro s10 e_ w10 nx10 K10 ⟨hS_,hC⟩ h hK10
  rw [ue hS_]
  refine ZMh (sr (Za (v:=vI s10.2.2) rfl (Za (v:=u0_0) rfl (Zac hC 0 rfl ZM0 rfl (Zn rfl rfl (dn ?_))))))
  refine Zs rfl (fun hb10=>?_) (fun hb10=>?_)
  ·replace h:=ift h (ct hb10)
   refine ZMl (Ze (ZMh (ZMn (sr (Za (v:=u0_0) rfl (Za (v:=vI s10.2.2) rfl (Za (v:=vI s10.2.1) rfl ?_)))))))
   obtain ⟨⟨h10,h11⟩,h⟩:=h
   obtain ⟨Ad10,c10,hv10⟩:=Xo (hC.getM 0 rfl) (Nat.lt_of_le_of_lt (Nat.zero_le _) (show s10.2.2.toNat < s10.1.length by omega))
   refine Xv (s10.2.2.toNat * 1) ZM0 sc2.size (tr rfl hv10) rfl h10 h11 rfl (Za8 (v:=vI s10.2.1) hC 0 [vI s10.2.1] (eI.encs (s10.1.set s10.2.2.toNat s10.2.1)) rfl hv10 sc2.size rfl rfl rfl rfl rfl (by rw [Enc.encs_len]; exact J4 (sz:=1) (show s10.2.2.toNat < s10.1.length by omega)) (Zbj _ _ _ (show s10.2.2.toNat < s10.1.length by omega)) fun w11 hC=>?_)
   replace hC:=Yy hC 0 ((s10.1.set s10.2.2.toNat s10.2.1).length) (eI.encs (s10.1.set s10.2.2.toNat s10.2.1)) rfl (by simp) rfl
   refine dn (Zh (Za (v:=vI s10.2.1) rfl (Zq rfl rfl (Zd (v:=vI (ZG5.wrap (s10.2.1+1))) rfl (done (Zr (Ze (Zh (Za (v:=vI s10.2.2) rfl (Zq rfl rfl (Zd (v:=vI (ZG5.wrap (s10.2.2+1))) rfl (done ?_))))))))))))
   exact hK10 (s10.1.set s10.2.2.toNat s10.2.1,ZG5.wrap (s10.2.1+1),ZG5.wrap (s10.2.2+1)) _ _ ⟨(slq rfl),hC⟩ h
  ·replace h:=Zk h (cf hb10)
   refine ZMv (Zj (Zj (Zx ?_)))
   refine Ze (sr (Za (v:=vI s10.2.1) rfl (Zd (v:=vI s10.2.1) rfl (dn (ZMp ?_)))))
   exact Zi rfl (Zg rfl) ⟨s10.2.1,s10.1,rfl,h,(hC.getM 0 rfl),hC.belO⟩ (.inl rfl)
 ·skip
  exact⟨(slq rfl),hC⟩
def Zh6 (a0:List ZMj) (a1:Int) (K:Int→List ZMj→Prop):Prop :=
 Xt (fun (s10:(List ZMj)×Int×Int) nx10=>(if s10.2.2 < (s10.1.length:Int) then((0≤s10.2.2∧s10.2.2 < (s10.1.length:Int))∧Zhs ((s10.1.getD s10.2.2.toNat ZEo).terms) s10.2.1 (fun r10 m10=>nx10 (s10.1.set s10.2.2.toNat (⟨m10⟩:ZMj),r10,ZG5.wrap (s10.2.2+1)))) else K s10.2.1 s10.1)) (a0,a1,0)
theorem Zxo (a0:List ZMj) (a1:Int)  {K:Int→List ZMj→Prop} (h:Zh6 a0 a1 K) (w0:World) (qw0:(ZMy (ZR9 55 (Yj 162)) a0 [u0_0] fp0_0).holds w0) :
  Calls ZMk 52 #[u0_0,vI a1] w0 fun e w'=>∃ (r0:Int) (mw:List ZMj),
   e=.returned (vI r0)∧K r0 mw∧(ZMy (ZR9 55 (Yj 162)) mw [u0_0] fp0_0).holds w'∧BelO (fp0_0) w0 w':=by
 unfold Zh6 at h
 refine cof Tryz.func52 rfl 20 Tryz.ntmps52 ?_
 have hC:=Ctx.startL w0 (fp0_0) [ZMy (ZR9 55 (Yj 162)) a0 [u0_0] fp0_0] [] (by simp only [ZEk,ZGu,or_false,forall_eq_or_imp,forall_eq]; exact qw0) (by simp) (by simp only [ZEk,ZGu,or_false,forall_eq_or_imp,forall_eq]; exact fun b hb=>hb) (ZS2 _ _) (by simp)
 refine sr (Zd (v:=vI 0) rfl (dn (ZMh (sr (Zd (v:=vI 0) rfl (dn (ZMn ?_)))))))
 refine Xz (S:=(List ZMj)×Int×Int) _ (fun s10 e_ w_=>Zt e_ [(0,u0_0),(1,vI s10.2.1),(5,vI s10.2.2)]∧Ctx (fun c_=>c_∈fp0_0) w0 w_ [ZMy (ZR9 55 (Yj 162)) s10.1 [u0_0] fp0_0] []) ?_ (s0:=(a0,a1,0)) ?_ h
 ·clear hC h
  rintro s10 e_ w10 nx10 K10 ⟨hS_,hC⟩ h hK10
  rw [ue hS_]
  refine ZMh (sr (Za (v:=vI s10.2.2) rfl (Za (v:=u0_0) rfl (Zdq hC 0 rfl ZM5 rfl (Zn rfl rfl (dn ?_))))))
  refine Zs rfl (fun hb10=>?_) (fun hb10=>?_)
  ·replace h:=ift h (ct hb10)
   refine ZMl (Ze (ZMh (ZMn (Zh (Za (v:=u0_0) rfl (Za (v:=vI s10.2.2) rfl ?_))))))
   obtain ⟨⟨h10,h11⟩,h⟩:=h
   obtain ⟨cs10,f10,⟨g10,cap10,hv10,hcell10⟩,hin10,hsub10,hout10⟩:=Zu5 (hC.getM 0 rfl) s10.2.2.toNat (show s10.2.2.toNat < s10.1.length by omega)
   refine Xv (s10.2.2.toNat * 1) ZM5 ag55.size (tr rfl hv10) rfl h10 h11 rfl (Z0 (s10.2.2.toNat * 1+0) Tryz.underlying55 rfl sc53.size rfl rfl ?_)
   obtain ⟨u10,rfl⟩:=ZNd.1 (show cs10.length=1 from((Yj 162)).ty.len (Tr.trep _ hin10.1))
   have hin11:=hin10; rw [Xd _ _ (show s10.2.2.toNat < s10.1.length by omega)] at hin11
   obtain ⟨ho10,hf10⟩:=Yv (show (ZR9 162 ETerm.tr).tree ((s10.1.getD s10.2.2.toNat ZEo).terms) [u10] f10 _ from hin11.1)
   subst hf10
   refine Yp (u10) (Zug (o:=0) (k:=1) hcell10 rfl) sc53 rfl (Za (v:=vI s10.2.1) rfl (Zf [u10,vI s10.2.1] _ Tryz.func102 rfl rfl rfl (Zwl ((s10.1.getD s10.2.2.toNat ZEo).terms) s10.2.1 h _ ho10) ?_))
   rintro _ w11 ⟨r10,m10,rfl,h,hm10,hB10⟩
   refine rt ?_
   replace hC:=hC.turn 0 (jt:=ZMy (ZR9 55 (Yj 162)) (s10.1.set s10.2.2.toNat (⟨m10⟩:ZMj)) [u0_0] fp0_0) rfl hB10.os hB10.tape hB10.output hB10.size hB10.drawn (fun c_ hc_ hn_=>hB10.old c_ hc_ (fun h_=>hn_ (hsub10 c_ h_))) (hout10 (⟨m10⟩:ZMj) _ (Zmy hm10) hB10) (fun b_ hb_=>.inl hb_)
   refine Zd (v:=vI r10) rfl (done (Zr (Ze (Zh (Za (v:=vI s10.2.2) rfl (Zq rfl rfl (Zd (v:=vI (ZG5.wrap (s10.2.2+1))) rfl (done ?_))))))))
   exact hK10 (s10.1.set s10.2.2.toNat (⟨m10⟩:ZMj),r10,ZG5.wrap (s10.2.2+1)) _ _ ⟨(slq rfl),hC⟩ h
  ·replace h:=Zk h (cf hb10)
   refine ZMv (Zj (Zj (Zx ?_)))
   refine Ze (sr (Za (v:=vI s10.2.1) rfl (Zd (v:=vI s10.2.1) rfl (dn (ZMp ?_)))))
   exact Zi rfl (Zg rfl) ⟨s10.2.1,s10.1,rfl,h,(hC.getM 0 rfl),hC.belO⟩ (.inl rfl)
 ·skip
  exact⟨(slq rfl),hC⟩
def Zh7 (a0:Alg) (a1:Int) (K:Int→Alg→Prop):Prop :=
 Zd0 a0.degrees a1 (fun r9 m10=>Zh6 a0.images r9 (fun r10 m11=>K r10 (⟨m10,m11⟩:Alg)))
theorem Zxp (a0:Alg) (a1:Int)  {K:Int→Alg→Prop} (h:Zh7 a0 a1 K) (w0:World) (qw0:(own 2 1 u0_0 a0.degrees.length (eI.encs a0.degrees)).holds w0) (qw1:(ZMy (ZR9 55 (Yj 162)) a0.images [u0_1] fp0_1).holds w0) (dw0_1:∀ x,x∈(ZNg (ZFi u0_0))→x∉fp0_1) :
  Calls ZMk 16 #[.agg #[u0_0,u0_1],vI a1] w0 fun e w'=>∃ (r0:Int) (mw:Alg),
   e=.returned (vI r0)∧K r0 mw∧(own 2 1 u0_0 mw.degrees.length (eI.encs mw.degrees)).holds w'∧(ZMy (ZR9 55 (Yj 162)) mw.images [u0_1] fp0_1).holds w'∧BelO ((ZNg (ZFi u0_0))++fp0_1) w0 w':=by
 unfold Zh7 at h
 refine cof Tryz.func16 rfl 14 Tryz.ntmps16 ?_
 have hC:=Ctx.startL w0 ((ZNg (ZFi u0_0))++fp0_1) [own 2 1 u0_0 a0.degrees.length (eI.encs a0.degrees),ZMy (ZR9 55 (Yj 162)) a0.images [u0_1] fp0_1] [] (by simp only [ZEk,ZGu,or_false,forall_eq_or_imp,forall_eq]; exact⟨qw0,qw1⟩) (by simp) (by simp only [ZEk,ZGu,or_false,forall_eq_or_imp,forall_eq]; exact⟨fun b hb=>(ZFa _ hb),fun b hb=>(ZE5 _ hb)⟩) (ZFb.2 ⟨(by simp only [ZEk,ZGu,or_false,forall_eq_or_imp,forall_eq]; exact dw0_1),(ZS2 _ _)⟩) (by simp)
 refine sr (Yg (v:=.agg #[u0_0,u0_1]) hC [u0_0,u0_1] rfl rfl fun b3 w5 hB_ hC=>Zd (v:=vI 0) rfl (dn (sr (Z0 0 ZM1 rfl sc22.size rfl rfl (Yb hC 0 (u0_0) rfl sc22 rfl rfl (Za (v:=vI a1) rfl (Zf [u0_0,vI a1] _ Tryz.func26 rfl rfl rfl (Zq0 a0.degrees a1 h _ (hC.getM 1 rfl)) ?_)))))))
 rintro _ w8 ⟨r9,m10,rfl,h,hm10,hB10⟩
 refine rt ?_
 replace hC:=hC.turnL hB10 (M':=[blk b3 32 [u0_0,u0_1],own 2 1 u0_0 m10.length (eI.encs m10),ZMy (ZR9 55 (Yj 162)) a0.images [u0_1] fp0_1]) rfl (fun x_ hx_=>⟨_,mg 1 rfl,hx_⟩) (by simp only [ZEk,ZGu,or_false,forall_eq_or_imp,forall_eq]; exact⟨(hC.stay 0 rfl hB10 (fun x_ hq_ hx_=>hC.mm 0 1 rfl rfl (by decide) x_ hq_ hx_)),hm10,(hC.stay 2 rfl hB10 (fun x_ hq_ hx_=>hC.mm 2 1 rfl rfl (by decide) x_ hq_ hx_))⟩)
 refine Zd (v:=vI r9) rfl (dn (sr (Z0 1 ZM1 rfl sc30.size rfl rfl (Yb hC 0 (u0_1) rfl sc30 rfl rfl (Za (v:=vI r9) rfl (Zf [u0_1,vI r9] _ Tryz.func52 rfl rfl rfl (Zxo a0.images r9 h _ (hC.getM 2 rfl)) ?_))))))
 rintro _ w10 ⟨r10,m11,rfl,h,hm11,hB11⟩
 refine rt ?_
 replace hC:=hC.turnL hB11 (M':=[blk b3 32 [u0_0,u0_1],own 2 1 u0_0 m10.length (eI.encs m10),ZMy (ZR9 55 (Yj 162)) m11 [u0_1] fp0_1]) rfl (fun x_ hx_=>⟨_,mg 2 rfl,hx_⟩) (by simp only [ZEk,ZGu,or_false,forall_eq_or_imp,forall_eq]; exact⟨(hC.stay 0 rfl hB11 (fun x_ hq_ hx_=>hC.mm 0 2 rfl rfl (by decide) x_ hq_ hx_)),(hC.stay 1 rfl hB11 (fun x_ hq_ hx_=>hC.mm 1 2 rfl rfl (by decide) x_ hq_ hx_)),hm11⟩)
 refine Zd (v:=vI r10) rfl (dn (sr (Za (v:=vI r10) rfl (Zd (v:=vI r10) rfl (dn (ZMp ?_))))))
 exact Zi rfl (Zg rfl) ⟨r10,(⟨m10,m11⟩:Alg),rfl,h,(hC.getM 1 rfl),(hC.getM 2 rfl),hC.belO⟩ (.inl rfl)
def Zfv (a0:List Int) (a1:Int) (K:Int→Prop):Prop :=
 Z8 (fun i10 (s10:Int) nx10=>(if a0.getD i10 ZEo≠s10 then K (-1) else nx10 (ZG5.wrap (s10+1)))) (fun (s10:Int)=>K s10) a0.length 0 a1
theorem Zq1 (a0:List Int) (a1:Int)  {K:Int→Prop} (h:Zfv a0 a1 K) (w0:World) (q0:TInts.rep a0 [u0_0] fp0 w0) :
  Calls ZMk 27 #[u0_0,vI a1] w0 fun e w'=>∃ (r0:Int),
   e=.returned (vI r0)∧K r0∧Bel w0 w':=by
 unfold Zfv at h
 refine cof Tryz.func27 rfl 21 Tryz.ntmps27 ?_
 have hC:=ZM2 (X:=Nox) w0 [ZMg TInts a0 [u0_0] fp0] (al1 q0)
 refine sr (Zd (v:=vI 0) rfl (dn (ZMh (sr (Zd (v:=vI 0) rfl (dn (ZMn ?_)))))))
 have hN10:a0.length≤9223372036854775807:=Yw (hC.getP 0 rfl)
 refine Yi (S:=Int) _ _ (fun i10 s10 e_ w_=>Zt e_ [(0,u0_0),(1,vI s10),(5,vI (i10:Int))]∧Ctx Nox w0 w_ [] [ZMg TInts a0 [u0_0] fp0]) a0.length ?_ ?_ (s0:=a1) ?_ h
 ·clear hC h
  rintro i10 s10 e_ w10 nx10 K10 hi10 ⟨hS_,hC⟩ h hK10
  rw [ue hS_]
  refine ZMh (sr (Za (v:=vI (i10:Int)) rfl (Za (v:=u0_0) rfl (Zu hC 0 rfl ZM0 rfl (Zn rfl rfl (dn (Z5 rfl (decide_eq_true (by omega)) (ZMl (Ze (ZMh (ZMn (ZMh (sr (Za (v:=u0_0) rfl (Za (v:=vI (i10:Int)) rfl ?_)))))))))))))))
  obtain ⟨Ad10,c10,hv10⟩:=Zw (hC.getP 0 rfl) i10 hi10
  refine Yn (len:=a0.length) ZM0 sc2.size (tr rfl hv10) rfl (ZMx _) (ZNf.2 hi10) (Yp (vI (a0.getD i10 ZEo)) (Yd (hC.getP 0 rfl) hv10 i10 hi10) sc2 rfl (Za (v:=vI s10) rfl (Y6 rfl rfl (dn ?_))))
  refine Zs rfl (fun hb10=>?_) (fun hb10=>?_)
  ·replace h:=ift h (ct hb10)
   refine sr (Zd (v:=vI (-1)) rfl (dn ?_))
   refine ZMp (Zm (Ya (Zm (Zm (Ya (Zm ?_))))))
   exact Zi rfl (Zg rfl) ⟨(-1),rfl,h,hC.below⟩ (.inl rfl)
  ·replace h:=Zk h (cf hb10)
   refine ZMl (Ze (Zh (Za (v:=vI s10) rfl (Zq rfl rfl (Zd (v:=vI (ZG5.wrap (s10+1))) rfl (done (Zr (Ze (Zh (Za (v:=vI (i10:Int)) rfl (Zq rfl rfl (Zd (v:=vI (ZG5.wrap ((i10:Int)+1))) rfl (done ?_)))))))))))))
   exact hK10 (ZG5.wrap (s10+1)) _ _ ⟨(sl ⟨rfl,rfl,(tr rfl (congrArg _ (Z2 hi10 hN10))),trivial⟩),hC⟩ h
 ·clear hC h
  rintro s10 e_ w11 K10 ⟨hS_,hC⟩ h
  rw [ue hS_]
  refine ZMh (sr (Za (v:=vI (a0.length:Int)) rfl (Za (v:=u0_0) rfl (Zu hC 0 rfl ZM0 rfl (Zn rfl rfl (dn (Z1 rfl (decide_eq_false (by omega)) ?_)))))))
  refine ZMv (Zj (Zj (Zx ?_)))
  refine Ze (sr (Za (v:=vI s10) rfl (Zd (v:=vI s10) rfl (dn (ZMp ?_)))))
  exact Zi rfl (Zg rfl) ⟨s10,rfl,h,hC.below⟩ (.inl rfl)
 ·skip
  exact⟨(slq rfl),hC⟩
end Go.Proofs.YtaagfepgbofmlaaGreat
namespace Go.Proofs.YtaagfepgbofmlaaGreat
open Go Vc
theorem Zng {a b:A8} {K:Bool→Prop} (h:K (decide (pcmp a b < 0))):Zej a b K:=by
  simp only [Zej,Z8,A8.get]
  simp only [pcmp,A8.list,Jv] at h
  have e:∀ x y:Int,decide (x - y < 0)=decide (x < y):=fun x y=>decide_eq_decide.2 (by omega)
  repeat' split
  all_goals (simp_all)
theorem Zdd {x:Int} {K:Int→Prop} (h:K (x % 10007)):Je x K:=by
  unfold Je
  have:=Zhy x
  rw [i64_in _ (by omega),Zqt]
  exact h
theorem Znh {x:Int} {K:Int→Prop} (h:K (x % 10007)):Zc8 x K:=by
  unfold Zc8
  have:=Zhy x
  rw [i64_in _ (by omega),Zqt]
  exact h
theorem Zkt {a b:Int} (ha:0≤a∧a≤10006) (hb:0≤b∧b≤10006):0≤a * b∧a * b≤100120036 :=
  ⟨ZS3 ha.1 hb.1,by have:=ZS4 ha.2 hb.2 hb.1 (by omega:(0:Int)≤10006); omega⟩
theorem Zku {S:Type} {c:Prop} [Decidable c] {A B:(S→Prop)→Prop} {T:S→Prop} (h:c) (k:A T):joinP (fun J=>if c then A J else B J) T:=by show if c then A T else B T; rw [if_pos h]; exact k
theorem Zh8 {S:Type} {c:Prop} [Decidable c] {A B:(S→Prop)→Prop} {T:S→Prop} (h:¬ c) (k:B T):joinP (fun J=>if c then A J else B J) T:=by show if c then A T else B T; rw [if_neg h]; exact k
theorem Zfw {A B:Prop} (h:A):if true=true then A else B:=by simpa using h
theorem Zkv {A B:Prop} (h:B):if false=true then A else B:=by simpa using h
theorem Yz {c:Prop} [Decidable c] {A B:Prop} (h:c) (k:A):if c then A else B:=by rw [if_pos h]; exact k
theorem Y0 {c:Prop} [Decidable c] {A B:Prop} (h:¬ c) (k:B):if c then A else B:=by rw [if_neg h]; exact k
theorem Zq2 {f g : List Term} {k : Int} {K : ZMj → Prop} (cf : Canon f) (cg : Canon g) (hk : 0 ≤ k ∧ k ≤ 10006) (hf : f.length ≤ 100000000) (hg : g.length ≤ 100000000) (h : ∀ out, IsAdd f g k out → K ⟨out⟩) : Zbd ⟨f⟩ ⟨g⟩ k K := by
  unfold Zbd
  dsimp only
  refine X5 (fun (s:List Term×Int×Int)=>0≤s.2.1∧0≤s.2.2∧AddI f g k s.1 s.2.1.toNat s.2.2.toNat) (fun s=>(f.length - s.2.1.toNat)+(g.length - s.2.2.toNat)) ?_ ⟨ZSg _,ZSg _,AddI.zero f g k⟩
  rintro ⟨out,i,j⟩ next ⟨h1,h2,hI⟩ hn
  have hi:=hI.hi
  have hj:=hI.hj
  have hln:=hI.ln
  have hR:Zy (out.length+1) 16:=by unfold Zy; dsimp only at hln hi hj ⊢; omega
  dsimp only at h1 h2 hI hi hj hR hn ⊢
  have ni:(i+1).toNat=i.toNat+1:=by omega
  have nj:(j+1).toNat=j.toNat+1:=by omega
  have wi:ZG5.wrap (i+1)=i+1:=i64_in _ (by omega)
  have wj:ZG5.wrap (j+1)=j+1:=i64_in _ (by omega)
  rw [wi,wj]
  have goF:i.toNat < f.length→(j.toNat < g.length→pcmp (f.getD i.toNat ZEo).mono (g.getD j.toNat ZEo).mono < 0)→next (out++[f.getD i.toNat ZEo],i+1,j):=fun a b =>
    hn _ ⟨by dsimp only; omega,by dsimp only; omega,by dsimp only; rw [ni]; exact hI.stepF cf cg a b⟩ (by dsimp only; omega)
  have bg:j.toNat < g.length→1≤(g.getD j.toNat ZEo).factor∧(g.getD j.toNat ZEo).factor≤10006:=fun a=>cg.at_range a
  have bf:i.toNat < f.length→1≤(f.getD i.toNat ZEo).factor∧(f.getD i.toNat ZEo).factor≤10006:=fun a=>cf.at_range a
  have wk:j.toNat < g.length→ZG5.wrap (k * (g.getD j.toNat ZEo).factor)=k * (g.getD j.toNat ZEo).factor:=fun a=>by
    have:=bg a
    have:=Zkt hk (show 0≤(g.getD j.toNat ZEo).factor∧(g.getD j.toNat ZEo).factor≤10006 by omega)
    exact i64_in _ (by omega)
  have goG:j.toNat < g.length→(i.toNat < f.length→pcmp (g.getD j.toNat ZEo).mono (f.getD i.toNat ZEo).mono < 0) →
      Je (ZG5.wrap (k * ((g.getD j.toNat ZEo).factor))) (fun r=>(if r≠0 then((0≤j∧j < (g.length:Int))∧(Zy (out.length+1) 16∧next (out++[(⟨(g.getD j.toNat ZEo).mono,r⟩:Term)],i,j+1))) else next (out,i,j+1))):=by
    intro a b
    refine Zdd ?_
    rw [wk a]
    split
    · rename_i q
      exact⟨by omega,hR,hn _ ⟨by dsimp only; omega,by dsimp only; omega,by dsimp only; rw [nj]; exact hI.stepG1 cf cg a b rfl q⟩ (by dsimp only; omega)⟩
    · rename_i q
      exact hn _ ⟨by dsimp only; omega,by dsimp only; omega,by dsimp only; rw [nj]; exact hI.stepG0 cf cg a (by omega)⟩ (by dsimp only; omega)
  have goB:i.toNat < f.length→j.toNat < g.length→(f.getD i.toNat ZEo).mono=(g.getD j.toNat ZEo).mono →
      ((0≤i∧i < (f.length:Int))∧((0≤j∧j < (g.length:Int))∧Je (ZG5.wrap (k * ((g.getD j.toNat ZEo).factor))) (fun r753=>Je (ZG5.wrap (((f.getD i.toNat ZEo).factor)+r753)) (fun r758=>(if r758≠0 then((0≤i∧i < (f.length:Int))∧(Zy (out.length+1) 16∧next (out++[(⟨(f.getD i.toNat ZEo).mono,r758⟩:Term)],i+1,j+1))) else next (out,i+1,j+1)))))):=by
    intro a b e
    refine⟨by omega,by omega,Zdd ?_⟩
    rw [wk b]
    have:=bf a
    rw [i64_in _ (by omega)]
    refine Zdd ?_
    rw [show ((f.getD i.toNat ZEo).factor+k * (g.getD j.toNat ZEo).factor % 10007) % 10007=((f.getD i.toNat ZEo).factor+k * (g.getD j.toNat ZEo).factor) % 10007 by omega]
    split
    · rename_i q
      exact⟨by omega,hR,hn _ ⟨by dsimp only; omega,by dsimp only; omega,by dsimp only; rw [ni,nj]; exact hI.stepB1 cf cg a b e rfl q⟩ (by dsimp only; omega)⟩
    · rename_i q
      exact hn _ ⟨by dsimp only; omega,by dsimp only; omega,by dsimp only; rw [ni,nj]; exact hI.stepB0 cf cg a b e (by omega)⟩ (by dsimp only; omega)
  by_cases hif:i < (f.length:Int)
  · refine Zku hif (Zfw ?_)
    by_cases hjg:j=(g.length:Int)
    · exact Zku hjg (Zfw ⟨by omega,hR,goF (by omega) (fun q=>by omega)⟩)
    · refine Zh8 hjg (Yz hif ⟨by omega,by omega,Zng ?_⟩)
      by_cases hp:pcmp (f.getD i.toNat ZEo).mono (g.getD j.toNat ZEo).mono < 0
      · rw [decide_eq_true hp]
        exact Zfw ⟨by omega,hR,goF (by omega) (fun _=>hp)⟩
      · rw [decide_eq_false hp]
        refine Zkv (Zh8 (by omega) ⟨by omega,by omega,Zng ?_⟩)
        by_cases hq:pcmp (g.getD j.toNat ZEo).mono (f.getD i.toNat ZEo).mono < 0
        · rw [decide_eq_true hq]
          exact Zfw ⟨by omega,goG (by omega) (fun _=>hq)⟩
        · rw [decide_eq_false hq]
          exact Zkv (goB (by omega) (by omega) (Zkl hp hq))
  · refine Zh8 hif ?_
    by_cases hjg:j < (g.length:Int)
    · rw [decide_eq_true hjg]
      refine Zfw (Zh8 (by omega) (Y0 hif (Zkv (Zku (by omega) (Zfw ⟨by omega,goG (by omega) (fun q=>by omega)⟩)))))
    · rw [decide_eq_false hjg]
      exact Zkv (h _ (hI.done (by omega) (by omega)))
def OkForm (ds:List Int) (l:List Term):Prop:=l.length≤400∧∀ i,i < l.length→OkMono ds (l.getD i ZEo).mono∧(1≤(l.getD i ZEo).factor∧(l.getD i ZEo).factor≤10006)∧(0 < i→pcmp (l.getD (i - 1) ZEo).mono (l.getD i ZEo).mono < 0)
instance (ds:List Int) (l:List Term):Decidable (OkForm ds l):=inferInstanceAs (Decidable (_∧∀ i,i < l.length→_))
theorem OkForm.canon {ds:List Int} {l:List Term} (h:OkForm ds l):Canon l:=by
  have step:∀ n i,i+n+1 < l.length→pcmp (l.getD i ZEo).mono (l.getD (i+n+1) ZEo).mono < 0:=by
    intro n
    induction n with
    | zero=>intro i hi; have:=(h.2 (i+1) (by omega)).2.2 (by omega); simpa using this
    | succ n ih =>
      intro i hi
      have h1:=ih i (by omega)
      have h2:=(h.2 (i+(n+1)+1) (by omega)).2.2 (by omega)
      rw [show i+(n+1)+1 - 1=i+n+1 by omega] at h2
      exact Zcb h1 h2
  refine⟨ZEq.2 fun i j hi hj hij=>?_,fun t ht=>?_⟩
  · have:=step (j - i - 1) i (by omega)
    rw [show i+(j - i - 1)+1=j by omega] at this
    simpa [ZEy,hi,hj] using this
  · obtain ⟨i,hi,rfl⟩:=ZEx ht
    have:=(h.2 i hi).2.1
    simpa [ZEy,hi] using this
theorem OkForm.mono {ds:List Int} {l:List Term} (h:OkForm ds l) {t:Term} (ht:t∈l):OkMono ds t.mono:=by
  obtain ⟨i,hi,rfl⟩:=ZEx ht
  have:=(h.2 i hi).1
  simpa [ZEy,hi] using this
theorem Zxq {ds:List Int} {l:List Term} (hc:Canon l) (hl:l.length≤400) (hm:∀ t,t∈l→OkMono ds t.mono):OkForm ds l :=
  ⟨hl,fun i hi=>⟨hm _ (Y5 hi),hc.at_range hi,fun h0=>hc.at_lt (by omega) hi⟩⟩
def Zes (l:List Term):Prop:=∀ t,t∈l→∀ i,i < 8→0≤t.mono.get i∧t.mono.get i≤255
theorem Zxr {ds : List Int} {l : List Term} {K : Bool → Prop} (hd : ds.length ≤ 8) (hp : Zes l) (hl : l.length ≤ 100000000) (h : K (decide (OkForm ds l))) : Zg9 ds ⟨l⟩ K := by
  unfold Zg9
  dsimp only
  refine X5 (fun (s:Int)=>0≤s∧s≤l.length∧∀ i,i < s.toNat→OkMono ds (l.getD i ZEo).mono∧(1≤(l.getD i ZEo).factor∧(l.getD i ZEo).factor≤10006)∧(0 < i→pcmp (l.getD (i - 1) ZEo).mono (l.getD i ZEo).mono < 0)) (fun s=>l.length - s.toNat) ?_ ⟨by omega,by omega,fun i hi=>by omega⟩
  rintro i next ⟨h1,h2,h3⟩ hn
  have bad:(i.toNat < l.length)→¬ (OkMono ds (l.getD i.toNat ZEo).mono∧(1≤(l.getD i.toNat ZEo).factor∧(l.getD i.toNat ZEo).factor≤10006)∧(0 < i.toNat→pcmp (l.getD (i.toNat - 1) ZEo).mono (l.getD i.toNat ZEo).mono < 0))→K false:=by
    intro a b
    have:¬ OkForm ds l:=fun q=>b (q.2 _ a)
    rwa [decide_eq_false this] at h
  split
  · rename_i hi
    have a:i.toNat < l.length:=by omega
    refine⟨by omega,Zwn (fun q hq=>(hp _ (Y5 a) q hq).1) hd ?_⟩
    split
    · rename_i q
      exact bad a fun z=>q (decide_eq_true z.1)
    · rename_i q1
      have q1:OkMono ds (l.getD i.toNat ZEo).mono:=by simpa using q1
      refine Zkh ?_
      split
      · rename_i q
        exact bad a fun z=>q (decide_eq_true z.2.1)
      · rename_i q2
        have q2:1≤(l.getD i.toNat ZEo).factor∧(l.getD i.toNat ZEo).factor≤10006:=by simpa using q2
        have w1:ZG5.wrap (i+1)=i+1:=i64_in _ (by omega)
        rw [w1]
        have ok:(0 < i.toNat→pcmp (l.getD (i.toNat - 1) ZEo).mono (l.getD i.toNat ZEo).mono < 0)→next (i+1):=fun q3=>by
          refine hn _ ⟨by omega,by omega,fun j hj=>?_⟩ (by omega)
          by_cases hji:j=i.toNat
          · subst hji; exact⟨q1,q2,q3⟩
          · exact h3 j (by omega)
        split
        · have w2:ZG5.wrap (i - 1)=i - 1:=i64_in _ (by omega)
          rw [w2,show (i - 1).toNat=i.toNat - 1 by omega]
          refine⟨by omega,Zng ?_⟩
          split
          · rename_i q
            exact bad a fun z=>q (decide_eq_true (z.2.2 (by omega)))
          · rename_i q
            exact ok fun _=>by simpa using q
        · exact ok fun q=>by omega
  · rename_i hi
    have:OkForm ds l↔(l.length:Int)≤400:=⟨fun q=>by have:=q.1; omega,fun q=>⟨by omega,fun i hi'=>h3 i (by omega)⟩⟩
    rw [decide_eq_decide.2 this] at h
    exact h
theorem Zni {s a b:Int} (hs:s=1∨s=-1) (ha:1≤a∧a≤10006) (hb:1≤b∧b≤10006):ZG5.wrap (ZG5.wrap (s * a) * b)=s * (a * b):=by
  have:=Zkt (show 0≤a∧a≤10006 by omega) (show 0≤b∧b≤10006 by omega)
  rcases hs with rfl | rfl
  · rw [i64_in (1 * a) (by omega),Int.mul_assoc,i64_in _ (by omega)]
  · rw [i64_in (-1 * a) (by omega),Int.mul_assoc,i64_in _ (by omega)]
theorem Zxs {ds:List Int} {t:Term} {g:List Term} {K:ZMj→Prop} (hd:OkDeg ds) (ht:Ji ds t.mono) (htf:1≤t.factor∧t.factor≤10006) (pt:∀ i,i < 8→0≤t.mono.get i) (cg:Canon g) (wg:∀ u,u∈g→Ji ds u.mono) (pg:Zes g) (hl:g.length≤100000000)
    (h:∀ out,IsShift ds t g out→K ⟨out⟩):Zg8 ds t ⟨g⟩ K:=by
  unfold Zg8
  dsimp only
  refine X5 (fun (s:List Term×Int)=>0≤s.2∧s.2≤g.length∧IsShift ds t (g.take s.2.toNat) s.1) (fun s=>g.length - s.2.toNat) ?_ ⟨by omega,by omega,by simpa using IsShift.nil ds t⟩
  rintro ⟨out,i⟩ next ⟨h1,h2,hI⟩ hn
  dsimp only at h1 h2 hI hn ⊢
  split
  · rename_i hi
    have a:i.toNat < g.length:=by omega
    have hu:=Y5 a
    have ni:(i+1).toNat=i.toNat+1:=by omega
    have wi:ZG5.wrap (i+1)=i+1:=i64_in _ (by omega)
    rw [wi]
    have hct:Canon (g.take i.toNat++[g.getD i.toNat ZEo]):=by
      rw [← Xq a]
      exact⟨cg.1.sublist (List.take_sublist _ _),fun s hs=>cg.2 s (ZSv hs)⟩
    refine⟨by omega,Zwu hd ht (wg _ hu) pt (fun q hq=>(pg _ hu q hq).1) ?_⟩
    split
    · rename_i hs
      have hf:=cg.at_range a
      have hln:=hI.ln
      simp only [ZGs] at hln
      refine⟨by omega,Zdd ?_⟩
      rw [Zni (Zhz hs).2.2 htf hf]
      refine⟨by unfold Zy; omega,hn _ ⟨by dsimp only; omega,by dsimp only; omega,?_⟩ (by dsimp only; omega)⟩
      dsimp only
      rw [ni,Xq a]
      exact hI.put hct htf hs rfl
    · rename_i hs
      refine hn _ ⟨by dsimp only; omega,by dsimp only; omega,?_⟩ (by dsimp only; omega)
      dsimp only
      rw [ni,Xq a]
      exact hI.skip (by simpa using hs)
  · rename_i hi
    rw [ZFo (by omega)] at hI
    exact h _ hI
theorem Zq3 {ds:List Int} {f g:List Term} {K:ZMj→Prop} (hd:OkDeg ds) (cf:Canon f) (wf:∀ u,u∈f→Ji ds u.mono) (pf:Zes f) (cg:Canon g) (wg:∀ u,u∈g→Ji ds u.mono) (pg:Zes g) (hf:f.length≤10000) (hg:g.length≤10000)
    (h:∀ out,IsProd ds f g out→K ⟨out⟩):Zaj ds ⟨f⟩ ⟨g⟩ K:=by
  unfold Zaj
  dsimp only
  refine X5 (fun (s:List Term×Int)=>0≤s.2∧s.2≤f.length∧IsProd ds (f.take s.2.toNat) g s.1) (fun s=>f.length - s.2.toNat) ?_ ⟨by omega,by omega,by simpa using IsProd.nil ds g⟩
  rintro ⟨out,i⟩ next ⟨h1,h2,hI⟩ hn
  dsimp only at h1 h2 hI hn ⊢
  split
  · rename_i hi
    have a:i.toNat < f.length:=by omega
    have hu:=Y5 a
    have ni:(i+1).toNat=i.toNat+1:=by omega
    have wi:ZG5.wrap (i+1)=i+1:=i64_in _ (by omega)
    rw [wi]
    refine⟨by omega,Zxs hd (wf _ hu) (cf.at_range a) (fun q hq=>(pf _ hu q hq).1) cg wg pg (by omega) fun sh hsh=>?_⟩
    have hln:=hI.ln
    have hls:=hsh.ln
    have:(f.take i.toNat).length * g.length≤10000 * 10000:=Nat.mul_le_mul (by rw [ZGs]; omega) hg
    refine Zq2 hI.can hsh.can (by omega) (by omega) (by omega) fun out' ho=>?_
    refine hn _ ⟨by dsimp only; omega,by dsimp only; omega,?_⟩ (by dsimp only; omega)
    dsimp only
    rw [ni,Xq a]
    exact hI.step hsh ho
  · rename_i hi
    rw [ZFo (by omega)] at hI
    exact h _ hI
end Go.Proofs.YtaagfepgbofmlaaGreat
namespace Go.Proofs.YtaagfepgbofmlaaGreat
open Go Vc
theorem Zxt {a b:A8} {K:Int→Prop} (ha:OkP a) (hb:OkP b) (h:K (pcmp a b)):Zkb a b K:=Zus ha hb h
def FitT (l:List Term):Prop:=∀ t,t∈l→Zaz .u8 t.mono
theorem FitT.pos {l:List Term} (h:FitT l):Zes l:=fun t ht i hi=>Zmt (Zmu (h t ht) hi)
theorem Zq4 {a:A8} (h:Zaz .u8 a):OkP a:=fun x hx=>by
  obtain ⟨i,hi,rfl⟩:=A8.mem_list.1 hx
  have:=Zmt (Zmu h hi)
  omega
theorem Zxu {x:Int} {K:Bool→Prop} (h:K (decide (1≤x∧x≤10006))):Zkd x K:=Zki h
theorem Zxv {ds : List Int} {l : List Term} {K : Bool → Prop} (hd : OkDeg ds) (hp : FitT l) (h : K (decide (OkForm ds l))) : Zfp ds ⟨l⟩ K := by
  unfold Zfp
  dsimp only
  split
  · rename_i q
    have:¬ OkForm ds l:=fun z=>by have:=z.1; omega
    rwa [decide_eq_false this] at h
  · rename_i q0
    refine Yr (fun i _=>∀ j,j < i→OkMono ds (l.getD j ZEo).mono∧(1≤(l.getD j ZEo).factor∧(l.getD j ZEo).factor≤10006)∧(0 < j→pcmp (l.getD (j - 1) ZEo).mono (l.getD j ZEo).mono < 0)) l.length ?_ ?_ _ _ _ (by omega) (by intro j hj; omega)
    · intro i s next hi hI hn
      have bad:¬ (OkMono ds (l.getD i ZEo).mono∧(1≤(l.getD i ZEo).factor∧(l.getD i ZEo).factor≤10006)∧(0 < i→pcmp (l.getD (i - 1) ZEo).mono (l.getD i ZEo).mono < 0))→K false:=by
        intro b
        have:¬ OkForm ds l:=fun q=>b (q.2 _ hi)
        rwa [decide_eq_false this] at h
      refine Zwo hd (fun q hq=>(hp.pos _ (Y5 hi) q hq).1) ?_
      split
      · rename_i q
        exact bad fun z=>q (decide_eq_true z.1)
      · rename_i q1
        have q1:OkMono ds (l.getD i ZEo).mono:=of_decide_eq_true (ZPz.1 q1)
        refine Zxu ?_
        split
        · rename_i q
          exact bad fun z=>q (decide_eq_true z.2.1)
        · rename_i q2
          have q2:1≤(l.getD i ZEo).factor∧(l.getD i ZEo).factor≤10006:=of_decide_eq_true (ZPz.1 q2)
          have ok:(0 < i→pcmp (l.getD (i - 1) ZEo).mono (l.getD i ZEo).mono < 0)→next ():=fun q3=>by
            refine hn _ fun j hj=>?_
            by_cases hji:j=i
            · subst hji; exact⟨q1,q2,q3⟩
            · exact hI j (by omega)
          split
          · have w2:ZG5.wrap ((i:Int) - 1)=(i:Int) - 1:=i64_in _ (by omega)
            rw [w2,show ((i:Int) - 1).toNat=i - 1 by omega]
            have f1:=hp _ (Y5 (show i - 1 < l.length by omega))
            have f2:=hp _ (Y5 hi)
            refine⟨by omega,Zkj f1 (Zkj f2 (Zxt (Zq4 f1) (Zq4 f2) ?_))⟩
            split
            · rename_i q
              exact bad fun z=>by have:=z.2.2 (by omega); omega
            · rename_i q
              exact ok fun _=>by omega
          · exact ok fun q=>by omega
    · intro s hI
      have:OkForm ds l:=⟨by omega,hI⟩
      rwa [decide_eq_true this] at h
structure IsMap (l:List Term) (m:List (A8×Int)):Prop where
  ok:MapOk m
  cf:∀ x,co m x=coT l x
  ks:∀ p,p∈m→∃ t,t∈l∧t.mono=p.1
theorem Znj {l : List Term} {K : List (A8 × Int) → Prop} (hc : Canon l) (hp : FitT l) (h : ∀ m, IsMap l m → K m) : Zel ⟨l⟩ K := by
  unfold Zel
  dsimp only
  refine Yr (fun i (s:List (A8×Int))=>IsMap (l.take i) s) l.length ?_ ?_ _ _ _ (by omega) ⟨MapOk.nil,by intro x; rfl,by simp⟩
  · intro i s next hi hI hn
    refine Zkj (hp _ (Y5 hi)) (hn _ ?_)
    rw [Xq hi]
    have hnew:co s (l.getD i ZEo).mono=0:=by
      rw [hI.cf]
      refine Zcr fun t ht=>?_
      obtain ⟨j,hj,rfl⟩:=ZEx ht
      rw [ZGs] at hj
      have:=hc.at_lt (show j < i by omega) hi
      have hjl:j < l.length:=by omega
      simp only [List.getElem_take]
      rw [show l.getD j ZEo=l[j] by simp [ZEy,hjl]] at this
      exact Zbs this
    refine⟨hI.ok.put (hc.at_range hi),fun x=>?_,fun p hpm=>?_⟩
    · rw [Znc hI.ok.1,Zdb,← hI.cf]
      by_cases hx:x=(l.getD i ZEo).mono
      · subst hx; rw [if_pos rfl,if_pos rfl,hnew,ZO0]
      · rw [if_neg hx,if_neg (fun e=>hx e.symm),ZSd]
    · rcases Zne hpm with rfl | q
      · exact⟨_,by simp,rfl⟩
      · obtain ⟨t,ht,e⟩:=hI.ks p q
        exact⟨t,by simp [ht],e⟩
  · intro s hI
    rw [List.take_length] at hI
    exact h _ hI
theorem Znk {l:List (A8×Int)} {x:A8} {c:Int} {K:List (A8×Int)→Prop} (hl:MapOk l) (hc:-100000000000≤c∧c≤100000000000) (h:∀ l',IsPut l x c l'→K l'):Zek l x c K:=by
  unfold Zek
  rw [Zct hl.1]
  have:=hl.range x
  rw [i64_in _ (by omega)]
  refine Znh ?_
  split
  · rename_i q; exact h _ (IsPut.put hl rfl q)
  · rename_i q; exact h _ (IsPut.del hl (by omega))
structure IsSum (s t:List (A8×Int)) (k:Int) (out:List (A8×Int)):Prop where
  ok:MapOk out
  cf:∀ m,co out m % 10007=(co s m+k * co t m) % 10007
  ks:∀ p,p∈out→∃ q,(q∈s∨q∈t)∧q.1=p.1
  ln:out.length≤s.length+t.length
theorem Zxw {s t : List (A8 × Int)} {k : Int} {K : List (A8 × Int) → Prop} (hs : MapOk s) (ht : MapOk t) (hk : 0 ≤ k ∧ k ≤ 10006) (h : ∀ out, IsSum s t k out → K out) : Zem s t k K := by
  unfold Zem
  refine Zg1 (fun l' (out:List (A8×Int))=>(∀ p,p∈l'→p∈t)∧MapOk out∧(∀ m,(co out m+k * co l' m) % 10007=(co s m+k * co t m) % 10007)∧(∀ p,p∈out→∃ q,(q∈s∨q∈t)∧q.1=p.1)∧out.length+l'.length≤s.length+t.length) ?_ ?_ t s ⟨fun _ h=>h,hs,fun _=>rfl,fun p hp=>⟨p,.inl hp,rfl⟩,by omega⟩
  · intro l' p l'' out next hp ⟨h0,h1,h2,h3,h4⟩ hn
    have hperm:=Zj2 hp
    have hpm:p∈l':=hperm.mem_iff.2 (by simp)
    have hpt:=ht.2 p (h0 p hpm)
    have hb:=Zkt (show 0≤p.2∧p.2≤10006 by omega) hk
    rw [i64_in _ (by omega)]
    have htm:=Zhy (p.2 * k)
    refine Znk h1 (by omega) fun out' ho=>hn _ ⟨fun q hq=>h0 q (hperm.mem_iff.2 (by simp [hq])),ho.ok,fun m=>?_,fun q hq=>?_,?_⟩
    · have e1:=ho.cf m
      have e2:=h2 m
      have e3:co l' m=(if p.1=m then p.2 else 0)+co l'' m:=by rw [co,Zfq _ hperm]; rfl
      rw [e3,Int.mul_add] at e2
      by_cases hm:p.1=m
      · rw [if_pos hm] at e1 e2
        have e4:=Zqu (p.2 * k)
        rw [Int.mul_comm k p.2] at e2
        omega
      · rw [if_neg hm] at e1 e2
        omega
    · rcases ho.ks q hq with e | ⟨q',hq',e⟩
      · exact⟨p,.inr (h0 p hpm),e.symm⟩
      · obtain ⟨z,hz,e'⟩:=h3 q' hq'
        exact⟨z,hz,e'.trans e⟩
    · have:=ho.ln
      have:=Zgz hp
      omega
  · intro out ⟨_,h1,h2,h3,h4⟩
    exact h _ ⟨h1,fun m=>by have:=h2 m; rw [Zfr,ZSw,ZSd] at this; exact this,h3,by simpa using h4⟩
def shM (ds:List Int) (p:A8×Int) (t:List (A8×Int)) (m:A8):Int:=tot (fun q=>pr1 ds p.1 p.2 q.1 q.2 m) t
def prM (ds:List Int) (s t:List (A8×Int)) (m:A8):Int:=tot (fun p=>shM ds p t m) s
structure IsProdM (ds:List Int) (s t out:List (A8×Int)):Prop where
  ok:MapOk out
  cf:∀ m,co out m % 10007=prM ds s t m % 10007
  ks:∀ p,p∈out→∃ a b,a∈s∧b∈t∧p.1=a.1.add b.1∧¬ Clash ds a.1 b.1
theorem Zq5 {ds : List Int} {s t : List (A8 × Int)} {K : List (A8 × Int) → Prop} (hd : OkDeg ds) (hs : MapOk s) (ws : ∀ p, p ∈ s → Ji ds p.1) (ps : ∀ p, p ∈ s → ∀ i, i < 8 → 0 ≤ p.1.get i) (ht : MapOk t) (wt : ∀ p, p ∈ t → Ji ds p.1) (pt : ∀ p, p ∈ t → ∀ i, i < 8 → 0 ≤ p.1.get i)
    (h:∀ out,IsProdM ds s t out→K out):Zcq s ds t K:=by
  unfold Zcq
  refine Zg1 (fun l' (out:List (A8×Int))=>(∀ p,p∈l'→p∈s)∧MapOk out∧(∀ m,(co out m+prM ds l' t m) % 10007=prM ds s t m % 10007)∧(∀ p,p∈out→∃ a b,a∈s∧b∈t∧p.1=a.1.add b.1∧¬ Clash ds a.1 b.1)) ?_ ?_ s [] ⟨fun _ h=>h,MapOk.nil,fun m=>by rw [Zfr,ZO0],by simp⟩
  · intro l' p l'' out next hp ⟨h0, h1, h2, h3⟩ hn
    have hperm:=Zj2 hp
    have hpm:p∈s:=h0 p (hperm.mem_iff.2 (by simp))
    have hpf:=hs.2 p hpm
    have e3:∀ m,prM ds l' t m=shM ds p t m+prM ds l'' t m:=fun m=>by rw [prM,Zfq _ hperm]; rfl
    refine Zg1 (fun k' (o2:List (A8×Int))=>(∀ q,q∈k'→q∈t)∧MapOk o2∧(∀ m,(co o2 m+shM ds p k' m) % 10007=(co out m+shM ds p t m) % 10007)∧(∀ q,q∈o2→∃ a b,a∈s∧b∈t∧q.1=a.1.add b.1∧¬ Clash ds a.1 b.1)) ?_ ?_ t out ⟨fun _ h=>h,h1,fun _=>rfl,h3⟩
    · intro k' q k'' o2 next' hq ⟨g0, g1, g2, g3⟩ hn'
      have hperm2:=Zj2 hq
      have hqm:q∈t:=g0 q (hperm2.mem_iff.2 (by simp))
      have hqf:=ht.2 q hqm
      have e4:∀ m,shM ds p k' m=pr1 ds p.1 p.2 q.1 q.2 m+shM ds p k'' m:=fun m=>by rw [shM,Zfq _ hperm2]; rfl
      refine Zwv hd (ws p hpm) (wt q hqm) (ps p hpm) (pt q hqm) ?_
      split
      · rename_i hsg
        rw [Zni (Zhz hsg).2.2 hpf hqf]
        have htm:=Zhy ((Xl ds p.1 q.1).2 * (p.2 * q.2))
        refine Znk g1 (by omega) fun o3 ho=>hn' _ ⟨fun z hz=>g0 z (hperm2.mem_iff.2 (by simp [hz])),ho.ok,fun m=>?_,fun z hz=>?_⟩
        · have e1:=ho.cf m
          have e2:=g2 m
          rw [e4,pr1] at e2
          by_cases hm:(Xl ds p.1 q.1).1=m
          · rw [if_pos hm] at e1 e2
            have e5:=Zqu ((Xl ds p.1 q.1).2 * (p.2 * q.2))
            omega
          · rw [if_neg hm] at e1 e2
            omega
        · rcases ho.ks z hz with e | ⟨z',hz',e⟩
          · exact⟨p,q,hpm,hqm,by rw [e,(Zhz hsg).2.1],(Zhz hsg).1⟩
          · obtain ⟨a,b,ha,hb,e',hc⟩:=g3 z' hz'
            exact⟨a,b,ha,hb,e ▸ e',hc⟩
      · rename_i hsg
        refine hn' _ ⟨fun z hz=>g0 z (hperm2.mem_iff.2 (by simp [hz])),g1,fun m=>?_,g3⟩
        have e2:=g2 m
        rw [e4,pr1,show (Xl ds p.1 q.1).2=0 by simpa using hsg] at e2
        simpa using e2
    · intro o2 ⟨_,g1,g2,g3⟩
      refine hn _ ⟨fun q hq=>h0 q (hperm.mem_iff.2 (by simp [hq])),g1,fun m=>?_,g3⟩
      have e1:=g2 m
      have e2:=h2 m
      rw [e3] at e2
      rw [show shM ds p [] m=0 from rfl] at e1
      omega
  · intro out ⟨_,h1,h2,h3⟩
    exact h _ ⟨h1,fun m=>by have:=h2 m; rw [show prM ds [] t m=0 from rfl,ZSd] at this; exact this,h3⟩
theorem Zkw {l : List Term} {k : List (A8 × Int)} (hk : IsMap l k) (hc : Canon l) (F : A8 → Int → Int) (hF : ∀ a, F a 0 = 0) : tot (fun p => F p.1 p.2) k = tot (fun t => F t.mono t.factor) l := by
  have hnd:(l.map fun t=>(t.mono,t.factor)).Nodup:=by
    refine ZS6.2 (hc.1.imp fun {a b} h e=>?_)
    exact Zbs h (congrArg Prod.fst e)
  have hperm:k.Perm (l.map fun t=>(t.mono,t.factor)):=by
    have hkn:k.Nodup:=by
      have:=hk.ok.1
      exact List.Pairwise.imp (fun {a b} h e=>h (congrArg Prod.fst e)) (ZS6.1 this)
    refine(List.perm_ext_iff_of_nodup hkn hnd).2 fun p=>?_
    have atk:∀ p,p∈k→co k p.1=p.2:=by
      intro p hp
      obtain ⟨i,hi,rfl⟩:=ZEx hp
      have hkk:=hk.ok.1
      clear hk hkn
      induction k generalizing i with
      | nil=>simp at hi
      | cons q k ih =>
        simp only [ZFq,ZO1] at hkk
        rw [Za5]
        cases i with
        | zero=>rw [List.getElem_cons_zero,if_pos rfl,Zdc fun t ht e=>hkk.1 (ZF2.2 ⟨t,ht,e⟩),ZSd]
        | succ i =>
          have hi':i < k.length:=by simpa using hi
          rw [List.getElem_cons_succ,if_neg (fun e=>hkk.1 (ZF2.2 ⟨_,ZE1 hi',e.symm⟩)),ZO0]
          exact ih i hi' (ZE1 hi') hkk.2
    have atl:∀ t,t∈l→coT l t.mono=t.factor:=by
      intro t ht
      clear hk hkn hnd atk
      induction l with
      | nil=>simp at ht
      | cons q l ih =>
        rcases ZEk.1 ht with rfl | ht
        · exact hc.at_head
        · rw [Zbt,if_neg (Zbs (hc.head t ht)),ZO0]; exact ih hc.tail ht
    constructor
    · intro hp
      obtain ⟨t,ht,e⟩:=hk.ks p hp
      refine ZF2.2 ⟨t,ht,?_⟩
      have h1:=atk p hp
      rw [hk.cf,← e,atl t ht] at h1
      rw [e,h1]
    · intro hp
      obtain ⟨t,ht,rfl⟩:=ZF2.1 hp
      have h1:=hk.cf t.mono
      rw [atl t ht] at h1
      have hnz:=hc.2 t ht
      have:∃ p,p∈k∧p.1=t.mono:=by
        refine ZS7 fun hno=>?_
        rw [Zdc (fun p hp e=>hno ⟨p,hp,e⟩)] at h1
        omega
      obtain ⟨p,hp,e⟩:=this
      have h2:=atk p hp
      rw [e,h1] at h2
      rw [← e,h2]; exact hp
  rw [Zfq _ hperm,Zeo]
def Low (a:A8):Prop:=∀ i,i < 8→a.get i≤20
instance (a:A8):Decidable (Low a):=inferInstanceAs (Decidable (∀ i,i < 8→_))
end Go.Proofs.YtaagfepgbofmlaaGreat
namespace Vc
open Go
def A8.mkf (f:Nat→Int):A8:=⟨f 0,f 1,f 2,f 3,f 4,f 5,f 6,f 7⟩
theorem A8.get_mkf (f:Nat→Int) {i:Nat} (hi:i < 8):(A8.mkf f).get i=f i:=by
  match i,hi with
  | 0,_ | 1,_ | 2,_ | 3,_ | 4,_ | 5,_ | 6,_ | 7,_=>rfl
def Jc (m:A8) (i:Nat):A8:=A8.mkf fun j=>if j < i then m.get j else 0
def leftA (m:A8) (i:Nat):A8:=A8.mkf fun j=>if j < i then m.get j else if j=i then m.get i - 1 else 0
def backA (m:A8) (i:Nat):A8:=A8.mkf fun j=>if i < j then m.get j else 0
def wtU (ds:List Int) (m:A8):Nat→Int
  | 0=>0
  | i+1=>wtU ds m i+ds.getD i ZEo * m.get i
theorem Zq6 (F : A8 → Int) (S : List A8) (hS : S.Nodup) : ∀ l : List Term, (∀ t, t ∈ l → t.mono ∈ S) → tot (fun t => F t.mono * t.factor) l = tot (fun x => F x * coT l x) S := by
  intro l
  induction l with
  | nil=>intro _; simp only [tot]; rw [Zkn]; intro x _; rw [Zep,ZSw]
  | cons t l ih =>
    intro h
    simp only [tot]
    rw [ih fun s hs=>h s (by simp [hs])]
    have e:∀ x,F x * coT (t::l) x=(if t.mono=x then F x * t.factor else 0)+F x * coT l x:=fun x=>by
      rw [Zbt,Int.mul_add]
      congr 1
      split
      · rfl
      · rw [ZSw]
    rw [Zhx (fun x _=>e x),Zww]
    congr 1
    have ht:=h t (by simp)
    clear ih h e
    induction S with
    | nil=>cases ht
    | cons s S ihS =>
      simp only [tot]
      have hn:=ZO1.1 hS
      by_cases hs:t.mono=s
      · subst hs
        rw [if_pos rfl,Zkn]
        · omega
        · intro x hx
          rw [if_neg]
          rintro rfl
          exact hn.1 hx
      · rw [if_neg hs,ZO0]
        refine ihS hn.2 ?_
        rcases ZEk.1 ht with q | q
        · exact absurd q hs
        · exact q
def Zcu:List A8→List A8
  | []=>[]
  | a::l=>if a∈Zcu l then Zcu l else a::Zcu l
theorem Znl {a:A8}:∀ l,a∈l→a∈Zcu l
  | b :: l, h => by
    simp only [Zcu]
    rcases ZEk.1 h with rfl | h
    · split
      · assumption
      · simp
    · have:=Znl l h
      split
      · exact this
      · simp [this]
theorem Zkx:∀ l,(Zcu l).Nodup
  | []=>List.nodup_nil
  | a :: l => by
    simp only [Zcu]
    split
    · exact Zkx l
    · exact ZO1.2 ⟨by assumption,Zkx l⟩
theorem lin (F:A8→Int) {l k:List Term} (h:∀ x,coT l x % 10007=coT k x % 10007):tot (fun t=>F t.mono * t.factor) l % 10007=tot (fun t=>F t.mono * t.factor) k % 10007:=by
  have S:=Zcu (l.map ZSj++k.map ZSj)
  rw [Zq6 F (Zcu (l.map ZSj++k.map ZSj)) (Zkx _) l fun t ht=>Znl _ (by simp; exact .inl ⟨t,ht,rfl⟩),
    Zq6 F (Zcu (l.map ZSj++k.map ZSj)) (Zkx _) k fun t ht=>Znl _ (by simp; exact .inr ⟨t,ht,rfl⟩)]
  refine Zwx fun x _=>?_
  rw [ZSh,h x,← ZSh]
def tri (ds:List Int) (l b u:A8) (n:Int) (x:A8):Int:=if(Xl ds (Xl ds l u).1 b).1=x then(Xl ds (Xl ds l u).1 b).2 * ((Xl ds l u).2 * n) else 0
def triC (ds:List Int) (l b:A8) (img:List Term) (x:A8):Int:=tot (fun u=>tri ds l b u.mono u.factor x) img
theorem Zq7 {ds:List Int} {l b:A8} {img own prod:List Term} (h1:∀ y,coT own y % 10007=shC ds ⟨l,1⟩ img y % 10007) (h2:∀ x,coT prod x % 10007=prC ds own [⟨b,1⟩] x % 10007) (x:A8):coT prod x % 10007=triC ds l b img x % 10007:=by
  rw [h2]
  have e1:prC ds own [⟨b,1⟩] x=tot (fun t=>(if(Xl ds t.mono b).1=x then(Xl ds t.mono b).2 else 0) * t.factor) own:=by
    refine Zhx fun t _=>?_
    unfold shC pr1
    simp only [tot,Int.mul_one,ZSd]
    split <;> simp
  have hL:∀ y,coT own y % 10007=coT (img.map fun u=>(⟨(Xl ds l u.mono).1,(Xl ds l u.mono).2 * u.factor⟩:Term)) y % 10007:=fun y=>by
    rw [h1 y,shC,coT,Zeo]
    congr 1
    refine Zhx fun u _=>?_
    unfold pr1
    simp only [Int.one_mul]
  rw [e1,lin (fun y=>if(Xl ds y b).1=x then(Xl ds y b).2 else 0) hL,Zeo]
  congr 1
  refine Zhx fun u _=>?_
  unfold tri
  dsimp only
  split <;> simp
def dK (ds:List Int) (m:A8) (n:Int) (i:Nat):Int:=(sg (wtU ds m i) * (n * m.get i)) % 10007
def dS (ds:List Int) (imgs:List (List Term)) (m:A8) (n:Int) (x:A8):Nat→Nat→Int
  | 0,_=>0
  | r+1,i=>(if m.get i > 0 then dK ds m n i * triC ds (leftA m i) (backA m i) (imgs.getD i ZEo) x else 0)+dS ds imgs m n x r (i+1)
def dT (ds:List Int) (imgs:List (List Term)) (m:A8) (n:Int) (x:A8):Int:=dS ds imgs m n x 8 0
theorem Zxx (ds:List Int) (m:A8) (i:Nat):dK ds m 0 i=0:=by simp [dK]
theorem Znm (ds:List Int) (imgs:List (List Term)) (m x:A8):dT ds imgs m 0 x=0:=by
  have:∀ r i,dS ds imgs m 0 x r i=0:=by
    intro r
    induction r with
    | zero=>intro i; rfl
    | succ r ih=>intro i; simp only [dS,ih,Zxx]; split <;> simp
  exact this 8 0
theorem Zxy {ds:List Int} {imgs:List (List Term)} {m:A8} {n:Int} {x:A8}:∀ r i,(∀ j,i≤j→j < i+r→m.get j=0)→dS ds imgs m n x r i=0:=by
  intro r
  induction r with
  | zero=>intro i _; rfl
  | succ r ih=>intro i h; simp only [dS]; rw [h i (by omega) (by omega),if_neg (by omega),ih (i+1) fun j h1 h2=>h j (by omega) (by omega)]; rfl
def DMono (ds:List Int) (imgs:List (List Term)) (x m:A8):Prop:=∃ i u,i < 8∧0 < m.get i∧u∈imgs.getD i ZEo∧x=((leftA m i).add u.mono).add (backA m i)∧¬ Clash ds (leftA m i) u.mono∧¬ Clash ds ((leftA m i).add u.mono) (backA m i)
structure IsD (ds:List Int) (imgs:List (List Term)) (f out:List Term):Prop where
  can:Canon out
  cf:∀ x,coT out x % 10007=tot (fun t=>dT ds imgs t.mono t.factor x) f % 10007
  mo:∀ y,y∈out→∃ t,t∈f∧DMono ds imgs y.mono t.mono
theorem Znn {ds : List Int} {m : A8} {i : Nat} (h : OkMono ds m) (hi : i < 8) (hp : 0 < m.get i) : Ji ds (leftA m i) ∧ Ji ds (backA m i) := by
  constructor
  · intro j hj
    rw [leftA,A8.get_mkf _ hj]
    have hm:=h j hj
    refine⟨fun hl=>?_,fun hl=>?_⟩
    · have h1:=hm.1 hl
      split
      · exact⟨by omega,h1.2⟩
      · split
        · rename_i e; subst e; exact⟨by omega,fun q=>by have:=h1.2 q; omega⟩
        · exact⟨by omega,fun _=>by omega⟩
    · have h1:=hm.2 hl
      split
      · exact h1
      · split
        · rename_i e; subst e; omega
        · rfl
  · intro j hj
    rw [backA,A8.get_mkf _ hj]
    have hm:=h j hj
    refine⟨fun hl=>?_,fun hl=>?_⟩
    · have h1:=hm.1 hl
      split
      · exact⟨by omega,h1.2⟩
      · exact⟨by omega,fun _=>by omega⟩
    · have h1:=hm.2 hl
      split
      · exact h1
      · rfl
theorem Zky {ds:List Int} {a b:A8} (ha:Ji ds a) (hb:Ji ds b) (pa:∀ i,i < 8→0≤a.get i) (pb:∀ i,i < 8→0≤b.get i) (hs:∀ i,i < 8→a.get i+b.get i≤100) (hc:¬ Clash ds a b):Ji ds (a.add b):=by
  intro j hj
  rw [A8.get_add]
  have h1:=ha j hj
  have h2:=hb j hj
  refine⟨fun hl=>⟨hs j hj,fun ho=>?_⟩,fun hl=>by rw [h1.2 hl,h2.2 hl]; rfl⟩
  have g1:=(h1.1 hl).2 ho
  have g2:=(h2.1 hl).2 ho
  have:=pa j hj
  have:=pb j hj
  have:¬ (0 < a.get j∧0 < b.get j):=fun q=>hc ⟨j,hl,ho,q⟩
  omega
end Vc
namespace Go.Proofs.YtaagfepgbofmlaaGreat
open Go Vc
def asT (m:List (A8×Int)):List Term:=m.map fun p=>⟨p.1,p.2⟩
theorem Zno (m:List (A8×Int)) (x:A8):coT (asT m) x=co m x:=by rw [coT,asT,Zeo]; rfl
theorem Znp {l : List Term} {out : List (A8 × Int)} (hc : Canon l) (ho : MapOk out) (h : ∀ x, co out x % 10007 = coT l x % 10007) : IsMap l out := by
  have hcf:∀ x,co out x=coT l x:=fun x=>by have:=h x; have:=ho.range x; have:=hc.range x; omega
  refine⟨ho,hcf,fun p hp=>ZS7 fun hno=>?_⟩
  have h1:coT l p.1=0:=Zcr fun t ht e=>hno ⟨t,ht,e⟩
  rw [← hcf,← Zct ho.1] at h1
  have h2:=ho.2 p hp
  have h3:(Y9 out p.1).getD 0=p.2:=by
    rw [Zct ho.1]
    have hk:=ho.1
    clear h hcf hno h1 h2 ho
    induction out with
    | nil=>simp at hp
    | cons q k ih =>
      simp only [ZFq,ZO1] at hk
      rw [Za5]
      rcases ZEk.1 hp with rfl | hp
      · rw [if_pos rfl,Zdc fun t ht e=>hk.1 (ZF2.2 ⟨t,ht,e⟩),ZSd]
      · rw [if_neg (fun e=>hk.1 (ZF2.2 ⟨p,hp,e.symm⟩)),ZO0]
        exact ih hp hk.2
  omega
theorem Zxz {ds:List Int} {l b:A8} {img:List Term} {s own t:List (A8×Int)} (hs:IsMap img s) (hc:Canon img) (h1:IsProdM ds [(l,1)] s own) (h2:IsProdM ds own [(b,1)] t) (x:A8):co t x % 10007=triC ds l b img x % 10007:=by
  rw [← Zno]
  refine Zq7 (own:=asT own) (fun y=>?_) (fun x=>?_) x
  · rw [Zno,h1.cf]
    unfold prM shM shC
    simp only [tot,ZSd]
    rw [Zkw hs hc (fun a n=>pr1 ds l 1 a n y) (fun a=>by unfold pr1; split <;> simp)]
  · rw [Zno,h2.cf]
    unfold prM shM prC shC asT
    rw [Zeo]
    simp only [tot,ZSd]
structure IsDM (ds:List Int) (imgs:List (List Term)) (s out:List (A8×Int)):Prop where
  ok:MapOk out
  cf:∀ x,co out x % 10007=tot (fun p=>dT ds imgs p.1 p.2 x) s % 10007
  mo:∀ y,y∈out→∃ t,t∈s∧DMono ds imgs y.1 t.1
theorem Zx0 {ds:List Int} {imgs:List (List Term)} {f:List Term} {s out':List (A8×Int)} {out:List Term} (hs:IsMap f s) (hc:Canon f) (h:IsD ds imgs f out) (h':IsDM ds imgs s out'):IsMap out out' :=
  Znp h.can h'.ok fun x=>by
    rw [h'.cf,h.cf,Zkw hs hc (fun a n=>dT ds imgs a n x) (fun a=>Znm ds imgs a x)]
theorem Zq8 {l:List Term} {m:List (A8×Int)} (h:IsMap l m) (hc:Canon l):m=[]↔l=[]:=by
  constructor
  · intro e
    cases l with
    | nil=>rfl
    | cons t l =>
      have h1:=h.cf t.mono
      rw [hc.at_head,e,Zfr] at h1
      have:=hc.2 t (by simp)
      omega
  · intro e
    cases m with
    | nil=>rfl
    | cons p m =>
      obtain ⟨t,ht,_⟩:=h.ks p (by simp)
      rw [e] at ht; cases ht
end Go.Proofs.YtaagfepgbofmlaaGreat
namespace Go.Proofs.YtaagfepgbofmlaaGreat
open Go Vc
theorem Zx1 {a b:Term} {K:Bool→Prop} (h:K (decide (a=b))):Zhq a b K:=by
  unfold Zhq
  refine Zws ?_
  cases a with | mk m x=>cases b with | mk n y =>
  by_cases h1:m=n
  · by_cases h2:x=y
    · simpa [h1,h2] using h
    · simpa [h1,h2] using h
  · simpa [h1] using h
theorem Zq9 {α : Type} [DecidableEq α] [Inhabited α] {a b : List α} {K : Bool → Prop} {eq : α → α → (Bool → Prop) → Prop} (he : ∀ x y K, K (decide (x = y)) → eq x y K) (h : K (decide (a = b))) :
    (if(a.length:Int)≠(b.length:Int) then K false else Z8 (fun i (s:Unit) next=>((0≤(i:Int)∧(i:Int) < (b.length:Int))∧eq (a.getD i ZEo) (b.getD i ZEo) (fun r=>(if¬ (r=true) then K false else next ())))) (fun (s:Unit)=>K true) a.length 0 ()):=by
  split
  · rename_i h1
    have:¬ a=b:=fun e=>h1 (by rw [e])
    simpa [this] using h
  · rename_i h1
    have hl:a.length=b.length:=by omega
    refine Yr (fun i _=>∀ j,j < i→a.getD j ZEo=b.getD j ZEo) a.length ?_ ?_ _ _ _ (by omega) (by intro j hj; omega)
    · intro i s next hi hI hn
      refine⟨by omega,he _ _ _ ?_⟩
      split
      · rename_i h1
        have:¬ a=b:=fun e=>h1 (by rw [e]; simp)
        simpa [this] using h
      · rename_i h1
        refine hn _ fun j hj=>?_
        by_cases hji:j=i
        · subst hji; simpa only [decide_eq_true_eq,ZPz] using h1
        · exact hI j (by omega)
    · intro s hI
      have:a=b:=by
        apply ZHb hl
        intro i h1 h2
        have:=hI i h1
        simpa [ZEy,h1,h2] using this
      simpa [this] using h
theorem Zx2 {a b:List Term} {K:Bool→Prop} (h:K (decide (a=b))):Zkf a b K:=Zq9 (fun _ _ _ h=>Zx1 h) h
theorem Zx3 {a b:ZMj} {K:Bool→Prop} (h:K (decide (a=b))):Zhr a b K:=by
  unfold Zhr
  refine Zx2 ?_
  cases a with | mk s=>cases b with | mk t =>
  by_cases h1:s=t
  · simpa [h1] using h
  · simpa [h1] using h
theorem Zx4 {a b:List ZMj} {K:Bool→Prop} (h:K (decide (a=b))):Zkg a b K:=Zq9 (fun _ _ _ h=>Zx3 h) h
theorem Zx5 {a b:Alg} {K:Bool→Prop} (h:K (decide (a=b))):Zfu a b K:=by
  unfold Zfu
  refine Zqo ?_
  cases a with | mk s t=>cases b with | mk u v =>
  dsimp only
  by_cases h1:s=u
  · simp only [h1,decide_true,not_true_eq_false,if_false]
    refine Zx4 ?_
    by_cases h2:t=v
    · simpa [h1,h2] using h
    · simpa [h2] using h
  · simpa [h1] using h
theorem Zd1 {α:Type} [Inhabited α] {xs:List α} {i j:Nat} {x:α} (hi:i < xs.length):(xs.set i x).getD j ZEo=if j=i then x else xs.getD j ZEo:=by
  by_cases h:j=i
  · subst h; simp [ZEy,hi]
  · simp [ZEy,List.getElem?_set_ne (fun e=>h e.symm),h]
def Znq (t:Term) (c:Int):Prop:=(∀ q,q < 8→t.mono.get q=ZMt.wrap (c+q))∧t.factor=c+8
theorem Zx6 {l : List Term} {m : Int} {K : Int → List Term → Prop} (hm : 0 ≤ m ∧ m + 9 * l.length ≤ 4611686018427387904) (h : ∀ x', x'.length = l.length → (∀ j : Nat, j < x'.length → Znq (x'.getD j ZEo) (m + 9 * j)) → K (m + 9 * l.length) x') : Zhs l m K := by
  unfold Zhs
  refine X5 (fun (s:List Term×Int×Int)=>s.1.length=l.length∧(0≤s.2.2∧s.2.2≤l.length)∧s.2.1=m+9 * s.2.2∧∀ j:Nat,(j:Int) < s.2.2→Znq (s.1.getD j ZEo) (m+9 * j)) (fun s=>l.length - s.2.2.toNat) ?_ ⟨rfl,by dsimp only; omega,by simp,by intro j hj; dsimp only at hj; omega⟩
  rintro ⟨x,c,i⟩ next ⟨h1,h2,h3,h4⟩ hn
  dsimp only at h1 h2 h3 h4 ⊢
  split
  · rename_i hi
    refine Yr (fun q (s:List Term×Int)=>s.1.length=l.length∧s.2=c+q∧(∀ j:Nat,(j:Int) < i→Znq (s.1.getD j ZEo) (m+9 * j))∧∀ r,r < q→(s.1.getD i.toNat ZEo).mono.get r=ZMt.wrap (c+r)) 8 ?_ ?_ _ _ _ (by omega) ⟨h1,by simp,h4,by intro r hr; omega⟩
    · rintro q ⟨y,d⟩ next' hq ⟨g1,g2,g3,g4⟩ hn'
      dsimp only at g1 g2 g3 g4 ⊢
      refine⟨by omega,?_⟩
      rw [i64_in (d+1) (by omega)]
      refine hn' _ ⟨by simpa using g1,by dsimp only; omega,fun j hj=>?_,fun r hr=>?_⟩
      · dsimp only; rw [Zd1 (by omega),if_neg (by omega)]; exact g3 j hj
      · dsimp only; rw [Zd1 (by omega),if_pos rfl]
        dsimp only
        rw [ZO2 hq]
        split
        · rename_i e; rw [g2,e]
        · exact g4 r (by omega)
    · rintro ⟨y,d⟩ ⟨g1,g2,g3,g4⟩
      dsimp only at g1 g2 g3 g4 ⊢
      refine⟨by omega,?_⟩
      rw [i64_in (d+1) (by omega),i64_in (i+1) (by omega)]
      refine hn _ ⟨by simpa using g1,by dsimp only; omega,by dsimp only; omega,fun j hj=>?_⟩ (by dsimp only; omega)
      dsimp only at hj ⊢
      rw [Zd1 (by omega)]
      split
      · rename_i e
        have hc:c=m+9 * (j:Int):=by rw [h3]; omega
        exact⟨fun q hq=>by dsimp only; rw [g4 q hq,hc],by dsimp only; omega⟩
      · exact g3 j (by omega)
  · rename_i hi
    have hc:c=m+9 * l.length:=by rw [h3]; omega
    rw [hc]
    exact h x h1 fun j hj=>h4 j (by omega)
end Go.Proofs.YtaagfepgbofmlaaGreat
namespace Go.Proofs.YtaagfepgbofmlaaGreat
open Go Vc
theorem Zx7 {t:Term} {K:Term→Prop} (h:K t):Zhn t K:=by
  unfold Zhn
  exact Zwq h
theorem Zx8 {l:List Term} {K:List Term→Prop} (hl:l.length≤1048576) (h:K l):Zho l K:=by
  unfold Zho
  refine⟨by omega,?_⟩
  refine Yr (fun i (s:List Term)=>s.length=l.length∧∀ j,j < i→s.getD j ZEo=l.getD j ZEo) l.length ?_ ?_ _ _ _ (by omega) ⟨by simp,by intro j hj; omega⟩
  · intro i s next hi ⟨h1,h2⟩ hn
    refine Zx7 ⟨by omega,hn _ ⟨by simpa using h1,fun j hj=>?_⟩⟩
    rw [Zd1 (by omega)]
    by_cases e:j=i
    · rw [if_pos e,e]
    · rw [if_neg e]; exact h2 j (by omega)
  · intro s ⟨h1,h2⟩
    have:s=l:=ZHb h1 fun j hj hj'=>by have:=h2 j (by omega); simpa [ZEy,hj,hj'] using this
    rw [this]; exact h
theorem Zx9 {f:ZMj} {K:ZMj→Prop} (hl:f.terms.length≤1048576) (h:K f):Zhp f K:=by
  unfold Zhp
  exact Zx8 hl h
theorem Zya {f:ZMj} {n:Int} {K:Int→Prop} (hl:(f.terms.length:Int)≤9223372036854775807) (hn:0≤n∧n≤1048576) (h1:(f.terms.length:Int)≤n→K (n - f.terms.length)) (h2:∀ r,r < 0→K r):Zft f n K:=by
  unfold Zft Zkq
  rw [i64_in _ (by omega)]
  split
  · exact h2 _ (by omega)
  · dsimp only
    rw [if_neg (by assumption)]
    exact h1 (by omega)
theorem FitT.map {l:List Term} {m:List (A8×Int)} (h:FitT l) (hm:IsMap l m):∀ p,p∈m→∀ i,i < 8→0≤p.1.get i∧p.1.get i≤255:=fun p hp=>by
  obtain ⟨t,ht,e⟩:=hm.ks p hp
  rw [← e]; exact h.pos t ht
theorem Zet {ds:List Int} {a:A8} (h:OkMono ds a):Low a:=fun i hi=>by
  by_cases hl:i < ds.length
  · exact((h i hi).1 hl).1
  · rw [(h i hi).2 (by omega)]; omega
theorem Zh9 {b:Bool} {c:Int} {K:Int→Prop} (h:K (if b=true then c else 0)):Zda b c K:=by
  unfold Zda
  split
  · rename_i q; rwa [if_pos q] at h
  · rename_i q; rwa [if_neg q] at h
theorem Zkz {A B:Prop} (h:B):if¬ (true=true) then A else B:=by simpa using h
theorem Zk0 {c:Int} {A B:Prop} (h:B):if c≠c then A else B:=by simpa using h
theorem Znr {l:List Int} {K:Bool→Prop} (h:K true):Zc9 l l K:=Zqo (by simpa using h)
end Go.Proofs.YtaagfepgbofmlaaGreat
namespace Go.Proofs.YtaagfepgbofmlaaGreat
open Go Vc
def imgsT (a:Alg):List (List Term):=a.images.map Vc.Form.terms
theorem Zfx (a:Alg) {i:Nat} (h:i < a.images.length):(imgsT a).getD i ZEo=(a.images.getD i ZEo).terms:=by
  simp [imgsT,ZEy,h]
structure AlgF (a:Alg):Prop where
  deg:OkDeg a.degrees
  len:a.images.length=a.degrees.length
  frm:∀ i,i < a.images.length→OkForm a.degrees (a.images.getD i ZEo).terms
  fit:∀ i,i < a.images.length→FitT (a.images.getD i ZEo).terms
theorem Zns {m:A8} {K:ZMj→Prop} (h:K ⟨[⟨m,1⟩]⟩):Zad m 1 K:=by
  unfold Zad
  refine Zdd ?_
  rw [if_neg (by decide)]
  exact Zdd h
theorem Zfy {ds:List Int} {m:A8} (hd:OkDeg ds) (hm:∀ i,i < 8→0≤m.get i∧m.get i≤255):∀ k,k≤ds.length→0≤wtU ds m k∧wtU ds m k≤3060 * k:=by
  intro k
  induction k with
  | zero=>intro _; simp [wtU]
  | succ k ih =>
    intro hk
    have h1:=ih (by omega)
    have h2:=hd.2 k (by omega)
    have h3:=hm k (by have:=hd.1; omega)
    have h4:0≤ds.getD k ZEo * m.get k:=ZS3 (by omega) h3.1
    have h5:ds.getD k ZEo * m.get k≤12 * 255:=ZS4 h2.2 h3.2 h3.1 (by omega)
    simp only [wtU]
    omega
theorem Zra {ds:List Int} {m:A8} (hd:OkDeg ds) (hm:∀ i,i < 8→0≤m.get i∧m.get i≤255) {k:Nat} (hk:k < ds.length):0≤ds.getD k ZEo * m.get k∧ds.getD k ZEo * m.get k≤3060:=by
  have h2:=hd.2 k hk
  have h3:=hm k (by have:=hd.1; omega)
  exact⟨ZS3 (by omega) h3.1,ZS4 h2.2 h3.2 h3.1 (by omega)⟩
theorem Znt {ds:List Int} {m:A8} {K:Int→Prop} (hd:OkDeg ds) (hm:∀ i,i < 8→0≤m.get i∧m.get i≤255) (h:K (wtU ds m ds.length)):Zdu ds m K:=by
  unfold Zdu
  have h8:=hd.1
  refine Yr (fun i (s:Int)=>s=wtU ds m i) ds.length ?_ ?_ _ _ _ (by omega) rfl
  · intro i s next hi hs hn
    have h1:=hm i (by omega)
    have h2:=Zra hd hm hi
    have h3:=Zfy hd hm i (by omega)
    refine⟨by omega,?_⟩
    rw [i64_in (m.get i) (by omega),i64_in (ds.getD i ZEo * m.get i) (by omega),i64_in _ (by omega)]
    exact hn _ (by simp only [wtU]; rw [hs])
  · intro s hs; rw [hs]; exact h
theorem Zyb {ds:List Int} {m:A8} {K:Int→Prop} (hd:OkDeg ds) (hm:∀ i,i < 8→0≤m.get i∧m.get i≤255) (h:K (wtU ds m ds.length)):Zhg m ds K:=by
  unfold Zhg
  have h8:=hd.1
  refine Yr (fun i (s:Int)=>s=wtU ds m i) ds.length ?_ ?_ _ _ _ (by omega) rfl
  · intro i s next hi hs hn
    have h2:=Zra hd hm hi
    have h3:=Zfy hd hm i (by omega)
    refine⟨by omega,?_⟩
    rw [i64_in (ds.getD i ZEo * m.get i) (by omega),i64_in _ (by omega)]
    exact hn _ (by simp only [wtU]; rw [hs])
  · intro s hs; rw [hs]; exact h
theorem Zyc {ds:List Int} {m:A8} {i:Nat} (h8:ds.length≤8):∀ k,k≤ds.length→wtU ds (Jc m i) k=wtU ds m (min i k):=by
  intro k
  induction k with
  | zero=>intro _; simp [wtU]
  | succ k ih =>
    intro hk
    simp only [wtU]
    rw [ih (by omega),Jc,A8.get_mkf _ (by omega)]
    by_cases h:k < i
    · rw [if_pos h,show min i (k+1)=k+1 by omega,show min i k=k by omega]
      simp only [wtU]
    · rw [if_neg h,show min i (k+1)=i by omega,show min i k=i by omega]
      simp
theorem Znu (m:A8):Canon [⟨m,1⟩]:=⟨by simp,by intro t ht; obtain rfl:=ZFz.1 ht; simp⟩
theorem Zyd {l g:List Term} {m:A8} (h:l.length≤([⟨m,1⟩]:List Term).length * g.length):l.length≤g.length:=by simpa using h
theorem Zia {a:A8} (h:Low a) (p:∀ i,i < 8→0≤a.get i∧a.get i≤255):∀ i,i < 8→0≤a.get i∧a.get i≤20:=fun i hi=>⟨(p i hi).1,h i hi⟩
theorem Znv {m:A8} {i:Nat} (hm:∀ i,i < 8→0≤m.get i∧m.get i≤20) (hp:0 < m.get i):(∀ j,j < 8→0≤(leftA m i).get j∧(leftA m i).get j≤20)∧(∀ j,j < 8→0≤(backA m i).get j∧(backA m i).get j≤20)∧∀ j,j < 8→(leftA m i).get j+(backA m i).get j≤20:=by
  refine⟨fun j hj=>?_,fun j hj=>?_,fun j hj=>?_⟩
  · rw [leftA,A8.get_mkf _ hj]
    have:=hm j hj
    split
    · exact this
    · split
      · rename_i e; subst e; omega
      · omega
  · rw [backA,A8.get_mkf _ hj]
    have:=hm j hj
    split <;> omega
  · rw [leftA,backA,A8.get_mkf _ hj,A8.get_mkf _ hj]
    have:=hm j hj
    split
    · rw [if_neg (by omega)]; omega
    · split
      · rename_i e; subst e; rw [if_neg (by omega)]; omega
      · split <;> omega
theorem Zrb (ds:List Int) (m:A8) (n:Int) (i:Nat):0≤dK ds m n i∧dK ds m n i≤10006:=by unfold dK; omega
theorem Zye {w:Int} (hw:0≤w):(ZFf w 2≠0∧sg w=-1)∨(¬ ZFf w 2≠0∧sg w=1):=by
  rw [ZO4 hw]
  unfold sg
  by_cases h:w % 2=0
  · right; rw [if_pos h]; exact⟨by omega,rfl⟩
  · left; rw [if_neg h]; exact⟨h,rfl⟩
structure StepD (ds:List Int) (imgs:List (List Term)) (m:A8) (n:Int) (i:Nat) (out out':List Term):Prop where
  can:Canon out'
  cf:∀ x,coT out' x % 10007=(coT out x+dK ds m n i * triC ds (leftA m i) (backA m i) (imgs.getD i ZEo) x) % 10007
  mo:∀ y,y∈out'→(∃ z,z∈out∧z.mono=y.mono)∨DMono ds imgs y.mono m
  ln:out'.length≤out.length+400
theorem Zyf {a:Alg} {K:ZMj→Prop} {m:A8} {n v:Int} {i:Nat} {out:List Term} (ha:AlgF a) (hi:i < a.images.length) (hm:OkMono a.degrees m) (pm:∀ i,i < 8→0≤m.get i∧m.get i≤255) (hp:0 < m.get i) (hc:Canon out) (hl:out.length≤50000000) (hv:v % 10007=dK a.degrees m n i)
    (h:∀ out',StepD a.degrees (imgsT a) m n i out out'→K ⟨out'⟩) :
    Zad (leftA m i) 1 (fun r=>Zaj a.degrees r (a.images.getD i ZEo) (fun r'=>Zad (backA m i) 1 (fun r2=>Zaj a.degrees r' r2 (fun r3=>Je v (fun k=>Zbd ⟨out⟩ r3 k K))))):=by
  have hd:=ha.deg
  have hi8:i < 8:=by have:=hd.1; have:=ha.len; omega
  have hf:=ha.frm i hi
  have ff:=ha.fit i hi
  have hm20:=Zia (Zet hm) pm
  obtain ⟨lb,bb,lbb⟩:=Znv hm20 hp
  obtain ⟨wl,wb⟩:=Znn hm hi8 hp
  refine Zns ?_
  have hL:(⟨(a.images.getD i ZEo).terms⟩:ZMj)=a.images.getD i ZEo:=rfl
  rw [← hL]
  refine Zq3 hd (Znu _) (fun u hu=>by obtain rfl:=ZFz.1 hu; exact wl) (fun u hu q hq=>by obtain rfl:=ZFz.1 hu; have:=lb q hq; dsimp only; omega) hf.canon (fun u hu=>(hf.mono hu).wk) ff.pos (by simp) (by have:=hf.1; omega) fun own ho=>?_
  refine Zns ?_
  have hown:∀ u,u∈own→∃ z,z∈(a.images.getD i ZEo).terms∧u.mono=(leftA m i).add z.mono∧¬ Clash a.degrees (leftA m i) z.mono∧(∀ q,q < 8→0≤z.mono.get q∧z.mono.get q≤20):=fun u hu=>by
    obtain ⟨t,z,ht,hz,e,hcl⟩:=ho.mo u hu
    obtain rfl:=ZFz.1 ht
    exact⟨z,hz,e,hcl,Zia (Zet (hf.mono hz)) (ff.pos z hz)⟩
  have wown:∀ u,u∈own→Ji a.degrees u.mono∧∀ q,q < 8→0≤u.mono.get q∧u.mono.get q≤40:=fun u hu=>by
    obtain ⟨z,hz,e,hcl,hz20⟩:=hown u hu
    rw [e]
    refine⟨Zky wl (hf.mono hz).wk (fun q hq=>(lb q hq).1) (fun q hq=>(hz20 q hq).1) (fun q hq=>by have:=lb q hq; have:=hz20 q hq; omega) hcl,fun q hq=>?_⟩
    rw [A8.get_add]
    have:=lb q hq
    have:=hz20 q hq
    omega
  have lo:=Zyd ho.ln
  refine Zq3 hd ho.can (fun u hu=>(wown u hu).1) (fun u hu q hq=>by have:=(wown u hu).2 q hq; omega) (Znu _) (fun u hu=>by obtain rfl:=ZFz.1 hu; exact wb) (fun u hu q hq=>by obtain rfl:=ZFz.1 hu; have:=bb q hq; dsimp only; omega) (by have:=hf.1; omega) (by simp) fun prod hpr=>?_
  have lp:prod.length≤400:=by have h1:=hpr.ln; have:=hf.1; simp at h1; omega
  refine Zdd ?_
  rw [hv]
  refine Zq2 hc hpr.can (Zrb _ _ _ _) (by omega) (by omega) fun out' hout=>h out' ⟨hout.can,fun x=>?_,fun y hy=>?_,by have:=hout.ln; omega⟩
  · rw [hout.cf]
    have e1:=Zq7 (ds:=a.degrees) (l:=leftA m i) (b:=backA m i) (img:=(a.images.getD i ZEo).terms) (own:=own) (prod:=prod) (fun y=>by rw [ho.cf]; simp [prC,tot]) (fun x=>hpr.cf x) x
    rw [Zfx a hi,ZSx,ZSh,e1,← ZSh,← ZSx]
  · obtain ⟨z,hz,e⟩:=hout.mo y hy
    rcases hz with hz | hz
    · exact .inl ⟨z,hz,e⟩
    · obtain ⟨t,b,ht,hb,e2,hcl2⟩:=hpr.mo z hz
      obtain rfl:=ZFz.1 hb
      obtain ⟨u,hu,e3,hcl,_⟩:=hown t ht
      refine .inr ⟨i,u,hi8,hp,by rw [Zfx a hi]; exact hu,by rw [← e,e2,e3],hcl,?_⟩
      rw [← e3]; exact hcl2
theorem Zrc {a : Alg} {f : List Term} {K : ZMj → Prop} (ha : AlgF a) (hf : OkForm a.degrees f) (ff : FitT f) (h : ∀ out, IsD a.degrees (imgsT a) f out → out.length ≤ 1280000 → K ⟨out⟩) : Zc7 a ⟨f⟩ K := by
  have hd:=ha.deg
  have h8:=hd.1
  have hlen:=ha.len
  have hl4:=hf.1
  unfold Zc7
  dsimp only
  refine X5 (fun (s:List Term×Int)=>0≤s.2∧s.2≤f.length∧IsD a.degrees (imgsT a) (f.take s.2.toNat) s.1∧s.1.length≤3200 * s.2.toNat) (fun s=>f.length - s.2.toNat) ?_ ⟨ZSg _,by dsimp only; omega,⟨Canon.nil,by intro x; rfl,by intro y hy; cases hy⟩,by simp⟩
  rintro ⟨out0,k⟩ next ⟨h1,h2,hI,hL⟩ hn
  dsimp only at h1 h2 hI hL hn ⊢
  split
  · rename_i hk
    have kn:k.toNat < f.length:=by omega
    refine⟨by omega,?_⟩
    have tm:=Y5 kn
    have hm:=hf.mono tm
    have pm:=ff.pos _ tm
    have hfac:=hf.canon.at_range kn
    generalize hgm:(f.getD k.toNat ZEo).mono=m at hm pm ⊢
    generalize hgn:(f.getD k.toNat ZEo).factor=n at hfac ⊢
    have nk:(k+1).toNat=k.toNat+1:=by omega
    have wk1:ZG5.wrap (k+1)=k+1:=i64_in _ (by omega)
    refine X5 (fun (s:List Term×Int)=>0≤s.2∧s.2≤a.degrees.length∧Canon s.1∧(∀ x,(coT s.1 x+dS a.degrees (imgsT a) m n x (8 - s.2.toNat) s.2.toNat) % 10007=(tot (fun t=>dT a.degrees (imgsT a) t.mono t.factor x) (f.take k.toNat)+dT a.degrees (imgsT a) m n x) % 10007)∧(∀ y,y∈s.1→∃ t,t∈f.take (k.toNat+1)∧DMono a.degrees (imgsT a) y.mono t.mono)∧s.1.length≤3200 * k.toNat+400 * s.2.toNat)
      (fun s=>a.degrees.length - s.2.toNat) ?_ ⟨ZSg _,by dsimp only; omega,hI.can,fun x=>?_,fun y hy=>?_,by dsimp only; omega⟩
    · rintro ⟨out,i⟩ next' ⟨g1,g2,gc,gf,gm,gl⟩ hn'
      dsimp only at g1 g2 gc gf gm gl hn' ⊢
      have ni:(i+1).toNat=i.toNat+1:=by omega
      have wi:ZG5.wrap (i+1)=i+1:=i64_in _ (by omega)
      rw [wi,wk1]
      split
      · rename_i hi
        have hin:i.toNat < a.degrees.length:=by omega
        have hi8:i.toNat < 8:=by omega
        have pmi:=pm i.toNat hi8
        have hdS:∀ x,dS a.degrees (imgsT a) m n x (8 - i.toNat) i.toNat=(if m.get i.toNat > 0 then dK a.degrees m n i.toNat * triC a.degrees (leftA m i.toNat) (backA m i.toNat) ((imgsT a).getD i.toNat ZEo) x else 0)+dS a.degrees (imgsT a) m n x (8 - (i.toNat+1)) (i.toNat+1):=fun x=>by
          rw [show 8 - i.toNat=(8 - (i.toNat+1))+1 by omega]; rfl
        refine⟨by omega,?_⟩
        split
        · rename_i he
          refine hn' _ ⟨by dsimp only; omega,by dsimp only; omega,gc,fun x=>?_,gm,by dsimp only; omega⟩ (by dsimp only; omega)
          dsimp only
          rw [ni]
          have:=gf x
          rw [hdS,if_neg (by omega),ZO0] at this
          exact this
        · rename_i he
          have hp:0 < m.get i.toNat:=by omega
          refine Yr (fun j (s:A8×A8)=>∀ q,q < 8→(s.1.get q=if q < j∧i.toNat≤q then 0 else m.get q)∧(s.2.get q=if q < j∧q≤i.toNat then 0 else m.get q)) 8 ?_ ?_ _ _ _ (by omega) (fun q hq=>⟨by rw [if_neg (by omega)],by rw [if_neg (by omega)]⟩)
          · rintro j ⟨s1,s2⟩ nx hj hs hnx
            dsimp only at hs ⊢
            have fin:∀ t1 t2:A8,(∀ q,q < 8→t1.get q=if q=j∧i.toNat≤j then 0 else s1.get q)→(∀ q,q < 8→t2.get q=if q=j∧j≤i.toNat then 0 else s2.get q)→nx (t1,t2):=fun t1 t2 e1 e2=>hnx _ fun q hq=>by
              obtain ⟨a1,a2⟩:=hs q hq
              dsimp only
              rw [e1 q hq,e2 q hq]
              constructor
              · by_cases c1:q=j∧i.toNat≤j
                · rw [if_pos c1,if_pos ⟨by omega,by omega⟩]
                · rw [if_neg c1,a1]
                  by_cases c2:q < j∧i.toNat≤q
                  · rw [if_pos c2,if_pos ⟨by omega,c2.2⟩]
                  · rw [if_neg c2,if_neg (by omega)]
              · by_cases c1:q=j∧j≤i.toNat
                · rw [if_pos c1,if_pos ⟨by omega,by omega⟩]
                · rw [if_neg c1,a2]
                  by_cases c2:q < j∧q≤i.toNat
                  · rw [if_pos c2,if_pos ⟨by omega,c2.2⟩]
                  · rw [if_neg c2,if_neg (by omega)]
            have z0:∀ (s:A8) q,(s.set j 0).get q=if q=j then 0 else s.get q:=fun s q=>ZO2 hj
            split
            · rename_i hge
              split
              · rename_i hle
                exact fin _ _ (fun q hq=>by rw [z0]; by_cases e:q=j <;> simp [e]; omega) (fun q hq=>by rw [z0]; by_cases e:q=j <;> simp [e]; omega)
              · rename_i hle
                exact fin _ _ (fun q hq=>by rw [z0]; by_cases e:q=j <;> simp [e]; omega) (fun q hq=>by rw [if_neg (by omega)])
            · rename_i hge
              split
              · rename_i hle
                exact fin _ _ (fun q hq=>by rw [if_neg (by omega)]) (fun q hq=>by rw [z0]; by_cases e:q=j <;> simp [e]; omega)
              · rename_i hle
                exact fin _ _ (fun q hq=>by rw [if_neg (by omega)]) (fun q hq=>by rw [if_neg (by omega)])
          · rintro ⟨s1,s2⟩ hs
            have e1:s1=Jc m i.toNat:=ZO3 fun q hq=>by
              rw [(hs q hq).1,Jc,A8.get_mkf _ hq]
              by_cases hh:q < i.toNat
              · rw [if_neg (by omega),if_pos hh]
              · rw [if_pos ⟨hq,by omega⟩,if_neg hh]
            have e2:s2=backA m i.toNat:=ZO3 fun q hq=>by
              rw [(hs q hq).2,backA,A8.get_mkf _ hq]
              by_cases hh:i.toNat < q
              · rw [if_neg (by omega),if_pos hh]
              · rw [if_pos ⟨hq,by omega⟩,if_neg hh]
            dsimp only
            rw [e1,e2]
            have hw:∀ q,q < 8→0≤(Jc m i.toNat).get q∧(Jc m i.toNat).get q≤255:=fun q hq=>by
              rw [Jc,A8.get_mkf _ hq]
              have:=pm q hq
              split <;> omega
            have hwt:wtU a.degrees (Jc m i.toNat) a.degrees.length=wtU a.degrees m i.toNat:=by rw [Zyc h8 _ (ZEn _),show min i.toNat a.degrees.length=i.toNat by omega]
            have hwb:=Zfy hd pm i.toNat (by omega)
            have hml:=Zet hm i.toNat hi8
            have hset:(Jc m i.toNat).set i.toNat (ZMt.wrap (m.get i.toNat - 1))=leftA m i.toNat:=ZO3 fun q hq=>by
              rw [ZO2 hi8,Zmv _ (by omega),Jc,leftA,A8.get_mkf _ hq,A8.get_mkf _ hq]
              by_cases e:q=i.toNat
              · subst e; rw [if_pos rfl,if_neg (by omega),if_pos rfl]
              · rw [if_neg e]
                by_cases hh:q < i.toNat
                · rw [if_pos hh,if_pos hh]
                · rw [if_neg hh,if_neg hh,if_neg e]
            rw [hset]
            have hwm:ZG5.wrap (m.get i.toNat)=m.get i.toNat:=i64_in _ (by omega)
            have hpb:0≤n * m.get i.toNat∧n * m.get i.toNat≤100120036:=Zkt (by omega) (by omega)
            rw [hwm,i64_in (n * m.get i.toNat) (by omega),i64_in (0 - n * m.get i.toNat) (by omega)]
            refine⟨by omega,by omega,by omega,by omega,Znt hd hw ?_⟩
            rw [hwt]
            have key:∀ v,v % 10007=dK a.degrees m n i.toNat→Zad (leftA m i.toNat) 1 (fun r=>Zaj a.degrees r (a.images.getD i.toNat ZEo) (fun r'=>Zad (backA m i.toNat) 1 (fun r2=>Zaj a.degrees r' r2 (fun r3=>Je v (fun k=>Zbd ⟨out⟩ r3 k (fun r=>next' (r.terms,i+1))))))):=fun v hv =>
              Zyf ha (by omega) hm pm hp gc (by omega) hv fun out' hs' => by
                refine hn' _ ⟨by dsimp only; omega,by dsimp only; omega,hs'.can,fun x=>?_,fun y hy=>?_,by have:=hs'.ln; dsimp only; omega⟩ (by dsimp only; omega)
                · dsimp only
                  rw [ni]
                  have b1:=gf x
                  have b2:=hs'.cf x
                  rw [hdS,if_pos (by omega)] at b1
                  omega
                · rcases hs'.mo y hy with ⟨z,hz,e⟩ | hD
                  · obtain ⟨t,ht,q⟩:=gm z hz
                    exact⟨t,ht,e ▸ q⟩
                  · exact⟨f.getD k.toNat ZEo,by rw [Xq kn]; exact ZE5 _ (ZFz.2 rfl),by rw [hgm]; exact hD⟩
            rcases Zye hwb.1 with ⟨q1,q2⟩ | ⟨q1,q2⟩
            · rw [if_pos q1]
              refine⟨by omega,key _ ?_⟩
              unfold dK; rw [q2]; congr 1; omega
            · rw [if_neg q1]
              refine⟨by omega,key _ ?_⟩
              unfold dK; rw [q2]; congr 1; omega
      · rename_i hi
        refine hn _ ⟨by dsimp only; omega,by dsimp only; omega,⟨gc,fun x=>?_,fun y hy=>?_⟩,by dsimp only; omega⟩ (by dsimp only; omega)
        · dsimp only
          rw [nk,Xq kn,Zhw]
          simp only [tot]
          rw [hgm,hgn]
          have:=gf x
          rw [Zxy _ _ (fun j hj1 hj2=>(hm j (by omega)).2 (by omega))] at this
          omega
        · dsimp only
          rw [nk]; exact gm y hy
    · dsimp only
      have:=hI.cf x
      show (coT out0 x+dT a.degrees (imgsT a) m n x) % 10007=_
      omega
    · obtain ⟨t,ht,q⟩:=hI.mo y hy
      exact⟨t,ZSv (i:=k.toNat) (by rw [ZTa,show min k.toNat (k.toNat+1)=k.toNat by omega]; exact ht),q⟩
  · rename_i hk
    rw [ZFo (by omega)] at hI
    exact h _ hI (by omega)
end Go.Proofs.YtaagfepgbofmlaaGreat
namespace Go.Proofs.YtaagfepgbofmlaaGreat
open Go Vc
theorem Zyg {a:Alg} {K:List (Option (List (A8×Int)))→Prop} (ha:AlgF a) (h:∀ ls:List (Option (List (A8×Int))),(∀ i,i < a.images.length→∃ m,ls[i]? = some (some m)∧IsMap (a.images.getD i ZEo).terms m)→K ls):Zhj a K:=by
  unfold Zhj
  have h8:a.images.length≤8:=by have:=ha.deg.1; have:=ha.len; omega
  refine Yr (fun i (s:List (Option (List (A8×Int))))=>s.length=8∧∀ j,j < i→∃ m,s[j]? = some (some m)∧IsMap (a.images.getD j ZEo).terms m) a.images.length ?_ ?_ _ _ _ (by omega) ⟨by simp,by intro j hj; omega⟩
  · intro i s next hi ⟨h1,h2⟩ hn
    have hL:(⟨(a.images.getD i ZEo).terms⟩:ZMj)=a.images.getD i ZEo:=rfl
    rw [← hL]
    refine Znj (ha.frm i hi).canon (ha.fit i hi) fun m hm=>⟨by omega,hn _ ⟨by simpa using h1,fun j hj=>?_⟩⟩
    by_cases e:j=i
    · subst e
      exact⟨m,by rw [List.getElem?_set_self (by omega)],hm⟩
    · rw [List.getElem?_set_ne (fun q=>e q.symm)]
      exact h2 j (by omega)
  · intro s ⟨h1,h2⟩
    exact h s h2
theorem Znw (m:A8):MapOk [(m,1)]:=⟨by simp,by intro p hp; obtain rfl:=ZFz.1 hp; simp⟩
theorem Zyh {a:Alg} {K:List (A8×Int)→Prop} {m:A8} {n v:Int} {i:Nat} {out ml:List (A8×Int)} (ha:AlgF a) (hi:i < a.images.length) (hm:OkMono a.degrees m) (pm:∀ i,i < 8→0≤m.get i∧m.get i≤255) (hp:0 < m.get i) (ho:MapOk out) (hml:IsMap (a.images.getD i ZEo).terms ml) (hv:v % 10007=dK a.degrees m n i)
    (h:∀ out',MapOk out'→(∀ x,co out' x % 10007=(co out x+dK a.degrees m n i * triC a.degrees (leftA m i) (backA m i) ((imgsT a).getD i ZEo) x) % 10007)→(∀ y,y∈out'→(∃ z,z∈out∧z.1=y.1)∨DMono a.degrees (imgsT a) y.1 m)→K out') :
    Zcq (Yu ([]:List (A8×Int)) (leftA m i) 1) a.degrees ml (fun r=>Zcq r a.degrees (Yu ([]:List (A8×Int)) (backA m i) 1) (fun r2=>Zc8 v (fun k=>Zem out r2 k K))):=by
  have hd:=ha.deg
  have hi8:i < 8:=by have:=hd.1; have:=ha.len; omega
  have hf:=ha.frm i hi
  have ff:=ha.fit i hi
  have hm20:=Zia (Zet hm) pm
  obtain ⟨lb,bb,lbb⟩:=Znv hm20 hp
  obtain ⟨wl,wb⟩:=Znn hm hi8 hp
  have hml20:∀ p,p∈ml→OkMono a.degrees p.1∧∃ t,t∈(a.images.getD i ZEo).terms∧t.mono=p.1∧∀ q,q < 8→0≤p.1.get q∧p.1.get q≤20:=fun p hpm=>by
    obtain ⟨t,ht,e⟩:=hml.ks p hpm
    rw [← e]
    exact⟨hf.mono ht,t,ht,rfl,Zia (Zet (hf.mono ht)) (ff.pos t ht)⟩
  show Zcq [(leftA m i,1)] a.degrees ml _
  refine Zq5 hd (Znw _) (fun p hp'=>by obtain rfl:=ZFz.1 hp'; exact wl) (fun p hp' q hq=>by obtain rfl:=ZFz.1 hp'; exact(lb q hq).1) hml.ok (fun p hpm=>(hml20 p hpm).1.wk) (fun p hpm q hq=>by obtain ⟨_,t,_,_,b⟩:=hml20 p hpm; exact(b q hq).1) fun own hown=>?_
  have wown:∀ u,u∈own→∃ z,z∈(a.images.getD i ZEo).terms∧u.1=(leftA m i).add z.mono∧¬ Clash a.degrees (leftA m i) z.mono∧Ji a.degrees u.1∧∀ q,q < 8→0≤u.1.get q∧u.1.get q≤40:=fun u hu=>by
    obtain ⟨t,z,ht,hz,e,hcl⟩:=hown.ks u hu
    obtain rfl:=ZFz.1 ht
    obtain ⟨hzm,tt,htt,ett,hz20⟩:=hml20 z hz
    refine⟨tt,htt,by rw [ett]; exact e,by rw [ett]; exact hcl,?_,fun q hq=>?_⟩
    · rw [e]
      exact Zky wl hzm.wk (fun q hq=>(lb q hq).1) (fun q hq=>(hz20 q hq).1) (fun q hq=>by have:=lb q hq; have:=hz20 q hq; dsimp only; omega) hcl
    · rw [e,A8.get_add]
      have:=lb q hq
      have:=hz20 q hq
      dsimp only
      omega
  show Zcq own a.degrees [(backA m i,1)] _
  refine Zq5 hd hown.ok (fun u hu=>by obtain ⟨_,_,_,_,w,_⟩:=wown u hu; exact w) (fun u hu q hq=>by obtain ⟨_,_,_,_,_,b⟩:=wown u hu; exact(b q hq).1) (Znw _) (fun p hp'=>by obtain rfl:=ZFz.1 hp'; exact wb) (fun p hp' q hq=>by obtain rfl:=ZFz.1 hp'; exact(bb q hq).1) fun prod hpr=>?_
  refine Znh ?_
  rw [hv]
  refine Zxw ho hpr.ok (Zrb _ _ _ _) fun out' hout=>h out' hout.ok (fun x=>?_) fun y hy=>?_
  · rw [hout.cf,Zfx a hi]
    have e1:=Zxz hml hf.canon hown hpr x
    rw [ZSx,ZSh,e1,← ZSh,← ZSx]
  · obtain ⟨z,hz,e⟩:=hout.ks y hy
    rcases hz with hz | hz
    · exact .inl ⟨z,hz,e⟩
    · obtain ⟨t,b,ht,hb,e2,hcl2⟩:=hpr.ks z hz
      obtain rfl:=ZFz.1 hb
      obtain ⟨u,hu,e3,hcl,_⟩:=wown t ht
      refine .inr ⟨i,u,hi8,hp,by rw [Zfx a hi]; exact hu,by rw [← e,e2,e3],hcl,?_⟩
      rw [← e3]; exact hcl2
theorem Zyi (m:A8):A8.zero=Jc m 0:=ZO3 fun q hq=>by rw [A8.get_zero,Jc,A8.get_mkf _ hq,if_neg (by omega)]
theorem Zyj {m:A8} {i:Nat} (hi:i < 8):(Jc m i).set i (m.get i)=Jc m (i+1):=ZO3 fun q hq=>by
  rw [ZO2 hi,Jc,Jc,A8.get_mkf _ hq,A8.get_mkf _ hq]
  by_cases e:q=i
  · subst e; rw [if_pos rfl,if_pos (by omega)]
  · rw [if_neg e]
    by_cases hh:q < i
    · rw [if_pos hh,if_pos (by omega)]
    · rw [if_neg hh,if_neg (by omega)]
theorem Zyk {d e:Int} (hd:1≤d∧d≤12) (he:0≤e):sg (d * e)=if ZFf d 2=1∧ZFf e 2=1 then -1 else 1:=by
  rw [ZO4 (by omega),ZO4 he]
  unfold sg
  have h:=ZSh d e 2
  rcases (by omega:d % 2=0∨d % 2=1) with a | a <;> rcases (by omega:e % 2=0∨e % 2=1) with b | b <;> rw [a,b] at h <;> simp [h,a,b]
theorem m_d {a : Alg} {f : List Term} {s : List (A8 × Int)} {K : List (A8 × Int) → Prop} (ha : AlgF a) (hs : IsMap f s) (hf : OkForm a.degrees f) (ff : FitT f) (h : ∀ out, IsDM a.degrees (imgsT a) s out → K out) : Zdx a s K := by
  have hd:=ha.deg
  have h8:=hd.1
  have hlen:=ha.len
  unfold Zdx
  refine Zyg ha fun ls hls=>?_
  refine Zg1 (fun l' (out:List (A8×Int))=>(∀ p,p∈l'→p∈s)∧MapOk out∧(∀ x,(co out x+tot (fun p=>dT a.degrees (imgsT a) p.1 p.2 x) l') % 10007=tot (fun p=>dT a.degrees (imgsT a) p.1 p.2 x) s % 10007)∧(∀ y,y∈out→∃ t,t∈s∧DMono a.degrees (imgsT a) y.1 t.1)) ?_ ?_ s [] ⟨fun _ h=>h,MapOk.nil,fun x=>by rw [Zfr,ZO0],by simp⟩
  · intro l' p l'' out next hpk ⟨h0, h1, h2, h3⟩ hn
    have hperm:=Zj2 hpk
    have hpm:p∈s:=h0 p (hperm.mem_iff.2 (by simp))
    have hpf:=hs.ok.2 p hpm
    obtain ⟨t,ht,et⟩:=hs.ks p hpm
    have hm:OkMono a.degrees p.1:=by rw [← et]; exact hf.mono ht
    have pm:∀ i,i < 8→0≤p.1.get i∧p.1.get i≤255:=by rw [← et]; exact ff.pos t ht
    have e3:∀ x,tot (fun p=>dT a.degrees (imgsT a) p.1 p.2 x) l'=dT a.degrees (imgsT a) p.1 p.2 x+tot (fun p=>dT a.degrees (imgsT a) p.1 p.2 x) l'':=fun x=>by rw [Zfq _ hperm]; rfl
    refine Yr (fun i (t:A8×(List (A8×Int))×Int)=>t.1=Jc p.1 i∧MapOk t.2.1∧t.2.2=sg (wtU a.degrees p.1 i)∧(∀ x,(co t.2.1 x+dS a.degrees (imgsT a) p.1 p.2 x (8 - i) i) % 10007=(co out x+dT a.degrees (imgsT a) p.1 p.2 x) % 10007)∧(∀ y,y∈t.2.1→∃ t,t∈s∧DMono a.degrees (imgsT a) y.1 t.1)) 8 ?_ ?_ _ _ _ (by omega) ⟨Zyi _,h1,rfl,fun x=>rfl,h3⟩
    · rintro i ⟨t1,o1,sg1⟩ nx hi ⟨g1,g2,g3,g4,g5⟩ hnx
      dsimp only at g1 g2 g3 g4 g5 ⊢
      subst g1 g3
      have pmi:=pm i hi
      have hdS:∀ x,dS a.degrees (imgsT a) p.1 p.2 x (8 - i) i=(if p.1.get i > 0 then dK a.degrees p.1 p.2 i * triC a.degrees (leftA p.1 i) (backA p.1 i) ((imgsT a).getD i ZEo) x else 0)+dS a.degrees (imgsT a) p.1 p.2 x (8 - (i+1)) (i+1):=fun x=>by
        rw [show 8 - i=(8 - (i+1))+1 by omega]; rfl
      have hspm:=Zp8 (wtU a.degrees p.1 i)
      have tail:∀ o2:List (A8×Int),MapOk o2→(∀ x,(co o2 x+dS a.degrees (imgsT a) p.1 p.2 x (8 - (i+1)) (i+1)) % 10007=(co out x+dT a.degrees (imgsT a) p.1 p.2 x) % 10007)→(∀ y,y∈o2→∃ t,t∈s∧DMono a.degrees (imgsT a) y.1 t.1) →
          (if(i:Int) < (a.degrees.length:Int) then((0≤(i:Int)∧(i:Int) < (a.degrees.length:Int))∧(if ZFf (a.degrees.getD i ZEo) 2=1 then(if ZFf (p.1.get i) 2=1 then nx ((Jc p.1 i).set i (p.1.get i),o2,ZG5.wrap (0 - sg (wtU a.degrees p.1 i))) else nx ((Jc p.1 i).set i (p.1.get i),o2,sg (wtU a.degrees p.1 i))) else nx ((Jc p.1 i).set i (p.1.get i),o2,sg (wtU a.degrees p.1 i)))) else nx ((Jc p.1 i).set i (p.1.get i),o2,sg (wtU a.degrees p.1 i))):=by
        intro o2 k1 k2 k3
        rw [Zyj hi]
        have go:∀ z,z=sg (wtU a.degrees p.1 (i+1))→nx (Jc p.1 (i+1),o2,z):=fun z hz=>hnx _ ⟨rfl,k1,hz,k2,k3⟩
        have hw:wtU a.degrees p.1 (i+1)=wtU a.degrees p.1 i+a.degrees.getD i ZEo * p.1.get i:=rfl
        split
        · rename_i hin
          have hdi:=hd.2 i (by omega)
          have hstep:=Zyk hdi pmi.1
          refine⟨by omega,?_⟩
          split
          · rename_i q1
            split
            · rename_i q2
              rw [if_pos ⟨q1,q2⟩] at hstep
              rw [i64_in _ (by omega)]
              exact go _ (by rw [hw,Zj3,hstep]; omega)
            · rename_i q2
              rw [if_neg (fun z=>q2 z.2)] at hstep
              exact go _ (by rw [hw,Zj3,hstep,Int.mul_one])
          · rename_i q1
            rw [if_neg (fun z=>q1 z.1)] at hstep
            exact go _ (by rw [hw,Zj3,hstep,Int.mul_one])
        · rename_i hin
          have:=(hm i hi).2 (by omega)
          exact go _ (by rw [hw,this,ZSw,ZSd])
      split
      · rename_i hp0
        have hp0':0 < p.1.get i:=hp0
        have hin:i < a.images.length:=by
          rcases Nat.lt_or_ge i a.images.length with q | q
          · exact q
          · have:=(hm i hi).2 (by omega); omega
        have wi:ZG5.wrap ((i:Int)+1)=(i:Int)+1:=i64_in _ (by omega)
        rw [wi]
        refine X5 (fun (t:A8×Int)=>0≤t.2∧t.2≤i+1∧∀ q,q < 8→t.1.get q=if(q:Int) < t.2 then 0 else p.1.get q) (fun t=>i+1 - t.2.toNat) ?_ ⟨ZSg _,by dsimp only; omega,fun q hq=>by rw [if_neg (by dsimp only; omega)]⟩
        rintro ⟨t1,k⟩ nk ⟨b1,b2,b3⟩ hnk
        dsimp only at b1 b2 b3 hnk ⊢
        split
        · rename_i hk
          refine⟨by omega,?_⟩
          rw [i64_in (k+1) (by omega)]
          refine hnk _ ⟨by dsimp only; omega,by dsimp only; omega,fun q hq=>?_⟩ (by dsimp only; omega)
          dsimp only
          rw [ZO2 (by omega),b3 q hq]
          by_cases e:q=k.toNat
          · rw [if_pos e,if_pos (by omega)]
          · rw [if_neg e]
            by_cases hh:(q:Int) < k
            · rw [if_pos hh,if_pos (by omega)]
            · rw [if_neg hh,if_neg (by omega)]
        · rename_i hk
          have eb:t1=backA p.1 i:=ZO3 fun q hq=>by
            rw [b3 q hq,backA,A8.get_mkf _ hq]
            by_cases hh:i < q
            · rw [if_neg (by omega),if_pos hh]
            · rw [if_pos (by omega),if_neg hh]
          have hml:=Zet hm i hi
          have el:(Jc p.1 i).set i (ZG5.wrap (p.1.get i - 1))=leftA p.1 i:=ZO3 fun q hq=>by
            rw [ZO2 hi,i64_in _ (by omega),Jc,leftA,A8.get_mkf _ hq,A8.get_mkf _ hq]
            by_cases e:q=i
            · subst e; rw [if_pos rfl,if_neg (by omega),if_pos rfl]
            · rw [if_neg e]
              by_cases hh:q < i
              · rw [if_pos hh,if_pos hh]
              · rw [if_neg hh,if_neg hh,if_neg e]
          rw [eb,el]
          obtain ⟨ml,hml1,hml2⟩:=hls i hin
          refine⟨ml,hml1,?_⟩
          refine Zyh (n:=p.2) ha hin hm pm hp0' g2 hml2 ?_ fun o2 k1 k2 k3=>?_
          · rw [Zni hspm hpf (by omega)]; rfl
          · refine tail o2 k1 (fun x=>?_) fun y hy=>?_
            · have c1:=g4 x
              have c2:=k2 x
              rw [hdS,if_pos hp0] at c1
              omega
            · rcases k3 y hy with ⟨z,hz,e⟩ | hD
              · obtain ⟨t,ht,q⟩:=g5 z hz
                exact⟨t,ht,e ▸ q⟩
              · exact⟨p,hpm,hD⟩
      · rename_i hp0
        refine tail o1 g2 (fun x=>?_) g5
        have c1:=g4 x
        rw [hdS,if_neg hp0,ZO0] at c1
        exact c1
    · rintro ⟨t1,o1,sg1⟩ ⟨g1,g2,g3,g4,g5⟩
      dsimp only at g2 g4 g5 ⊢
      refine hn _ ⟨fun q hq=>h0 q (hperm.mem_iff.2 (by simp [hq])),g2,fun x=>?_,g5⟩
      have c1:=g4 x
      have c2:=h2 x
      rw [e3] at c2
      simp only [Nat.sub_self,dS] at c1
      omega
  · intro out ⟨_,h1,h2,h3⟩
    exact h _ ⟨h1,fun x=>by have:=h2 x; simp only [tot,ZSd] at this; exact this,h3⟩
theorem Zyl {m:List (A8×Int)} (hm:MapOk m):∃ l,Canon l∧(∀ x,coT l x=co m x)∧∀ t,t∈l→∃ p,p∈m∧p.1=t.mono:=by
  obtain ⟨xs,hxs,hw⟩:=Zqy (m.map (·.1))
  obtain ⟨h1,h2⟩:=Zw8 hm hxs hw
  refine⟨_,h1,h2,fun t ht=>?_⟩
  obtain ⟨x,hx,rfl⟩:=ZF2.1 ht
  obtain ⟨p,hpm,e⟩:=ZF2.1 (hxs.mem_iff.1 hx)
  exact⟨p,hpm,e⟩
theorem Zym {ds:List Int} {imgs:List (List Term)} {f:List Term} {s out':List (A8×Int)} (hs:IsMap f s) (hc:Canon f) (h':IsDM ds imgs s out'):out'=[]↔∀ out,IsD ds imgs f out→out=[]:=by
  constructor
  · intro e out ho
    exact(Zq8 (Zx0 hs hc ho h') ho.can).1 e
  · intro hall
    obtain ⟨l,hl,hcf,hks⟩:=Zyl h'.ok
    have hd:IsD ds imgs f l:=⟨hl,fun x=>by rw [hcf,h'.cf,Zkw hs hc (fun a n=>dT ds imgs a n x) (fun a=>Znm ds imgs a x)],fun y hy=>by
      obtain ⟨p,hp,e⟩:=hks y hy
      obtain ⟨t,ht,q⟩:=h'.mo p hp
      obtain ⟨u,hu,e2⟩:=hs.ks t ht
      exact⟨u,hu,by rw [← e,e2]; exact q⟩⟩
    have e:=hall l hd
    have hm:IsMap l out':=Znp hl h'.ok fun x=>by rw [hcf]
    exact(Zq8 hm hl).2 e
theorem Zyn {ds:List Int} {imgs:List (List Term)} {f out out2:List Term} (h:IsD ds imgs f out) (k:IsD ds imgs f out2):out=out2:=Zwy h.can k.can fun x=>by rw [h.cf,k.cf]
def Hom (ds:List Int) (l:List Term) (n:Int):Prop:=∀ i,i < l.length→wtU ds (l.getD i ZEo).mono ds.length=n
instance (ds:List Int) (l:List Term) (n:Int):Decidable (Hom ds l n):=inferInstanceAs (Decidable (∀ i,i < l.length→_))
theorem Zyo {ds : List Int} {l : List Term} {K : Int → Bool → Prop} (hd : OkDeg ds) (hp : FitT l) (h0 : l.length = 0 → K (-1) true) (h1 : 0 < l.length → Hom ds l (wtU ds (l.getD 0 ZEo).mono ds.length) → K (wtU ds (l.getD 0 ZEo).mono ds.length) true) (h2 : (∀ n, ¬ Hom ds l n) → K 0 false) : Zhh ds ⟨l⟩ K := by
  unfold Zhh
  dsimp only
  refine Yr (fun i (s:Int)=>(i=0∧s=-1)∨(0 < i∧s=wtU ds (l.getD 0 ZEo).mono ds.length∧∀ j,j < i→wtU ds (l.getD j ZEo).mono ds.length=wtU ds (l.getD 0 ZEo).mono ds.length)) l.length ?_ ?_ _ _ _ (by omega) (.inl ⟨rfl,rfl⟩)
  · intro i s next hi hI hn
    have f1:=hp _ (Y5 hi)
    have b0:=hp.pos _ (Y5 hi)
    have hw:=Zfy hd b0 ds.length (ZEn _)
    refine Zkj f1 (Zyb hd b0 ?_)
    rcases hI with ⟨e1,e2⟩ | ⟨e1,e2,e3⟩
    · subst e1 e2
      rw [if_neg (by omega)]
      exact hn _ (.inr ⟨by omega, rfl, fun j hj => by obtain rfl : j = 0 := by omega
                                                      rfl⟩)
    · have hw0:=Zfy hd (hp.pos _ (Y5 (show 0 < l.length by omega))) ds.length (ZEn _)
      rw [if_pos (by omega)]
      split
      · rename_i q
        refine h2 fun n hn'=>q ?_
        rw [hn' i hi,e2,hn' 0 (by omega)]
      · rename_i q
        have q:wtU ds (l.getD i ZEo).mono ds.length=s:=ZPz.1 q
        refine hn _ (.inr ⟨by omega,by rw [q,e2],fun j hj=>?_⟩)
        by_cases e:j=i
        · subst e; rw [q,e2]
        · exact e3 j (by omega)
  · intro s hI
    rcases hI with ⟨e1,e2⟩ | ⟨e1,e2,e3⟩
    · rw [e2]; exact h0 e1
    · rw [e2]; exact h1 e1 e3
theorem Zyp {ds:List Int} {l:List Term} {n:Int} {K:Bool→Prop} (hd:OkDeg ds) (hp:FitT l) (h:K (decide (Hom ds l n))):Zhi ds ⟨l⟩ n K:=by
  unfold Zhi
  refine Zyo hd hp (fun e=>?_) (fun e hh=>?_) (fun hno=>?_)
  · rw [if_pos rfl,if_pos rfl]
    have:Hom ds l n:=fun i hi=>by omega
    rwa [decide_eq_true this] at h
  · have hw0:=Zfy hd (hp.pos _ (Y5 e)) ds.length (ZEn _)
    rw [if_pos rfl,if_neg (by omega)]
    have:Hom ds l n↔wtU ds (l.getD 0 ZEo).mono ds.length=n:=⟨fun q=>q 0 e,fun q=>q ▸ hh⟩
    rwa [decide_eq_decide.2 this] at h
  · rw [if_neg (by simp)]
    rwa [decide_eq_false (hno n)] at h
theorem Zyq {ds : List Int} {l : List Term} {K : Int → Bool → Prop} (hd : OkDeg ds) (hp : Zes l) (hl : l.length ≤ 100000000) (h0 : l.length = 0 → K (-1) true) (h1 : 0 < l.length → Hom ds l (wtU ds (l.getD 0 ZEo).mono ds.length) → K (wtU ds (l.getD 0 ZEo).mono ds.length) true) (h2 : (∀ n, ¬ Hom ds l n) → K 0 false) : Zha ds ⟨l⟩ K := by
  unfold Zha
  dsimp only
  split
  · exact h0 (by omega)
  · rename_i q0
    have hpos:0 < l.length:=by omega
    refine⟨by omega,Znt hd (hp _ (Y5 hpos)) ?_⟩
    refine X5 (fun (s:Int)=>1≤s∧s≤l.length∧∀ j:Nat,(j:Int) < s→wtU ds (l.getD j ZEo).mono ds.length=wtU ds (l.getD 0 ZEo).mono ds.length) (fun s=>l.length - s.toNat) ?_ ⟨ZSg _,by omega,fun j hj=>by
      have hj':(j:Int) < 1:=hj
      obtain rfl:j=0:=by omega
      rfl⟩
    rintro i next ⟨g1,g2,g3⟩ hn
    split
    · rename_i hi
      have a:i.toNat < l.length:=by omega
      refine⟨by omega,Znt hd (hp _ (Y5 a)) ?_⟩
      split
      · rename_i q
        refine h2 fun n hn'=>q ?_
        rw [hn' _ a,hn' 0 hpos]
      · rename_i q
        have q:=ZPz.1 q
        rw [i64_in _ (by omega)]
        refine hn _ ⟨by omega,by omega,fun j hj=>?_⟩ (by omega)
        by_cases e:j=i.toNat
        · subst e; exact q
        · exact g3 j (by omega)
    · exact h1 hpos fun j hj=>g3 j (by omega)
structure OkAlg (a:Alg):Prop where
  deg:OkDeg a.degrees
  len:a.images.length=a.degrees.length
  frm:∀ i,i < a.images.length→OkForm a.degrees (a.images.getD i ZEo).terms
  hom:∀ i,i < a.images.length→Hom a.degrees (a.images.getD i ZEo).terms (a.degrees.getD i ZEo+1)
  clo:∀ i,i < a.images.length→∀ out,IsD a.degrees (imgsT a) (a.images.getD i ZEo).terms out→out=[]
def Jk (a:Alg):Prop:=∀ i,i < a.images.length→FitT (a.images.getD i ZEo).terms∧(a.images.getD i ZEo).terms.length≤1048576
theorem OkAlg.algF {a:Alg} (h:OkAlg a) (hf:Jk a):AlgF a:=⟨h.deg,h.len,h.frm,fun i hi=>(hf i hi).1⟩
theorem Zrd {a : Alg} {K : Bool → Prop} (hf : Jk a) (h1 : OkAlg a → K true) (h2 : ¬ OkAlg a → K false) : Zfn a K := by
  unfold Zfn
  refine Zwm ?_
  split
  · rename_i q; exact h2 fun z=>q (decide_eq_true z.deg)
  · rename_i q1
    have q1:=of_decide_eq_true (ZPz.1 q1)
    have h8:=q1.1
    split
    · rename_i q; exact h2 fun z=>q (by rw [z.len])
    · rename_i q2
      have q2:a.images.length=a.degrees.length:=by have:=ZPz.1 q2; omega
      refine X5 (fun (s:Int)=>0≤s∧s≤a.images.length∧∀ i:Nat,(i:Int) < s→OkForm a.degrees (a.images.getD i ZEo).terms∧Hom a.degrees (a.images.getD i ZEo).terms (a.degrees.getD i ZEo+1)) (fun s=>a.images.length - s.toNat) ?_ ⟨ZSg _,by omega,fun i hi=>by omega⟩
      rintro i next ⟨g1,g2,g3⟩ hn
      split
      · rename_i hi
        have hin:i.toNat < a.images.length:=by omega
        obtain ⟨hft,hfl⟩:=hf i.toNat hin
        have hL:(⟨(a.images.getD i.toNat ZEo).terms⟩:ZMj)=a.images.getD i.toNat ZEo:=rfl
        have hdi:=q1.2 i.toNat (by omega)
        have wi:ZG5.wrap (i+1)=i+1:=i64_in _ (by omega)
        rw [wi,← hL]
        refine⟨by omega,Zxr h8 hft.pos (by omega) ?_⟩
        split
        · rename_i q; exact h2 fun z=>q (decide_eq_true (z.frm _ hin))
        · rename_i q3
          have q3:=of_decide_eq_true (ZPz.1 q3)
          have good:Hom a.degrees (a.images.getD i.toNat ZEo).terms (a.degrees.getD i.toNat ZEo+1)→next (i+1):=fun hh=>hn _ ⟨by omega,by omega,fun j hj=>by
            by_cases e:j=i.toNat
            · subst e; exact⟨q3,hh⟩
            · exact g3 j (by omega)⟩ (by omega)
          have hwd:ZG5.wrap (a.degrees.getD i.toNat ZEo+1)=a.degrees.getD i.toNat ZEo+1:=i64_in _ (by omega)
          rw [hwd]
          refine⟨by omega,Zyq q1 hft.pos (by omega) (fun e=>?_) (fun e hh=>?_) (fun hno=>?_)⟩
          · rw [if_neg (by simp)]
            dsimp only
            refine⟨by omega,?_⟩
            rw [if_neg (by omega)]
            exact good fun j hj=>by omega
          · rw [if_neg (by simp)]
            dsimp only
            refine⟨by omega,?_⟩
            rw [if_pos (by omega)]
            refine⟨by omega,?_⟩
            split
            · rename_i q
              exact h2 fun z=>q (z.hom _ hin 0 e)
            · rename_i q
              have q:=ZPz.1 q
              exact good (q ▸ hh)
          · rw [if_pos (by simp)]
            exact h2 fun z=>hno _ (z.hom _ hin)
      · rename_i hi
        have hF:AlgF a:=⟨q1,q2,fun i hi=>(g3 i (by omega)).1,fun i hi=>(hf i hi).1⟩
        refine X5 (fun (s:Int)=>0≤s∧s≤a.images.length∧∀ i:Nat,(i:Int) < s→∀ out,IsD a.degrees (imgsT a) (a.images.getD i ZEo).terms out→out=[]) (fun s=>a.images.length - s.toNat) ?_ ⟨ZSg _,by omega,fun i hi=>by omega⟩
        rintro k next' ⟨k1,k2,k3⟩ hn'
        split
        · rename_i hk
          have hkn:k.toNat < a.images.length:=by omega
          have hL:(⟨(a.images.getD k.toNat ZEo).terms⟩:ZMj)=a.images.getD k.toNat ZEo:=rfl
          rw [← hL]
          refine⟨by omega,Zrc hF (hF.frm _ hkn) (hF.fit _ hkn) fun out ho _=>?_⟩
          dsimp only
          split
          · rename_i q
            refine h2 fun z=>?_
            have:=z.clo _ hkn out ho
            rw [this] at q; simp at q
          · rename_i q
            rw [i64_in _ (by omega)]
            have e:out=[]:=List.length_eq_zero_iff.1 (by omega)
            refine hn' _ ⟨by omega,by omega,fun j hj=>?_⟩ (by omega)
            by_cases ej:j=k.toNat
            · subst ej; intro o2 ho2; rw [Zyn ho2 ho,e]
            · exact k3 j (by omega)
        · rename_i hk
          exact h1 ⟨q1,q2,hF.frm,fun i hi=>(g3 i (by omega)).2,fun i hi=>k3 i (by omega)⟩
theorem Zre {l:List ZMj} {p:ZMj→(Bool→Prop)→Prop} {K:Bool→Prop} {Q:ZMj→Prop} (hp:∀ i,i < l.length→∀ K':Bool→Prop,(Q (l.getD i ZEo)→K' true)→(¬ Q (l.getD i ZEo)→K' false)→p (l.getD i ZEo) K')
    (h1:(∃ i,i < l.length∧Q (l.getD i ZEo))→K true) (h2:(∀ i,i < l.length→¬ Q (l.getD i ZEo))→K false):Zfs l p K:=by
  unfold Zfs Zko
  refine Yr (fun i (_:Unit)=>∀ j,j < i→¬ Q (l.getD j ZEo)) l.length ?_ ?_ _ _ _ (by omega) (by intro j hj; omega)
  · intro i s next hi hI hn
    refine hp i hi _ (fun q=>?_) (fun q=>?_)
    · rw [if_pos rfl]
      show K (decide ((i:Int)≥0))
      rw [decide_eq_true (show (i:Int)≥0 by omega)]
      exact h1 ⟨i,hi,q⟩
    · rw [if_neg (by simp)]
      refine hn _ fun j hj=>?_
      by_cases e:j=i
      · subst e; exact q
      · exact hI j (by omega)
  · intro s hI
    show K (decide ((-1:Int)≥0))
    rw [decide_eq_false (show ¬ (-1:Int)≥0 by omega)]
    exact h2 hI
theorem Zyr {a : Alg} {K : Bool → Prop} (hf : Jk a) (h1 : OkAlg a → K true) (h2 : ¬ OkAlg a → K false) : Zh1 a K := by
  unfold Zh1
  refine Zwp ?_
  split
  · rename_i q; exact h2 fun z=>q (decide_eq_true z.deg)
  · rename_i q1
    have q1:=of_decide_eq_true (ZPz.1 q1)
    have h8:=q1.1
    split
    · rename_i q; exact h2 fun z=>q (by rw [z.len])
    · rename_i q2
      have q2:a.images.length=a.degrees.length:=by have:=ZPz.1 q2; omega
      refine Yr (fun i (_:Unit)=>∀ j:Nat,j < i→OkForm a.degrees (a.images.getD j ZEo).terms∧Hom a.degrees (a.images.getD j ZEo).terms (a.degrees.getD j ZEo+1)) a.images.length ?_ ?_ _ _ _ (by omega) (by intro j hj; omega)
      · intro i s next hi hI hn
        obtain ⟨hft,hfl⟩:=hf i hi
        have hL:(⟨(a.images.getD i ZEo).terms⟩:ZMj)=a.images.getD i ZEo:=rfl
        have hdi:=q1.2 i (by omega)
        rw [← hL]
        refine Zxv q1 hft ?_
        split
        · rename_i q; exact h2 fun z=>q (decide_eq_true (z.frm _ hi))
        · rename_i q3
          have q3:=of_decide_eq_true (ZPz.1 q3)
          rw [i64_in _ (by omega)]
          refine⟨by omega,Zyp q1 hft ?_⟩
          split
          · rename_i q; exact h2 fun z=>q (decide_eq_true (z.hom _ hi))
          · rename_i q4
            have q4:=of_decide_eq_true (ZPz.1 q4)
            refine hn _ fun j hj=>?_
            by_cases e:j=i
            · subst e; exact⟨q3,q4⟩
            · exact hI j (by omega)
      · intro s hI
        have hF:AlgF a:=⟨q1,q2,fun i hi=>(hI i hi).1,fun i hi=>(hf i hi).1⟩
        refine Zre (Q:=fun f=>¬ ∀ out,IsD a.degrees (imgsT a) f.terms out→out=[]) (fun i hi K' c1 c2=>?_) (fun hex=>?_) (fun hall=>?_)
        · unfold Zh0
          have hL:(⟨(a.images.getD i ZEo).terms⟩:ZMj)=a.images.getD i ZEo:=rfl
          rw [← hL]
          refine Znj (hF.frm i hi).canon (hF.fit i hi) fun m hm=>m_d hF hm (hF.frm i hi) (hF.fit i hi) fun out ho=>?_
          have hiff:=Zym hm (hF.frm i hi).canon ho
          by_cases e:out=[]
          · subst e
            rw [decide_eq_false (by simp)]
            exact c2 fun z=>z (hiff.1 rfl)
          · have hlen:0 < out.length:=List.length_pos_iff.2 e
            rw [decide_eq_true (by omega)]
            exact c1 fun z=>e (hiff.2 z)
        · obtain ⟨i,hi,hq⟩:=hex
          exact h2 fun z=>hq (z.clo i hi)
        · exact h1 ⟨q1,q2,hF.frm,fun i hi=>(hI i hi).2,fun i hi=>ZS7 (hall i hi)⟩
theorem Zys {a:Alg} {K:Int→Prop} (hf:Jk a) (h1:OkAlg a→K 0) (h2:¬ OkAlg a→K 1):Zh2 a [] K:=by
  unfold Zh2
  refine Zyr hf (fun z=>?_) (fun z=>?_)
  · rw [if_neg (by simp)]
    refine Zre (Q:=fun _=>True) (fun i hi=>by simp at hi) (fun hex=>by obtain ⟨i,hi,_⟩:=hex; simp at hi) (fun _=>?_)
    exact Zh9 (h1 z)
  · rw [if_pos (by simp)]
    exact Zh9 (h2 z)
end Go.Proofs.YtaagfepgbofmlaaGreat
namespace Go.Proofs.YtaagfepgbofmlaaGreat
open Go Vc
def Big (n:Nat):Prop:=n < 9223372036854775808
structure LenAlg (a:Alg):Prop where
  deg:Big a.degrees.length
  img:Big a.images.length
  trm:∀ f,f∈a.images→Big f.terms.length
theorem Zyt {x:Alg} {u v:Value} {fp:List Nat} {w:World} (h:TAlg.rep x [u,v] fp w):LenAlg x:=by
  have h1:=Yw (Zfd h).1
  have h2:=Yw (Zfd h).2
  refine⟨by unfold Big; omega,by unfold Big; omega,fun f hf=>?_⟩
  obtain ⟨i,hi,rfl⟩:=ZEx hf
  obtain ⟨A,c,hv,cs,hl,hc,hr⟩:=Zjq (Zfd h).2 i hi
  obtain ⟨z,rfl⟩:=ZNd.1 (show cs.length=1 from hl)
  have h3:=Yw (Xk hr)
  unfold Big; omega
theorem Zyu {f:ZMj} {n:Int} {K:Int→Prop} (hl:Big f.terms.length) (hn:0≤n∧n≤1048576) (h1:(f.terms.length:Int)≤n→K (n - f.terms.length)) (h2:∀ r,r < 0→K r):Zft f n K:=Zya (by unfold Big at hl; omega) hn h1 h2
theorem Zyv {l:List ZMj} {n:Int} {K:Int→Prop} (hl:Big l.length) (ht:∀ f,f∈l→Big f.terms.length) (hn:0≤n∧n≤1048576) (h1:∀ r,0≤r→r≤n→(l.length:Int)≤n→(∀ i,i < l.length→(l.getD i ZEo).terms.length≤1048576)→K r) (h2:∀ r,r < 0→K r):Zh3 l n K:=by
  unfold Zh3
  unfold Big at hl
  rw [i64_in _ (by omega)]
  split
  · exact h2 _ (by omega)
  · rename_i q
    refine Yr (fun i (s:Int)=>0≤s∧s≤n∧∀ j,j < i→(l.getD j ZEo).terms.length≤1048576) l.length ?_ ?_ _ _ _ (by omega) ⟨by omega,by omega,by intro j hj; omega⟩
    · intro i s next hi ⟨g1,g2,g3⟩ hn'
      refine Zyu (ht _ (Y5 hi)) (by omega) (fun hle=>?_) (fun r hr=>by rw [if_pos hr]; exact h2 _ (by omega))
      rw [if_neg (by omega)]
      refine hn' _ ⟨by omega,by omega,fun j hj=>?_⟩
      by_cases e:j=i
      · subst e; omega
      · exact g3 j (by omega)
    · intro s ⟨g1,g2,g3⟩
      exact h1 s g1 g2 (by omega) g3
theorem Zyw {a:Alg} {K:Int→Prop} (hb:LenAlg a) (h1:∀ r,0≤r→a.degrees.length≤1048576→a.images.length≤1048576→(∀ i,i < a.images.length→(a.images.getD i ZEo).terms.length≤1048576)→K r) (h2:∀ r,r < 0→K r):Zh4 a 1048576 K:=by
  unfold Zh4 Zkr
  have hd:=hb.deg
  unfold Big at hd
  rw [i64_in _ (by omega)]
  split
  · dsimp only; rw [if_pos (by omega)]; exact h2 _ (by omega)
  · dsimp only; rw [if_neg (by omega)]
    refine Zyv hb.img hb.trm (by omega) (fun r g1 g2 g3 g4=>?_) (fun r hr=>by rw [if_pos hr]; exact h2 _ (by omega))
    rw [if_neg (by omega)]
    exact h1 r g1 (by omega) (by omega) g4
theorem Zyx {l:List ZMj} {K:List ZMj→Prop} (hl:l.length≤1048576) (ht:∀ i,i < l.length→(l.getD i ZEo).terms.length≤1048576) (h:K l):Zh5 l K:=by
  unfold Zh5
  refine⟨by omega,?_⟩
  refine Yr (fun i (s:List ZMj)=>s.length=l.length∧∀ j,j < i→s.getD j ZEo=l.getD j ZEo) l.length ?_ ?_ _ _ _ (by omega) ⟨by simp,by intro j hj; omega⟩
  · intro i s next hi ⟨h1,h2⟩ hn
    refine Zx9 (ht i hi) ⟨by omega,hn _ ⟨by simpa using h1,fun j hj=>?_⟩⟩
    rw [Zd1 (by omega)]
    by_cases e:j=i
    · rw [if_pos e,e]
    · rw [if_neg e]; exact h2 j (by omega)
  · intro s ⟨h1,h2⟩
    have:s=l:=ZHb h1 fun j hj hj'=>by have:=h2 j (by omega); simpa [ZEy,hj,hj'] using this
    rw [this]; exact h
theorem Zk1 {a:Alg} {K:Alg→Prop} (h1:a.degrees.length≤1048576) (h2:a.images.length≤1048576) (h3:∀ i,i < a.images.length→(a.images.getD i ZEo).terms.length≤1048576) (h:K a):Zdz a K:=by
  unfold Zdz
  exact Zwr h1 (Zyx h2 h3 h)
theorem Zyy {a:Alg} {K:Bool→Prop} (h:K true):Zfu a a K:=Zx5 (by simpa using h)
def GoodAlg (a:Alg):Prop:=(∀ x,x∈a.degrees→Fit .i64 x)∧∀ f,f∈a.images→∀ t,t∈f.terms→Zaz .u8 t.mono∧Fit .i64 t.factor
theorem GoodAlg.fit {a:Alg} (h:GoodAlg a) (h3:∀ i,i < a.images.length→(a.images.getD i ZEo).terms.length≤1048576):Jk a:=fun i hi=>⟨fun t ht=>(h.2 _ (Y5 hi) t ht).1,h3 i hi⟩
end Go.Proofs.YtaagfepgbofmlaaGreat
namespace Vc
open Go Go.RowKit
theorem Zib (zc:Value) (m:Nat):ZSk #[zc] m=(ZEj m zc).toArray:=by
  unfold ZSk
  apply Array.ext
  · simp
  · intro i h1 h2
    simp [Nat.mod_one]
theorem Zyz {P : Program} {w : World} (t tn ty e : TypeId) (i : TypeInfo) (z zc : Value) (kq kn : IntKind) (ht : P.underlying t = some (.slice e)) (htn : P.underlying tn = some (.int kn)) (hi : P.info? e = some i) (hz : i.zero = some z) (hzc : z.cells = #[zc]) (h1 : zc.oneCell' = true)
    (bytes:Nat) (hsize:i.size=1) (hby:i.bytes=bytes) (v:Value) (n:Nat) (xs:List Value) (hown:w.ownsRow 0 e 1 v n xs) (m:Nat) (h63:n+m≤maxLen) (hbytes:(n+m) * bytes≤140737488355328) :
    ∃ v' w',(ZHa #[t,tn] ty #[v,.int kq m]).run P w=.ok v' w'∧w'.ownsRow 0 e 1 v' (n+m) (xs++ZEj m zc)∧w.grownBy w' v.ownBlock∧(v'.ownBlock=v.ownBlock∨v'.ownBlock=some w.heap.size):=by
  subst hby
  have hsmall:n+m≤9223372036854775807:=by simp only [maxLen] at h63; omega
  have hlen:(xs++ZEj m zc).length=(n+m) * 1:=by rw [ZEz,hown.1,ZSp]; omega
  have hmb:m * i.bytes≤140737488355328:=ZEp (ZG8 _ (Nat.le_add_left _ _)) hbytes
  have grown:∀ (old:Nat),old < n+m→∀ (row:Option Nat),
      (w.drew.alloc (.cells (xs.toArray++ZSk z.cells m++ZSk z.cells (grownCap w (n+m) old e - (n+m))) e)).ownsRow 0 e 1
        (.slice (some ⟨w.heap.size,0,none⟩) (n+m) (grownCap w (n+m) old e)) (n+m) (xs++ZEj m zc) ∧
      w.grownBy (w.drew.alloc (.cells (xs.toArray++ZSk z.cells m++ZSk z.cells (grownCap w (n+m) old e - (n+m))) e)) row:=by
    intro old ho row
    have hge:=grownCap_ge w (n+m) old e
    have hcm:grownCap w (n+m) old e≤maxLen:=grownCap_le_maxLen w (n+m) old e h63
    have hx:=hown.1
    refine⟨⟨hlen,.inr ⟨w.heap.size,_,_,rfl,Nat.zero_le _,heap_alloc_new w.drew _,hge,hcm,?_,?_⟩⟩,⟨rfl,rfl,rfl,by simp,fun k hk _=>heap_alloc_old w.drew _ hk⟩⟩
    · rw [hzc,Zib,Zib]
      simp only [Array.size_append,List.size_toArray,ZSp]
      omega
    · rw [hzc,Zib,Zib]
      simp only [Array.toList_append,List.append_assoc]
      rw [← List.append_assoc,← hlen]
      exact List.take_left
  have hw:ZG5.wrap (m:Int)=m:=by rw [ZSy]; omega
  have h48i:¬ (281474976710656 < (m:Int) * (i.bytes:Int)):=by rw [← Int.natCast_mul]; omega
  have hneg:¬ ((m:Int) < 0):=by omega
  rcases hown.2 with ⟨rfl,rfl⟩ | ⟨g,cap,cur,rfl,hbg,hg,hnc,hcm,hcs,htake⟩
  · have hx:xs=[]:=ZTz (by simpa using hown.1)
    subst hx
    by_cases hm:m=0
    · subst hm
      refine⟨.slice none 0 0,w,?_,World.ownsRow_nil w 0 e 1,⟨rfl,rfl,rfl,ZEn _,fun _ _ _=>rfl⟩,Or.inl rfl⟩
      simp [ZHa,run_underlying ht,run_underlying htn,Go.sizeOf,typeInfo,hi,asInt,asIntOf,ZSy]
    · have hr:=Lib.run_append_nil_zeros (P:=P) w t tn ty e i z kq kn ht htn hi hz m (by omega) (by omega) (by omega) (by omega)
      have hgr:=grown 0 (by omega) (ZFi (.slice none 0 0))
      simp only [Nat.zero_add,List.nil_append,Array.empty_append] at hgr ⊢
      exact⟨_,_,hr,hgr.1,hgr.2,Or.inr rfl⟩
  · by_cases hroom:n+m≤cap
    · have hfit:n * 1+(ZEj m zc).length≤cur.size:=by rw [hcs,ZSp]; omega
      have hst:=run_storeCells_at P g (n * 1) e (ZEj m zc) 0 cur w hg (by simpa using hfit) (fun u hu=>by rw [(List.mem_replicate.1 hu).2]; exact h1)
      simp only [Nat.add_zero] at hst
      have hr:(ZHa #[t,tn] ty #[.slice (some ⟨g,0,none⟩) n cap,.int kq m]).run P w=.ok (.slice (some ⟨g,0,none⟩) (n+m) cap) (w.setRow g (cur.toList.take (n * 1)++ZEj m zc++cur.toList.drop (n * 1+(ZEj m zc).length)).toArray):=by
        by_cases hm:m=0
        · subst hm
          simp only [List.replicate_zero] at hst
          simp [ZHa,run_underlying ht,run_underlying htn,Go.sizeOf,typeInfo,hi,hsize,asInt,asIntOf,ZSy,hnc,ZTc] at hst ⊢
          rw [hst]
          rfl
        · have hns:¬ (m * 1=0):=by omega
          simp [ZHa,run_underlying ht,run_underlying htn,Go.sizeOf,typeInfo,zeroValue,hi,hz,hsize,hzc,Zib,asInt,asIntOf,hw,hneg,h48i,hm,hroom,ZTc] at hst ⊢
          rw [hst]
          rfl
      refine⟨_,_,hr,⟨hlen,.inr ⟨g,cap,_,rfl,hbg,setRow_heap w g cur _ e _ hg,hroom,hcm,?_,?_⟩⟩,⟨rfl,rfl,rfl,by simp,fun k _ hk=>setRow_other w g k _ (fun e=>hk (by simp [ZFi,e]))⟩,Or.inl rfl⟩
      · simp only [List.size_toArray,ZEz,ZGs,ZFy,Array.length_toList,ZSp]
        omega
      · rw [htake,← hlen]
        exact List.take_left
    · have holds:∀ j u,xs[j]? = some u→w.cell? ((⟨g,0,none⟩:Addr).add j)=some u:=hown.cells (g:=g) rfl
      have hold:(Builtin.firstCells i.size n (.slice (some ⟨g,0,none⟩) n cap)).run P w.drew=.ok xs.toArray w.drew:=run_firstCells_some (P:=P) w.drew i.size n ⟨g,0,none⟩ n cap xs (by rw [hown.1,hsize]) holds
      have hr:=Lib.run_append_grow_zeros (P:=P) w t tn ty e i z kq kn ht htn hi hz (some ⟨g,0,none⟩) n cap xs hold m (by omega) (by omega) (by omega) (by omega) (by omega) (growslice_fits (by omega) hbytes)
      have hgr:=grown cap (by omega) (ZFi (.slice (some ⟨g,0,none⟩) n cap))
      exact⟨_,_,hr,hgr.1,hgr.2,Or.inr rfl⟩
section
variable {P:Program} {ops:Array Oper} {Q:Exit→Act→World→Prop} {n:Nat} {e:Env} {w w':World} {rest:List Oper}
variable {X:Nat→Prop} {w0:World} {M Ps:List Item}
variable {d ty:Nat} {pos:String} {af:Array Edge}
theorem Zrf (hC:Ctx X w0 w M Ps) (k:Nat) {t tn el bytes nv m:Nat} {kq kn:IntKind} {z zc:Value} {x y:Operand} {v:Value} {cs:List Value} (ht:P.underlying t=some (.slice el)) (htn:P.underlying tn=some (.int kn)) (hE:J3 P el z 1 bytes) (hzc:z.cells=#[zc]) (h1:zc.oneCell'=true) (hby:0 < bytes)
    (hk:M[k]? = some (own el 1 v nv cs)) (hx:ev n e x=v) (hy:ev n e y=.int kq m) (hb:(nv+m) * bytes≤140737488355328)
    (h:∀ v' w',Ctx X w0 w' (M.set k (own el 1 v' (nv+m) (cs++ZEj m zc))) Ps→W P ops Q rest n (upd e d v') w') :
    W P ops Q (⟨some d,.call { callee:=.builtin .append,args:=#[x,y],argTypes:=#[t,tn] }, ty,pos,af,none⟩::rest) n e w:=by
  obtain ⟨i0,hi,hzz⟩:=Option.map_eq_some_iff.1 hE
  simp only [Prod.mk.injEq] at hzz
  have HO:w.ownsRow 0 el 1 v nv cs:=hC.getM k hk
  have hlen:nv+m≤140737488355328:=ZEp (Nat.le_mul_of_pos_right _ hby) hb
  obtain ⟨v1,w1,hr,hown,hg,hat⟩:=Zyz (P:=P) t tn ty el i0 z zc kq kn ht htn hi hzz.1 hzc h1 bytes hzz.2.1 hzz.2.2 v nv cs HO m (by unfold maxLen; omega) hb
  refine Y1 v1 rfl rfl ?_ (h v1 w1 (hC.turn k hk hg.os hg.tape hg.output hg.size (Zci _ _ _ _ hr) (fun b hb' hnb=>hg.block b hb' ?_) hown ?_))
  · simp only [execOp,resolve,invoke,builtin,ZEh,ZEm,ZEi,List.map_toArray,ZFq,List.map_nil,hx,hy,hr]
  · intro e
    exact hnb (by simp [own,← e])
  · intro b hbm
    simp only [own] at hbm ⊢
    rcases hat with hat | hat
    · rw [hat] at hbm; exact .inl hbm
    · rw [hat] at hbm
      have:b=w.heap.size:=by simpa using hbm
      omega
theorem Zy0 {t t':Nat} {x y:Operand} {k:IntKind} {a b:Int} {gd:Option (Nat×Bool)} (hx:ev n e x=.int k a) (hy:ev n e y=.int k b) :
    (execOp (ev n e) ⟨some d,.call { callee:=.builtin .min,args:=#[x,y],argTypes:=#[t,t'] }, ty,pos,af,gd⟩).run P w=.ok (.value (.int k (if b < a then b else a))) w:=by
  simp [execOp,resolve,invoke,builtin,hx,hy,Builtin.min_,Builtin.min2,ZEh]
theorem Zic {t t':Nat} {x y:Operand} {k:IntKind} {a b:Int} (hx:ev n e x=.int k a) (hy:ev n e y=.int k b)
    (h:W P ops Q rest n (upd e d (.int k (if b < a then b else a))) w):W P ops Q (⟨some d,.call { callee:=.builtin .min,args:=#[x,y],argTypes:=#[t,t'] }, ty,pos,af,none⟩::rest) n e w :=
  Y1 _ rfl rfl (Zy0 hx hy) h
end
section
variable {X:Nat→Prop} {w0 w w':World} {M Ps:List Item}
theorem Ctx.turnO {el sz n m:Nat} {v z:Value} {cs ds:List Value} (hC:Ctx X w0 w M Ps) (k:Nat) (hk:M[k]? = some (own el sz v n cs)) (hB:BelO v.ownBlock.toList w w') (ho:(own el sz z m ds).holds w') (hf:∀ b,b∈z.ownBlock.toList→b∈v.ownBlock.toList∨w.heap.size≤b) :
    Ctx X w0 w' (M.set k (own el sz z m ds)) Ps :=
  hC.turn k hk hB.os hB.tape hB.output hB.size hB.drawn (fun b hb hn=>hB.old b hb hn) ho hf
theorem Ctx.turnS {b t el sz n m : Nat} {v z : Value} {qs bs cs ds : List Value} (hC : Ctx X w0 w (blk b t qs :: own el sz v n cs :: M) Ps) (hB : BelO (b :: v.ownBlock.toList) w w') (g1 : (blk b t bs).holds w') (g2 : (own el sz z m ds).holds w') (hf : ∀ x, x ∈ z.ownBlock.toList → x ∈ v.ownBlock.toList ∨ w.heap.size ≤ x) :
    Ctx X w0 w' (blk b t bs::own el sz z m ds::M) Ps:=by
  have hb0:=hC.m (blk b t qs) (by simp)
  have ho0:=hC.m (own el sz v n cs) (by simp)
  have hd:=hC.dis
  obtain ⟨d1,d2⟩:=ZFb.1 hd
  obtain ⟨d3,d4⟩:=ZFb.1 d2
  have hX1:=hC.mfp (blk b t qs) (by simp)
  have hX2:=hC.mfp (own el sz v n cs) (by simp)
  have hbs:b < w.heap.size:=ZSa _ w hb0 b (ZSl _)
  have hnot:∀ j,j∈M→∀ x,x∈j.fp→x∉b::v.ownBlock.toList:=fun j hj x hx hx'=>by
    rcases ZEk.1 hx' with rfl | hx'
    · exact d1 j (by simp [hj]) x (ZSl _) hx
    · exact d3 j hj x hx' hx
  exact {
    os:=hB.os.trans hC.os
    tape:=hB.tape.trans hC.tape
    output:=hB.output.trans hC.output
    size:=ZEp hC.size hB.size
    drawn:=ZEp hC.drawn hB.drawn
    old := fun c hc hx => by
      rw [hB.old c (ZG0 hc hC.size) (fun q=>?_)]
      · exact hC.old c hc hx
      · rcases ZEk.1 q with rfl | q
        · rcases hX1 c (ZSl _) with r | r
          · omega
          · exact hx r
        · rcases hX2 c q with r | r
          · omega
          · exact hx r
    m := fun j hj => by
      rcases ZEk.1 hj with rfl | hj
      · exact g1
      · rcases ZEk.1 hj with rfl | hj
        · exact g2
        · exact ZSb _ w w' (fun x hx=>hB.old x (ZSa _ w (hC.m j (by simp [hj])) x hx) (hnot j hj x hx)) (hC.m j (by simp [hj]))
    p := fun j hj => ZSb _ w w' (fun x hx => hB.old x (ZSa _ w (hC.p j hj) x hx) (fun q => by
      rcases ZEk.1 q with rfl | q
      · exact hC.pd j hj x hx (blk x t qs) (by simp) (ZSl _)
      · exact hC.pd j hj x hx (own el sz v n cs) (by simp) q)) (hC.p j hj)
    mfp := fun j hj x hx => by
      rcases ZEk.1 hj with rfl | hj
      · exact hX1 x hx
      · rcases ZEk.1 hj with rfl | hj
        · rcases hf x hx with r | r
          · exact hX2 x r
          · exact .inl (ZEp hC.size r)
        · exact hC.mfp j (by simp [hj]) x hx
    dis := by
      refine ZFb.2 ⟨fun j hj x hx hxj=>?_,ZFb.2 ⟨fun j hj x hx hxj=>?_,d4⟩⟩
      · obtain rfl:x=b:=ZFz.1 hx
        rcases ZEk.1 hj with rfl | hj
        · rcases hf x hxj with r | r
          · exact d1 (own el sz v n cs) (by simp) x (ZSl _) r
          · omega
        · exact d1 j (by simp [hj]) x (ZSl _) hxj
      · rcases hf x hx with r | r
        · exact d3 j hj x r hxj
        · have:=ZSa _ w (hC.m j (by simp [hj])) x hxj
          omega
    pd := fun j hj x hx q hq hxq => by
      rcases ZEk.1 hq with rfl | hq
      · exact hC.pd j hj x hx (blk b t qs) (by simp) hxq
      · rcases ZEk.1 hq with rfl | hq
        · rcases hf x hxq with r | r
          · exact hC.pd j hj x hx (own el sz v n cs) (by simp) r
          · have:=ZSa _ w (hC.p j hj) x hx
            omega
        · exact hC.pd j hj x hx q (by simp [hq]) hxq }
end
theorem Zy1 {P:Program} {w:World} {t el:Nat} {A:Option Addr} {m c:Nat} (ht:P.underlying t=some (.slice el)):(Op.equal t (.slice A m c) (.slice none 0 0)).run P w=.ok A.isNone w:=by
  unfold Op.equal Op.maxDepth
  rw [show (10000:Nat)=9999+1 from rfl]
  unfold Op.equalIn
  cases A <;> simp [run_underlying ht]
section
variable {P:Program} {ops:Array Oper} {Q:Exit→Act→World→Prop} {n:Nat} {e:Env} {w w':World} {rest:List Oper}
variable {d ty:Nat} {pos:String} {af:Array Edge}
theorem Zy2 {t t' el:Nat} {x y:Operand} {A:Option Addr} {m c:Nat} {b:Bool} {gd:Option (Nat×Bool)} (ht:P.underlying t=some (.slice el)) (hx:ev n e x=.slice A m c) (hy:ev n e y=.slice none 0 0) (hb:A.isNone=b) :
    (execOp (ev n e) ⟨some d,.binOp .eql t x y t',ty,pos,af,gd⟩).run P w=.ok (.value (.bool b)) w:=by
  subst hb
  have hq:(eqGuard .eql t x y (.slice A m c) (.slice none 0 0)).run P w=.ok () w:=by unfold eqGuard; simp
  have hr:(binOp .eql t (.slice A m c) (.slice none 0 0)).run P w=.ok (.bool A.isNone) w:=by
    simp [binOp,Zy1 ht]
  simp only [execOp,hx,hy,ZEh,hq,ZEi,hr,ZEm]
theorem Zk2 {t t' el:Nat} {x y:Operand} {A:Option Addr} {m c:Nat} (b:Bool) (ht:P.underlying t=some (.slice el)) (hx:ev n e x=.slice A m c) (hy:ev n e y=.slice none 0 0) (hb:A.isNone=b)
    (h:W P ops Q rest n (upd e d (.bool b)) w):W P ops Q (⟨some d,.binOp .eql t x y t',ty,pos,af,none⟩::rest) n e w :=
  Y1 _ rfl rfl (Zy2 ht hx hy hb) h
end
theorem Zy3 {α:Type} {t:Ty α} {xs:List α} {v:Value} {fp:List Nat} {w:World} (h:t.sl.rep xs [v] fp w):(∃ m c,v=.slice none m c∧xs=[])∨∃ A m c,v=.slice (some A) m c:=by
  obtain ⟨v',ecs,e,⟨a0,a1,a2,A,c,rfl,anc,a3⟩,h2⟩:=h
  obtain rfl:v=_:=by simpa using e
  cases A with
  | none =>
    refine .inl ⟨_,_,rfl,?_⟩
    rcases Nat.eq_zero_or_pos xs.length with h0 | h0
    · exact ZTz h0
    · obtain ⟨a,ha,_⟩:=a3 h0
      cases ha
  | some A=>exact .inr ⟨A,_,_,rfl⟩
end Vc
namespace Vc
open Go Go.RowKit
section
variable {α β:Type}
def Zrg (kv : α → Value) (vv : β → Value) : Ty (List (α × β)) where
  sz:=1
  rep l cs fp w:=∃ b,cs=[.map (some b)]∧b∈fp∧(∀ c,c∈fp→c < w.heap.size)∧(Yc kv vv b l).holds w
  keep h hw:=by
    obtain ⟨b,rfl,hb,hl,hm⟩:=hw
    exact⟨b,rfl,hb,Zfb h hl,ZSb _ _ _ (fun c hc=>h c (by obtain rfl:=ZFz.1 hc; exact hb)) hm⟩
  low hw:=by
    obtain ⟨b,rfl,hb,hl,hm⟩:=hw
    exact hl
  len hw:=by obtain ⟨b,rfl,_⟩:=hw; rfl
  one hw u hu:=by
    obtain ⟨b,rfl,_⟩:=hw
    obtain rfl:=ZFz.1 hu
    rfl
  more hw h1 h2:=by
    obtain ⟨b,rfl,hb,hl,hm⟩:=hw
    exact⟨b,rfl,h1 b hb,h2,hm⟩
end
structure Derive where
  alg:Alg
  drop:Int
  images:List (List (A8×Int))
  deriving Inhabited
def TSum:Ty (List (A8×Int)):=Zrg (kvA .i64) (vvI .i64)
theorem Zy4 {α:Type} {t:Ty α} {x y:α} {cs ds:List Value} {f g:List Nat} {w:World} (h:t.rep x cs f w) (k:t.rep y ds g w):t.all [x,y] (cs++ds) (f++g) w:=Zt4 (Zdy h) k
theorem Zy5 {α:Type} {t:Ty α} {x y:α} {cs ds:List Value} {f g:List Nat} {w:World} (h:(t.item x cs f).holds w) (k:(t.item y ds g).holds w):(t.allItem [x,y] (cs++ds) (f++g)).holds w:=Zy4 h k
theorem Znx {α β:Type} {kv:α→Value} {vv:β→Value} {l:List (α×β)} {u:Value} {fp:List Nat} {w:World} (h:(Zrg kv vv).rep l [u] fp w):∃ b,u=.map (some b)∧b∈fp∧(Yc kv vv b l).holds w:=by
  obtain ⟨b,hc,hb,_,hm⟩:=h
  simp only [List.cons.injEq,and_true] at hc
  exact⟨b,hc,hb,hm⟩
section
variable {α β:Type} {kv:α→Value} {vv:β→Value}
theorem Ctx.turnI {X:Nat→Prop} {w0 w w':World} {M Ps:List Item} {it jt:Item} (hC:Ctx X w0 w M Ps) (k:Nat) (hk:M[k]? = some it) (hB:BelO it.fp w w') (hj:jt.holds w') (hf:∀ b,b∈jt.fp→b∈it.fp∨w.heap.size≤b):Ctx X w0 w' (M.set k jt) Ps :=
  hC.turn k hk hB.os hB.tape hB.output hB.size hB.drawn (fun b hb hn=>hB.old b hb hn) hj hf
end
end Vc
namespace Vc
open Go Go.RowKit
section
variable {X:Nat→Prop} {w0 w w':World} {M Ps:List Item}
end
theorem Zny {el sz n:Nat} {v:Value} {cs:List Value} {w:World} (h:(own el sz v n cs).holds w) (m:Nat) (hm:m≤n) :
    ∃ A c,v=.slice A n c∧n≤c∧(own el sz (.slice A m c) m (cs.take (m * sz))).holds w∧(A=none∨∃ g,A=some ⟨g,0,none⟩)∧(ZTd A m c).ownBlock=v.ownBlock:=by
  obtain ⟨h1,h2⟩:=h
  have hl:(cs.take (m * sz)).length=m * sz:=by
    rw [ZGs,h1]
    have:=ZG8 sz hm
    omega
  rcases h2 with ⟨rfl,rfl⟩ | ⟨g,cap,cur,rfl,hbg,hg,hnc,hcm,hcs,ht⟩
  · obtain rfl:m=0:=by omega
    exact⟨none,0,rfl,ZEn _,⟨hl,.inl ⟨rfl,rfl⟩⟩,.inl rfl,rfl⟩
  · refine⟨_,cap,rfl,hnc,⟨hl,.inr ⟨g,cap,cur,rfl,hbg,hg,by omega,hcm,hcs,?_⟩⟩,.inr ⟨g,rfl⟩,rfl⟩
    rw [← ht,ZTa,Nat.min_eq_left (ZG8 sz hm)]
theorem Znz (A:Option Addr) (h c s:Nat) (hA:A=none∨∃ g,A=some ⟨g,0,none⟩):sliced A 0 h c s=.slice A h c:=by
  unfold sliced
  rcases hA with rfl | ⟨g,rfl⟩
  · simp
  · simp [ZTc]
section
variable {P:Program} {ops:Array Oper} {Q:Exit→Act→World→Prop} {n:Nat} {e:Env} {w w':World} {rest:List Oper}
variable {X:Nat→Prop} {w0:World} {M Ps:List Item}
variable {d ty:Nat} {pos:String} {af:Array Edge}
theorem Zcc {P:Program} {t el:Nat} (ht:P.underlying t=some (.slice el)):P.underlying t=some (.slice (P.elem t)):=by
  have:P.elem t=el:=by simp [ZSm,ht]
  rw [this]; exact ht
theorem Zy6 (hC:Ctx X w0 w M Ps) (k:Nat) {t el sz nv:Nat} {kq:IntKind} {hi:Int} {x y:Operand} {v:Value} {cs:List Value} (hk:M[k]? = some (own el sz v nv cs)) (ht:P.underlying t=some (.slice el)) (hz:Xw P el sz)
    (hx:ev n e x=v) (hy:ev n e y=.int kq hi) (h0:0≤hi) (h1:hi≤nv)
    (h:∀ v',Ctx X w0 w (M.set k (own el sz v' hi.toNat (cs.take (hi.toNat * sz)))) Ps→W P ops Q rest n (upd e d v') w) :
    W P ops Q (⟨some d,.slice t x none (some y) none,ty,pos,af,none⟩::rest) n e w:=by
  have hown:(own el sz v nv cs).holds w:=hC.getM k hk
  obtain ⟨A,c,rfl,hnc,ho,hA,hb⟩:=Zny hown hi.toNat (by omega)
  have hel:P.elem t=el:=by simp [ZSm,ht]
  have hr:=run_slice_h (P:=P) w t A nv c (Zcc ht) kq hi h0 (by omega)
  rw [hel,Zam hz,ZEi,Znz A _ _ _ hA] at hr
  refine Y1 (.slice A hi.toNat c) rfl rfl ?_ (h _ (hC.turn k hk rfl rfl rfl (ZEn _) (ZEn _) (fun _ _ _=>rfl) ho (fun b hb'=>.inl ?_)))
  · simp only [execOp,hx,hy,ZF1,ZSr,ZEh,run_sliceAt_slice w t _ _ _ _ (Zcc ht),hr,ZEi,ZEm]
  · show b∈(ZTd A nv c).ownBlock.toList
    rw [← hb]; exact hb'
theorem Zy7 {t el sz:Nat} {kq:IntKind} {x y:Operand} (ht:P.underlying t=some (.slice el)) (hz:Xw P el sz) (hx:ev n e x=.slice none 0 0) (hy:ev n e y=.int kq 0)
    (h:W P ops Q rest n (upd e d (.slice none 0 0)) w):W P ops Q (⟨some d,.slice t x none (some y) none,ty,pos,af,none⟩::rest) n e w:=by
  have hel:P.elem t=el:=by simp [ZSm,ht]
  have hr:=run_slice_h (P:=P) w t none 0 0 (Zcc ht) kq 0 (by omega) (by omega)
  rw [hel,Zam hz,ZEi,Znz none _ _ _ (.inl rfl)] at hr
  refine Y1 (.slice none 0 0) rfl rfl ?_ h
  simp only [execOp,hx,hy,ZF1,ZSr,ZEh,run_sliceAt_slice w t _ _ _ _ (Zcc ht),hr,ZEi,ZEm]
  rfl
theorem Zrh {t el:Nat} {x:Operand} {A:Option Addr} {m c:Nat} (ht:P.underlying t=some (.slice el)) (hx:ev n e x=.slice A m c)
    (h:W P ops Q rest n (upd e d (.int .i64 c)) w):W P ops Q (⟨some d,.call { callee:=.builtin .cap,args:=#[x],argTypes:=#[t] }, ty,pos,af,none⟩::rest) n e w:=by
  refine Y1 _ rfl rfl ?_ h
  have hr:=run_cap_slice (P:=P) w t ty A m c (Zcc ht)
  simp only [execOp,resolve,invoke,builtin,ZEh,ZEm,ZEi,List.map_toArray,ZFq,List.map_nil,hx,hr]
  rfl
end
theorem _root_.Vc.Enc.encs_take {α:Type} (E:Enc α) (xs:List α) (m:Nat):(E.encs xs).take (m * E.sz)=E.encs (xs.take m):=by
  induction xs generalizing m with
  | nil=>simp [ZSs]
  | cons x xs ih =>
    cases m with
    | zero=>simp [ZSs]
    | succ m =>
      have e:E.encs (x::xs)=E.enc x++E.encs xs:=by simp [ZSs]
      have hl:=E.len x
      rw [e,List.take_succ_cons,show E.encs (x::xs.take m)=E.enc x++E.encs (xs.take m) by simp [ZSs],ZEw,Nat.one_mul,Nat.add_comm,← hl,List.take_length_add_append,hl,ih]
section
variable {P:Program} {ops:Array Oper} {Q:Exit→Act→World→Prop} {n:Nat} {e:Env} {w w':World} {rest:List Oper}
variable {d ty:Nat} {pos:String} {af:Array Edge}
theorem Zy8 {t t':Nat} {ik:IntKind} {x y:Operand} {a b:A8} {gd:Option (Nat×Bool)} (K:KeyT P t (kvA ik)) (hm:P.eqGuardType P.depth t=false) (hx:ev n e x=.agg (ZMf (a.enc ik))) (hy:ev n e y=.agg (ZMf (b.enc ik))) :
    (execOp (ev n e) ⟨some d,.binOp .eql t x y t',ty,pos,af,gd⟩).run P w=.ok (.value (.bool (decide (a=b)))) w:=by
  have hq:=run_eqGuard_agg (P:=P) w .eql t x y (ZMf (a.enc ik)) (ZMf (b.enc ik)) hm
  have hr:(Op.equalIn 10000 t (.agg (ZMf (a.enc ik))) (.agg (ZMf (b.enc ik)))).run P w=.ok (decide (a=b)) w:=K.equal w a b
  simp only [execOp,hx,hy,ZEh,hq,ZEi,run_eql_struct,hr,ZEm]
theorem Zy9 {t t':Nat} {ik:IntKind} {x y:Operand} {a b:A8} (K:KeyT P t (kvA ik)) (hm:P.eqGuardType P.depth t=false) (hx:ev n e x=.agg (ZMf (a.enc ik))) (hy:ev n e y=.agg (ZMf (b.enc ik)))
    (h:W P ops Q rest n (upd e d (.bool (decide (a=b)))) w):W P ops Q (⟨some d,.binOp .eql t x y t',ty,pos,af,none⟩::rest) n e w :=
  Y1 _ rfl rfl (Zy8 K hm hx hy) h
end
section
variable {P:Program} {ops:Array Oper} {Q:Exit→Act→World→Prop} {n:Nat} {e:Env} {w w':World} {rest:List Oper}
variable {X:Nat→Prop} {w0:World} {M Ps:List Item}
variable {d ty:Nat} {pos:String} {af:Array Edge} {gd:Option (Nat×Bool)}
end
theorem Zeu {α:Type} {t:Ty α} {xs:List α} {v:Value} {fp:List Nat} {w:World} (h:t.sl.rep xs [v] fp w):∃ ds,(rdr t.sz v xs.length ds fp).holds w∧t.all xs ds fp w:=by
  obtain ⟨v',ecs,e,h1,h2⟩:=h
  obtain rfl:v=v':=by simpa using e
  exact⟨ecs,h1,h2⟩
theorem Zn0 {α:Type} (t:Ty α) (w:World):(t.allItem ([]:List α) [] []).holds w:=⟨by simp,by simp,by simp,fun i hi=>absurd hi (by simp)⟩
theorem Zri (k:IntKind) (xs:List Int) (m:Nat):(EI k).encs xs++ZEj m (.int k 0)=(EI k).encs (xs++ZEj m 0):=by
  rw [Enc.encs_append]
  congr 1
  induction m with
  | zero=>rfl
  | succ m ih=>rw [List.replicate_succ,List.replicate_succ,ih]; simp [ZSs,EI]
theorem Zev {α:Type} {t:Ty α} {xs ys:List α} {cs ds:List Value} {f g:List Nat} {w:World} (h:(t.allItem xs cs f).holds w) (k:(t.allItem ys ds g).holds w):(t.allItem (xs++ys) (cs++ds) (f++g)).holds w:=by
  have hl:∀ b,b∈f++g→b < w.heap.size:=fun b hb=>(ZEv.1 hb).elim (h.1 b) (k.1 b)
  refine⟨hl,by rw [ZEz,h.2.1,k.2.1,ZEz,ZEw],fun u hu=>(ZEv.1 hu).elim (h.2.2.1 u) (k.2.2.1 u),fun i hi=>?_⟩
  by_cases hx:i < xs.length
  · have e1:(xs++ys)[i]=xs[i]:=List.getElem_append_left hx
    have hle:i * t.sz+t.sz≤cs.length:=by rw [h.2.1]; exact J4 hx
    rw [e1,List.drop_append_of_le_length (by omega),List.take_append_of_le_length (by rw [ZFy]; omega)]
    exact t.more (h.2.2.2 i hx) (fun b hb=>ZFa _ hb) hl
  · have hy:i - xs.length < ys.length:=by rw [ZEz] at hi; omega
    have e1:(xs++ys)[i]=ys[i - xs.length]:=List.getElem_append_right (by omega)
    have hm:i * t.sz=cs.length+(i - xs.length) * t.sz:=by rw [h.2.1,← ZEw]; congr 1; omega
    rw [e1,hm,← List.drop_drop,List.drop_left' rfl]
    exact t.more (k.2.2.2 _ hy) (fun b hb=>ZE5 _ hb) hl
end Vc
namespace Vc
open Go Go.RowKit
section
variable {P:Program} {ops:Array Oper} {Q:Exit→Act→World→Prop} {n:Nat} {e:Env} {w w':World} {rest:List Oper}
variable {X:Nat→Prop} {w0:World} {M Ps:List Item}
variable {d ty:Nat} {pos:String} {af:Array Edge}
end
end Vc
namespace Vc
open Go Go.RowKit
abbrev vvP (b:Nat):Value:=.pointer (some ⟨b,0,none⟩)
def EB:Enc Bool:=⟨1,by decide,fun x=>[.bool x],fun _=>rfl,fun x u hu=>by obtain rfl:u=_:=ZFz.1 hu; rfl⟩
structure Elem where
  gen:Int
  mono:A8
  deriving DecidableEq,Inhabited
def Elem.enc (t:Elem):List Value:=.int .i64 t.gen::A8.enc .i64 t.mono
section
variable {P:Program} {k:Nat} {ik:IntKind}
theorem Zza (hk:P.underlying k=some (.int ik)):KeyT P k (vvI ik) where
  under:=⟨_,hk,.inr fun x y=>by simp [Instr.sameNow,Bool.beq_eq_decide_eq]⟩
  check em w x:=by
    show (Instr.checkKey em (9999+1) k _).run P w=_
    unfold Instr.checkKey; simp [ZEh,run_underlying hk]
  equal w x y:=Zp4 (d:=9999) hk w x y
  stays x:=by simp [Instr.sameBits]
end
section
variable {P:Program} {ops:Array Oper} {Q:Exit→Act→World→Prop} {n:Nat} {e:Env} {w w':World} {rest:List Oper}
variable {X:Nat→Prop} {w0:World} {M Ps:List Item}
variable {d ty:Nat} {pos:String} {af:Array Edge}
theorem Zzb {t t':Nat} {x y:Operand} {k:IntKind} {a b:Int} {gd:Option (Nat×Bool)} (hx:ev n e x=.int k a) (hy:ev n e y=.int k b) :
    (execOp (ev n e) ⟨some d,.call { callee:=.builtin .max,args:=#[x,y],argTypes:=#[t,t'] }, ty,pos,af,gd⟩).run P w=.ok (.value (.int k (if a < b then b else a))) w:=by
  simp [execOp,resolve,invoke,builtin,hx,hy,Builtin.max_,Builtin.max2,ZEh]
theorem Zn1 {t t':Nat} {x y:Operand} {k:IntKind} {a b:Int} (hx:ev n e x=.int k a) (hy:ev n e y=.int k b)
    (h:W P ops Q rest n (upd e d (.int k (if a < b then b else a))) w):W P ops Q (⟨some d,.call { callee:=.builtin .max,args:=#[x,y],argTypes:=#[t,t'] }, ty,pos,af,none⟩::rest) n e w :=
  Y1 _ rfl rfl (Zzb hx hy) h
theorem Zfz {f:FuncId} {l:List Operand} {fn:Func} {c:Code} {at_:Array Nat} (vs:List Value) (hf:P.funcs[f]? = some fn) (hb:fn.body=some c) (hne:(fn.name == "runtime.NumGoroutine")=false) (m:Nat) (hm:fn.ntmps=m) (hl:vs.length≤m)
    (hp:l.map (ev n e)=vs) (h:c.wp P (bodyPost P fn (fun ret w''=>∃ v,ret=.returned v∧W P ops Q rest n (upd e d v) w'')) (actOf m (Zgm vs)) w) :
    W P ops Q (⟨some d,.call { callee:=.value (.func f),args:=l.toArray,argTypes:=at_ }, ty,pos,af,none⟩::rest) n e w :=
  Zf vs _ hf (by rw [hb]; rfl) hne hp (Zmb hf hb m hm hl h) (fun ret w'' h=>h)
end
section
variable {P:Program} {ops:Array Oper} {Q:Exit→Act→World→Prop} {n:Nat} {e:Env} {w w':World} {rest:List Oper}
variable {X:Nat→Prop} {w0:World} {M Ps:List Item}
variable {d ty:Nat} {pos:String} {af:Array Edge}
end
end Vc
namespace Vc
open Go Go.RowKit
def Jp (u:Value):List Nat:=u.ownBlock.toList
def Jw (v:Value) (ecs:List Value):List Nat:=v.ownBlock.toList++(ecs.map Jp).flatten
abbrev hd (ecs:List Value) (i:Nat):Value:=ecs.getD i undef
section
variable {α:Type} {E:Enc α} {t e:Nat} {v:Value} {ecs:List Value} {xs:List (List α)} {w w':World}
theorem Zk3 {i:Nat} {b:Nat} (hi:i < ecs.length) (hb:b∈Jp (hd ecs i)):b∈(ecs.map Jp).flatten :=
  ZF4.2 ⟨Jp (hd ecs i),ZF2.2 ⟨hd ecs i,by simp [hd,ZEy,hi],rfl⟩,hb⟩
theorem Zrj (hn:(Jw v ecs).Nodup) {i j:Nat} (hi:i < ecs.length) (hj:j < ecs.length) (hne:i≠j):∀ b,b∈Jp (hd ecs i)→b∉Jp (hd ecs j):=by
  have hn2:=(ZFg.1 hn).2.1
  have hp:=(List.pairwise_flatten.1 hn2).2
  rw [ZS6,ZEq] at hp
  intro b hb hb'
  have ei:hd ecs i=ecs[i]:=by simp [hd,ZEy,hi]
  have ej:hd ecs j=ecs[j]:=by simp [hd,ZEy,hj]
  rw [ei] at hb; rw [ej] at hb'
  rcases Nat.lt_or_gt_of_ne hne with q | q
  · exact hp i j hi hj q b hb b hb' rfl
  · exact hp j i hj hi q b hb' b hb rfl
theorem Zn2 (hn:(Jw v ecs).Nodup) {i:Nat} (hi:i < ecs.length):∀ b,b∈Jp (hd ecs i)→b∉v.ownBlock.toList:=fun b hb hb' =>
  (ZFg.1 hn).2.2 b hb' b (Zk3 hi hb) rfl
def mat (E : Enc α) (t e : Nat) (v : Value) (ecs : List Value) (xs : List (List α)) : Item where
  fp:=Jw v ecs
  holds w:=(own t 1 v xs.length ecs).holds w∧(∀ i,i < xs.length→(own e E.sz (hd ecs i) (xs.getD i ZEo).length (E.encs (xs.getD i ZEo))).holds w)∧(Jw v ecs).Nodup
  keep w w' h hw:=⟨ZSb _ _ _ (fun b hb=>h b (ZFa _ hb)) hw.1,fun i hi=>ZSb _ _ _ (fun b hb=>h b (ZE5 _ (Zk3 (by rw [Zgq hw.1]; omega) hb))) (hw.2.1 i hi),hw.2.2⟩
  low w hw b hb := by
    rcases ZEv.1 hb with q | q
    · exact ZSa _ _ hw.1 b q
    · obtain ⟨l,hl,hb⟩:=ZF4.1 q
      obtain ⟨u,hu,rfl⟩:=ZF2.1 hl
      obtain ⟨i,hi,rfl⟩:=ZEx hu
      have hi':i < xs.length:=by rw [Zgq hw.1] at hi; omega
      have:=hw.2.1 i hi'
      rw [show hd ecs i=ecs[i] by simp [hd,ZEy,hi]] at this
      exact ZSa _ _ this b hb
theorem Zew (h:(mat E t e v ecs xs).holds w):ecs.length=xs.length:=by rw [Zgq h.1]; omega
theorem Zn3 {cs:List Value} {i:Nat} (h:i < cs.length):(cs.drop (i * 1)).take 1=[hd cs i]:=by
  rw [Nat.mul_one,List.drop_eq_getElem_cons h,List.take_succ_cons,List.take_zero]
  simp [hd,ZEy,h]
theorem Zk4 {fp:List Nat} (h:(ZMy (ZR9 t (ZR9 e E.tr)) xs [v] fp).holds w):∃ ecs,(mat E t e v ecs xs).holds w∧fp=Jw v ecs:=by
  obtain ⟨ecs,fps,a1,a2,rfl,a4⟩:=Zg2 h
  have hsz:(ZR9 e E.tr).ty.sz=1:=rfl
  rw [hsz] at a1
  have hl:ecs.length=xs.length:=by rw [Zgq a1]; omega
  have row:∀ i (hi:i < xs.length),(own e E.sz (hd ecs i) (xs[i]).length (E.encs xs[i])).holds w∧fps.getD i []=Jp (hd ecs i):=fun i hi=>by
    have h2:=a2.1.2.2 i hi
    rw [hsz,Zn3 (by omega)] at h2
    exact Yv h2
  have hf:fps=ecs.map Jp:=by
    refine ZHb (by rw [List.length_map,a2.1.2.1,hl]) fun i h1 h2=>?_
    have hi:i < xs.length:=by rw [← a2.1.2.1]; exact h1
    have:=(row i hi).2
    rw [show fps.getD i []=fps[i] by simp [ZEy,h1]] at this
    rw [this,List.getElem_map]
    simp [hd,ZEy,show i < ecs.length by omega]
  subst hf
  refine⟨ecs,⟨a1,fun i hi=>?_,h.2⟩,rfl⟩
  rw [show xs.getD i ZEo=xs[i] by simp [ZEy,hi]]
  exact(row i hi).1
theorem Zde (h:(mat E t e v ecs xs).holds w):(ZMy (ZR9 t (ZR9 e E.tr)) xs [v] (Jw v ecs)).holds w:=by
  have hl:=Zew h
  refine⟨⟨v,ecs,ecs.map Jp,rfl,h.1,⟨by rw [hl]; show _=_ * 1; omega,by rw [List.length_map,hl],fun i hi=>?_⟩,rfl⟩,h.2.2⟩
  have h2:=h.2.1 i hi
  rw [show xs.getD i ZEo=xs[i] by simp [ZEy,hi]] at h2
  show (ZR9 e E.tr).tree xs[i] ((ecs.drop (i * 1)).take 1) _ w
  rw [Zn3 (by omega),show (ecs.map Jp).getD i []=Jp (hd ecs i) by simp [ZEy,hd,show i < ecs.length by omega]]
  exact Zmy h2
theorem Zap (h:(mat E t e v ecs xs).holds w) {i:Nat} (hi:i < xs.length):(own e E.sz (hd ecs i) (xs.getD i ZEo).length (E.encs (xs.getD i ZEo))).holds w:=h.2.1 i hi
theorem Zzc (h:(mat E t e v ecs xs).holds w):∃ A c,v=.slice A xs.length c:=Zbi h.1
theorem Zcv (h:(mat E t e v ecs xs).holds w) (hn:0 < xs.length):∃ g cap,v=.slice (some ⟨g,0,none⟩) xs.length cap:=Xo h.1 hn
theorem Zzd (h:(mat E t e v ecs xs).holds w):E.ty.sl.sl.rep xs [v] (Jw v ecs) w:=(ZR9 t (ZR9 e E.tr)).trep (Zde h).1
theorem Zdf (h:(mat E t e v ecs xs).holds w) {g nn c:Nat} (hv:v=.slice (some ⟨g,0,none⟩) nn c) {i:Nat} (hi:i < xs.length):Jr w ⟨g,i * 1,none⟩ [hd ecs i]:=by
  obtain ⟨g',cap,e1,hc⟩:=Zmd h.1 (by omega)
  rw [hv] at e1
  injection e1 with e1 e2 e3
  injection e1 with e1
  injection e1 with e1
  subst e1
  intro j u hj
  have hl:=Zew h
  have:=hc (i * 1+j) u (by
    rw [← Zn3 (by omega),List.getElem?_take] at hj
    split at hj
    · rw [List.getElem?_drop] at hj; exact hj
    · cases hj)
  rw [Zbh] at this ⊢
  rwa [Nat.zero_add] at this
end
section
variable {α:Type} {E:Enc α} {t e:Nat} {v:Value} {ecs:List Value} {xs:List (List α)} {w w':World}
theorem Zze (h:(mat E t e v ecs xs).holds w) {i:Nat} (hi:i < xs.length) {y:List α} (ho:(own e E.sz (hd ecs i) y.length (E.encs y)).holds w') (hB:∀ c,c < w.heap.size→c∉Jp (hd ecs i)→w'.heap[c]? = w.heap[c]?):(mat E t e v ecs (xs.set i y)).holds w':=by
  have hl:=Zew h
  refine⟨?_,fun j hj=>?_,h.2.2⟩
  · rw [ZFs]
    exact ZSb _ _ _ (fun b hb=>hB b (ZSa _ _ h.1 b hb) (fun q=>Zn2 h.2.2 (by omega) b q hb)) h.1
  · rw [ZFs] at hj
    by_cases q:i=j
    · subst q
      rw [show (xs.set i y).getD i ZEo=y by simp [ZEy,hi]]
      exact ho
    · rw [show (xs.set i y).getD j ZEo=xs.getD j ZEo by simp [ZEy,List.getElem?_set_ne q]]
      exact ZSb _ _ _ (fun b hb=>hB b (ZSa _ _ (h.2.1 j hj) b hb) (fun z=>Zrj h.2.2 (by omega) (by omega) q b z hb)) (h.2.1 j hj)
variable {X:Nat→Prop} {w0:World} {M Ps:List Item}
theorem Ctx.turnRow (hC:Ctx X w0 w M Ps) (k:Nat) (hk:M[k]? = some (mat E t e v ecs xs)) {i:Nat} (hi:i < xs.length) (hB:BelO (Jp (hd ecs i)) w w') {y:List α} (ho:(own e E.sz (hd ecs i) y.length (E.encs y)).holds w'):Ctx X w0 w' (M.set k (mat E t e v ecs (xs.set i y))) Ps:=by
  have h:=hC.getM k hk
  have hl:=Zew h
  exact hC.turn k hk hB.os hB.tape hB.output hB.size hB.drawn (fun b hb hn=>hB.old b hb (fun q=>hn (ZE5 _ (Zk3 (by omega) q)))) (Zze h hi ho hB.old) (fun b hb=>.inl hb)
end
section
variable {P:Program} {ops:Array Oper} {Q:Exit→Act→World→Prop} {n:Nat} {ev_:Env} {w w':World} {rest:List Oper}
variable {X:Nat→Prop} {w0:World} {M Ps:List Item}
variable {d ty:Nat} {pos:String} {af:Array Edge}
variable {α:Type} {E:Enc α} {t e:Nat} {v:Value} {ecs:List Value} {xs:List (List α)}
theorem Zzf (hC:Ctx X w0 w M Ps) (k:Nat) {ty' i q g nn cap:Nat} {x y:Operand} (a:α) {u:Value} (hk:M[k]? = some (mat E t e v ecs xs)) (hi:i < xs.length) (hv:hd ecs i=.slice (some ⟨g,0,none⟩) nn cap) (hq:q < (xs.getD i ZEo).length) (hT:Xw P ty' E.sz)
    (hx:ev n ev_ x=.pointer (some ⟨g,q * E.sz,none⟩)) (hy:ev n ev_ y=u) (hu:u.cells.toList=E.enc a)
    (h:∀ w',Ctx X w0 w' (M.set k (mat E t e v ecs (xs.set i ((xs.getD i ZEo).set q a)))) Ps→W P ops Q rest n ev_ w') :
    W P ops Q (⟨none,.store ty' x y,ty,pos,af,none⟩::rest) n ev_ w:=by
  have hm:=hC.getM k hk
  have ho:=Zap hm hi
  have hnn:nn=(xs.getD i ZEo).length:=by
    obtain ⟨A,c,e1⟩:=Zbi ho
    rw [hv] at e1; injection e1
  subst hnn
  rw [hv] at ho
  obtain ⟨w',hr,hb,hos,hta,hou,hsz,hother⟩:=Zjr (P:=P) (v:=u) hT ho hu (E.len a) (ZFe.2 fun z hz=>E.one a z hz) (by rw [E.encs_len]; exact J4 hq)
  have hdr:=Zci _ _ _ _ hr
  refine Zdj rfl rfl ?_ (h w' (hC.turnRow k hk hi (w':=w') (y:=(xs.getD i ZEo).set q a) ⟨hos,hta,hou,by omega,hdr,fun c _ hc=>hother c (fun z=>hc (by rw [hv,z]; simp [Jp,ZFi]))⟩ ?_))
  · simp [execOp,hx,hy,Instr.storeAt,Instr.sureAddr,hr]
  · rw [Zbj _ _ _ hq] at hb
    rw [hv,ZFs]
    exact hb
def Xm {β:Type} (d:β) (l:List β) (i j:Nat):List β:=(l.set i (l.getD j d)).set j (l.getD i d)
theorem Zrk {β:Type} (d:β) (l:List β) (i j:Nat):(Xm d l i j).length=l.length:=by simp [Xm]
theorem Zrl {β:Type} (d:β) {l:List β} {i j:Nat} (hi:i < l.length) (hj:j < l.length) (k:Nat):(Xm d l i j).getD k d=if k=j then l.getD i d else if k=i then l.getD j d else l.getD k d:=by
  unfold Xm
  simp only [ZEy]
  by_cases a:k=j
  · subst a; rw [if_pos rfl,List.getElem?_set_self (by simpa using hj)]; rfl
  · rw [if_neg a,List.getElem?_set_ne (fun z=>a z.symm)]
    by_cases b:k=i
    · subst b; rw [if_pos rfl,List.getElem?_set_self hi]; rfl
    · rw [if_neg b,List.getElem?_set_ne (fun z=>b z.symm)]
theorem Zzg {β:Type} (d:β) {l:List β} {i j:Nat} (hi:i < l.length) (hj:j < l.length):(Xm d l i j).Perm l:=by
  have e1:l.getD j d=l[j]:=by simp [ZEy,hj]
  have e2:l.getD i d=l[i]:=by simp [ZEy,hi]
  unfold Xm
  rw [e1,e2]
  exact List.set_set_perm hi hj
theorem Zrm {cs:List Value} {i:Nat} (hi:i < cs.length) (u:Value):Xh cs (i * 1) [u]=cs.set i u:=Zqh hi (Nat.mul_one i)
theorem Zrn {ty':Nat} {x y:Operand} {a:Addr} {u:Value} {w w':World} (hx:ev n ev_ x=.pointer (some a)) (hy:ev n ev_ y=u) (hr:(storeVar ty' a u).run P w=.ok () w'):(execOp (ev n ev_) ⟨none,.store ty' x y,ty,pos,af,none⟩).run P w=.ok .skip w':=by
  simp [execOp,hx,hy,Instr.storeAt,Instr.sureAddr,hr]
theorem Zro {u:Value} (h:u.oneCell'=true):[u].all (·.oneCell')=true:=by rw [List.all_cons,h]; rfl
def Zn4 (E : Enc α) (t e : Nat) (v : Value) (ecs2 ecs : List Value) (xs : List (List α)) : Item where
  fp:=Jw v ecs
  holds w:=(own t 1 v xs.length ecs2).holds w∧(mat E t e v ecs xs).fp.Nodup∧ecs.length=xs.length∧∀ i,i < xs.length→(own e E.sz (hd ecs i) (xs.getD i ZEo).length (E.encs (xs.getD i ZEo))).holds w
  keep w w' h hw:=⟨ZSb _ _ _ (fun b hb=>h b (ZFa _ hb)) hw.1,hw.2.1,hw.2.2.1,fun i hi=>ZSb _ _ _ (fun b hb=>h b (ZE5 _ (Zk3 (by rw [hw.2.2.1]; omega) hb))) (hw.2.2.2 i hi)⟩
  low w hw b hb := by
    rcases ZEv.1 hb with q | q
    · exact ZSa _ _ hw.1 b q
    · obtain ⟨l,hl,hb⟩:=ZF4.1 q
      obtain ⟨u,hu,rfl⟩:=ZF2.1 hl
      obtain ⟨i,hi,rfl⟩:=ZEx hu
      have this:=hw.2.2.2 i (by rw [hw.2.2.1] at hi; exact hi)
      rw [show hd ecs i=ecs[i] by simp [hd,ZEy,hi]] at this
      exact ZSa _ _ this b hb
theorem Zzh {w:World} {ecs2:List Value} (h:(Zn4 E t e v ecs2 ecs xs).holds w) (hn:0 < xs.length):∃ g cap,v=.slice (some ⟨g,0,none⟩) xs.length cap:=Xo h.1 hn
theorem Zzi (hC:Ctx X w0 w M Ps) (k:Nat) {ty' i j g cap nn:Nat} {x y:Operand} (hk:M[k]? = some (mat E t e v ecs xs)) (hi:i < xs.length) (hj:j < xs.length) (hv:v=.slice (some ⟨g,0,none⟩) nn cap) (hT:Xw P ty' 1)
    (hx:ev n ev_ x=.pointer (some ⟨g,i * 1,none⟩)) (hy:ev n ev_ y=hd ecs j)
    (h:∀ w',Ctx X w0 w' (M.set k (Zn4 E t e v (ecs.set i (hd ecs j)) ecs xs)) Ps→W P ops Q rest n ev_ w') :
    W P ops Q (⟨none,.store ty' x y,ty,pos,af,none⟩::rest) n ev_ w:=by
  have hm:=hC.getM k hk
  have hl:=Zew hm
  have hnn:nn=xs.length:=by
    obtain ⟨A,c,e1⟩:=Zzc hm
    rw [hv] at e1; injection e1
  subst hnn
  have o1:=hm.1
  rw [hv] at o1
  obtain ⟨w1,hr1,hb1,hos1,hta1,hou1,hsz1,hother1⟩:=Zjr (P:=P) (v:=hd ecs j) hT o1 (Zb9 (Zap hm hj)) rfl (Zro (X4 (Zap hm hj))) (show i * 1+1≤ecs.length by omega)
  rw [Zrm (by omega)] at hb1
  have hoth:∀ c,c < w.heap.size→c∉v.ownBlock.toList→w1.heap[c]? = w.heap[c]? := fun c hc hn=>hother1 c (fun z=>hn (by rw [hv,z]; simp [ZFi]))
  refine Zdj (w':=w1) rfl rfl (Zrn hx hy hr1) (h w1 (hC.turn k hk hos1 hta1 hou1 (by omega) (Zci _ _ _ _ hr1) (fun b hb hn=>hoth b hb (fun q=>hn (ZFa _ q))) ⟨?_,hm.2.2,hl,fun q hq=>?_⟩ (fun b hb=>.inl hb)))
  · rw [hv]; exact hb1
  · exact ZSb _ _ _ (fun b hb=>hoth b (ZSa _ _ (hm.2.1 q hq) b hb) (Zn2 hm.2.2 (by omega) b hb)) (hm.2.1 q hq)
theorem Zzj (hC:Ctx X w0 w M Ps) (k:Nat) {ty' i j g cap nn:Nat} {x y:Operand} (hk:M[k]? = some (Zn4 E t e v (ecs.set i (hd ecs j)) ecs xs)) (hi:i < xs.length) (hj:j < xs.length) (hv:v=.slice (some ⟨g,0,none⟩) nn cap) (hT:Xw P ty' 1)
    (hx:ev n ev_ x=.pointer (some ⟨g,j * 1,none⟩)) (hy:ev n ev_ y=hd ecs i)
    (h:∀ w',Ctx X w0 w' (M.set k (mat E t e v (Xm undef ecs i j) (Xm ZEo xs i j))) Ps→W P ops Q rest n ev_ w') :
    W P ops Q (⟨none,.store ty' x y,ty,pos,af,none⟩::rest) n ev_ w:=by
  have hm:=hC.getM k hk
  have hl:=hm.2.2.1
  have hnn:nn=xs.length:=by
    obtain ⟨A,c,e1⟩:=Zbi hm.1
    rw [hv] at e1; injection e1
  subst hnn
  have hmat:(mat E t e v ecs xs).fp.Nodup:=hm.2.1
  have o1:=hm.1
  rw [hv] at o1
  have hl2:(ecs.set i (hd ecs j)).length=xs.length:=by rw [ZFs]; exact hl
  obtain ⟨w2,hr2,hb2,hos2,hta2,hou2,hsz2,hother2⟩:=Zjr (P:=P) (v:=hd ecs i) hT o1 (Zb9 (hm.2.2.2 i hi)) rfl (Zro (X4 (hm.2.2.2 i hi))) (show j * 1+1≤(ecs.set i (hd ecs j)).length by omega)
  rw [Zrm (by omega)] at hb2
  have hoth:∀ c,c < w.heap.size→c∉v.ownBlock.toList→w2.heap[c]? = w.heap[c]? := fun c hc hn=>hother2 c (fun z=>hn (by rw [hv,z]; simp [ZFi]))
  have hp:((Xm undef ecs i j).map Jp).flatten.Perm (ecs.map Jp).flatten:=((Zzg undef (by omega) (by omega)).map Jp).flatten
  have keep:∀ q,q < xs.length→(own e E.sz (hd ecs q) (xs.getD q ZEo).length (E.encs (xs.getD q ZEo))).holds w2:=fun q hq =>
    ZSb _ _ _ (fun b hb=>hoth b (ZSa _ _ (hm.2.2.2 q hq) b hb) (Zn2 hmat (by omega) b hb)) (hm.2.2.2 q hq)
  refine Zdj (w':=w2) rfl rfl (Zrn hx hy hr2) (h w2 (hC.turn k hk hos2 hta2 hou2 (by omega) (Zci _ _ _ _ hr2) (fun b hb hn=>hoth b hb (fun q=>hn (ZFa _ q))) ⟨?_,fun q hq=>?_,(hp.append_left v.ownBlock.toList).nodup_iff.2 hmat⟩ (fun b hb=>?_)))
  · rw [Zrk,hv]; exact hb2
  · rw [Zrk] at hq
    rw [show hd (Xm undef ecs i j) q=_ from Zrl undef (by omega) (by omega) q,Zrl ZEo hi hj q]
    split
    · exact keep i hi
    · split
      · exact keep j hj
      · exact keep q hq
  · rcases ZEv.1 hb with q | q
    · exact .inl (ZFa _ q)
    · exact .inl (ZE5 _ (hp.mem_iff.1 q))
theorem Zrp (hC:Ctx X w0 w M Ps) (k:Nat) {t2:Nat} {kq:IntKind} {hi:Int} {x y:Operand} (hk:M[k]? = some (mat E t e v ecs xs)) (ht:P.underlying t2=some (.slice t)) (hz:Xw P t 1)
    (hx:ev n ev_ x=v) (hy:ev n ev_ y=.int kq hi) (h0:0≤hi) (h1:hi≤xs.length)
    (h:∀ v',Ctx X w0 w (M.set k (mat E t e v' (ecs.take hi.toNat) (xs.take hi.toNat))) Ps→W P ops Q rest n (upd ev_ d v') w) :
    W P ops Q (⟨some d,.slice t2 x none (some y) none,ty,pos,af,none⟩::rest) n ev_ w:=by
  have hm:=hC.getM k hk
  have hl:=Zew hm
  obtain ⟨A,c,rfl,hnc,ho,hA,hb⟩:=Zny hm.1 hi.toNat (by omega)
  have hel:P.elem t2=t:=by simp [ZSm,ht]
  have hr:=run_slice_h (P:=P) w t2 A xs.length c (Zcc ht) kq hi h0 (by omega)
  rw [hel,Zam hz,ZEi,Znz A _ _ _ hA] at hr
  have sub:∀ b,b∈((ecs.take hi.toNat).map Jp).flatten→b∈(ecs.map Jp).flatten:=fun b hb=>by
    obtain ⟨l,hl',hb⟩:=ZF4.1 hb
    obtain ⟨u,hu,rfl⟩:=ZF2.1 hl'
    exact ZF4.2 ⟨_,ZF2.2 ⟨u,ZSv hu,rfl⟩,hb⟩
  have e1:Jw (.slice A hi.toNat c) (ecs.take hi.toNat)=(ZTd A xs.length c).ownBlock.toList++((ecs.take hi.toNat).map Jp).flatten:=by unfold Jw; rw [hb]
  have hlt:(xs.take hi.toNat).length=hi.toNat:=by rw [ZGs]; omega
  refine Y1 (.slice A hi.toNat c) rfl rfl ?_ (h _ (hC.turn k hk rfl rfl rfl (ZEn _) (ZEn _) (fun _ _ _=>rfl) ⟨?_,fun i hi'=>?_,?_⟩ (fun b hb'=>.inl ?_)))
  · simp only [execOp,hx,hy,ZF1,ZSr,ZEh,run_sliceAt_slice w t2 _ _ _ _ (Zcc ht),hr,ZEi,ZEm]
  · rw [hlt]; rw [Nat.mul_one] at ho; exact ho
  · rw [hlt] at hi'
    have e2:(xs.take hi.toNat).getD i ZEo=xs.getD i ZEo:=by simp only [ZEy]; rw [List.getElem?_take,if_pos hi']
    have e3:hd (ecs.take hi.toNat) i=hd ecs i:=by simp only [hd,ZEy]; rw [List.getElem?_take,if_pos hi']
    rw [e2,e3]
    exact Zap hm (by omega)
  · rw [e1]
    have hn:=hm.2.2
    refine List.Nodup.sublist ?_ hn
    refine List.Sublist.append (List.Sublist.refl _) ?_
    have:((ecs.take hi.toNat).map Jp).flatten++((ecs.drop hi.toNat).map Jp).flatten=(ecs.map Jp).flatten:=by
      rw [← List.flatten_append,← ZSi,List.take_append_drop]
    rw [← this]
    exact List.sublist_append_left _ _
  · have hb2:b∈Jw (.slice A hi.toNat c) (ecs.take hi.toNat):=hb'
    rw [e1] at hb2
    rcases ZEv.1 hb2 with q | q
    · exact ZFa _ q
    · exact ZE5 _ (sub b q)
end
section
variable {α:Type}
theorem Zrq {E:Enc α} {t e:Nat} {v:Value} {ecs:List Value} {xs:List (List α)} {w:World} (h:(mat E t e v ecs xs).holds w) {i:Nat} (hi:i < xs.length):i < ecs.length:=by rw [Zew h]; exact hi
theorem Zn5 {t : Ty α} {xs : List α} {v : Value} {fp : List Nat} {w : World} (h : t.sl.rep xs [v] fp w) {A : Option Addr} {c l : Nat} (hv : v = .slice A xs.length c) (hl : l ≤ xs.length) (hc : xs.length ≤ c) : t.sl.rep (xs.drop l) [sliced A l xs.length c t.sz] fp w := by
  obtain ⟨v',ecs,e1,⟨a0,a1,a2,A',c',e2,anc,a3⟩,h2⟩:=h
  obtain rfl:v=v':=by simpa using e1
  rw [hv] at e2
  injection e2 with e3 e4 e5
  subst e3 e5
  have hlen:(xs.drop l).length=xs.length - l:=ZFy ..
  have hcl:(ecs.drop (l * t.sz)).length=(xs.length - l) * t.sz:=by rw [ZFy,a1,Nat.sub_mul]
  refine⟨_,ecs.drop (l * t.sz),rfl,⟨a0,by rw [hlen]; exact hcl,by rw [hlen]; omega,?_⟩,?_⟩
  · rw [hlen]
    by_cases q:c=l
    · refine⟨A,c - l,by unfold sliced; rw [if_pos q],by omega,fun hn=>by omega⟩
    · refine⟨A.map (·.add (l * t.sz)),c - l,by unfold sliced; rw [if_neg q],by omega,fun hn=>?_⟩
      obtain ⟨a,ha,hb,hcell⟩:=a3 (by omega)
      subst ha
      refine⟨a.add (l * t.sz),rfl,?_,fun j u hj=>?_⟩
      · have:(a.add (l * t.sz)).block=a.block:=by unfold Addr.add; split <;> rfl
        rw [this]; exact hb
      · rw [Zea]
        refine hcell _ u ?_
        rwa [List.getElem?_drop] at hj
  · obtain ⟨b1,b2,b3,b4⟩:=h2
    refine⟨b1,by rw [hlen]; exact hcl,fun u hu=>b3 u (List.mem_of_mem_drop hu),fun i hi=>?_⟩
    have hi':l+i < xs.length:=by rw [hlen] at hi; omega
    have:=b4 (l+i) hi'
    rw [List.getElem_drop,List.drop_drop]
    rw [ZEw] at this
    exact this
theorem Zn6 {t:Ty α} {xs:List α} {v:Value} {fp:List Nat} {w:World} (h:t.sl.rep xs [v] fp w):∃ A c,v=.slice A xs.length c∧xs.length≤c:=by
  obtain ⟨v',ecs,e1,⟨a0,a1,a2,A',c',e2,anc,a3⟩,h2⟩:=h
  obtain rfl:v=v':=by simpa using e1
  exact⟨A',c',e2,anc⟩
theorem Zzk {t : Ty α} {xs : List α} {v : Value} {fp : List Nat} {w : World} (h : t.sl.rep xs [v] fp w) {A : Option Addr} {c l : Nat} (hv : v = .slice A xs.length c) (hl : l ≤ xs.length) (hc : xs.length ≤ c) : t.sl.rep (xs.take l) [sliced A 0 l c t.sz] fp w := by
  obtain ⟨v',ecs,e1,⟨a0,a1,a2,A',c',e2,anc,a3⟩,h2⟩:=h
  obtain rfl:v=v':=by simpa using e1
  rw [hv] at e2
  injection e2 with e3 e4 e5
  subst e3 e5
  have hlen:(xs.take l).length=l:=by rw [ZGs]; omega
  have hle:l * t.sz≤xs.length * t.sz:=ZG8 _ hl
  have hcl:(ecs.take (l * t.sz)).length=l * t.sz:=by rw [ZGs,a1]; omega
  refine⟨_,ecs.take (l * t.sz),rfl,⟨a0,by rw [hlen]; exact hcl,by rw [hlen]; omega,?_⟩,?_⟩
  · rw [hlen]
    refine⟨_,c,rfl,by omega,fun hn=>?_⟩
    obtain ⟨a,ha,hb,hcell⟩:=a3 (by omega)
    subst ha
    have e0:(if c=0 then some a else(some a).map (·.add (0 * t.sz)))=some a:=by
      split
      · rfl
      · show some (a.add (0 * t.sz))=some a
        rw [Nat.zero_mul]; simp [Addr.add]
    refine⟨a,e0,hb,fun j u hj=>?_⟩
    refine hcell j u ?_
    rw [List.getElem?_take] at hj
    split at hj
    · exact hj
    · cases hj
  · obtain ⟨b1,b2,b3,b4⟩:=h2
    refine⟨b1,by rw [hlen]; exact hcl,fun u hu=>b3 u (ZSv hu),fun i hi=>?_⟩
    have hi':i < xs.length:=by rw [hlen] at hi; omega
    have:=b4 i hi'
    rw [List.getElem_take]
    have hi2:(i+1) * t.sz≤l * t.sz:=ZG8 _ (by rw [hlen] at hi; omega)
    have e:((ecs.take (l * t.sz)).drop (i * t.sz)).take t.sz=(ecs.drop (i * t.sz)).take t.sz:=by
      rw [List.drop_take,ZTa,Nat.min_eq_left]
      rw [ZEw,Nat.one_mul] at hi2; omega
    rw [e]; exact this
theorem Zzl {E:Enc α} {t e:Nat} {v:Value} {ecs:List Value} {xs:List (List α)} {w:World} (h:(mat E t e v ecs xs).holds w):∃ A c,v=.slice A xs.length c∧xs.length≤c:=by
  obtain ⟨A,c,h1,h2,_⟩:=Zny h.1 xs.length (ZEn _)
  exact⟨A,c,h1,h2⟩
end
section
variable {P:Program} {ops:Array Oper} {Q:Exit→Act→World→Prop} {n:Nat} {ev_:Env} {w:World} {rest:List Oper}
variable {d ty:Nat} {pos:String} {af:Array Edge}
theorem Zn7 {t2 el sz nv c:Nat} {kq:IntKind} {lo:Int} {x y:Operand} {A:Option Addr} (ht:P.underlying t2=some (.slice el)) (hz:Xw P el sz) (hx:ev n ev_ x=.slice A nv c) (hy:ev n ev_ y=.int kq lo) (h0:0≤lo) (h1:lo≤nv)
    (h:W P ops Q rest n (upd ev_ d (sliced A lo.toNat nv c sz)) w):W P ops Q (⟨some d,.slice t2 x (some y) none none,ty,pos,af,none⟩::rest) n ev_ w:=by
  have hel:P.elem t2=el:=by simp [ZSm,ht]
  have hr:=run_slice_l (P:=P) w t2 A nv c (Zcc ht) kq lo h0 h1
  rw [hel,Zam hz,ZEi] at hr
  refine Y1 _ rfl rfl ?_ h
  simp only [execOp,hx,hy,ZF1,ZSr,ZEh,run_sliceAt_slice w t2 _ _ _ _ (Zcc ht),hr,ZEi,ZEm]
theorem Zzm {t2 el sz nv c:Nat} {kq:IntKind} {hi:Int} {x y:Operand} {A:Option Addr} (ht:P.underlying t2=some (.slice el)) (hz:Xw P el sz) (hx:ev n ev_ x=.slice A nv c) (hy:ev n ev_ y=.int kq hi) (h0:0≤hi) (h1:hi≤nv) (hc:nv≤c)
    (h:W P ops Q rest n (upd ev_ d (sliced A 0 hi.toNat c sz)) w):W P ops Q (⟨some d,.slice t2 x none (some y) none,ty,pos,af,none⟩::rest) n ev_ w:=by
  have hel:P.elem t2=el:=by simp [ZSm,ht]
  have hr:=run_slice_h (P:=P) w t2 A nv c (Zcc ht) kq hi h0 (by omega)
  rw [hel,Zam hz,ZEi] at hr
  refine Y1 _ rfl rfl ?_ h
  simp only [execOp,hx,hy,ZF1,ZSr,ZEh,run_sliceAt_slice w t2 _ _ _ _ (Zcc ht),hr,ZEi,ZEm]
end
end Vc
namespace Vc
open Go Go.RowKit
structure Lvl where
  list:List A8
  place:List (A8×Int)
  deriving Inhabited
def THead : Ty Unit where
  sz:=1
  rep _ cs fp w:=(∀ b,b∈fp→b < w.heap.size)∧∃ A n c,cs=[.slice A n c]
  keep h hw:=⟨Zfb h hw.1,hw.2⟩
  low hw:=hw.1
  len hw:=by obtain ⟨_,A,n,c,rfl⟩:=hw; rfl
  one hw u hu:=by
    obtain ⟨_,A,n,c,rfl⟩:=hw
    obtain rfl:u=_:=by simpa using hu
    rfl
  more hw h h':=⟨h',hw.2⟩
def TLvl:Ty Lvl:=.iso (fun l=>(l.list,l.place,(),(),(),())) (.pair ((EA .i64).ty.sl) (.pair TSum (.pair THead (.pair THead (.pair THead THead)))))
theorem Zn8 {x:Lvl} {v0 v1 v2 v3 v4 v5:Value} {fp:List Nat} {w:World} (h:TLvl.rep x [v0,v1,v2,v3,v4,v5] fp w) :
    ((EA .i64).ty.sl).rep x.list [v0] fp w∧TSum.rep x.place [v1] fp w:=by
  obtain ⟨a0,h1⟩:=Zme (c1:=[v0]) (c2:=[v1,v2,v3,v4,v5]) h rfl
  obtain ⟨a1,h2⟩:=Zme (c1:=[v1]) (c2:=[v2,v3,v4,v5]) h1 rfl
  exact⟨a0,a1⟩
theorem Zzn {x:Lvl} {v0 v1 v2 v3 v4 v5:Value} {fp:List Nat} {w:World} (h0:((EA .i64).ty.sl).rep x.list [v0] fp w) (h1:TSum.rep x.place [v1] fp w)
    (h2:∃ A n c,v2=.slice A n c) (h3:∃ A n c,v3=.slice A n c) (h4:∃ A n c,v4=.slice A n c) (h5:∃ A n c,v5=.slice A n c):TLvl.rep x [v0,v1,v2,v3,v4,v5] fp w:=by
  have hl:=fun b hb=>Ty.low _ h0 b hb
  have up:∀ {v:Value}, (∃ A n c,v=.slice A n c)→THead.rep () [v] fp w:=fun h=>by
    obtain ⟨A,n,c,rfl⟩:=h
    exact⟨hl,A,n,c,rfl⟩
  have k5:=Zed (x:=((),())) (up h4) (up h5)
  have k4:=Zed (x:=((),((),()))) (up h3) k5
  have k3:=Zed (x:=((),((),((),())))) (up h2) k4
  have k2:=Zed (x:=(x.place,((),((),((),()))))) h1 k3
  have k1:TLvl.rep x _ _ w:=Zed (x:=(x.list,(x.place,((),((),((),())))))) h0 k2
  exact TLvl.more k1 (fun b hb=>by simpa using hb) hl
structure Lev where
  n:Int
  b:Nat
  pb:Nat
  vl:Value
  vm:Value
  vc:Value
  vd:Value
  vk:Value
  md:Bool
  cd:Bool
def Lev.cells (e:Lev):List Value:=[e.vl,.map (some e.pb),e.vm,e.vc,e.vd,e.vk]
def Lev.key (e:Lev):Int×Nat:=(e.n,e.b)
structure Cx where
  LV:Int→List A8
  PL:Int→List (A8×Int)
  MX:Int→List (List Int)
  CL:Int→List (List Int)
  BD:Int→List (List Int)
  KL:Int→List (List Int)
def lvB (lt : Nat) (D : List Lev) : Item where
  fp:=D.map (·.b)
  holds w:=(∀ e,e∈D→(blk e.b lt e.cells).holds w)∧(D.map (·.b)).Nodup
  keep w w' h hw:=by
    refine⟨fun e he=>(blk e.b lt e.cells).keep w w' (fun c hc=>h c ?_) (hw.1 e he),hw.2⟩
    obtain rfl:c=e.b:=by simpa [blk] using hc
    exact ZF2.2 ⟨e,he,rfl⟩
  low w hw b hb:=by
    obtain ⟨e,he,rfl⟩:=ZF2.1 hb
    exact Zcj (hw.1 e he)
section
variable {lt:Nat} {D D1 D2:List Lev} {e:Lev} {w w':World}
theorem Zrr (lt:Nat) (w:World):(lvB lt []).holds w:=⟨by simp,by simp⟩
theorem Zk5 (h:(lvB lt D).holds w) (he:e∈D):(blk e.b lt e.cells).holds w:=h.1 e he
theorem Zzo (h:(blk e.b lt e.cells).holds w):(lvB lt [e]).holds w:=⟨by simpa using h,by simp⟩
theorem Zrs (h1:(lvB lt D1).holds w) (h2:(lvB lt D2).holds w) (hd:∀ x,x∈(lvB lt D1).fp→x∉(lvB lt D2).fp):(lvB lt (D1++D2)).holds w:=by
  refine⟨fun e he=>(ZEv.1 he).elim (h1.1 e) (h2.1 e),?_⟩
  rw [ZSi,ZFg]
  exact⟨h1.2,h2.2,fun a ha b hb e=>hd a ha (e ▸ hb)⟩
theorem Zzp (h:(lvB lt (D1++e::D2)).holds w):(blk e.b lt e.cells).holds w∧(lvB lt (D1++D2)).holds w∧∀ x,x∈(blk e.b lt e.cells).fp→x∉(lvB lt (D1++D2)).fp:=by
  obtain ⟨h1,h2⟩:=h
  rw [ZSi,ZFq,ZFg,ZO1] at h2
  obtain ⟨n1,⟨n2,n3⟩,n4⟩:=h2
  refine⟨h1 e (by simp),⟨fun x hx=>h1 x ?_,?_⟩,?_⟩
  · rcases ZEv.1 hx with q | q
    · exact ZFa _ q
    · exact ZE5 _ (ZSc _ q)
  · rw [ZSi,ZFg]
    exact⟨n1,n3,fun a ha b hb=>n4 a ha b (ZSc _ hb)⟩
  · intro x hx hx2
    obtain rfl:x=e.b:=by simpa [blk] using hx
    have hx2:e.b∈(D1++D2).map (·.b):=hx2
    rw [ZSi] at hx2
    rcases ZEv.1 hx2 with q | q
    · exact n4 _ q _ (by simp) rfl
    · exact n2 q
theorem Zzq (h1 : (blk e.b lt e.cells).holds w) (h2 : (lvB lt (D1 ++ D2)).holds w) (hd : ∀ x, x ∈ (blk e.b lt e.cells).fp → x ∉ (lvB lt (D1 ++ D2)).fp) : (lvB lt (D1 ++ e :: D2)).holds w := by
  have hne:∀ x,x∈D1++D2→x.b≠e.b:=fun x hx q=>hd e.b (by simp [blk]) (ZF2.2 ⟨x,hx,q⟩)
  obtain ⟨g1,g2⟩:=h2
  rw [ZSi,ZFg] at g2
  refine⟨fun x hx=>?_,?_⟩
  · rcases ZEv.1 hx with q | q
    · exact g1 x (ZFa _ q)
    · rcases ZEk.1 q with rfl | q
      · exact h1
      · exact g1 x (ZE5 _ q)
  · rw [ZSi,ZFq,ZFg,ZO1]
    refine⟨g2.1,⟨fun q=>?_,g2.2.1⟩,fun a ha b hb=>?_⟩
    · obtain ⟨x,hx,e1⟩:=ZF2.1 q
      exact hne x (ZE5 _ hx) e1
    · rcases ZEk.1 hb with rfl | hb
      · obtain ⟨x,hx,rfl⟩:=ZF2.1 ha
        exact hne x (ZFa _ hx)
      · exact g2.2.2 a ha b hb
end
def LvC (C:Cx) (F:List Nat) (e:Lev) (w:World):Prop :=
  ((EA .i64).ty.sl).rep (C.LV e.n) [e.vl] F w∧(e.pb∈F∧(Yc (kvA .i64) (vvI .i64) e.pb (C.PL e.n)).holds w) ∧
  (e.md=false→e.vm=.slice none 0 0)∧(e.md=true→(((EI .i64).ty.sl).sl).rep (C.MX e.n) [e.vm] F w) ∧
  ((∃ A n c,e.vc=.slice A n c)∧(∃ A n c,e.vd=.slice A n c)∧(∃ A n c,e.vk=.slice A n c)) ∧
  (e.cd=true→(((EI .i64).ty.sl).sl).rep (C.CL e.n) [e.vc] F w∧(((EI .i64).ty.sl).sl).rep (C.BD e.n) [e.vd] F w∧(((EI .i64).ty.sl).sl).rep (C.KL e.n) [e.vk] F w)
theorem LvC.keep {C:Cx} {F:List Nat} {e:Lev} {w w':World} (h:∀ b,b∈F→w'.heap[b]? = w.heap[b]?) (hc:LvC C F e w):LvC C F e w':=by
  obtain ⟨h1,⟨h2,h3⟩,h4,h5,h6,h7⟩:=hc
  refine⟨Ty.keep _ h h1,⟨h2,Zqg (h _ h2) h3⟩,h4,fun q=>Ty.keep _ h (h5 q),h6,fun q=>?_⟩
  obtain ⟨a,b,c⟩:=h7 q
  exact⟨Ty.keep _ h a,Ty.keep _ h b,Ty.keep _ h c⟩
theorem LvC.more {C:Cx} {F F':List Nat} {e:Lev} {w:World} (hc:LvC C F e w) (h:∀ b,b∈F→b∈F') (hl:∀ b,b∈F'→b < w.heap.size):LvC C F' e w:=by
  obtain ⟨h1,⟨h2,h3⟩,h4,h5,h6,h7⟩:=hc
  refine⟨ZSn _ h1 h hl,⟨h _ h2,h3⟩,h4,fun q=>ZSn _ (h5 q) h hl,h6,fun q=>?_⟩
  obtain ⟨a,b,c⟩:=h7 q
  exact⟨ZSn _ a h hl,ZSn _ b h hl,ZSn _ c h hl⟩
def cpP (C:Cx) (D:List Lev) (F:List Nat):Item where
  fp:=F
  holds w:=(∀ b,b∈F→b < w.heap.size)∧∀ e,e∈D→LvC C F e w
  keep w w' h hw:=⟨Zfb h hw.1,fun e he=>(hw.2 e he).keep h⟩
  low w hw:=hw.1
section
variable {C:Cx} {D:List Lev} {F:List Nat} {e:Lev} {w:World}
theorem Zzr (C:Cx) (w:World):(cpP C [] []).holds w:=⟨by simp,by simp⟩
theorem Zzs (h:(cpP C D F).holds w) (he:e∈D):((EA .i64).ty.sl).rep (C.LV e.n) [e.vl] F w:=(h.2 e he).1
theorem Zzt {F1:List Nat} (h:(cpP C D F).holds w) (h1:LvC C F1 e w) (hl:∀ b,b∈F1→b < w.heap.size):(cpP C (D++[e]) (F++F1)).holds w:=by
  have hl':∀ b,b∈F++F1→b < w.heap.size:=fun b hb=>(ZEv.1 hb).elim (h.1 b) (hl b)
  refine⟨hl',fun x hx=>?_⟩
  rcases ZEv.1 hx with q | q
  · exact(h.2 x q).more (fun b hb=>ZFa _ hb) hl'
  · obtain rfl:x=e:=by simpa using q
    exact h1.more (fun b hb=>ZE5 _ hb) hl'
theorem Zzu {D1 D2:List Lev} {F1:List Nat} {e':Lev} (h:(cpP C (D1++e::D2) F).holds w) (hl:∀ b,b∈F1→b < w.heap.size) (h1:LvC C F e w→LvC C (F++F1) e' w):(cpP C (D1++e'::D2) (F++F1)).holds w:=by
  have hl':∀ b,b∈F++F1→b < w.heap.size:=fun b hb=>(ZEv.1 hb).elim (h.1 b) (hl b)
  refine⟨hl',fun x hx=>?_⟩
  have up:∀ x,x∈D1++e::D2→LvC C (F++F1) x w:=fun x hx=>(h.2 x hx).more (fun b hb=>ZFa _ hb) hl'
  rcases ZEv.1 hx with q | q
  · exact up x (ZFa _ q)
  · rcases ZEk.1 q with rfl | q
    · exact h1 (h.2 e (by simp))
    · exact up x (ZE5 _ (ZSc _ q))
end
section
variable {C:Cx} {D:List Lev} {F:List Nat} {e:Lev} {w:World} {n:Int}
theorem Zzv (h:(cpP C D F).holds w) (he:e∈D) (hn:e.n=n):((EA .i64).ty.sl).rep (C.LV n) [e.vl] F w:=hn ▸ Zzs h he
theorem Zrt {α:Type} {t:Ty α} {xs:List α} {v:Value} {fp:List Nat} {w:World} (h:t.sl.rep xs [v] fp w):∃ A n c,v=.slice A n c:=by
  obtain ⟨A,c,e⟩:=Zfc h
  exact⟨A,_,c,e⟩
theorem Zru (h:(cpP C D F).holds w) (he:e∈D) (hn:e.n=n):TLvl.rep ⟨C.LV n,C.PL n⟩ [e.vl,.map (some e.pb),e.vm,e.vc,e.vd,e.vk] F w:=by
  subst hn
  obtain ⟨h1,⟨h2,h3⟩,h4,h5,h6,h7⟩:=h.2 e he
  have sm:∃ A n c,e.vm=.slice A n c:=by
    cases q:e.md with
    | false=>exact⟨_,_,_,h4 q⟩
    | true=>exact Zrt (h5 q)
  exact Zzn h1 ⟨e.pb,rfl,h2,h.1,h3⟩ sm h6.1 h6.2.1 h6.2.2
end
theorem Zzw {D:List Lev} {n:Int} {b:Nat} (h:Y9 (D.map Lev.key) n=some b):∃ e,e∈D∧e.n=n∧e.b=b:=by
  cases hf:J9 (D.map Lev.key) n 0 with
  | none=>rw [(Zc4 hf).1] at h; cases h
  | some q =>
    obtain ⟨j,v⟩:=q
    obtain ⟨_,h1,h2,_⟩:=Zc5 hf
    rw [h2] at h
    obtain rfl:v=b:=by simpa using h
    obtain ⟨e,he,e1⟩:=ZF2.1 (List.mem_of_getElem? h1)
    have e2:=congrArg Prod.fst e1
    have e3:=congrArg Prod.snd e1
    exact⟨e,he,e2,e3⟩
theorem Zzx {D:List Lev} {n:Int} {b:Nat} (h:Y9 (D.map Lev.key) n=none):Yu (D.map Lev.key) n b=D.map Lev.key++[(n,b)]:=by
  cases hf:J9 (D.map Lev.key) n 0 with
  | none=>exact(Zc4 hf).2.1 b
  | some q=>obtain ⟨j,v⟩:=q; rw [(Zc5 hf).2.2.1] at h; cases h
section
variable {P:Program} {ops:Array Oper} {Q:Exit→Act→World→Prop} {n:Nat} {e:Env} {w w':World} {rest:List Oper}
variable {X:Nat→Prop} {w0:World} {M Ps:List Item}
variable {d ty:Nat} {pos:String} {af:Array Edge}
theorem Zzy {α β:Type} [DecidableEq α] {kv:α→Value} {vv:β→Value} {t k el b:Nat} {l:List (α×β)} {x y:Operand} (kx:α) (z:Value) (hh:(Yc kv vv b l).holds w) (K:KeyT P k kv) (ht:P.underlying t=some (.map k el)) (hz:X7 P el z)
    (hx:ev n e x=.map (some b)) (hy:ev n e y=kv kx) (h1:∀ c,Y9 l kx=some c→W P ops Q rest n (upd e d (.tuple #[vv c,.bool true])) w) (h0:Y9 l kx=none→W P ops Q rest n (upd e d (.tuple #[z,.bool false])) w) :
    W P ops Q (⟨some d,.lookup t x y true,ty,pos,af,none⟩::rest) n e w:=by
  obtain ⟨es,clock,g1,g2,g3⟩:=hh
  have hg:(getObj b).run P w=.ok (.map es clock) w:=by simp [getObj,Sem.run,g1]
  cases hf:J9 l kx 0 with
  | none =>
    refine Y1 _ rfl rfl ?_ (h0 (Zc4 hf).1)
    have hl:(ZSz t (.map (some b)) (kv kx) true).run P w=.ok (.tuple #[z,.bool false]) w:=by
      simp only [ZSz,ZEh,run_underlying ht,ZEi,hg,ZEm,K.check,Zeg K w kx es.toList l g2]
      simp [hf,Zji hz]
    simp [execOp,hx,hy,hl]
  | some q =>
    obtain ⟨j,v⟩:=q
    refine Y1 _ rfl rfl ?_ (h1 v (Zc5 hf).2.2.1)
    have hl:(ZSz t (.map (some b)) (kv kx) true).run P w=.ok (.tuple #[vv v,.bool true]) w:=by
      simp only [ZSz,ZEh,run_underlying ht,ZEi,hg,ZEm,K.check,Zeg K w kx es.toList l g2]
      simp [hf]
    simp [execOp,hx,hy,hl]
end
section
variable {X:Nat→Prop} {w0 w w':World} {M Ps:List Item}
theorem Ctx.turnMP (h : Ctx X w0 w M Ps) (k j : Nat) {it jt pt qt : Item} (hk : M[k]? = some it) (hj : Ps[j]? = some pt) (hB : BelO it.fp w w') (hh : jt.holds w') (hq : qt.holds w')
    (hf:∀ b,b∈jt.fp→b∈it.fp∨w.heap.size≤b) (hg:∀ b,b∈qt.fp→b∈pt.fp∨w.heap.size≤b) (hd:∀ b,b∈qt.fp→b∉jt.fp):Ctx X w0 w' (M.set k jt) (Ps.set j qt):=by
  have h1:=h.turn k hk hB.os hB.tape hB.output hB.size hB.drawn hB.old hh hf
  refine { h1 with p:=fun x hx=>?_,pd:=fun x hx b hb m hm=>?_ }
  · rcases ZJa hx with q | q
    · exact h1.p x q
    · subst q; exact hq
  · rcases ZJa hx with q | q
    · exact h1.pd x q b hb m hm
    · subst q
      rcases hg b hb with g | g
      · rcases ZJa hm with z | z
        · exact h.pd pt (List.mem_of_getElem? hj) b g m z
        · subst z; exact hd b hb
      · rcases ZJa hm with z | z
        · exact fun hbm=>absurd (m.low w (h.m m z) b hbm) (ZE6.2 g)
        · subst z; exact hd b hb
theorem Ctx.turnMPN (h:Ctx X w0 w M Ps) (k j:Nat) {it jt pt qt nt:Item} (hk:M[k]? = some it) (hj:Ps[j]? = some pt) (hB:BelO it.fp w w') (hh:jt.holds w') (hq:qt.holds w') (hn:nt.holds w')
    (hf:∀ b,b∈jt.fp→b∈it.fp∨w.heap.size≤b) (hg:∀ b,b∈qt.fp→b∈pt.fp∨w.heap.size≤b) (hd:∀ b,b∈qt.fp→b∉jt.fp) (hnf:∀ b,b∈nt.fp→w.heap.size≤b) (hnj:∀ b,b∈nt.fp→b∉jt.fp∧b∉qt.fp) :
    Ctx X w0 w' (nt::M.set k jt) (Ps.set j qt):=by
  have h1:=h.turnMP k j hk hj hB hh hq hf hg hd
  refine { h1 with m:=fun x hx=>?_,mfp:=fun x hx b hb=>?_,dis:=?_,pd:=fun x hx b hb m hm=>?_ }
  · rcases ZEk.1 hx with rfl | hx
    · exact hn
    · exact h1.m x hx
  · rcases ZEk.1 hx with rfl | hx
    · exact .inl (ZEp h.size (hnf b hb))
    · exact h1.mfp x hx b hb
  · refine ZFb.2 ⟨fun m hm x hx hxm=>?_,h1.dis⟩
    rcases ZJa hm with z | z
    · exact absurd (m.low w (h.m m z) x hxm) (ZE6.2 (hnf x hx))
    · subst z; exact(hnj x hx).1 hxm
  · rcases ZEk.1 hm with rfl | hm
    · intro hbm
      rcases ZJa hx with z | z
      · exact absurd (x.low w (h.p x z) b hb) (ZE6.2 (hnf b hbm))
      · subst z; exact(hnj b hbm).2 hb
    · exact h1.pd x hx b hb m hm
theorem Ctx.permM (h:Ctx X w0 w M Ps) {M':List Item} (hp:M.Perm M'):Ctx X w0 w M' Ps :=
  { h with
    m:=fun x hx=>h.m x (hp.mem_iff.2 hx)
    mfp:=fun x hx=>h.mfp x (hp.mem_iff.2 hx)
    dis:=(hp.pairwise_iff (fun {a b} hab x hx hx2=>hab x hx2 hx)).1 h.dis
    pd:=fun x hx b hb m hm=>h.pd x hx b hb m (hp.mem_iff.2 hm) }
theorem Zcd (b:Nat):PreW (BelB b) :=
  ⟨fun w=>⟨rfl,rfl,rfl,ZEn _,ZEn _,fun _ _ _=>rfl⟩,fun h k=>⟨k.os.trans h.os,k.tape.trans h.tape,k.output.trans h.output,ZEp h.size k.size,ZEp h.drawn k.drawn,fun c hc hne=>(k.old c (ZG0 hc h.size) hne).trans (h.old c hc hne)⟩⟩
end
def cpx (C : Cx) (lt mb : Nat) (D : List Lev) (F : List Nat) : Item where
  fp:=mb::(D.map (·.b)++F)
  holds w:=(Yc (vvI .i64) vvP mb (D.map Lev.key)).holds w∧(lvB lt D).holds w∧(cpP C D F).holds w∧(mb∉D.map (·.b)∧mb∉F∧∀ b,b∈D.map (·.b)→b∉F)
  keep w w' h hw:=by
    refine⟨ZSb _ w w' (fun b hb=>h b ?_) hw.1,ZSb _ w w' (fun b hb=>h b (ZSc _ (ZFa _ hb))) hw.2.1,ZSb _ w w' (fun b hb=>h b (ZSc _ (ZE5 _ hb))) hw.2.2.1,hw.2.2.2⟩
    obtain rfl:b=mb:=by simpa [Yc] using hb
    exact ZSo
  low w hw b hb := by
    rcases ZEk.1 hb with rfl | hb
    · exact ZSa _ w hw.1 b (by simp [Yc])
    · rcases ZEv.1 hb with hb | hb
      · exact ZSa _ w hw.2.1 b hb
      · exact ZSa _ w hw.2.2.1 b hb
def LvAt (D:List Lev) (n:Int) (b:Nat) (md cd:Bool):Prop:=∃ e,e∈D∧e.n=n∧e.b=b∧(md=true→e.md=true)∧(cd=true→e.cd=true)
structure CpLe (D D':List Lev) (F F':List Nat):Prop where
  up:∀ e,e∈D→∃ e',e'∈D'∧e'.n=e.n∧e'.b=e.b∧(e.md=true→e'.md=true)∧(e.cd=true→e'.cd=true)
  dn:∀ e',e'∈D'→(e'.cd=false∧e'.vc=.slice none 0 0)∨∃ e,e∈D∧e.n=e'.n∧e.cd=e'.cd∧e.vc=e'.vc
  fp:∀ x,x∈F→x∈F'
def Zrv (D:List Lev):Prop:=∀ e,e∈D→e.cd=false→e.vc=.slice none 0 0
theorem CpLe.refl (D:List Lev) (F:List Nat):CpLe D D F F:=⟨fun e he=>⟨e,he,rfl,rfl,id,id⟩,fun e he=>.inr ⟨e,he,rfl,rfl,rfl⟩,fun _ h=>h⟩
theorem CpLe.trans {D D' D2:List Lev} {F F' F2:List Nat} (h:CpLe D D' F F') (k:CpLe D' D2 F' F2):CpLe D D2 F F2:=by
  refine⟨fun e he=>?_,fun e he=>?_,fun x hx=>k.fp x (h.fp x hx)⟩
  · obtain ⟨e1,h1,h2,h3,h4,h5⟩:=h.up e he
    obtain ⟨e2,k1,k2,k3,k4,k5⟩:=k.up e1 h1
    exact⟨e2,k1,k2.trans h2,k3.trans h3,fun q=>k4 (h4 q),fun q=>k5 (h5 q)⟩
  · rcases k.dn e he with q | ⟨e1,h1,h2,h3,h4⟩
    · exact .inl q
    · rcases h.dn e1 h1 with q | ⟨e2,k1,k2,k3,k4⟩
      · exact .inl ⟨h3 ▸ q.1,h4 ▸ q.2⟩
      · exact .inr ⟨e2,k1,k2.trans h2,k3.trans h3,k4.trans h4⟩
theorem CpLe.rest {D D':List Lev} {F F':List Nat} (h:CpLe D D' F F') (hr:Zrv D):Zrv D':=fun e he hc=>by
  rcases h.dn e he with q | ⟨e1,h1,h2,h3,h4⟩
  · exact q.2
  · exact h4 ▸ hr e1 h1 (h3 ▸ hc)
theorem LvAt.up {D D':List Lev} {F F':List Nat} {n:Int} {b:Nat} {md cd:Bool} (h:LvAt D n b md cd) (k:CpLe D D' F F'):LvAt D' n b md cd:=by
  obtain ⟨e,h1,h2,h3,h4,h5⟩:=h
  obtain ⟨e1,k1,k2,k3,k4,k5⟩:=k.up e h1
  exact⟨e1,k1,k2.trans h2,k3.trans h3,fun q=>k4 (h4 q),fun q=>k5 (h5 q)⟩
section
variable {C:Cx} {lt mb:Nat} {D:List Lev} {F:List Nat} {w:World} {n:Int} {b:Nat} {md cd:Bool}
theorem Zrw (h:(Yc (vvI .i64) vvP mb ([]:List (Int×Nat))).holds w):(cpx C lt mb [] []).holds w:=⟨h,Zrr _ _,Zzr _ _,by simp⟩
theorem Zf0 (h:(cpx C lt mb D F).holds w) (hl:LvAt D n b md cd):∃ v0 v1 v2 v3 v4 v5,TLvl.rep ⟨C.LV n,C.PL n⟩ [v0,v1,v2,v3,v4,v5] F w∧(blk b lt [v0,v1,v2,v3,v4,v5]).holds w:=by
  obtain ⟨e,h1,h2,rfl,_,_⟩:=hl
  exact⟨_,_,_,_,_,_,Zru h.2.2.1 h1 h2,Zk5 h.2.1 h1⟩
theorem Zn9 (h:(cpx C lt mb D F).holds w) (hl:LvAt D n b md cd):∃ v0 v1 v2 v3 v4 v5,(blk b lt [v0,v1,v2,v3,v4,v5]).holds w∧((EA .i64).ty.sl).rep (C.LV n) [v0] F w∧(md=true→(((EI .i64).ty.sl).sl).rep (C.MX n) [v2] F w) ∧
    (cd=true→(((EI .i64).ty.sl).sl).rep (C.CL n) [v3] F w∧(((EI .i64).ty.sl).sl).rep (C.BD n) [v4] F w∧(((EI .i64).ty.sl).sl).rep (C.KL n) [v5] F w):=by
  obtain ⟨e,h1,rfl,rfl,h2,h3⟩:=hl
  obtain ⟨g1,g2,g3,g4,g5,g6⟩:=h.2.2.1.2 e h1
  exact⟨_,_,_,_,_,_,Zk5 h.2.1 h1,g1,fun q=>g4 (h2 q),fun q=>g6 (h3 q)⟩
theorem Zzz (h:(cpx C lt mb D F).holds w) (hl:LvAt D n b md cd):∃ v0 v1 v2 v3 v4 v5,(blk b lt [v0,v1,v2,v3,v4,v5]).holds w∧∃ A m c,v2=.slice A m c∧∀ a,A=some a→LvAt D n b true cd:=by
  obtain ⟨e,h1,rfl,rfl,h2,h3⟩:=hl
  obtain ⟨g1,g2,g3,g4,g5,g6⟩:=h.2.2.1.2 e h1
  refine⟨_,_,_,_,_,_,Zk5 h.2.1 h1,?_⟩
  cases q:e.md with
  | false=>exact⟨none,0,0,g3 q,fun a e1=>by cases e1⟩
  | true =>
    obtain ⟨A,m,c,e1⟩:=Zrt (g4 q)
    exact⟨A,m,c,e1,fun a _=>⟨e,h1,rfl,rfl,fun _=>q,h3⟩⟩
theorem Zid {x:Nat} (h:x∈F):x∈(cpx C lt mb D F).fp:=ZSc _ (ZE5 _ h)
theorem Zbu:mb∈(cpx C lt mb D F).fp:=ZSo
end
section
variable {X:Nat→Prop} {w0 w w':World} {M Ps:List Item}
theorem Ctx.turnPush (h : Ctx X w0 w M Ps) (k : Nat) {it jt nt : Item} (hk : M[k]? = some it) (hB : BelO it.fp w w') (hh : jt.holds w') (hf : ∀ b, b ∈ jt.fp → b ∈ it.fp ∨ w.heap.size ≤ b)
    (hn:nt.holds w') (hfn:∀ b,b∈nt.fp→b∈it.fp∨w.heap.size≤b) (hd:∀ b,b∈nt.fp→b∉jt.fp):Ctx X w0 w' (nt::M.set k jt) Ps:=by
  have h1:=h.turn k hk hB.os hB.tape hB.output hB.size hB.drawn hB.old hh hf
  have hmem:it∈M:=List.mem_of_getElem? hk
  have hlt:k < M.length:=(List.getElem?_eq_some_iff.1 hk).1
  have hget:M[k]=it:=(List.getElem?_eq_some_iff.1 hk).2
  refine { h1 with m:=fun x hx=>?_,mfp:=fun x hx b hb=>?_,dis:=?_,pd:=fun x hx b hb m hm=>?_ }
  · rcases ZEk.1 hx with rfl | hx
    · exact hn
    · exact h1.m x hx
  · rcases ZEk.1 hx with rfl | hx
    · rcases hfn b hb with q | q
      · exact h.mfp it hmem b q
      · exact .inl (ZEp h.size q)
    · exact h1.mfp x hx b hb
  · refine ZFb.2 ⟨fun m hm x hx hxm=>?_,h1.dis⟩
    obtain ⟨i,hi,hmi⟩:=ZEx hm
    rw [List.getElem_set] at hmi
    split at hmi
    · subst hmi; exact hd x hx hxm
    · rename_i hne
      have hi':i < M.length:=by simpa using hi
      subst hmi
      rcases hfn x hx with q | q
      · rcases Nat.lt_or_gt_of_ne hne with hl | hl
        · exact(ZEq.1 h.dis k i hlt hi' hl) x (hget ▸ q) hxm
        · exact(ZEq.1 h.dis i k hi' hlt hl) x hxm (hget ▸ q)
      · exact absurd ((M[i]).low w (h.m _ (ZE1 hi')) x hxm) (ZE6.2 q)
  · rcases ZEk.1 hm with rfl | hm
    · intro hbm
      rcases hfn b hbm with q | q
      · exact h.pd x hx b hb it hmem q
      · exact absurd (x.low w (h.p x hx) b hb) (ZE6.2 q)
    · exact h1.pd x hx b hb m hm
theorem Ctx.focus {C : Cx} {lt mb : Nat} {D : List Lev} {F : List Nat} {n : Int} {b : Nat} {md cd : Bool} (h : Ctx X w0 w (cpx C lt mb D F :: M) Ps) (hl : LvAt D n b md cd) :
    ∃ (D1 D2 : List Lev) (ev : Lev), D = D1 ++ ev :: D2 ∧ ev.n = n ∧ ev.b = b ∧ (∀ x, x ∈ F → w0.heap.size ≤ x ∨ X x) ∧
      Ctx X w0 w (blk b lt [ev.vl,.map (some ev.pb),ev.vm,ev.vc,ev.vd,ev.vk]::lvB lt (D1++D2)::Yc (vvI .i64) vvP mb ((D1++ev::D2).map Lev.key)::M) (cpP C (D1++ev::D2) F::Ps):=by
  obtain ⟨ev,he,rfl,rfl,_,_⟩:=hl
  obtain ⟨D1,D2,rfl⟩:=List.append_of_mem he
  have hx:=h.m _ ZSo
  obtain ⟨q1,q2,q3⟩:=Zzp hx.2.1
  have fx:=h.mfp _ ZSo
  obtain ⟨d1,d2⟩:=ZFb.1 h.dis
  have inB:∀ x,x∈(lvB lt (D1++D2)).fp→x∈(D1++ev::D2).map (·.b):=fun x hx=>by
    obtain ⟨z,hz,rfl⟩:=ZF2.1 hx
    refine ZF2.2 ⟨z,?_,rfl⟩
    rcases ZEv.1 hz with q | q
    · exact ZFa _ q
    · exact ZE5 _ (ZSc _ q)
  have inE:∀ x,x∈(blk ev.b lt ev.cells).fp→x∈(D1++ev::D2).map (·.b):=fun x hx=>by
    obtain rfl:x=ev.b:=by simpa [blk] using hx
    exact ZF2.2 ⟨ev,by simp,rfl⟩
  have inM:∀ x,x∈(Yc (vvI .i64) vvP mb ((D1++ev::D2).map Lev.key)).fp→x=mb:=fun x hx=>by simpa [Yc] using hx
  have upD:∀ x,x∈(D1++ev::D2).map (·.b)→x∈(cpx C lt mb (D1++ev::D2) F).fp:=fun x hx=>ZSc _ (ZFa _ hx)
  have upI:∀ it,it=blk ev.b lt ev.cells∨it=lvB lt (D1++D2)∨it=Yc (vvI .i64) vvP mb ((D1++ev::D2).map Lev.key)→∀ x,x∈it.fp→x∈(cpx C lt mb (D1++ev::D2) F).fp:=by
    rintro it (rfl | rfl | rfl) x hx
    · exact upD x (inE x hx)
    · exact upD x (inB x hx)
    · rw [inM x hx]; exact Zbu
  refine⟨D1,D2,ev,rfl,rfl,rfl,fun x hx=>fx x (Zid hx),{ h with m:=?_,p:=?_,mfp:=?_,dis:=?_,pd:=?_ }⟩
  · intro it hi
    rcases ZEk.1 hi with rfl | hi
    · exact q1
    · rcases ZEk.1 hi with rfl | hi
      · exact q2
      · rcases ZEk.1 hi with rfl | hi
        · exact hx.1
        · exact h.m it (ZSc _ hi)
  · intro it hi
    rcases ZEk.1 hi with rfl | hi
    · exact hx.2.2.1
    · exact h.p it hi
  · intro it hi x hxf
    rcases ZEk.1 hi with q | hi
    · exact fx x (upI it (.inl q) x hxf)
    · rcases ZEk.1 hi with q | hi
      · exact fx x (upI it (.inr (.inl q)) x hxf)
      · rcases ZEk.1 hi with q | hi
        · exact fx x (upI it (.inr (.inr q)) x hxf)
        · exact h.mfp it (ZSc _ hi) x hxf
  · refine ZFb.2 ⟨fun it hi x hxe hxi=>?_,ZFb.2 ⟨fun it hi x hxe hxi=>?_,ZFb.2 ⟨fun it hi x hxe hxi=>?_,d2⟩⟩⟩
    · rcases ZEk.1 hi with rfl | hi
      · exact q3 x hxe hxi
      · rcases ZEk.1 hi with rfl | hi
        · rw [inM x hxi] at hxe; exact hx.2.2.2.1 (inE _ hxe)
        · exact d1 it hi x (upI _ (.inl rfl) x hxe) hxi
    · rcases ZEk.1 hi with rfl | hi
      · rw [inM x hxi] at hxe; exact hx.2.2.2.1 (inB _ hxe)
      · exact d1 it hi x (upI _ (.inr (.inl rfl)) x hxe) hxi
    · exact d1 it hi x (upI _ (.inr (.inr rfl)) x hxe) hxi
  · intro it hi x hxi m hm hxm
    have key:∀ it,it∈Ps→∀ x,x∈it.fp→∀ m,m=blk ev.b lt ev.cells∨m=lvB lt (D1++D2)∨m=Yc (vvI .i64) vvP mb ((D1++ev::D2).map Lev.key)→x∉m.fp:=fun it hi x hxi m hm hxm=>h.pd it hi x hxi _ ZSo (upI m hm x hxm)
    have kF:∀ x,x∈F→∀ m,m=blk ev.b lt ev.cells∨m=lvB lt (D1++D2)∨m=Yc (vvI .i64) vvP mb ((D1++ev::D2).map Lev.key)→x∉m.fp:=by
      rintro x hxF m (rfl | rfl | rfl) hxm
      · exact hx.2.2.2.2.2 x (inE x hxm) hxF
      · exact hx.2.2.2.2.2 x (inB x hxm) hxF
      · rw [inM x hxm] at hxF; exact hx.2.2.2.2.1 hxF
    have rest:∀ m,m∈M→x∉m.fp:=fun m hm hxm=>by
      rcases ZEk.1 hi with rfl | hi
      · exact d1 m hm x (Zid hxi) hxm
      · exact h.pd it hi x hxi m (ZSc _ hm) hxm
    have front:∀ m,m=blk ev.b lt ev.cells∨m=lvB lt (D1++D2)∨m=Yc (vvI .i64) vvP mb ((D1++ev::D2).map Lev.key)→x∉m.fp:=fun m hm=>by
      rcases ZEk.1 hi with rfl | hi
      · exact kF x hxi m hm
      · exact key it hi x hxi m hm
    rcases ZEk.1 hm with q | hm
    · exact front m (.inl q) hxm
    · rcases ZEk.1 hm with q | hm
      · exact front m (.inr (.inl q)) hxm
      · rcases ZEk.1 hm with q | hm
        · exact front m (.inr (.inr q)) hxm
        · exact rest m hm hxm
theorem Zz0 {D1 D2 new:List Lev} {ev v:Lev} (h:v∈(D1++ev::D2)++new) (hne:v≠ev):v∈(D1++D2)++new:=by
  simp only [ZEv,ZEk] at h ⊢
  rcases h with (h | h | h) | h
  · exact .inl (.inl h)
  · exact absurd h hne
  · exact .inl (.inr h)
  · exact .inr h
theorem Zz1 (n:Int):ZG5.wrap (n+1)≠n:=by
  rw [ZSy]; omega
theorem Zz2 {C : Cx} {lt mb a e : Nat} {D1 D2 new : List Lev} {ev : Lev} {n : Int} {b : Nat} {v : Value} {F F1 f : List Nat} {w : World}
    (hm:(Yc (vvI .i64) vvP mb (((D1++ev::D2)++new).map Lev.key)).holds w) (hl:(lvB lt ((D1++D2)++new)).holds w) (hb:(blk b lt [ev.vl,.map (some ev.pb),v,ev.vc,ev.vd,ev.vk]).holds w)
    (hp:(cpP C ((D1++ev::D2)++new) (F++F1)).holds w) (ht:(ZMy (ZR9 a (ZR9 e (EI .i64).tr)) (C.MX n) [v] f).holds w) (hn:ev.n=n) (hbb:ev.b=b)
    (d1:∀ x,x∈(Yc (vvI .i64) vvP mb (((D1++ev::D2)++new).map Lev.key)).fp→x∉(blk b lt [ev.vl,.map (some ev.pb),v,ev.vc,ev.vd,ev.vk]).fp)
    (d2:∀ x,x∈(Yc (vvI .i64) vvP mb (((D1++ev::D2)++new).map Lev.key)).fp→x∉(lvB lt ((D1++D2)++new)).fp)
    (d3:∀ x,x∈(Yc (vvI .i64) vvP mb (((D1++ev::D2)++new).map Lev.key)).fp→x∉f)
    (d4:∀ x,x∈(blk b lt [ev.vl,.map (some ev.pb),v,ev.vc,ev.vd,ev.vk]).fp→x∉(lvB lt ((D1++D2)++new)).fp)
    (d5:∀ x,x∈(blk b lt [ev.vl,.map (some ev.pb),v,ev.vc,ev.vd,ev.vk]).fp→x∉f) (d6:∀ x,x∈(lvB lt ((D1++D2)++new)).fp→x∉f)
    (p1:∀ x,x∈F++F1→x∉(Yc (vvI .i64) vvP mb (((D1++ev::D2)++new).map Lev.key)).fp) (p2:∀ x,x∈F++F1→x∉(blk b lt [ev.vl,.map (some ev.pb),v,ev.vc,ev.vd,ev.vk]).fp)
    (p3:∀ x,x∈F++F1→x∉(lvB lt ((D1++D2)++new)).fp) (hnw:∀ z,z∈new→z.cd=false∧z.vc=.slice none 0 0) :
    ∃ (D' : List Lev) (F' : List Nat), CpLe (D1 ++ ev :: D2) D' F F' ∧ LvAt D' n b true false ∧ (cpx C lt mb D' F').holds w ∧
      ∀ x,x∈(cpx C lt mb D' F').fp→x∈(Yc (vvI .i64) vvP mb (((D1++ev::D2)++new).map Lev.key)).fp∨x∈(blk b lt [ev.vl,.map (some ev.pb),v,ev.vc,ev.vd,ev.vk]).fp∨x∈(lvB lt ((D1++D2)++new)).fp∨x∈F∨x∈F1∨x∈f:=by
  subst hn hbb
  have e1:(D1++ev::D2)++new=D1++ev::(D2++new):=by simp
  have e2:(D1++D2)++new=D1++(D2++new):=by simp
  rw [e1] at hm hp d1 d2 d3 p1
  rw [e2] at hl d2 d4 d6 p3
  rw [e1,e2]
  have hmb:mb∈(Yc (vvI .i64) vvP mb ((D1++ev::(D2++new)).map Lev.key)).fp:=by simp [Yc]
  have inS:∀ x,x∈(D1++({ ev with vm:=v,md:=true }:Lev)::(D2++new)).map (·.b)→x=ev.b∨x∈(lvB lt (D1++(D2++new))).fp:=fun x hx=>by
    obtain ⟨z,hz,rfl⟩:=ZF2.1 hx
    rcases ZEv.1 hz with q | q
    · exact .inr (ZF2.2 ⟨z,ZFa _ q,rfl⟩)
    · rcases ZEk.1 q with rfl | q
      · exact .inl rfl
      · exact .inr (ZF2.2 ⟨z,ZE5 _ q,rfl⟩)
  have hbm:ev.b∈(blk ev.b lt [ev.vl,.map (some ev.pb),v,ev.vc,ev.vd,ev.vk]).fp:=by simp [blk]
  have hlow:∀ x,x∈f→x < w.heap.size:=fun x hx=>ZSa _ w ht x hx
  refine⟨D1++{ ev with vm:=v,md:=true }::(D2++new),(F++F1)++f,⟨fun z hz=>?_,fun z hz=>?_,fun x hx=>ZFa _ (ZFa _ hx)⟩,⟨{ ev with vm:=v,md:=true }, by simp,rfl,rfl,fun _=>rfl,fun q=>(Bool.false_ne_true q).elim⟩,⟨?_,?_,?_,?_,?_,?_⟩,?_⟩
  · rcases ZEv.1 hz with q | q
    · exact⟨z,ZFa _ q,rfl,rfl,id,id⟩
    · rcases ZEk.1 q with rfl | q
      · exact⟨{ z with vm:=v,md:=true }, ZE5 _ ZSo,rfl,rfl,fun _=>rfl,id⟩
      · exact⟨z,ZE5 _ (ZSc _ (ZFa _ q)),rfl,rfl,id,id⟩
  · rcases ZEv.1 hz with q | q
    · exact .inr ⟨z,ZFa _ q,rfl,rfl,rfl⟩
    · rcases ZEk.1 q with rfl | q
      · exact .inr ⟨ev,by simp,rfl,rfl,rfl⟩
      · rcases ZEv.1 q with q | q
        · exact .inr ⟨z,ZE5 _ (ZSc _ q),rfl,rfl,rfl⟩
        · exact .inl (hnw z q)
  · have:(D1++({ ev with vm:=v,md:=true }:Lev)::(D2++new)).map Lev.key=(D1++ev::(D2++new)).map Lev.key:=by simp [Lev.key]
    rw [this]; exact hm
  · exact Zzq hb hl d4
  · refine Zzu (e:=ev) (e':={ ev with vm:=v,md:=true }) hp hlow fun hc=>?_
    obtain ⟨h1,⟨h2,h3⟩,h4,h5,h6,h7⟩:=hc.more (F':=(F++F1)++f) (fun b hb=>ZFa _ hb) (fun b hb=>(ZEv.1 hb).elim (hp.1 b) (hlow b))
    exact⟨h1,⟨h2,h3⟩,fun q=>(Bool.noConfusion q),fun _=>ZSn _ (Tr.trep _ ht.1) (fun b hb=>ZE5 _ hb) (fun b hb=>(ZEv.1 hb).elim (hp.1 b) (hlow b)),h6,h7⟩
  · intro q
    rcases inS _ q with q | q
    · exact d1 mb hmb (q ▸ hbm)
    · exact d2 mb hmb q
  · intro q
    rcases ZEv.1 q with q | q
    · exact p1 mb q hmb
    · exact d3 mb hmb q
  · intro x hx q
    rcases inS x hx with rfl | hx
    · rcases ZEv.1 q with q | q
      · exact p2 _ q hbm
      · exact d5 _ hbm q
    · rcases ZEv.1 q with q | q
      · exact p3 _ q hx
      · exact d6 _ hx q
  · intro x hx
    rcases ZEk.1 hx with rfl | hx
    · exact .inl hmb
    · rcases ZEv.1 hx with q | q
      · rcases inS x q with rfl | q
        · exact .inr (.inl hbm)
        · exact .inr (.inr (.inl q))
      · rcases ZEv.1 q with q | q
        · rcases ZEv.1 q with q | q
          · exact .inr (.inr (.inr (.inl q)))
          · exact .inr (.inr (.inr (.inr (.inl q))))
        · exact .inr (.inr (.inr (.inr (.inr q))))
theorem Ctx.growC (h:Ctx X w0 w M Ps) (k:Nat) {it:Item} {b:Nat} (hk:M[k]? = some it) (hb:b∈it.fp) (hB:BelB b w w'):Ctx X w0 w' (M.eraseIdx k) Ps:=by
  have hlt:k < M.length:=(List.getElem?_eq_some_iff.1 hk).1
  have hget:M[k]=it:=(List.getElem?_eq_some_iff.1 hk).2
  have hmem:it∈M:=List.mem_of_getElem? hk
  have g:=h.sub (M':=M.eraseIdx k) (Ps':=Ps) (List.eraseIdx_sublist ..) (fun _ x=>x)
  have sep:∀ m,m∈M.eraseIdx k→b∉m.fp:=by
    intro m hm hbm
    obtain ⟨i,hi,hmi⟩:=ZEx hm
    rw [List.getElem_eraseIdx] at hmi
    split at hmi
    · rename_i hik
      subst hmi
      exact(ZEq.1 h.dis i k (by omega) hlt hik) b hbm (hget ▸ hb)
    · rename_i hik
      have hi2:i < M.length - 1:=by rw [List.length_eraseIdx_of_lt hlt] at hi; exact hi
      subst hmi
      exact(ZEq.1 h.dis k (i+1) hlt (by omega) (by omega)) b (hget ▸ hb) hbm
  refine { g with os:=hB.os.trans h.os,tape:=hB.tape.trans h.tape,output:=hB.output.trans h.output,size:=ZEp h.size hB.size,drawn:=ZEp h.drawn hB.drawn,old:=fun c hc hx=>?_,m:=fun x hx=>?_,p:=fun x hx=>?_ }
  · by_cases e:c=b
    · subst e
      rcases h.mfp it hmem c hb with q | q
      · omega
      · exact absurd q hx
    · rw [hB.old c (ZG0 hc h.size) e]; exact h.old c hc hx
  · exact x.keep w w' (fun c hc=>hB.old c (x.low w (g.m x hx) c hc) (fun e=>sep x hx (e ▸ hc))) (g.m x hx)
  · exact x.keep w w' (fun c hc=>hB.old c (x.low w (h.p x hx) c hc) (fun e=>h.pd x hx c hc it hmem (e ▸ hb))) (h.p x hx)
theorem Ctx.anyX (h:Ctx X w0 w M Ps) (k:Nat) {it:Item} (hk:M[k]? = some it):∀ b,b∈it.fp→w0.heap.size≤b∨X b:=h.mfp it (List.mem_of_getElem? hk)
theorem Zf1 {b:Nat} (h:Bel w w'):BelB b w w':=⟨h.os,h.tape,h.output,h.size,h.drawn,fun c hc _=>h.block c hc⟩
theorem Zz3 {P:Program} {Q:Exit→Act→World→Prop} {l:List Oper} {n:Nat} {e:Env} (b:Nat) {id:Nat} (m:Nat) (hm:P.follows .mixedOrders=true) (rows lk lf:List Nat) (hro:Zee l rows=true) (hk:lk.all (Zbl rows l m)=true) (hf:lf.all (Zbl rows l l.length)=true)
    (h:(∀ i,lk.contains i=true→Jg .any l.toArray m i=true)→(∀ i,lf.contains i=true→Jg .any l.toArray l.toArray.size i=true)→∀ w',Bel w w'→AE (BelB b) P .any l.toArray Q m n l.length (ZEj l.length false).toArray e w'):(Code.region id l.toArray true).wp P Q (actOf n e) w:=by
  refine wp_region_any hm ?_
  have:=(h (fun i hi=>Zfg hro (ZFe.1 hk i (by simpa using hi))) (fun i hi=>Zfg (m:=l.length) hro (ZFe.1 hf i (by simpa using hi))) { w with drawn:=w.drawn+1 } ⟨⟨rfl,rfl,rfl,ZEn _,fun _ _=>rfl⟩,Nat.le_succ _⟩).out (Zmh _)
  have h2:=Zmf _ _ _ _ this
  simpa using h2
theorem BelB.belO {b:Nat} {l:List Nat} (h:BelB b w w') (hb:b∈l):BelO l w w':=⟨h.os,h.tape,h.output,h.size,h.drawn,fun c hc hn=>h.old c hc (fun e=>hn (e ▸ hb))⟩
end
end Vc
