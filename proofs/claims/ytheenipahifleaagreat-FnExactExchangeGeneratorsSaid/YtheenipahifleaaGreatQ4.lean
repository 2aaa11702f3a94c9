import Derived.Test.YtheenipahifleaaGreatQ3
set_option linter.unusedSectionVars false
set_option linter.unusedSimpArgs false
set_option linter.unusedVariables false
open Classical renaming byContradiction→ZNe
open Decidable renaming not_not→ZJw
open Go renaming wp_seq→ZF5,wp_ret→ZGd,wp_skip→ZF8,wp_block→ZGb,wp_exit→ZGj
open Go.Instr renaming checkKey→Zwn,lookup→ZM3
open Go.IntKind renaming i64→Zxa,u8→ZGh
open Go.Proofs.Tryz renaming prog→ZF7,underlying32→ZGp,underlying28→ZGt,underlying22→ZGo,underlying23→ZMn,underlying97→ZMu,underlying25→ZMx,func88→ZM4,underlying99→ZG1,underlying94→ZNh
open Go.Result renaming andThen_ok→Zuq
open Go.Sem renaming run_bind→Zup
open Go.Value renaming ownBlock→Zvi
open Inhabited renaming default→Zuw
open Int renaming mul_emod→ZMl,add_zero→ZMm,le_refl→ZMp,zero_add→ZIw,natCast_nonneg→ZGm,ofNat_lt→ZG4,tmod→Zvh,mul_zero→ZMv,mul_nonneg→ZMz,mul_one→ZM0,one_mul→ZM1,tmod_eq_emod_of_nonneg→ZI1,add_emod→ZM2,mul_le_mul→ZM8,mul_assoc→ZM9,mul_le_mul_of_nonneg_right→ZN3
open List renaming mem_singleton→Zwj,mem_cons→Zus,mem_map→Zv7,toArray→ZF4,mem_singleton_self→ZMk,replicate→Zur,getD→Zu3,not_mem_nil→Zwy,mem_cons_of_mem→ZMq,nodup_cons→ZIx,mem_cons_self→ZMt,mem_or_eq_of_mem_set→ZCo,length_eq_one_iff→ZG3,mem_append→Zu9,getElem_of_mem→Zvb,length_map→ZMw,mem_append_right→Zvj,take_of_length_le→Zwh,pairwise_singleton→ZM7,mem_append_left→Zvo,pairwise_iff_getElem→Zuz,mem_of_mem_take→ZNa,length_take→Zxh,pairwise_map→ZNd,nodup_nil→ZNf,length_append→Zvm
open Nat renaming le_refl→Zuv,le_of_ble_eq_true→ZGe,le_trans→Zux
open Option renaming toList→ZG2
open Std.Legacy.Range renaming forIn_eq_forIn_range'→Zy0
open Vc renaming Form→ZF9,TForm→ZGr,ETerm→ZF6
open Vc.A8 renaming get_add→ZMs,ext_get→ZIz,get_set→ZIy
open Vc.Ctx renaming start→ZGq
open Vc.Term renaming mono→ZMr
open Vc.Tr renaming item→ZGk,sl→ZMj
open Vc.Ty renaming item→ZCh
set_option maxRecDepth 4000
set_option maxHeartbeats 4000000
namespace Go.Proofs.YtheenipahifleaaGreat
open Go Go.RowKit Vc
variable {b0 bp0 b1 bp1 b2 bp2 b3 bp3 b4 bp4 b5 bp5 b6 bp6 b7 bp7 mb0:Nat} {u0_0 u0_1 u0_2 u0_3 u0_4 u0_5 u1_0 u1_1 u1_2 u1_3 u1_4 u1_5 u2_0 u2_1 u2_2 u2_3 u2_4 u2_5 u3_0 u3_1 u3_2 u3_3 u3_4 u3_5 u4_0 u4_1 u4_2 u4_3 u4_4 u4_5 u5_0 u5_1 u5_2 u5_3 u5_4 u5_5 u6_0 u6_1 u6_2 u6_3 u6_4 u6_5 u7_0 u7_1 u7_2 u7_3 u7_4 u7_5:Value} {fp0 fp1 fp2 fp3 fp4 fp5 fp6 fp7 fp0_0 fp0_1 fp0_2 fp0_3 fp0_4 fp0_5 fp1_0 fp1_1 fp1_2 fp1_3 fp1_4 fp1_5 F0:List Nat}
theorem Zlo:ScaT ZF7 61:=⟨⟨_,Tryz.underlying61,rfl⟩,by kernel_rfl⟩
theorem ag51:AggT ZF7 51 1:=⟨⟨_,Tryz.underlying51,rfl⟩,by kernel_rfl⟩
theorem sc23:ScaT ZF7 23:=⟨⟨_,ZMn,rfl⟩,by kernel_rfl⟩
theorem Zcm:Ju ZF7 55 (.agg #[.slice none 0 0]) 1 24:=by unfold Ju; kernel_rfl
theorem z32:Xc ZF7 32 (.agg #[.slice none 0 0,.slice none 0 0]):=by unfold Xc; kernel_rfl
def Zfd (a0:ZF9) (a1:Alg) (K:Bool→Prop):Prop :=
 Zcd a0 (fun r11=>Zew a1 r11 (fun r10=>K (decide ((r10.length:Int) > 0))))
theorem Zqz (a0:ZF9) (a1:Alg)  {K:Bool→Prop} (h:Zfd a0 a1 K) (w0:World) (q0:ZGr.rep a0 [u0_0] fp0 w0) (q1:TAlg.rep a1 [u1_0,u1_1] fp1 w0) (qb1:(blk b1 32 [u1_0,u1_1]).holds w0) :
  Calls ZF7 94 #[.agg #[u0_0],vQ b1] w0 fun e w'=>∃ (r0:Bool),
   e=.returned (.bool r0)∧K r0∧Bel w0 w':=by
 unfold Zfd at h
 refine cof Tryz.func94 rfl 9 Tryz.ntmps94 ?_
 have hC:=ZGq (X:=Nox) w0 [ZCh TForm a0 [u0_0] fp0,ZCh TAlg a1 [u1_0,u1_1] fp1,blk b1 32 [u1_0,u1_1]] (alc q0 (alc q1 (al1 qb1)))
 have hp4:=(hC.getP 0 rfl)
 replace hC:=hC.derive 0 rfl (ZCh ZF6.ty.sl a0.terms [u0_0] fp0) (fun _=>(Yx hp4)) (fun _ hb_=>hb_)
 replace hC:=hC.dAlg 2 rfl
 refine sr (Yj (v:=.agg #[u0_0]) hC [u0_0] rfl rfl fun b8 w10 hB_ hC=>Zc (v:=.bool false) rfl (dn (sr (Yb hC 0 [u0_0] rfl ag55 rfl rfl rfl (Zf [.agg #[u0_0]] _ Tryz.func64 rfl rfl rfl (Zgr a0 h _ (Yl (hC.getP 2 rfl))) ?_)))))
 rintro _ w11 ⟨r11,b10,rfl,h,hr10,hf10,hB10⟩
 refine rt ?_
 replace hC:=hC.push hB10 (mapS b10 r11) hr10 (fun b_ hb_=>by obtain rfl:=Zwj.1 hb_; exact hf10)
 refine Zf [vQ b1,.map (some b10)] _ Tryz.func95 rfl rfl rfl (Zpy a1 r11 h _ (Yy (hC.getP 1 rfl) (hC.getP 0 rfl)) (hC.getP 5 rfl) (hC.getM 0 rfl)) ?_
 rintro _ w12 ⟨r10,b11,rfl,h,hr11,hf11,hB11⟩
 refine rt ?_
 replace hC:=hC.push hB11 (mapS b11 r10) hr11 (fun b_ hb_=>by obtain rfl:=Zwj.1 hb_; exact hf11)
 refine Zkk (hC.getM 0 rfl) ZG1 rfl rfl (Xy rfl rfl (Zc (v:=.bool (decide ((r10.length:Int) > 0))) rfl (dn (ZGd ?_))))
 exact Zj rfl (Zg rfl) ⟨decide ((r10.length:Int) > 0),rfl,h,hC.below⟩ (.inl rfl)
def Zg5 (a0:List ZF9) (p1:ZF9→(Bool→Prop)→Prop) (K:Int→Prop):Prop :=
 Yi (fun i10 (s10:Unit) nx10=>p1 (a0.getD i10 Zuw) (fun r10=>(if r10=true then K (i10:Int) else nx10 ()))) (fun (s10:Unit)=>K (-1)) a0.length 0 ()
theorem Zq0 (a0:List ZF9) (p1:ZF9→(Bool→Prop)→Prop)  {K:Int→Prop} (h:Zg5 a0 p1 K) (w0:World) (q0:ZGr.sl.rep a0 [u0_0] fp0 w0) {g1:Nat} {cp1:List Value} {fn1:Func} (hf1:ZF7.funcs[g1]? = some fn1) (hb1:fn1.body.isNone=false) (hn1:(fn1.name == "runtime.NumGoroutine")=false) (hp1:∀ (y0:ZF9) (yu0_0:Value) (yf0:List Nat) (K_:Bool→Prop) (w_:World),Bel w0 w_→ZGr.rep y0 [yu0_0] yf0 w_→p1 y0 K_→Calls ZF7 g1 (ZF4 ([.agg #[yu0_0]]++cp1)) w_ fun e w'=>∃ (z0:Bool),e=.returned (.bool z0)∧K_ z0∧Bel w_ w') :
  Calls ZF7 96 #[u0_0,.func (.func g1) #[] (ZF4 cp1)] w0 fun e w'=>∃ (r0:Int),
   e=.returned (vI r0)∧K r0∧Bel w0 w':=by
 unfold Zg5 at h
 refine cof Tryz.func96 rfl 19 Tryz.ntmps96 ?_
 have hC:=ZGq (X:=Nox) w0 [ZCh ZGr.sl a0 [u0_0] fp0] (al1 q0)
 refine sr (Zc (v:=vI 0) rfl (dn (ZF5 (sr (Zb (v:=u0_0) rfl (Zv hC 0 rfl ZGt rfl (Zb (v:=vI 0) rfl (dn (ZGb ?_)))))))))
 have hN10:a0.length≤9223372036854775807:=Y3 (hC.getP 0 rfl)
 refine Yn (S:=Unit) _ _ (fun i10 s10 e_ w_=>Zy e_ [(0,u0_0),(1,.func (.func g1) #[] (ZF4 cp1)),(7,vI (a0.length:Int)),(8,vI (i10:Int))]∧Ctx Nox w0 w_ [] [ZCh ZGr.sl a0 [u0_0] fp0]) a0.length ?_ ?_ (s0:=()) ?_ h
 ·clear hC h
  rintro i10 s10 e_ w10 nx10 K10 hi10 ⟨hS_,hC⟩ h hK10
  rw [ue hS_]
  refine sr (Zn rfl rfl (dn (ZF5 (Z8 rfl (decide_eq_true (by omega)) (ZF8 (Zd (ZF5 (ZGb (sr (Zb (v:=vI (i10:Int)) rfl (Zc (v:=vI (i10:Int)) rfl (dn (sr (Zb (v:=.func (.func g1) #[] (ZF4 cp1)) rfl (Zb (v:=u0_0) rfl (Zb (v:=vI (i10:Int)) rfl ?_))))))))))))))))
  obtain ⟨Ad10,c10,hv10⟩:=Zz (hC.getP 0 rfl) i10 hi10
  refine Yq (len:=a0.length) ZGt ag55.size (tr rfl hv10) rfl (ZGm _) (ZG4.2 hi10) ?_
  obtain ⟨cs_,hl10,hc10,hr10⟩:=Jg (hC.getP 0 rfl) hv10 i10 hi10
  obtain ⟨u10,rfl⟩:=ZG3.1 hl10
  clear hl10
  rw [Jb _ _ hi10] at hr10
  have hp10:=hr10
  replace hC:=hC.derive 0 rfl (ZCh ZF6.ty.sl ((a0.getD i10 Zuw).terms) [u10] fp0) (fun _=>(Yx hp10)) (fun _ hb_=>hb_)
  refine Jv [u10] hc10 ag55 rfl rfl ?_
  refine Zkb [.agg #[u10]] _ rfl hf1 hb1 hn1 rfl (hp1 _ _ _ _ _ hC.below (Yl (hC.getP 0 rfl)) h) (fun ret10 w11 hR10=>?_)
  obtain ⟨r10,rfl,h,hB10⟩:=hR10
  refine⟨_,rfl,?_⟩
  replace hC:=hC.grow hB10
  refine dn ?_
  refine Zq rfl (fun hb10=>?_) (fun hb10=>?_)
  ·replace h:=ift h (hb10)
   refine sr (Zb (v:=vI (i10:Int)) rfl (Zc (v:=vI (i10:Int)) rfl (dn ?_)))
   refine ZGd (Zw (Ze (Ze (Zw (Ze ?_)))))
   exact Zj rfl (Zg rfl) ⟨(i10:Int),rfl,h,hC.below⟩ (.inl rfl)
  ·replace h:=Zk h (Y0 hb10)
   refine ZF8 (Zs (Zd (Zm (Zp rfl rfl (Zb (v:=vI (Zxa.wrap ((i10:Int)+1))) rfl (done ?_))))))
   exact hK10 () _ _ ⟨(sl ⟨rfl,rfl,rfl,(tr rfl (congrArg _ (Z6 hi10 hN10))),trivial⟩),(hC.sP [1] rfl)⟩ h
 ·clear hC h
  rintro s10 e_ w12 K10 ⟨hS_,hC⟩ h
  rw [ue hS_]
  refine sr (Zn rfl rfl (dn (ZF5 (Z9 rfl (decide_eq_false (by omega)) ?_))))
  refine ZGj (Zl (Zl (Z5 ?_)))
  refine Zd (sr (Zc (v:=vI (-1)) rfl (dn (ZGd ?_))))
  exact Zj rfl (Zg rfl) ⟨(-1),rfl,h,hC.below⟩ (.inl rfl)
 ·skip
  exact⟨(slq rfl),hC⟩
def Zdl (a0:List ZF9) (p1:ZF9→(Bool→Prop)→Prop) (K:Bool→Prop):Prop :=
 Zg5 a0 p1 (fun r5=>K (decide (r5≥0)))
theorem Zlp (a0:List ZF9) (p1:ZF9→(Bool→Prop)→Prop)  {K:Bool→Prop} (h:Zdl a0 p1 K) (w0:World) (q0:ZGr.sl.rep a0 [u0_0] fp0 w0) {g1:Nat} {cp1:List Value} {fn1:Func} (hf1:ZF7.funcs[g1]? = some fn1) (hb1:fn1.body.isNone=false) (hn1:(fn1.name == "runtime.NumGoroutine")=false) (hp1:∀ (y0:ZF9) (yu0_0:Value) (yf0:List Nat) (K_:Bool→Prop) (w_:World),Bel w0 w_→ZGr.rep y0 [yu0_0] yf0 w_→p1 y0 K_→Calls ZF7 g1 (ZF4 ([.agg #[yu0_0]]++cp1)) w_ fun e w'=>∃ (z0:Bool),e=.returned (.bool z0)∧K_ z0∧Bel w_ w') :
  Calls ZF7 72 #[u0_0,.func (.func g1) #[] (ZF4 cp1)] w0 fun e w'=>∃ (r0:Bool),
   e=.returned (.bool r0)∧K r0∧Bel w0 w':=by
 unfold Zdl at h
 refine cof Tryz.func72 rfl 9 Tryz.ntmps72 ?_
 have hC:=ZGq (X:=Nox) w0 [ZCh ZGr.sl a0 [u0_0] fp0] (al1 q0)
 refine sr (Zc (v:=.bool false) rfl (dn (sr (Zb (v:=u0_0) rfl (Zb (v:=.func (.func g1) #[] (ZF4 cp1)) rfl (Zf [u0_0,.func (.func g1) #[] (ZF4 cp1)] _ Tryz.func96 rfl rfl rfl (Zq0 a0 p1 h _ (hC.getP 0 rfl) hf1 hb1 hn1 (fun x0_ x1_ x2_ K_ w_ hb_=>hp1 x0_ x1_ x2_ K_ w_ (Zke hC.below hb_))) ?_))))))
 rintro _ w4 ⟨r5,rfl,h,hB6⟩
 refine rt ?_
 replace hC:=hC.grow hB6
 refine Zbf rfl rfl (Zc (v:=.bool (decide (r5≥0))) rfl (dn (ZGd ?_)))
 exact Zj rfl (Zg rfl) ⟨decide (r5≥0),rfl,h,hC.below⟩ (.inl rfl)
def Zfe (a0:Alg) (K:Bool→Prop):Prop :=
 Zeq a0.degrees (fun r11=>(if¬ (r11=true) then K false else(if(a0.images.length:Int)≠(a0.degrees.length:Int) then K false else Yi (fun i10 (s10:Unit) nx10=>Zdi a0.degrees (a0.images.getD i10 Zuw) (fun r10=>(if¬ (r10=true) then K false else((0≤(i10:Int)∧(i10:Int) < (a0.degrees.length:Int))∧Zeu a0.degrees (a0.images.getD i10 Zuw) (Zxa.wrap ((a0.degrees.getD i10 Zuw)+1)) (fun r13=>(if¬ (r13=true) then K false else nx10 ())))))) (fun (s10:Unit)=>Zdl a0.images (fun y0_ K_=>Zfd y0_ a0 K_) (fun r12=>K (!r12))) a0.images.length 0 ())))
theorem Zq1 (a0:Alg)  {K:Bool→Prop} (h:Zfe a0 K) (w0:World) (q0:TAlg.rep a0 [u0_0,u0_1] fp0 w0) :
  Calls ZF7 71 #[.agg #[u0_0,u0_1]] w0 fun e w'=>∃ (r0:Bool),
   e=.returned (.bool r0)∧K r0∧Bel w0 w':=by
 unfold Zfe at h
 refine cof Tryz.func71 rfl 50 Tryz.ntmps71 ?_
 have hC:=ZGq (X:=Nox) w0 [ZCh TAlg a0 [u0_0,u0_1] fp0] (al1 q0)
 replace hC:=hC.dAlg 0 rfl
 refine sr (Yj (v:=.agg #[u0_0,u0_1]) hC [u0_0,u0_1] rfl rfl fun b4 w6 hB_ hC=>Zc (v:=.bool false) rfl (dn (ZF5 (sr (Zx 0 ZGp rfl sc22.size rfl rfl (Z4 hC 0 (u0_0) rfl sc22 rfl rfl (Zf [u0_0] _ Tryz.func92 rfl rfl rfl (Zpr a0.degrees h _ (hC.getP 1 rfl)) ?_)))))))
 rintro _ w9 ⟨r11,rfl,h,hB10⟩
 refine rt ?_
 replace hC:=hC.grow hB10
 refine Xa rfl (Zb (v:=.bool (!r11)) rfl ?_)
 refine Y1 (!r11) (fun hb11=>?_) (fun hb11=>?_)
 ·replace h:=ift h (Y0 (Xf hb11))
  refine Zh (b:=true) 4 9 rfl (tr rfl (congrArg _ hb11)) (by decide) (Zh (b:=true) 4 9 rfl (tr rfl (congrArg _ hb11)) (by decide) (Zh (b:=true) 4 9 rfl (tr rfl (congrArg _ hb11)) (by decide) (Zh (b:=true) 4 9 rfl (tr rfl (congrArg _ hb11)) (by decide) (Zh (b:=true) 4 9 rfl (tr rfl (congrArg _ hb11)) (by decide) (Zh (b:=true) 4 9 rfl (tr rfl (congrArg _ hb11)) (by decide) (Zh (b:=true) 4 9 rfl (tr rfl (congrArg _ hb11)) (by decide) (Z0 (v:=.bool true) (b:=true) (tr rfl (congrArg _ hb11)) rfl (dn (Z8 rfl rfl (sr (Zc (v:=.bool false) rfl (dn ?_))))))))))))
  refine ZGd (Ze ?_)
  exact Zj rfl (Zg rfl) ⟨false,rfl,h,hC.below⟩ (.inl rfl)
 ·replace h:=Zk h (not_not_intro ((Xg hb11)))
  refine Zi 4 9 rfl rfl hb11 (Zx 1 ZGp rfl sc28.size rfl rfl (Zi 4 9 rfl rfl hb11 (Z4 hC 0 (u0_1) rfl sc28 rfl rfl (Zi 4 9 rfl rfl hb11 (Zv hC 0 rfl ZGt rfl (Zi 4 9 rfl rfl hb11 (Zx 0 ZGp rfl sc22.size rfl rfl (Zi 4 9 rfl rfl hb11 (Z4 hC 0 (u0_0) rfl sc22 rfl rfl (Zi 4 9 rfl rfl hb11 (Zv hC 1 rfl ZGo rfl (Zi 4 9 rfl rfl hb11 (Y4 rfl rfl (Z0 (v:=.bool (decide ((a0.images.length:Int)≠(a0.degrees.length:Int)))) (b:=false) (tr rfl (congrArg _ hb11)) rfl (dn ?_)))))))))))))))
  refine Zq rfl (fun hb12=>?_) (fun hb12=>?_)
  ·replace h:=ift h (ct hb12)
   refine sr (Zc (v:=.bool false) rfl (dn ?_))
   refine ZGd (Ze ?_)
   exact Zj rfl (Zg rfl) ⟨false,rfl,h,hC.below⟩ (.inl rfl)
  ·replace h:=Zk h (cf hb12)
   refine ZF8 (Zd (ZF5 (sr (Zx 1 ZGp rfl sc28.size rfl rfl (Z4 hC 0 (u0_1) rfl sc28 rfl rfl (Zv hC 0 rfl ZGt rfl (Zb (v:=vI 0) rfl (dn (ZGb ?_)))))))))
   have hN10:a0.images.length≤9223372036854775807:=Y3 (hC.getP 0 rfl)
   refine Yn (S:=Unit) _ _ (fun i10 s10 e_ w_=>Zy e_ [(1,vQ b4),(19,u0_1),(20,vI (a0.images.length:Int)),(21,vI (i10:Int))]∧Ctx Nox w0 w_ [blk b4 32 [u0_0,u0_1]] [ZCh ZGr.sl a0.images [u0_1] fp0,ZCh TInts a0.degrees [u0_0] fp0,ZCh TAlg a0 [u0_0,u0_1] fp0]) a0.images.length ?_ ?_ (s0:=()) ?_ h
   ·clear hC h
    rintro i10 s10 e_ w10 nx10 K10 hi10 ⟨hS_,hC⟩ h hK10
    rw [ue hS_]
    refine sr (Zn rfl rfl (dn (ZF5 (Z8 rfl (decide_eq_true (by omega)) (ZF8 (Zd (ZF5 (ZGb (sr (Zb (v:=vI (i10:Int)) rfl ?_))))))))))
    obtain ⟨Ad11,c10,hv10⟩:=Zz (hC.getP 0 rfl) i10 hi10
    refine Yq (len:=a0.images.length) ZGt ag55.size (tr rfl hv10) rfl (ZGm _) (ZG4.2 hi10) ?_
    obtain ⟨cs_,hl10,hc10,hr10⟩:=Jg (hC.getP 0 rfl) hv10 i10 hi10
    obtain ⟨u10,rfl⟩:=ZG3.1 hl10
    clear hl10
    rw [Jb _ _ hi10] at hr10
    have hp10:=hr10
    replace hC:=hC.derive 0 rfl (ZCh ZF6.ty.sl ((a0.images.getD i10 Zuw).terms) [u10] fp0) (fun _=>(Yx hp10)) (fun _ hb_=>hb_)
    refine Jv [u10] hc10 ag55 rfl rfl (Z1 hC [.slice none 0 0] z55 rfl fun b10 w11 hB_ hC=>Zc (v:=vI (i10:Int)) rfl (Zo (v:=.agg #[u10]) hC 0 [u10] [u10] rfl ag55.size rfl rfl rfl rfl (Ye (Ja (hC.getP 0 rfl)) rfl) (ZGe rfl) rfl fun w12 hC=>dn (ZF5 ?_)))
    refine cwd 15 mixed [0,1,0,7,15,31,63,127,63,63,575,63,3647,7743,15935,32767,65535,131071] [1,2,7,8,10,12,13] [0,4,5,6,7,8,9,10,11,12,13,14] (fun hM11 hM10 w13 hB_=>?_)
    replace hC:=hC.grow hB_
    refine bF 0 (vQ b4) rfl rfl hM10 (fun _=>by exact Yh 0 ZGp rfl sc22.size rfl rfl) (Za 18 1) (bL 1 (u0_0) rfl rfl hM11 (fun _ hB_=>by exact Yd (hC.grow hB_) 1 (u0_0) rfl sc22 rfl rfl) (Za 18 3) (bL 2 (.agg #[u10]) rfl rfl hM11 (fun _ hB_=>by exact Y9 (hC.grow hB_) 0 [u10] rfl ag55 rfl rfl rfl) (Za 18 7) (aO 3 rfl (Zf [u0_0,.agg #[u10]] _ Tryz.func74 rfl rfl rfl (Zk8 a0.degrees (a0.images.getD i10 Zuw) h _ (hC.getP 2 rfl) (Yl (hC.getP 0 rfl))) ?_))))
    rintro _ w14 ⟨r10,rfl,h,hB11⟩
    refine rt ?_
    replace hC:=hC.grow hB11
    refine done (aK (by assumption) (Za 18 15) (bF 4 (.bool (!r10)) rfl rfl hM10 (fun _=>by exact Zh5 rfl) (Za 18 31) (bM 5 (.bool (!r10)) rfl hM10 (Za 18 63) ?_)))
    refine Y1 (!r10) (fun hb10=>?_) (fun hb10=>?_)
    ·replace h:=ift h (Y0 (Xf hb10))
     refine Zt Zu 6 undef rfl rfl (by kernel_rfl) (hM10 6 rfl) (fun w_=>.inr ⟨Ya (b:=true) 5 31 rfl (tr rfl (congrArg _ hb10)) (by decide),rfl⟩) (l9:=(Za 18 127)) (by kernel_rfl) (Zt Zu 7 undef rfl rfl (by kernel_rfl) (hM10 7 rfl) (fun w_=>.inr ⟨Ya (b:=true) 5 31 rfl (tr rfl (congrArg _ hb10)) (by decide),rfl⟩) (l9:=(Za 18 255)) (by kernel_rfl) (Zt Zu 8 undef rfl rfl (by kernel_rfl) (hM10 8 rfl) (fun w_=>.inr ⟨Ya (b:=true) 5 31 rfl (tr rfl (congrArg _ hb10)) (by decide),rfl⟩) (l9:=(Za 18 511)) (by kernel_rfl) (Zt Zu 9 undef rfl rfl (by kernel_rfl) (hM10 9 rfl) (fun w_=>.inr ⟨Ya (b:=true) 5 31 rfl (tr rfl (congrArg _ hb10)) (by decide),rfl⟩) (l9:=(Za 18 1023)) (by kernel_rfl) (Zt Zu 10 undef rfl rfl (by kernel_rfl) (hM10 10 rfl) (fun w_=>.inr ⟨Ya (b:=true) 5 31 rfl (tr rfl (congrArg _ hb10)) (by decide),rfl⟩) (l9:=(Za 18 2047)) (by kernel_rfl) (Zt Zu 11 undef rfl rfl (by kernel_rfl) (hM10 11 rfl) (fun w_=>.inr ⟨Ya (b:=true) 5 31 rfl (tr rfl (congrArg _ hb10)) (by decide),rfl⟩) (l9:=(Za 18 4095)) (by kernel_rfl) (Zt Zu 12 undef rfl rfl (by kernel_rfl) (hM10 12 rfl) (fun w_=>.inr ⟨Ya (b:=true) 5 31 rfl (tr rfl (congrArg _ hb10)) (by decide),rfl⟩) (l9:=(Za 18 8191)) (by kernel_rfl) (Zt Zu 13 undef rfl rfl (by kernel_rfl) (hM10 13 rfl) (fun w_=>.inr ⟨Ya (b:=true) 5 31 rfl (tr rfl (congrArg _ hb10)) (by decide),rfl⟩) (l9:=(Za 18 16383)) (by kernel_rfl) (Zt Zu 14 undef rfl rfl (by kernel_rfl) (hM10 14 rfl) (fun w_=>.inr ⟨Ya (b:=true) 5 31 rfl (tr rfl (congrArg _ hb10)) (by decide),rfl⟩) (l9:=(Za 18 32767)) (by kernel_rfl) (Z2 15 (by decide) (by decide) (by kernel_rfl) (by kernel_rfl) rfl (Zh (b:=true) 5 31 rfl (tr rfl (congrArg _ hb10)) (by decide) (Zh (b:=true) 5 31 rfl (tr rfl (congrArg _ hb10)) (by decide) (Z0 (v:=.bool true) (b:=true) (tr rfl (congrArg _ hb10)) rfl (done (Z3 (Zd (Z8 rfl rfl (sr (Zc (v:=.bool false) rfl (dn ?_)))))))))))))))))))
     refine ZGd (Zw (Ze (Ze (Zw (Ze ?_)))))
     exact Zj rfl (Zg rfl) ⟨false,rfl,h,hC.below⟩ (.inl rfl)
    ·replace h:=Zk h (not_not_intro ((Xg hb10)))
     refine aF 6 (vQ b4) rfl rfl (hM10 6 rfl) (Yg 5 31 rfl rfl hb10) (fun _=>by exact Yh 0 ZGp rfl sc22.size rfl rfl) (Za 18 127) (aL 7 (u0_0) rfl rfl (hM11 7 rfl) (Yg 5 31 rfl rfl hb10) (fun _ hB_=>by exact Yd (hC.grow hB_) 1 (u0_0) rfl sc22 rfl rfl) (Za 18 255) (aL 8 (.agg #[u10]) rfl rfl (hM11 8 rfl) (Yg 5 31 rfl rfl hb10) (fun _ hB_=>by exact Y9 (hC.grow hB_) 0 [u10] rfl ag55 rfl rfl rfl) (Za 18 511) (aF 9 (vQ b4) rfl rfl (hM10 9 rfl) (Yg 5 31 rfl rfl hb10) (fun _=>by exact Yh 0 ZGp rfl sc22.size rfl rfl) (Za 18 1023) (aL 10 (u0_0) rfl rfl (hM11 10 rfl) (Yg 5 31 rfl rfl hb10) (fun _ hB_=>by exact Yd (hC.grow hB_) 1 (u0_0) rfl sc22 rfl rfl) (Za 18 2047) (aF 11 (vI (i10:Int)) rfl rfl (hM10 11 rfl) (Yg 5 31 rfl rfl hb10) (fun _=>by exact Jo (v:=vI (i10:Int)) rfl) (Za 18 4095) ?_)))))
     obtain ⟨⟨h10,h11⟩,h⟩:=h
     obtain ⟨Ad10,c11,hv11⟩:=Zz (hC.getP 2 rfl) i10 (show i10 < a0.degrees.length by omega)
     refine aL 12 (.pointer (some (Ad10.add (i10 * 1)))) rfl rfl (hM11 12 rfl) (Yg 5 31 rfl rfl hb10) (fun _ hB_=>by exact Yw (len:=a0.degrees.length) ZGo sc2.size (by exact tr rfl hv11) rfl h10 h11) (Za 18 8191) (aL 13 (vI (a0.degrees.getD i10 Zuw)) rfl rfl (hM11 13 rfl) (Yg 5 31 rfl rfl hb10) (fun _ hB_=>by exact Jw (vI (a0.degrees.getD i10 Zuw)) (Yf ((hC.grow hB_).getP 2 rfl) hv11 i10 (show i10 < a0.degrees.length by omega)) sc2 rfl) (Za 18 16383) (aF 14 (vI (Zxa.wrap ((a0.degrees.getD i10 Zuw)+1))) rfl rfl (hM10 14 rfl) (Yg 5 31 rfl rfl hb10) (fun _=>by exact Zjt rfl rfl) (Za 18 32767) (Z2 15 (by decide) (by decide) (by kernel_rfl) (by kernel_rfl) rfl (Zi 5 31 rfl rfl hb10 (Zf [u0_0,.agg #[u10],vI (Zxa.wrap ((a0.degrees.getD i10 Zuw)+1))] _ Tryz.func93 rfl rfl rfl (Zpw a0.degrees (a0.images.getD i10 Zuw) (Zxa.wrap ((a0.degrees.getD i10 Zuw)+1)) h _ (hC.getP 2 rfl) (Yl (hC.getP 0 rfl))) ?_)))))
     rintro _ w15 ⟨r13,rfl,h,hB12⟩
     refine rt ?_
     replace hC:=hC.grow hB12
     refine Zi 5 31 rfl rfl hb10 (Xa rfl (Z0 (v:=.bool (!r13)) (b:=false) (tr rfl (congrArg _ hb10)) rfl (done (Z3 (Zd ?_)))))
     refine Zq rfl (fun hb13=>?_) (fun hb13=>?_)
     ·replace h:=ift h (Y0 (Xf hb13))
      refine sr (Zc (v:=.bool false) rfl (dn ?_))
      refine ZGd (Zw (Ze (Ze (Zw (Ze ?_)))))
      exact Zj rfl (Zg rfl) ⟨false,rfl,h,hC.below⟩ (.inl rfl)
     ·replace h:=Zk h (not_not_intro ((Xg hb13)))
      refine ZF8 (Zs (Zd (Zm (Zp rfl rfl (Zb (v:=vI (Zxa.wrap ((i10:Int)+1))) rfl (done ?_))))))
      exact hK10 () _ _ ⟨(sl ⟨rfl,rfl,rfl,(tr rfl (congrArg _ (Z6 hi10 hN10))),trivial⟩),((hC.xM [1] rfl).sP [1,2,3] rfl)⟩ h
   ·clear hC h
    rintro s10 e_ w16 K10 ⟨hS_,hC⟩ h
    rw [ue hS_]
    refine sr (Zn rfl rfl (dn (ZF5 (Z9 rfl (decide_eq_false (by omega)) ?_))))
    refine ZGj (Zl (Zl (Z5 ?_)))
    refine Zd (sr (Zx 1 ZGp rfl sc28.size rfl rfl (Z4 hC 0 (u0_1) rfl sc28 rfl rfl (Zkd (g:=94) [vQ b4] (Zkc rfl rfl) (Zf [u0_1,.func (.func 94) #[] (ZF4 [vQ b4])] _ Tryz.func72 rfl rfl rfl (Zlp a0.images (fun y0_ K_=>Zfd y0_ a0 K_) h _ (hC.getP 0 rfl) Tryz.func94 rfl rfl (fun y0_ yu0_0_ yf0_ K_ w_ hb_ rq0_ hq_=>Zqz y0_ a0 hq_ w_ rq0_ (Yy ((hC.grow hb_).getP 1 rfl) ((hC.grow hb_).getP 0 rfl)) ((hC.grow hb_).getM 0 rfl))) ?_)))))
    rintro _ w17 ⟨r12,rfl,h,hB13⟩
    refine rt ?_
    replace hC:=hC.grow hB13
    refine Xa rfl (Zc (v:=.bool (!r12)) rfl (dn (ZGd ?_)))
    exact Zj rfl (Zg rfl) ⟨!r12,rfl,h,hC.below⟩ (.inl rfl)
   ·skip
    exact⟨(slq rfl),hC⟩
def Zg6 (a0:ZF9) (a1:Alg) (K:Bool→Prop):Prop :=
 Zdi a1.degrees a0 (fun r10=>K (!r10))
theorem Zq2 (a0:ZF9) (a1:Alg)  {K:Bool→Prop} (h:Zg6 a0 a1 K) (w0:World) (q0:ZGr.rep a0 [u0_0] fp0 w0) (q1:TAlg.rep a1 [u1_0,u1_1] fp1 w0) (qb1:(blk b1 32 [u1_0,u1_1]).holds w0) (qbp1:(blk bp1 61 [vQ b1]).holds w0) :
  Calls ZF7 73 #[.agg #[u0_0],vQ bp1] w0 fun e w'=>∃ (r0:Bool),
   e=.returned (.bool r0)∧K r0∧Bel w0 w':=by
 unfold Zg6 at h
 refine cof Tryz.func73 rfl 11 Tryz.ntmps73 ?_
 have hC:=ZGq (X:=Nox) w0 [ZCh TForm a0 [u0_0] fp0,ZCh TAlg a1 [u1_0,u1_1] fp1,blk b1 32 [u1_0,u1_1],blk bp1 61 [vQ b1]] (alc q0 (alc q1 (alc qb1 (al1 qbp1))))
 have hp5:=(hC.getP 0 rfl)
 replace hC:=hC.derive 0 rfl (ZCh ZF6.ty.sl a0.terms [u0_0] fp0) (fun _=>(Yx hp5)) (fun _ hb_=>hb_)
 replace hC:=hC.dAlg 2 rfl
 refine sr (Yj (v:=.agg #[u0_0]) hC [u0_0] rfl rfl fun b9 w10 hB_ hC=>Zc (v:=.bool false) rfl (dn (ZF5 ?_)))
 refine cwd 5 mixed [0,1,3,7,0,31,63,127] [0,3,4] [1,2] (fun hM10 hM11 w11 hB_=>?_)
 replace hC:=hC.grow hB_
 refine bL 0 (vQ b1) rfl rfl hM10 (fun _ hB_=>by exact Zaa (vQ b1) ((hC.grow hB_).getP 6 rfl) Zlo rfl rfl) (Za 8 1) (bF 1 (vQ b1) rfl rfl hM11 (fun _=>by exact Zam rfl) (Za 8 3) (bF 2 (vQ b1) rfl rfl hM11 (fun _=>by exact Yh 0 ZGp rfl sc22.size rfl rfl) (Za 8 7) (bL 3 (u1_0) rfl rfl hM10 (fun _ hB_=>by exact Zaa (u1_0) ((hC.grow hB_).getP 5 rfl) sc22 rfl rfl) (Za 8 15) (bL 4 (.agg #[u0_0]) rfl rfl hM10 (fun _ hB_=>by exact Y9 (hC.grow hB_) 0 [u0_0] rfl ag55 rfl rfl rfl) (Za 8 31) (Z2 5 (by decide) (by decide) (by kernel_rfl) (by kernel_rfl) rfl (Zf [u1_0,.agg #[u0_0]] _ Tryz.func74 rfl rfl rfl (Zk8 a1.degrees a0 h _ (hC.getP 1 rfl) (Yl (hC.getP 2 rfl))) ?_))))))
 rintro _ w12 ⟨r10,rfl,h,hB10⟩
 refine rt ?_
 replace hC:=hC.grow hB10
 refine Xa rfl (Zc (v:=.bool (!r10)) rfl (done (Z3 (Zd (ZGd ?_)))))
 exact Zj rfl (Zg rfl) ⟨!r10,rfl,h,hC.below⟩ (.inl rfl)
def Zff (a0:Alg) (a1:List ZF9) (K:Int→Prop):Prop :=
 Zfe a0 (fun r11=>(if¬ (r11=true) then Zch true 1 (fun r12=>K r12) else Zdl a1 (fun y0_ K_=>Zg6 y0_ a0 K_) (fun r10=>Zch r10 1 (fun r13=>K r13))))
theorem Zq3 (a0:Alg) (a1:List ZF9)  {K:Int→Prop} (h:Zff a0 a1 K) (w0:World) (q0:TAlg.rep a0 [u0_0,u0_1] fp0 w0) (qb0:(blk b0 32 [u0_0,u0_1]).holds w0) (q1:ZGr.sl.rep a1 [u1_0] fp1 w0) :
  Calls ZF7 46 #[vQ b0,u1_0] w0 fun e w'=>∃ (r0:Int),
   e=.returned (vI r0)∧K r0∧Bel w0 w':=by
 unfold Zff at h
 refine cof Tryz.func46 rfl 18 Tryz.ntmps46 ?_
 have hC:=ZGq (X:=Nox) w0 [ZCh TAlg a0 [u0_0,u0_1] fp0,ZCh ZGr.sl a1 [u1_0] fp1,blk b0 32 [u0_0,u0_1]] (alc q0 (alc q1 (al1 qb0)))
 replace hC:=hC.dAlg 0 rfl
 refine sr (Yj (v:=vQ b0) hC [vQ b0] rfl rfl fun b6 w8 hB_ hC=>Zc (v:=vI 0) rfl (dn (sr (Z4 hC 0 (vQ b0) rfl Zlo rfl rfl (Zan rfl (Znv [u0_0,u0_1] (hC.getP 4 rfl) ag32 rfl rfl rfl (Zf [.agg #[u0_0,u0_1]] _ Tryz.func71 rfl rfl rfl (Zq1 a0 h _ (Yy (hC.getP 1 rfl) (hC.getP 0 rfl))) ?_)))))))
 rintro _ w10 ⟨r11,rfl,h,hB10⟩
 refine rt ?_
 replace hC:=hC.grow hB10
 refine Xa rfl (Zb (v:=.bool (!r11)) rfl ?_)
 refine Y1 (!r11) (fun hb10=>?_) (fun hb10=>?_)
 ·replace h:=ift h (Y0 (Xf hb10))
  refine Zh (b:=true) 5 11 rfl (tr rfl (congrArg _ hb10)) (by decide) (Zh (b:=true) 5 11 rfl (tr rfl (congrArg _ hb10)) (by decide) (Zh (b:=true) 5 11 rfl (tr rfl (congrArg _ hb10)) (by decide) (Z0 (v:=.bool true) (b:=true) (tr rfl (congrArg _ hb10)) rfl (Zc (v:=.bool true) rfl (dn (sr (Zb (v:=.bool true) rfl (Zf [.bool true,vI 1] _ Tryz.func47 rfl rfl rfl (Zi0 true 1 h _) ?_))))))))
  rintro _ w11 ⟨r12,rfl,h,hB11⟩
  refine rt ?_
  replace hC:=hC.grow hB11
  refine Zc (v:=vI r12) rfl (dn (ZGd ?_))
  exact Zj rfl (Zg rfl) ⟨r12,rfl,h,hC.below⟩ (.inl rfl)
 ·replace h:=Zk h (not_not_intro ((Xg hb10)))
  refine Zi 5 11 rfl rfl hb10 (Zb (v:=u1_0) rfl (Zi 5 11 rfl rfl hb10 (Zkd (g:=73) [vQ b6] (Zkc rfl rfl) (Zi 5 11 rfl rfl hb10 (Zf [u1_0,.func (.func 73) #[] (ZF4 [vQ b6])] _ Tryz.func72 rfl rfl rfl (Zlp a1 (fun y0_ K_=>Zg6 y0_ a0 K_) h _ (hC.getP 3 rfl) Tryz.func73 rfl rfl (fun y0_ yu0_0_ yf0_ K_ w_ hb_ rq0_ hq_=>Zq2 y0_ a0 hq_ w_ rq0_ (Yy ((hC.grow hb_).getP 1 rfl) ((hC.grow hb_).getP 0 rfl)) ((hC.grow hb_).getP 4 rfl) ((hC.grow hb_).getM 0 rfl))) ?_)))))
  rintro _ w12 ⟨r10,rfl,h,hB12⟩
  refine rt ?_
  replace hC:=hC.grow hB12
  refine Z0 (v:=.bool r10) (b:=false) (tr rfl (congrArg _ hb10)) rfl (Zc (v:=.bool r10) rfl (dn (sr (Zb (v:=.bool r10) rfl (Zf [.bool r10,vI 1] _ Tryz.func47 rfl rfl rfl (Zi0 r10 1 h _) ?_)))))
  rintro _ w13 ⟨r13,rfl,h,hB13⟩
  refine rt ?_
  replace hC:=hC.grow hB13
  refine Zc (v:=vI r13) rfl (dn (ZGd ?_))
  exact Zj rfl (Zg rfl) ⟨r13,rfl,h,hC.below⟩ (.inl rfl)
def Zg7 (a0:List Term) (a1:Int) (K:Int→Prop):Prop :=
 (if Zxa.wrap (a1 - (a0.length:Int)) < 0 then K (-1) else K (Zxa.wrap (a1 - (a0.length:Int))))
theorem Zq4 (a0:List Term) (a1:Int)  {K:Int→Prop} (h:Zg7 a0 a1 K) (w0:World) (q0:ZF6.ty.sl.rep a0 [u0_0] fp0 w0) :
  Calls ZF7 55 #[u0_0,vI a1] w0 fun e w'=>∃ (r0:Int),
   e=.returned (vI r0)∧K r0∧Bel w0 w':=by
 unfold Zg7 at h
 refine cof Tryz.func55 rfl 12 Tryz.ntmps55 ?_
 have hC:=ZGq (X:=Nox) w0 [ZCh ZF6.ty.sl a0 [u0_0] fp0] (al1 q0)
 refine sr (Zc (v:=vI 0) rfl (dn (sr (Zb (v:=vI a1) rfl (Zb (v:=u0_0) rfl (Zv hC 0 rfl Tryz.underlying49 rfl (Zaz rfl rfl (Zc (v:=vI (Zxa.wrap (a1 - (a0.length:Int)))) rfl (dn (ZF5 (sr (Zb (v:=vI (Zxa.wrap (a1 - (a0.length:Int)))) rfl (Zn rfl rfl (dn ?_))))))))))))))
 refine Zq rfl (fun hb5=>?_) (fun hb5=>?_)
 ·replace h:=ift h (ct hb5)
  refine sr (Zc (v:=vI (-1)) rfl (dn ?_))
  refine ZGd (Ze ?_)
  exact Zj rfl (Zg rfl) ⟨(-1),rfl,h,hC.below⟩ (.inl rfl)
 ·replace h:=Zk h (cf hb5)
  refine ZF8 (Zd (sr (Zb (v:=vI (Zxa.wrap (a1 - (a0.length:Int)))) rfl (Zc (v:=vI (Zxa.wrap (a1 - (a0.length:Int)))) rfl (dn (ZGd ?_))))))
  exact Zj rfl (Zg rfl) ⟨Zxa.wrap (a1 - (a0.length:Int)),rfl,h,hC.below⟩ (.inl rfl)
def Zdm (a0:ZF9) (a1:Int) (K:Int→Prop):Prop :=
 Zg7 a0.terms a1 (fun r10=>(if r10 < 0 then K (-1) else K r10))
theorem Zq5 (a0:ZF9) (a1:Int)  {K:Int→Prop} (h:Zdm a0 a1 K) (w0:World) (q0:ZGr.rep a0 [u0_0] fp0 w0) :
  Calls ZF7 26 #[.agg #[u0_0],vI a1] w0 fun e w'=>∃ (r0:Int),
   e=.returned (vI r0)∧K r0∧Bel w0 w':=by
 unfold Zdm at h
 refine cof Tryz.func26 rfl 12 Tryz.ntmps26 ?_
 have hC:=ZGq (X:=Nox) w0 [ZCh TForm a0 [u0_0] fp0] (al1 q0)
 have hp2:=(hC.getP 0 rfl)
 replace hC:=hC.derive 0 rfl (ZCh ZF6.ty.sl a0.terms [u0_0] fp0) (fun _=>(Yx hp2)) (fun _ hb_=>hb_)
 refine sr (Yj (v:=.agg #[u0_0]) hC [u0_0] rfl rfl fun b4 w6 hB_ hC=>Zc (v:=vI 0) rfl (dn (sr (Zx 0 Tryz.underlying51 rfl sc49.size rfl rfl (Z4 hC 0 (u0_0) rfl sc49 rfl rfl (Zb (v:=vI a1) rfl (Zf [u0_0,vI a1] _ Tryz.func55 rfl rfl rfl (Zq4 a0.terms a1 h _ (hC.getP 0 rfl)) ?_)))))))
 rintro _ w9 ⟨r10,rfl,h,hB10⟩
 refine rt ?_
 replace hC:=hC.grow hB10
 refine Zc (v:=vI r10) rfl (dn (ZF5 (sr (Zb (v:=vI r10) rfl (Zn rfl rfl (dn ?_))))))
 refine Zq rfl (fun hb10=>?_) (fun hb10=>?_)
 ·replace h:=ift h (ct hb10)
  refine sr (Zc (v:=vI (-1)) rfl (dn ?_))
  refine ZGd (Ze ?_)
  exact Zj rfl (Zg rfl) ⟨(-1),rfl,h,hC.below⟩ (.inl rfl)
 ·replace h:=Zk h (cf hb10)
  refine ZF8 (Zd (sr (Zb (v:=vI r10) rfl (Zc (v:=vI r10) rfl (dn (ZGd ?_))))))
  exact Zj rfl (Zg rfl) ⟨r10,rfl,h,hC.below⟩ (.inl rfl)
def Zfg (a0:List ZF9) (a1:Int) (K:Int→Prop):Prop :=
 (if Zxa.wrap (a1 - (a0.length:Int)) < 0 then K (-1) else Yi (fun i10 (s10:Int) nx10=>Zdm (a0.getD i10 Zuw) s10 (fun r10=>(if r10 < 0 then K (-1) else nx10 r10))) (fun (s10:Int)=>K s10) a0.length 0 (Zxa.wrap (a1 - (a0.length:Int))))
theorem Zq6 (a0:List ZF9) (a1:Int)  {K:Int→Prop} (h:Zfg a0 a1 K) (w0:World) (q0:ZGr.sl.rep a0 [u0_0] fp0 w0) :
  Calls ZF7 7 #[u0_0,vI a1] w0 fun e w'=>∃ (r0:Int),
   e=.returned (vI r0)∧K r0∧Bel w0 w':=by
 unfold Zfg at h
 refine cof Tryz.func7 rfl 27 Tryz.ntmps7 ?_
 have hC:=ZGq (X:=Nox) w0 [ZCh ZGr.sl a0 [u0_0] fp0] (al1 q0)
 refine sr (Zc (v:=vI 0) rfl (dn (sr (Zb (v:=vI a1) rfl (Zb (v:=u0_0) rfl (Zv hC 0 rfl ZMn rfl (Zaz rfl rfl (Zc (v:=vI (Zxa.wrap (a1 - (a0.length:Int)))) rfl (dn (ZF5 (sr (Zb (v:=vI (Zxa.wrap (a1 - (a0.length:Int)))) rfl (Zn rfl rfl (dn ?_))))))))))))))
 refine Zq rfl (fun hb5=>?_) (fun hb5=>?_)
 ·replace h:=ift h (ct hb5)
  refine sr (Zc (v:=vI (-1)) rfl (dn ?_))
  refine ZGd (Ze ?_)
  exact Zj rfl (Zg rfl) ⟨(-1),rfl,h,hC.below⟩ (.inl rfl)
 ·replace h:=Zk h (cf hb5)
  refine ZF8 (Zd (ZF5 (sr (Zc (v:=vI 0) rfl (dn (ZGb ?_))))))
  have hN10:a0.length≤9223372036854775807:=Y3 (hC.getP 0 rfl)
  refine Yn (S:=Int) _ _ (fun i10 s10 e_ w_=>Zy e_ [(0,u0_0),(1,vI s10),(5,vI (i10:Int))]∧Ctx Nox w0 w_ [] [ZCh ZGr.sl a0 [u0_0] fp0]) a0.length ?_ ?_ (s0:=(Zxa.wrap (a1 - (a0.length:Int)))) ?_ h
  ·clear hC h
   rintro i10 s10 e_ w10 nx10 K10 hi10 ⟨hS_,hC⟩ h hK10
   rw [ue hS_]
   refine ZF5 (sr (Zb (v:=vI (i10:Int)) rfl (Zb (v:=u0_0) rfl (Zv hC 0 rfl ZMn rfl (Zn rfl rfl (dn (Z8 rfl (decide_eq_true (by omega)) (ZF8 (Zd (ZF5 (ZGb (sr (Zb (v:=u0_0) rfl (Zb (v:=vI (i10:Int)) rfl ?_))))))))))))))
   obtain ⟨Ad10,c10,hv10⟩:=Zz (hC.getP 0 rfl) i10 hi10
   refine Yq (len:=a0.length) ZMn ag51.size (tr rfl hv10) rfl (ZGm _) (ZG4.2 hi10) ?_
   obtain ⟨cs_,hl10,hc10,hr10⟩:=Jg (hC.getP 0 rfl) hv10 i10 hi10
   obtain ⟨u10,rfl⟩:=ZG3.1 hl10
   clear hl10
   rw [Jb _ _ hi10] at hr10
   have hp10:=hr10
   replace hC:=hC.derive 0 rfl (ZCh ZF6.ty.sl ((a0.getD i10 Zuw).terms) [u10] fp0) (fun _=>(Yx hp10)) (fun _ hb_=>hb_)
   refine Jv [u10] hc10 ag51 rfl rfl (Zb (v:=vI s10) rfl (Zf [.agg #[u10],vI s10] _ Tryz.func26 rfl rfl rfl (Zq5 (a0.getD i10 Zuw) s10 h _ (Yl (hC.getP 0 rfl))) ?_))
   rintro _ w11 ⟨r10,rfl,h,hB10⟩
   refine rt ?_
   replace hC:=hC.grow hB10
   refine Zc (v:=vI r10) rfl (dn (sr (Zb (v:=vI r10) rfl (Zn rfl rfl (dn ?_)))))
   refine Zq rfl (fun hb10=>?_) (fun hb10=>?_)
   ·replace h:=ift h (ct hb10)
    refine sr (Zc (v:=vI (-1)) rfl (dn ?_))
    refine ZGd (Zw (Ze (Ze (Zw (Ze ?_)))))
    exact Zj rfl (Zg rfl) ⟨(-1),rfl,h,hC.below⟩ (.inl rfl)
   ·replace h:=Zk h (cf hb10)
    refine ZF8 (Zs (Zd (Zm (Zb (v:=vI (i10:Int)) rfl (Zp rfl rfl (Zc (v:=vI (Zxa.wrap ((i10:Int)+1))) rfl (done ?_)))))))
    exact hK10 r10 _ _ ⟨(sl ⟨rfl,rfl,(tr rfl (congrArg _ (Z6 hi10 hN10))),trivial⟩),(hC.sP [1] rfl)⟩ h
  ·clear hC h
   rintro s10 e_ w12 K10 ⟨hS_,hC⟩ h
   rw [ue hS_]
   refine ZF5 (sr (Zb (v:=vI (a0.length:Int)) rfl (Zb (v:=u0_0) rfl (Zv hC 0 rfl ZMn rfl (Zn rfl rfl (dn (Z9 rfl (decide_eq_false (by omega)) ?_)))))))
   refine ZGj (Zl (Zl (Z5 ?_)))
   refine Zd (sr (Zb (v:=vI s10) rfl (Zc (v:=vI s10) rfl (dn (ZGd ?_)))))
   exact Zj rfl (Zg rfl) ⟨s10,rfl,h,hC.below⟩ (.inl rfl)
  ·skip
   exact⟨(slq rfl),hC⟩
def Zg8 (a0:List Int) (a1:Int) (K:Int→Prop):Prop :=
 (if Zxa.wrap (a1 - (a0.length:Int)) < 0 then K (-1) else K (Zxa.wrap (a1 - (a0.length:Int))))
theorem Zq7 (a0:List Int) (a1:Int)  {K:Int→Prop} (h:Zg8 a0 a1 K) (w0:World) (q0:TInts.rep a0 [u0_0] fp0 w0) :
  Calls ZF7 25 #[u0_0,vI a1] w0 fun e w'=>∃ (r0:Int),
   e=.returned (vI r0)∧K r0∧Bel w0 w':=by
 unfold Zg8 at h
 refine cof Tryz.func25 rfl 12 Tryz.ntmps25 ?_
 have hC:=ZGq (X:=Nox) w0 [ZCh TInts a0 [u0_0] fp0] (al1 q0)
 refine sr (Zc (v:=vI 0) rfl (dn (sr (Zb (v:=vI a1) rfl (Zb (v:=u0_0) rfl (Zv hC 0 rfl ZGo rfl (Zaz rfl rfl (Zc (v:=vI (Zxa.wrap (a1 - (a0.length:Int)))) rfl (dn (ZF5 (sr (Zb (v:=vI (Zxa.wrap (a1 - (a0.length:Int)))) rfl (Zn rfl rfl (dn ?_))))))))))))))
 refine Zq rfl (fun hb5=>?_) (fun hb5=>?_)
 ·replace h:=ift h (ct hb5)
  refine sr (Zc (v:=vI (-1)) rfl (dn ?_))
  refine ZGd (Ze ?_)
  exact Zj rfl (Zg rfl) ⟨(-1),rfl,h,hC.below⟩ (.inl rfl)
 ·replace h:=Zk h (cf hb5)
  refine ZF8 (Zd (sr (Zb (v:=vI (Zxa.wrap (a1 - (a0.length:Int)))) rfl (Zc (v:=vI (Zxa.wrap (a1 - (a0.length:Int)))) rfl (dn (ZGd ?_))))))
  exact Zj rfl (Zg rfl) ⟨Zxa.wrap (a1 - (a0.length:Int)),rfl,h,hC.below⟩ (.inl rfl)
def Zfh (a0:Alg) (a1:Int) (K:Int→Prop):Prop :=
 Zg8 a0.degrees a1 (fun r10=>(if r10 < 0 then K (-1) else Zfg a0.images r10 (fun r11=>(if r11 < 0 then K (-1) else K r11))))
theorem Zq8 (a0:Alg) (a1:Int)  {K:Int→Prop} (h:Zfh a0 a1 K) (w0:World) (q0:TAlg.rep a0 [u0_0,u0_1] fp0 w0) :
  Calls ZF7 6 #[.agg #[u0_0,u0_1],vI a1] w0 fun e w'=>∃ (r0:Int),
   e=.returned (vI r0)∧K r0∧Bel w0 w':=by
 unfold Zfh at h
 refine cof Tryz.func6 rfl 18 Tryz.ntmps6 ?_
 have hC:=ZGq (X:=Nox) w0 [ZCh TAlg a0 [u0_0,u0_1] fp0] (al1 q0)
 replace hC:=hC.dAlg 0 rfl
 refine sr (Yj (v:=.agg #[u0_0,u0_1]) hC [u0_0,u0_1] rfl rfl fun b4 w6 hB_ hC=>Zc (v:=vI 0) rfl (dn (sr (Zx 0 ZMx rfl sc22.size rfl rfl (Z4 hC 0 (u0_0) rfl sc22 rfl rfl (Zb (v:=vI a1) rfl (Zf [u0_0,vI a1] _ Tryz.func25 rfl rfl rfl (Zq7 a0.degrees a1 h _ (hC.getP 1 rfl)) ?_)))))))
 rintro _ w9 ⟨r10,rfl,h,hB10⟩
 refine rt ?_
 replace hC:=hC.grow hB10
 refine Zc (v:=vI r10) rfl (dn (ZF5 (sr (Zb (v:=vI r10) rfl (Zn rfl rfl (dn ?_))))))
 refine Zq rfl (fun hb10=>?_) (fun hb10=>?_)
 ·replace h:=ift h (ct hb10)
  refine sr (Zc (v:=vI (-1)) rfl (dn ?_))
  refine ZGd (Ze ?_)
  exact Zj rfl (Zg rfl) ⟨(-1),rfl,h,hC.below⟩ (.inl rfl)
 ·replace h:=Zk h (cf hb10)
  refine ZF8 (Zd (sr (Zx 1 ZMx rfl sc23.size rfl rfl (Z4 hC 0 (u0_1) rfl sc23 rfl rfl (Zb (v:=vI r10) rfl (Zf [u0_1,vI r10] _ Tryz.func7 rfl rfl rfl (Zq6 a0.images r10 h _ (hC.getP 0 rfl)) ?_))))))
  rintro _ w10 ⟨r11,rfl,h,hB11⟩
  refine rt ?_
  replace hC:=hC.grow hB11
  refine Zc (v:=vI r11) rfl (dn (ZF5 (sr (Zb (v:=vI r11) rfl (Zn rfl rfl (dn ?_))))))
  refine Zq rfl (fun hb11=>?_) (fun hb11=>?_)
  ·replace h:=ift h (ct hb11)
   refine sr (Zc (v:=vI (-1)) rfl (dn ?_))
   refine ZGd (Ze ?_)
   exact Zj rfl (Zg rfl) ⟨(-1),rfl,h,hC.below⟩ (.inl rfl)
  ·replace h:=Zk h (cf hb11)
   refine ZF8 (Zd (sr (Zb (v:=vI r11) rfl (Zc (v:=vI r11) rfl (dn (ZGd ?_))))))
   exact Zj rfl (Zg rfl) ⟨r11,rfl,h,hC.below⟩ (.inl rfl)
def Zfi (a0:List ZF9) (K:List ZF9→Prop):Prop :=
 ((0≤(a0.length:Int)∧(a0.length:Int) * 24≤281474976710656)∧Yi (fun i10 (s10:(List ZF9)) nx10=>Ze2 (a0.getD i10 Zuw) (fun r10=>((0≤(i10:Int)∧(i10:Int) < (s10.length:Int))∧nx10 (s10.set i10 r10)))) (fun (s10:(List ZF9))=>K s10) a0.length 0 (Zur ((a0.length:Int).toNat) ((⟨[]⟩:ZF9):ZF9)))
theorem Zq9 (a0:List ZF9)  {K:List ZF9→Prop} (h:Zfi a0 K) (w0:World) (q0:ZGr.sl.rep a0 [u0_0] fp0 w0) :
  Calls ZF7 10 #[u0_0] w0 fun e w'=>∃ (r0:List ZF9) (z0_0:Value) (fz0:List Nat),
   e=.returned (z0_0)∧K r0∧(ZGk (ZMj 55 (Zr 90)) r0 [z0_0] fz0).holds w'∧(∀ b,b∈fz0→w0.heap.size≤b)∧Bel w0 w':=by
 unfold Zfi at h
 refine cof Tryz.func10 rfl 23 Tryz.ntmps10 ?_
 have hC:=ZGq (X:=Nox) w0 [ZCh ZGr.sl a0 [u0_0] fp0] (al1 q0)
 refine sr (Zc (v:=.slice none 0 0) rfl (dn (sr (Zb (v:=u0_0) rfl (Zv hC 0 rfl ZMn rfl ?_)))))
 obtain ⟨hm7,h⟩:=h
 refine Zb0 (sz:=1) hC (Zur ((a0.length:Int).toNat) (.slice none 0 0)) ZGt Zcm (tr rfl (congrArg (Value.int .i64) (Int.toNat_of_nonneg hm7.1).symm)) (tr rfl (congrArg (Value.int .i64) (Int.toNat_of_nonneg hm7.1).symm)) (by omega) (by omega) (Zgg _) fun v5 w6 hB_ hC=>?_
 replace hC:=hC.pushM0 (Yk (Zr 90) (Zur ((a0.length:Int).toNat) ((⟨[]⟩:ZF9):ZF9)) (Zur ((a0.length:Int).toNat) (.slice none 0 0)) (Zur ((a0.length:Int).toNat) [])) (Zgi (X5 (J7 _ _ _)) rfl _) (Zgh _)
 replace hC:=hC.gather (c:=ZGk (ZMj 55 (Zr 90)) (Zur ((a0.length:Int).toNat) ((⟨[]⟩:ZF9):ZF9)) [v5] ((ZG2 (Zvi v5))++(Zur ((a0.length:Int).toNat) ([]:List Nat)).flatten)) (fun x_ hx_=>(Zu9.1 hx_).symm) (fun h1_ h2_ hd_=>Zag (by rw [List.length_replicate]; exact h2_) h1_ (fun b_ hb_ hb2_=>hd_ b_ hb2_ hb_))
 refine Zc (v:=v5) rfl (dn (ZF5 (sr (Zc (v:=vI 0) rfl (dn (ZGb ?_))))))
 have hN10:a0.length≤9223372036854775807:=Y3 (hC.getP 0 rfl)
 refine Yn (S:=(List ZF9)) _ _ (fun i10 s10 e_ w_=>∃ (v10:Value),∃ (f10:List Nat),Zy e_ [(0,u0_0),(3,v10),(4,vI (i10:Int))]∧Ctx Nox w0 w_ [ZGk (ZMj 55 (Zr 90)) s10 [v10] f10] [ZCh ZGr.sl a0 [u0_0] fp0]) a0.length ?_ ?_ (s0:=(Zur ((a0.length:Int).toNat) ((⟨[]⟩:ZF9):ZF9))) ?_ h
 ·clear hC h
  rintro i10 s10 e_ w10 nx10 K10 hi10 ⟨v10,f10,hS_,hC⟩ h hK10
  rw [ue hS_]
  refine ZF5 (sr (Zb (v:=vI (i10:Int)) rfl (Zb (v:=u0_0) rfl (Zv hC 0 rfl ZMn rfl (Zn rfl rfl (dn (Z8 rfl (decide_eq_true (by omega)) (ZF8 (Zd (ZF5 (ZGb (Zm (Zb (v:=v10) rfl (Zb (v:=vI (i10:Int)) rfl (Zb (v:=u0_0) rfl (Zb (v:=vI (i10:Int)) rfl ?_))))))))))))))))
  obtain ⟨Ad10,c10,hv10⟩:=Zz (hC.getP 0 rfl) i10 hi10
  refine Yq (len:=a0.length) ZMn ag51.size (tr rfl hv10) rfl (ZGm _) (ZG4.2 hi10) ?_
  obtain ⟨cs_,hl10,hc10,hr10⟩:=Jg (hC.getP 0 rfl) hv10 i10 hi10
  obtain ⟨u11,rfl⟩:=ZG3.1 hl10
  clear hl10
  rw [Jb _ _ hi10] at hr10
  have hp10:=hr10
  replace hC:=hC.derive 0 rfl (ZCh ZF6.ty.sl ((a0.getD i10 Zuw).terms) [u11] fp0) (fun _=>(Yx hp10)) (fun _ hb_=>hb_)
  refine Jv [u11] hc10 ag51 rfl rfl (Zf [.agg #[u11]] _ Tryz.func30 rfl rfl rfl (Zp3 (a0.getD i10 Zuw) h _ (Yl (hC.getP 0 rfl))) ?_)
  rintro _ w11 ⟨r10,u10,f11,rfl,h,hr11,hf10,hB10⟩
  refine rt ?_
  replace hC:=hC.push hB10 (ZGk (Zr 90) r10 [u10] f11) hr11 hf10
  obtain ⟨ho10,hf11⟩:=Y8 (hC.getM 0 rfl)
  subst hf11
  replace hC:=hC.recast (c:=own 90 9 u10 r10.terms.length (ZF6.encs r10.terms)) (fun _ h_=>h_) (fun _=>ho10)
  obtain ⟨⟨h10,h11⟩,h⟩:=h
  obtain ⟨g10,cap10,hv11⟩:=Zk0 (hC.getM 1 rfl) (Nat.lt_of_le_of_lt (Nat.zero_le _) (show i10 < s10.length by omega))
  refine Zaq (i10 * 1) ZGt ag55.size (tr rfl hv11) rfl h10 h11 rfl ?_
  replace hC:=hC.recast (c:=ZGk (Zr 90) r10 [u10] (ZG2 (Zvi u10))) (fun _ h_=>h_) (fun h_=>X5 (Jc h_))
  replace hC:=hC.sM [1,0] (M':=[ZGk (ZMj 55 (Zr 90)) s10 [v10] f10,ZGk (Zr 90) r10 [u10] (ZG2 (Zvi u10))]) (by decide) rfl
  refine Zk1 (u:=.agg #[u10]) hC (show i10 < s10.length by omega) hv11 ag55.size rfl rfl rfl rfl fun f12 w12 hC=>done (Zs (Zd (Zm (Zb (v:=vI (i10:Int)) rfl (Zp rfl rfl (Zc (v:=vI (Zxa.wrap ((i10:Int)+1))) rfl (done ?_)))))))
  exact hK10 (s10.set i10 r10) _ _ ⟨v10,f12,(sl ⟨rfl,rfl,(tr rfl (congrArg _ (Z6 hi10 hN10))),trivial⟩),(hC.sP [1] rfl)⟩ h
 ·clear hC h
  rintro s10 e_ w13 K10 ⟨v10,f10,hS_,hC⟩ h
  rw [ue hS_]
  refine ZF5 (sr (Zb (v:=vI (a0.length:Int)) rfl (Zb (v:=u0_0) rfl (Zv hC 0 rfl ZMn rfl (Zn rfl rfl (dn (Z9 rfl (decide_eq_false (by omega)) ?_)))))))
  refine ZGj (Zl (Zl (Z5 ?_)))
  refine Zd (sr (Zb (v:=v10) rfl (Zc (v:=v10) rfl (dn (ZGd ?_)))))
  exact Zj rfl (Zg rfl) ⟨s10,v10,f10,rfl,h,(hC.getM 0 rfl),(Zb8 hC 0 rfl),hC.below⟩ (.inl rfl)
 ·skip
  exact⟨v5,((ZG2 (Zvi v5))++(Zur ((a0.length:Int).toNat) ([]:List Nat)).flatten),(slq rfl),hC⟩
def Zbp (a0:Alg) (K:Alg→Prop):Prop :=
 Za7 a0.degrees (fun r10=>Zfi a0.images (fun r11=>K (⟨r10,r11⟩:Alg)))
theorem Zg9 (a0:Alg)  {K:Alg→Prop} (h:Zbp a0 K) (w0:World) (q0:TAlg.rep a0 [u0_0,u0_1] fp0 w0) :
  Calls ZF7 9 #[.agg #[u0_0,u0_1]] w0 fun e w'=>∃ (r0:Alg) (z0_0:Value) (z0_1:Value) (fz0:List Nat),
   e=.returned (.agg #[z0_0,z0_1])∧K r0∧(ZGk (Zac 2 90 55) r0 [z0_0,z0_1] fz0).holds w'∧(∀ b,b∈fz0→w0.heap.size≤b)∧Bel w0 w':=by
 unfold Zbp at h
 refine cof Tryz.func9 rfl 13 Tryz.ntmps9 ?_
 have hC:=ZGq (X:=Nox) w0 [ZCh TAlg a0 [u0_0,u0_1] fp0] (al1 q0)
 replace hC:=hC.dAlg 0 rfl
 refine sr (Yj (v:=.agg #[u0_0,u0_1]) hC [u0_0,u0_1] rfl rfl fun b4 w6 hB_ hC=>Z1 hC [.slice none 0 0,.slice none 0 0] z32 rfl fun b7 w9 hB_ hC=>dn (sr (Z1 hC [.slice none 0 0,.slice none 0 0] z32 rfl fun b10 w10 hB_ hC=>dn (sr (Zx 0 ZMx rfl sc22.size rfl rfl (Z4 hC 2 (u0_0) rfl sc22 rfl rfl (Zf [u0_0] _ Tryz.func18 rfl rfl rfl (Zey a0.degrees h _ (hC.getP 1 rfl)) ?_)))))))
 rintro _ w11 ⟨r10,u10,f11,rfl,h,hr10,hf10,hB10⟩
 refine rt ?_
 replace hC:=hC.push hB10 (ZGk (ZMj 2 (eI.tr)) r10 [u10] f11) hr10 hf10
 obtain ⟨ho10,hf11⟩:=Zat (hC.getM 0 rfl).1
 subst hf11
 replace hC:=hC.recast (c:=own 2 1 u10 r10.length (eI.encs r10)) (fun _ h_=>h_) (fun _=>ho10)
 refine Zx 0 ZGp rfl sc22.size rfl rfl (Zo (v:=u10) hC 1 [u10] [u10,.slice none 0 0] rfl sc22.size rfl rfl (Za2 (hC.getM 0 rfl)) rfl (Ye (Yr (hC.getM 0 rfl)) rfl) (ZGe rfl) rfl fun w12 hC=>dn (sr (Zx 1 ZMx rfl sc23.size rfl rfl (Z4 hC 3 (u0_1) rfl sc23 rfl rfl (Zf [u0_1] _ Tryz.func10 rfl rfl rfl (Zq9 a0.images h _ (hC.getP 0 rfl)) ?_)))))
 rintro _ w13 ⟨r11,u11,f10,rfl,h,hr11,hf12,hB11⟩
 refine rt ?_
 replace hC:=hC.push hB11 (ZGk (ZMj 55 (Zr 90)) r11 [u11] f10) hr11 hf12
 refine Zx 1 ZGp rfl sc28.size rfl rfl (Zo (v:=u11) hC 2 [u11] [u10,u11] rfl sc28.size rfl rfl (Zig (Tr.trep _ (hC.getM 0 rfl).1)) rfl (Ye (Ja (Tr.trep _ (hC.getM 0 rfl).1)) rfl) (ZGe rfl) rfl fun w14 hC=>dn (sr (Yb hC 2 [u10,u11] rfl ag32 rfl rfl rfl (Zo (v:=.agg #[u10,u11]) hC 3 [u10,u11] [u10,u11] rfl ag32.size rfl rfl rfl rfl (Ye (Yr (hC.getM 1 rfl)) (Ye (Ja (Tr.trep _ (hC.getM 0 rfl).1)) rfl)) (ZGe rfl) rfl fun w15 hC=>dn (ZGd ?_)))))
 exact Zj rfl (Y2 hC 3 rfl ag32 rfl rfl) ⟨(⟨r10,r11⟩:Alg),u10,u11,((ZG2 (Zvi u10))++f10),rfl,h,(Zea (Jc (hC.getM 1 rfl)) (hC.getM 0 rfl) (fun x hx hx'=>hC.mm 1 0 rfl rfl (by decide) x hx hx')),(fun b hb=>(Zu9.1 hb).elim (fun hb=>(X3 hC 1 rfl) b hb) (fun hb=>(Zb8 hC 0 rfl) b hb)),hC.below⟩ (.inl rfl)
def Zba (a0:Alg) (a1:Alg) (K:Bool→Prop):Prop :=
 Zcg a0.degrees a1.degrees (fun r10=>(if¬ (r10=true) then K false else Zgy a0.images a1.images (fun r11=>(if¬ (r11=true) then K false else K true))))
theorem Zha (a0:Alg) (a1:Alg)  {K:Bool→Prop} (h:Zba a0 a1 K) (w0:World) (q0:TAlg.rep a0 [u0_0,u0_1] fp0 w0) (q1:TAlg.rep a1 [u1_0,u1_1] fp1 w0) :
  Calls ZF7 13 #[.agg #[u0_0,u0_1],.agg #[u1_0,u1_1]] w0 fun e w'=>∃ (r0:Bool),
   e=.returned (.bool r0)∧K r0∧Bel w0 w':=by
 unfold Zba at h
 refine cof Tryz.func13 rfl 17 Tryz.ntmps13 ?_
 have hC:=ZGq (X:=Nox) w0 [ZCh TAlg a0 [u0_0,u0_1] fp0,ZCh TAlg a1 [u1_0,u1_1] fp1] (alc q0 (al1 q1))
 replace hC:=hC.dAlg 0 rfl
 replace hC:=hC.dAlg 3 rfl
 refine sr (Yj (v:=.agg #[u0_0,u0_1]) hC [u0_0,u0_1] rfl rfl fun b7 w9 hB_ hC=>Yj (v:=.agg #[u1_0,u1_1]) hC [u1_0,u1_1] rfl rfl fun b10 w10 hB_ hC=>Zc (v:=.bool false) rfl (dn (ZF5 (sr (Zx 0 ZGp rfl sc22.size rfl rfl (Z4 hC 1 (u0_0) rfl sc22 rfl rfl (Zx 0 ZGp rfl sc22.size rfl rfl (Z4 hC 0 (u1_0) rfl sc22 rfl rfl (Zf [u0_0,u1_0] _ Tryz.func20 rfl rfl rfl (Zk9 a0.degrees a1.degrees h _ (hC.getP 3 rfl) (hC.getP 1 rfl)) ?_)))))))))
 rintro _ w11 ⟨r10,rfl,h,hB10⟩
 refine rt ?_
 replace hC:=hC.grow hB10
 refine Xa rfl (dn ?_)
 refine Zq rfl (fun hb10=>?_) (fun hb10=>?_)
 ·replace h:=ift h (Y0 (Xf hb10))
  refine sr (Zc (v:=.bool false) rfl (dn ?_))
  refine ZGd (Ze ?_)
  exact Zj rfl (Zg rfl) ⟨false,rfl,h,hC.below⟩ (.inl rfl)
 ·replace h:=Zk h (not_not_intro ((Xg hb10)))
  refine ZF8 (Zd (ZF5 (sr (Zx 1 ZGp rfl sc28.size rfl rfl (Z4 hC 1 (u0_1) rfl sc28 rfl rfl (Zx 1 ZGp rfl sc28.size rfl rfl (Z4 hC 0 (u1_1) rfl sc28 rfl rfl (Zf [u0_1,u1_1] _ Tryz.func12 rfl rfl rfl (Zp7 a0.images a1.images h _ (hC.getP 2 rfl) (hC.getP 0 rfl)) ?_))))))))
  rintro _ w12 ⟨r11,rfl,h,hB11⟩
  refine rt ?_
  replace hC:=hC.grow hB11
  refine Xa rfl (dn ?_)
  refine Zq rfl (fun hb11=>?_) (fun hb11=>?_)
  ·replace h:=ift h (Y0 (Xf hb11))
   refine sr (Zc (v:=.bool false) rfl (dn ?_))
   refine ZGd (Ze ?_)
   exact Zj rfl (Zg rfl) ⟨false,rfl,h,hC.below⟩ (.inl rfl)
  ·replace h:=Zk h (not_not_intro ((Xg hb11)))
   refine ZF8 (Zd (sr (Zc (v:=.bool true) rfl (dn (ZGd ?_)))))
   exact Zj rfl (Zg rfl) ⟨true,rfl,h,hC.below⟩ (.inl rfl)
def Zfj (a0:List Int) (K:Int→Prop):Prop :=
 Yi (fun i10 (s10:Unit) nx10=>(if a0.getD i10 Zuw≠0 then K (a0.getD i10 Zuw) else nx10 ())) (fun (s10:Unit)=>K 0) a0.length 0 ()
theorem Zra (a0:List Int)  {K:Int→Prop} (h:Zfj a0 K) (w0:World) (q0:TInts.rep a0 [u0_0] fp0 w0) :
  Calls ZF7 31 #[u0_0] w0 fun e w'=>∃ (r0:Int),
   e=.returned (vI r0)∧K r0∧Bel w0 w':=by
 unfold Zfj at h
 refine cof Tryz.func31 rfl 15 Tryz.ntmps31 ?_
 have hC:=ZGq (X:=Nox) w0 [ZCh TInts a0 [u0_0] fp0] (al1 q0)
 refine sr (Zc (v:=vI 0) rfl (dn (ZF5 (sr (Zb (v:=u0_0) rfl (Zv hC 0 rfl ZGo rfl (Zb (v:=vI 0) rfl (dn (ZGb ?_)))))))))
 have hN10:a0.length≤9223372036854775807:=Y3 (hC.getP 0 rfl)
 refine Yn (S:=Unit) _ _ (fun i10 s10 e_ w_=>Zy e_ [(5,u0_0),(6,vI (a0.length:Int)),(7,vI (i10:Int))]∧Ctx Nox w0 w_ [] [ZCh TInts a0 [u0_0] fp0]) a0.length ?_ ?_ (s0:=()) ?_ h
 ·clear hC h
  rintro i10 s10 e_ w10 nx10 K10 hi10 ⟨hS_,hC⟩ h hK10
  rw [ue hS_]
  refine sr (Zn rfl rfl (dn (ZF5 (Z8 rfl (decide_eq_true (by omega)) (ZF8 (Zd (ZF5 (ZGb (sr ?_)))))))))
  obtain ⟨Ad10,c10,hv10⟩:=Zz (hC.getP 0 rfl) i10 hi10
  refine Yq (len:=a0.length) ZGo sc2.size (tr rfl hv10) rfl (ZGm _) (ZG4.2 hi10) (Xb (vI (a0.getD i10 Zuw)) (Yf (hC.getP 0 rfl) hv10 i10 hi10) sc2 rfl (Zc (v:=vI (a0.getD i10 Zuw)) rfl (dn (sr (Zb (v:=vI (a0.getD i10 Zuw)) rfl (Y4 rfl rfl (dn ?_)))))))
  refine Zq rfl (fun hb10=>?_) (fun hb10=>?_)
  ·replace h:=ift h (ct hb10)
   refine sr (Zb (v:=vI (a0.getD i10 Zuw)) rfl (Zc (v:=vI (a0.getD i10 Zuw)) rfl (dn ?_)))
   refine ZGd (Zw (Ze (Ze (Zw (Ze ?_)))))
   exact Zj rfl (Zg rfl) ⟨a0.getD i10 Zuw,rfl,h,hC.below⟩ (.inl rfl)
  ·replace h:=Zk h (cf hb10)
   refine ZF8 (Zs (Zd (Zm (Zp rfl rfl (Zb (v:=vI (Zxa.wrap ((i10:Int)+1))) rfl (done ?_))))))
   exact hK10 () _ _ ⟨(sl ⟨rfl,rfl,(tr rfl (congrArg _ (Z6 hi10 hN10))),trivial⟩),hC⟩ h
 ·clear hC h
  rintro s10 e_ w11 K10 ⟨hS_,hC⟩ h
  rw [ue hS_]
  refine sr (Zn rfl rfl (dn (ZF5 (Z9 rfl (decide_eq_false (by omega)) ?_))))
  refine ZGj (Zl (Zl (Z5 ?_)))
  refine Zd (sr (Zc (v:=vI 0) rfl (dn (ZGd ?_))))
  exact Zj rfl (Zg rfl) ⟨0,rfl,h,hC.below⟩ (.inl rfl)
 ·skip
  exact⟨(slq rfl),hC⟩
def Zbq (a0:List Int) (a1:Int) (K:Int→List Int→Prop):Prop :=
 X8 (fun (s10:(List Int)×Int×Int) nx10=>(if s10.2.2 < (s10.1.length:Int) then((0≤s10.2.2∧s10.2.2 < (s10.1.length:Int))∧nx10 (s10.1.set s10.2.2.toNat s10.2.1,Zxa.wrap (s10.2.1+1),Zxa.wrap (s10.2.2+1))) else K s10.2.1 s10.1)) (a0,a1,0)
theorem Zlq (a0:List Int) (a1:Int)  {K:Int→List Int→Prop} (h:Zbq a0 a1 K) (w0:World) (qw0:(own 2 1 u0_0 a0.length (eI.encs a0)).holds w0) :
  Calls ZF7 21 #[u0_0,vI a1] w0 fun e w'=>∃ (r0:Int) (mw:List Int),
   e=.returned (vI r0)∧K r0 mw∧(own 2 1 u0_0 mw.length (eI.encs mw)).holds w'∧BelO ((ZG2 (Zvi u0_0))) w0 w':=by
 unfold Zbq at h
 refine cof Tryz.func21 rfl 19 Tryz.ntmps21 ?_
 have hC:=Ctx.startL w0 ((ZG2 (Zvi u0_0))) [own 2 1 u0_0 a0.length (eI.encs a0)] [] (by simp only [Zus,Zwy,or_false,forall_eq_or_imp,forall_eq]; exact qw0) (by simp) (by simp only [Zus,Zwy,or_false,forall_eq_or_imp,forall_eq]; exact fun b hb=>hb) (ZM7 _ _) (by simp)
 refine sr (Zc (v:=vI 0) rfl (dn (ZF5 (sr (Zc (v:=vI 0) rfl (dn (ZGb ?_)))))))
 refine Jj (S:=(List Int)×Int×Int) _ (fun s10 e_ w_=>Zy e_ [(0,u0_0),(1,vI s10.2.1),(5,vI s10.2.2)]∧Ctx (fun c_=>c_∈(ZG2 (Zvi u0_0))) w0 w_ [own 2 1 u0_0 s10.1.length (eI.encs s10.1)] []) ?_ (s0:=(a0,a1,0)) ?_ h
 ·clear hC h
  rintro s10 e_ w10 nx10 K10 ⟨hS_,hC⟩ h hK10
  rw [ue hS_]
  refine ZF5 (sr (Zb (v:=vI s10.2.2) rfl (Zb (v:=u0_0) rfl (Zgo hC 0 rfl ZGo rfl (Zn rfl rfl (dn ?_))))))
  refine Zq rfl (fun hb10=>?_) (fun hb10=>?_)
  ·replace h:=ift h (ct hb10)
   refine ZF8 (Zd (ZF5 (ZGb (sr (Zb (v:=u0_0) rfl (Zb (v:=vI s10.2.2) rfl (Zb (v:=vI s10.2.1) rfl ?_)))))))
   obtain ⟨⟨h10,h11⟩,h⟩:=h
   obtain ⟨Ad10,c10,hv10⟩:=Za0 (hC.getM 0 rfl) (Nat.lt_of_le_of_lt (Nat.zero_le _) (show s10.2.2.toNat < s10.1.length by omega))
   refine Zaq (s10.2.2.toNat * 1) ZGo sc2.size (tr rfl hv10) rfl h10 h11 rfl (Zb1 (v:=vI s10.2.1) hC 0 [vI s10.2.1] (eI.encs (s10.1.set s10.2.2.toNat s10.2.1)) rfl hv10 sc2.size rfl rfl rfl rfl rfl (by rw [Enc.encs_len]; exact J6 (sz:=1) (show s10.2.2.toNat < s10.1.length by omega)) (Zd5 _ _ _ (show s10.2.2.toNat < s10.1.length by omega)) fun w11 hC=>?_)
   replace hC:=Jm hC 0 ((s10.1.set s10.2.2.toNat s10.2.1).length) (eI.encs (s10.1.set s10.2.2.toNat s10.2.1)) rfl (by simp) rfl
   refine dn (Zm (Zb (v:=vI s10.2.1) rfl (Zp rfl rfl (Zc (v:=vI (Zxa.wrap (s10.2.1+1))) rfl (done (Zs (Zd (Zm (Zb (v:=vI s10.2.2) rfl (Zp rfl rfl (Zc (v:=vI (Zxa.wrap (s10.2.2+1))) rfl (done ?_))))))))))))
   exact hK10 (s10.1.set s10.2.2.toNat s10.2.1,Zxa.wrap (s10.2.1+1),Zxa.wrap (s10.2.2+1)) _ _ ⟨(slq rfl),hC⟩ h
  ·replace h:=Zk h (cf hb10)
   refine ZGj (Zl (Zl (Z5 ?_)))
   refine Zd (sr (Zb (v:=vI s10.2.1) rfl (Zc (v:=vI s10.2.1) rfl (dn (ZGd ?_)))))
   exact Zj rfl (Zg rfl) ⟨s10.2.1,s10.1,rfl,h,(hC.getM 0 rfl),hC.belO⟩ (.inl rfl)
 ·skip
  exact⟨(slq rfl),hC⟩
def Zcn (a0:List ZF9) (a1:Int) (K:Int→List ZF9→Prop):Prop :=
 X8 (fun (s10:(List ZF9)×Int×Int) nx10=>(if s10.2.2 < (s10.1.length:Int) then((0≤s10.2.2∧s10.2.2 < (s10.1.length:Int))∧Ze5 ((s10.1.getD s10.2.2.toNat Zuw).terms) s10.2.1 (fun r10 m10=>nx10 (s10.1.set s10.2.2.toNat (⟨m10⟩:ZF9),r10,Zxa.wrap (s10.2.2+1)))) else K s10.2.1 s10.1)) (a0,a1,0)
theorem Zrb (a0:List ZF9) (a1:Int)  {K:Int→List ZF9→Prop} (h:Zcn a0 a1 K) (w0:World) (qw0:(ZGk (ZMj 55 (Zr 90)) a0 [u0_0] fp0_0).holds w0) :
  Calls ZF7 15 #[u0_0,vI a1] w0 fun e w'=>∃ (r0:Int) (mw:List ZF9),
   e=.returned (vI r0)∧K r0 mw∧(ZGk (ZMj 55 (Zr 90)) mw [u0_0] fp0_0).holds w'∧BelO (fp0_0) w0 w':=by
 unfold Zcn at h
 refine cof Tryz.func15 rfl 20 Tryz.ntmps15 ?_
 have hC:=Ctx.startL w0 (fp0_0) [ZGk (ZMj 55 (Zr 90)) a0 [u0_0] fp0_0] [] (by simp only [Zus,Zwy,or_false,forall_eq_or_imp,forall_eq]; exact qw0) (by simp) (by simp only [Zus,Zwy,or_false,forall_eq_or_imp,forall_eq]; exact fun b hb=>hb) (ZM7 _ _) (by simp)
 refine sr (Zc (v:=vI 0) rfl (dn (ZF5 (sr (Zc (v:=vI 0) rfl (dn (ZGb ?_)))))))
 refine Jj (S:=(List ZF9)×Int×Int) _ (fun s10 e_ w_=>Zy e_ [(0,u0_0),(1,vI s10.2.1),(5,vI s10.2.2)]∧Ctx (fun c_=>c_∈fp0_0) w0 w_ [ZGk (ZMj 55 (Zr 90)) s10.1 [u0_0] fp0_0] []) ?_ (s0:=(a0,a1,0)) ?_ h
 ·clear hC h
  rintro s10 e_ w10 nx10 K10 ⟨hS_,hC⟩ h hK10
  rw [ue hS_]
  refine ZF5 (sr (Zb (v:=vI s10.2.2) rfl (Zb (v:=u0_0) rfl (Zo9 hC 0 rfl ZGt rfl (Zn rfl rfl (dn ?_))))))
  refine Zq rfl (fun hb10=>?_) (fun hb10=>?_)
  ·replace h:=ift h (ct hb10)
   refine ZF8 (Zd (ZF5 (ZGb (Zm (Zb (v:=u0_0) rfl (Zb (v:=vI s10.2.2) rfl ?_))))))
   obtain ⟨⟨h10,h11⟩,h⟩:=h
   obtain ⟨cs10,f10,⟨g10,cap10,hv10,hcell10⟩,hin10,hsub10,hout10⟩:=Zop (hC.getM 0 rfl) s10.2.2.toNat (show s10.2.2.toNat < s10.1.length by omega)
   refine Zaq (s10.2.2.toNat * 1) ZGt ag55.size (tr rfl hv10) rfl h10 h11 rfl (Zx (s10.2.2.toNat * 1+0) Tryz.underlying55 rfl sc53.size rfl rfl ?_)
   obtain ⟨u10,rfl⟩:=ZG3.1 (show cs10.length=1 from((Zr 90)).ty.len (Tr.trep _ hin10.1))
   have hin11:=hin10; rw [Jb _ _ (show s10.2.2.toNat < s10.1.length by omega)] at hin11
   obtain ⟨ho10,hf10⟩:=Zat (show (ZMj 90 ZF6.tr).tree ((s10.1.getD s10.2.2.toNat Zuw).terms) [u10] f10 _ from hin11.1)
   subst hf10
   refine Xb (u10) (Znx (o:=0) (k:=1) hcell10 rfl) sc53 rfl (Zb (v:=vI s10.2.1) rfl (Zf [u10,vI s10.2.1] _ Tryz.func36 rfl rfl rfl (Zp8 ((s10.1.getD s10.2.2.toNat Zuw).terms) s10.2.1 h _ ho10) ?_))
   rintro _ w11 ⟨r10,m10,rfl,h,hm10,hB10⟩
   refine rt ?_
   replace hC:=hC.turn 0 (jt:=ZGk (ZMj 55 (Zr 90)) (s10.1.set s10.2.2.toNat (⟨m10⟩:ZF9)) [u0_0] fp0_0) rfl hB10.os hB10.tape hB10.output hB10.size hB10.drawn (fun c_ hc_ hn_=>hB10.old c_ hc_ (fun h_=>hn_ (hsub10 c_ h_))) (hout10 (⟨m10⟩:ZF9) _ (Zkw hm10) hB10) (fun b_ hb_=>.inl hb_)
   refine Zc (v:=vI r10) rfl (done (Zs (Zd (Zm (Zb (v:=vI s10.2.2) rfl (Zp rfl rfl (Zc (v:=vI (Zxa.wrap (s10.2.2+1))) rfl (done ?_))))))))
   exact hK10 (s10.1.set s10.2.2.toNat (⟨m10⟩:ZF9),r10,Zxa.wrap (s10.2.2+1)) _ _ ⟨(slq rfl),hC⟩ h
  ·replace h:=Zk h (cf hb10)
   refine ZGj (Zl (Zl (Z5 ?_)))
   refine Zd (sr (Zb (v:=vI s10.2.1) rfl (Zc (v:=vI s10.2.1) rfl (dn (ZGd ?_)))))
   exact Zj rfl (Zg rfl) ⟨s10.2.1,s10.1,rfl,h,(hC.getM 0 rfl),hC.belO⟩ (.inl rfl)
 ·skip
  exact⟨(slq rfl),hC⟩
def Zbr (a0:Alg) (a1:Int) (K:Int→Alg→Prop):Prop :=
 Zbq a0.degrees a1 (fun r9 m10=>Zcn a0.images r9 (fun r10 m11=>K r10 (⟨m10,m11⟩:Alg)))
theorem Zlr (a0:Alg) (a1:Int)  {K:Int→Alg→Prop} (h:Zbr a0 a1 K) (w0:World) (qw0:(own 2 1 u0_0 a0.degrees.length (eI.encs a0.degrees)).holds w0) (qw1:(ZGk (ZMj 55 (Zr 90)) a0.images [u0_1] fp0_1).holds w0) (dw0_1:∀ x,x∈(ZG2 (Zvi u0_0))→x∉fp0_1) :
  Calls ZF7 14 #[.agg #[u0_0,u0_1],vI a1] w0 fun e w'=>∃ (r0:Int) (mw:Alg),
   e=.returned (vI r0)∧K r0 mw∧(own 2 1 u0_0 mw.degrees.length (eI.encs mw.degrees)).holds w'∧(ZGk (ZMj 55 (Zr 90)) mw.images [u0_1] fp0_1).holds w'∧BelO ((ZG2 (Zvi u0_0))++fp0_1) w0 w':=by
 unfold Zbr at h
 refine cof Tryz.func14 rfl 14 Tryz.ntmps14 ?_
 have hC:=Ctx.startL w0 ((ZG2 (Zvi u0_0))++fp0_1) [own 2 1 u0_0 a0.degrees.length (eI.encs a0.degrees),ZGk (ZMj 55 (Zr 90)) a0.images [u0_1] fp0_1] [] (by simp only [Zus,Zwy,or_false,forall_eq_or_imp,forall_eq]; exact⟨qw0,qw1⟩) (by simp) (by simp only [Zus,Zwy,or_false,forall_eq_or_imp,forall_eq]; exact⟨fun b hb=>(Zvo _ hb),fun b hb=>(Zvj _ hb)⟩) (List.pairwise_cons.2 ⟨(by simp only [Zus,Zwy,or_false,forall_eq_or_imp,forall_eq]; exact dw0_1),(ZM7 _ _)⟩) (by simp)
 refine sr (Yj (v:=.agg #[u0_0,u0_1]) hC [u0_0,u0_1] rfl rfl fun b3 w5 hB_ hC=>Zc (v:=vI 0) rfl (dn (sr (Zx 0 ZGp rfl sc22.size rfl rfl (Z4 hC 0 (u0_0) rfl sc22 rfl rfl (Zb (v:=vI a1) rfl (Zf [u0_0,vI a1] _ Tryz.func21 rfl rfl rfl (Zlq a0.degrees a1 h _ (hC.getM 1 rfl)) ?_)))))))
 rintro _ w8 ⟨r9,m10,rfl,h,hm10,hB10⟩
 refine rt ?_
 replace hC:=hC.turnL hB10 (M':=[blk b3 32 [u0_0,u0_1],own 2 1 u0_0 m10.length (eI.encs m10),ZGk (ZMj 55 (Zr 90)) a0.images [u0_1] fp0_1]) rfl (fun x_ hx_=>⟨_,mg 1 rfl,hx_⟩) (by simp only [Zus,Zwy,or_false,forall_eq_or_imp,forall_eq]; exact⟨(hC.stay 0 rfl hB10 (fun x_ hq_ hx_=>hC.mm 0 1 rfl rfl (by decide) x_ hq_ hx_)),hm10,(hC.stay 2 rfl hB10 (fun x_ hq_ hx_=>hC.mm 2 1 rfl rfl (by decide) x_ hq_ hx_))⟩)
 refine Zc (v:=vI r9) rfl (dn (sr (Zx 1 ZGp rfl sc28.size rfl rfl (Z4 hC 0 (u0_1) rfl sc28 rfl rfl (Zb (v:=vI r9) rfl (Zf [u0_1,vI r9] _ Tryz.func15 rfl rfl rfl (Zrb a0.images r9 h _ (hC.getM 2 rfl)) ?_))))))
 rintro _ w10 ⟨r10,m11,rfl,h,hm11,hB11⟩
 refine rt ?_
 replace hC:=hC.turnL hB11 (M':=[blk b3 32 [u0_0,u0_1],own 2 1 u0_0 m10.length (eI.encs m10),ZGk (ZMj 55 (Zr 90)) m11 [u0_1] fp0_1]) rfl (fun x_ hx_=>⟨_,mg 2 rfl,hx_⟩) (by simp only [Zus,Zwy,or_false,forall_eq_or_imp,forall_eq]; exact⟨(hC.stay 0 rfl hB11 (fun x_ hq_ hx_=>hC.mm 0 2 rfl rfl (by decide) x_ hq_ hx_)),(hC.stay 1 rfl hB11 (fun x_ hq_ hx_=>hC.mm 1 2 rfl rfl (by decide) x_ hq_ hx_)),hm11⟩)
 refine Zc (v:=vI r10) rfl (dn (sr (Zb (v:=vI r10) rfl (Zc (v:=vI r10) rfl (dn (ZGd ?_))))))
 exact Zj rfl (Zg rfl) ⟨r10,(⟨m10,m11⟩:Alg),rfl,h,(hC.getM 1 rfl),(hC.getM 2 rfl),hC.belO⟩ (.inl rfl)
def Zfk (a0:List Int) (a1:Int) (K:Int→Prop):Prop :=
 Yi (fun i10 (s10:Int) nx10=>(if a0.getD i10 Zuw≠s10 then K (-1) else nx10 (Zxa.wrap (s10+1)))) (fun (s10:Int)=>K s10) a0.length 0 a1
theorem Zrc (a0:List Int) (a1:Int)  {K:Int→Prop} (h:Zfk a0 a1 K) (w0:World) (q0:TInts.rep a0 [u0_0] fp0 w0) :
  Calls ZF7 54 #[u0_0,vI a1] w0 fun e w'=>∃ (r0:Int),
   e=.returned (vI r0)∧K r0∧Bel w0 w':=by
 unfold Zfk at h
 refine cof Tryz.func54 rfl 21 Tryz.ntmps54 ?_
 have hC:=ZGq (X:=Nox) w0 [ZCh TInts a0 [u0_0] fp0] (al1 q0)
 refine sr (Zc (v:=vI 0) rfl (dn (ZF5 (sr (Zc (v:=vI 0) rfl (dn (ZGb ?_)))))))
 have hN10:a0.length≤9223372036854775807:=Y3 (hC.getP 0 rfl)
 refine Yn (S:=Int) _ _ (fun i10 s10 e_ w_=>Zy e_ [(0,u0_0),(1,vI s10),(5,vI (i10:Int))]∧Ctx Nox w0 w_ [] [ZCh TInts a0 [u0_0] fp0]) a0.length ?_ ?_ (s0:=a1) ?_ h
 ·clear hC h
  rintro i10 s10 e_ w10 nx10 K10 hi10 ⟨hS_,hC⟩ h hK10
  rw [ue hS_]
  refine ZF5 (sr (Zb (v:=vI (i10:Int)) rfl (Zb (v:=u0_0) rfl (Zv hC 0 rfl ZGo rfl (Zn rfl rfl (dn (Z8 rfl (decide_eq_true (by omega)) (ZF8 (Zd (ZF5 (ZGb (ZF5 (sr (Zb (v:=u0_0) rfl (Zb (v:=vI (i10:Int)) rfl ?_)))))))))))))))
  obtain ⟨Ad10,c10,hv10⟩:=Zz (hC.getP 0 rfl) i10 hi10
  refine Yq (len:=a0.length) ZGo sc2.size (tr rfl hv10) rfl (ZGm _) (ZG4.2 hi10) (Xb (vI (a0.getD i10 Zuw)) (Yf (hC.getP 0 rfl) hv10 i10 hi10) sc2 rfl (Zb (v:=vI s10) rfl (Y4 rfl rfl (dn ?_))))
  refine Zq rfl (fun hb10=>?_) (fun hb10=>?_)
  ·replace h:=ift h (ct hb10)
   refine sr (Zc (v:=vI (-1)) rfl (dn ?_))
   refine ZGd (Ze (Zw (Ze (Ze (Zw (Ze ?_))))))
   exact Zj rfl (Zg rfl) ⟨(-1),rfl,h,hC.below⟩ (.inl rfl)
  ·replace h:=Zk h (cf hb10)
   refine ZF8 (Zd (Zm (Zb (v:=vI s10) rfl (Zp rfl rfl (Zc (v:=vI (Zxa.wrap (s10+1))) rfl (done (Zs (Zd (Zm (Zb (v:=vI (i10:Int)) rfl (Zp rfl rfl (Zc (v:=vI (Zxa.wrap ((i10:Int)+1))) rfl (done ?_)))))))))))))
   exact hK10 (Zxa.wrap (s10+1)) _ _ ⟨(sl ⟨rfl,rfl,(tr rfl (congrArg _ (Z6 hi10 hN10))),trivial⟩),hC⟩ h
 ·clear hC h
  rintro s10 e_ w11 K10 ⟨hS_,hC⟩ h
  rw [ue hS_]
  refine ZF5 (sr (Zb (v:=vI (a0.length:Int)) rfl (Zb (v:=u0_0) rfl (Zv hC 0 rfl ZGo rfl (Zn rfl rfl (dn (Z9 rfl (decide_eq_false (by omega)) ?_)))))))
  refine ZGj (Zl (Zl (Z5 ?_)))
  refine Zd (sr (Zb (v:=vI s10) rfl (Zc (v:=vI s10) rfl (dn (ZGd ?_)))))
  exact Zj rfl (Zg rfl) ⟨s10,rfl,h,hC.below⟩ (.inl rfl)
 ·skip
  exact⟨(slq rfl),hC⟩
def Zfl (a0:List ZF9) (a1:Int) (K:Int→Prop):Prop :=
 Yi (fun i10 (s10:Int) nx10=>Ze6 ((a0.getD i10 Zuw).terms) s10 (fun r10=>(if r10 < 0 then K (-1) else nx10 r10))) (fun (s10:Int)=>K s10) a0.length 0 a1
theorem Zrd (a0:List ZF9) (a1:Int)  {K:Int→Prop} (h:Zfl a0 a1 K) (w0:World) (q0:ZGr.sl.rep a0 [u0_0] fp0 w0) :
  Calls ZF7 16 #[u0_0,vI a1] w0 fun e w'=>∃ (r0:Int),
   e=.returned (vI r0)∧K r0∧Bel w0 w':=by
 unfold Zfl at h
 refine cof Tryz.func16 rfl 22 Tryz.ntmps16 ?_
 have hC:=ZGq (X:=Nox) w0 [ZCh ZGr.sl a0 [u0_0] fp0] (al1 q0)
 refine sr (Zc (v:=vI 0) rfl (dn (ZF5 (sr (Zc (v:=vI 0) rfl (dn (ZGb ?_)))))))
 have hN10:a0.length≤9223372036854775807:=Y3 (hC.getP 0 rfl)
 refine Yn (S:=Int) _ _ (fun i10 s10 e_ w_=>Zy e_ [(0,u0_0),(1,vI s10),(5,vI (i10:Int))]∧Ctx Nox w0 w_ [] [ZCh ZGr.sl a0 [u0_0] fp0]) a0.length ?_ ?_ (s0:=a1) ?_ h
 ·clear hC h
  rintro i10 s10 e_ w10 nx10 K10 hi10 ⟨hS_,hC⟩ h hK10
  rw [ue hS_]
  refine ZF5 (sr (Zb (v:=vI (i10:Int)) rfl (Zb (v:=u0_0) rfl (Zv hC 0 rfl ZGt rfl (Zn rfl rfl (dn (Z8 rfl (decide_eq_true (by omega)) (ZF8 (Zd (ZF5 (ZGb (sr (Zb (v:=u0_0) rfl (Zb (v:=vI (i10:Int)) rfl ?_))))))))))))))
  obtain ⟨Ad10,c10,hv10⟩:=Zz (hC.getP 0 rfl) i10 hi10
  refine Yq (len:=a0.length) ZGt ag55.size (tr rfl hv10) rfl (ZGm _) (ZG4.2 hi10) (Zao (i10 * 1+0) Tryz.underlying55 rfl sc53.size rfl rfl ?_)
  obtain ⟨cs_,hl10,hc10,hr10⟩:=Jg (hC.getP 0 rfl) hv10 i10 hi10
  obtain ⟨u10,rfl⟩:=ZG3.1 hl10
  clear hl10
  rw [Jb _ _ hi10] at hr10
  have hp10:=hr10
  replace hC:=hC.derive 0 rfl (ZCh ZF6.ty.sl ((a0.getD i10 Zuw).terms) [u10] fp0) (fun _=>(Yx hp10)) (fun _ hb_=>hb_)
  refine Xb (u10) (Xp (o:=0) (k:=1) hc10 rfl) sc53 rfl (Zb (v:=vI s10) rfl (Zf [u10,vI s10] _ Tryz.func37 rfl rfl rfl (Zp9 ((a0.getD i10 Zuw).terms) s10 h _ (hC.getP 0 rfl)) ?_))
  rintro _ w11 ⟨r10,rfl,h,hB10⟩
  refine rt ?_
  replace hC:=hC.grow hB10
  refine Zc (v:=vI r10) rfl (dn (sr (Zb (v:=vI r10) rfl (Zn rfl rfl (dn ?_)))))
  refine Zq rfl (fun hb10=>?_) (fun hb10=>?_)
  ·replace h:=ift h (ct hb10)
   refine sr (Zc (v:=vI (-1)) rfl (dn ?_))
   refine ZGd (Zw (Ze (Ze (Zw (Ze ?_)))))
   exact Zj rfl (Zg rfl) ⟨(-1),rfl,h,hC.below⟩ (.inl rfl)
  ·replace h:=Zk h (cf hb10)
   refine ZF8 (Zs (Zd (Zm (Zb (v:=vI (i10:Int)) rfl (Zp rfl rfl (Zc (v:=vI (Zxa.wrap ((i10:Int)+1))) rfl (done ?_)))))))
   exact hK10 r10 _ _ ⟨(sl ⟨rfl,rfl,(tr rfl (congrArg _ (Z6 hi10 hN10))),trivial⟩),(hC.sP [1] rfl)⟩ h
 ·clear hC h
  rintro s10 e_ w12 K10 ⟨hS_,hC⟩ h
  rw [ue hS_]
  refine ZF5 (sr (Zb (v:=vI (a0.length:Int)) rfl (Zb (v:=u0_0) rfl (Zv hC 0 rfl ZGt rfl (Zn rfl rfl (dn (Z9 rfl (decide_eq_false (by omega)) ?_)))))))
  refine ZGj (Zl (Zl (Z5 ?_)))
  refine Zd (sr (Zb (v:=vI s10) rfl (Zc (v:=vI s10) rfl (dn (ZGd ?_)))))
  exact Zj rfl (Zg rfl) ⟨s10,rfl,h,hC.below⟩ (.inl rfl)
 ·skip
  exact⟨(slq rfl),hC⟩
def Zdn (a0:Alg) (a1:Int) (K:Int→Prop):Prop :=
 Zfk a0.degrees a1 (fun r10=>(if r10 < 0 then K (-1) else Zfl a0.images r10 (fun r11=>(if r11 < 0 then K (-1) else K r11))))
theorem Zls (a0:Alg) (a1:Int)  {K:Int→Prop} (h:Zdn a0 a1 K) (w0:World) (q0:TAlg.rep a0 [u0_0,u0_1] fp0 w0) :
  Calls ZF7 24 #[.agg #[u0_0,u0_1],vI a1] w0 fun e w'=>∃ (r0:Int),
   e=.returned (vI r0)∧K r0∧Bel w0 w':=by
 unfold Zdn at h
 refine cof Tryz.func24 rfl 18 Tryz.ntmps24 ?_
 have hC:=ZGq (X:=Nox) w0 [ZCh TAlg a0 [u0_0,u0_1] fp0] (al1 q0)
 replace hC:=hC.dAlg 0 rfl
 refine sr (Yj (v:=.agg #[u0_0,u0_1]) hC [u0_0,u0_1] rfl rfl fun b4 w6 hB_ hC=>Zc (v:=vI 0) rfl (dn (sr (Zx 0 ZGp rfl sc22.size rfl rfl (Z4 hC 0 (u0_0) rfl sc22 rfl rfl (Zb (v:=vI a1) rfl (Zf [u0_0,vI a1] _ Tryz.func54 rfl rfl rfl (Zrc a0.degrees a1 h _ (hC.getP 1 rfl)) ?_)))))))
 rintro _ w9 ⟨r10,rfl,h,hB10⟩
 refine rt ?_
 replace hC:=hC.grow hB10
 refine Zc (v:=vI r10) rfl (dn (ZF5 (sr (Zb (v:=vI r10) rfl (Zn rfl rfl (dn ?_))))))
 refine Zq rfl (fun hb10=>?_) (fun hb10=>?_)
 ·replace h:=ift h (ct hb10)
  refine sr (Zc (v:=vI (-1)) rfl (dn ?_))
  refine ZGd (Ze ?_)
  exact Zj rfl (Zg rfl) ⟨(-1),rfl,h,hC.below⟩ (.inl rfl)
 ·replace h:=Zk h (cf hb10)
  refine ZF8 (Zd (sr (Zx 1 ZGp rfl sc28.size rfl rfl (Z4 hC 0 (u0_1) rfl sc28 rfl rfl (Zb (v:=vI r10) rfl (Zf [u0_1,vI r10] _ Tryz.func16 rfl rfl rfl (Zrd a0.images r10 h _ (hC.getP 0 rfl)) ?_))))))
  rintro _ w10 ⟨r11,rfl,h,hB11⟩
  refine rt ?_
  replace hC:=hC.grow hB11
  refine Zc (v:=vI r11) rfl (dn (ZF5 (sr (Zb (v:=vI r11) rfl (Zn rfl rfl (dn ?_))))))
  refine Zq rfl (fun hb11=>?_) (fun hb11=>?_)
  ·replace h:=ift h (ct hb11)
   refine sr (Zc (v:=vI (-1)) rfl (dn ?_))
   refine ZGd (Ze ?_)
   exact Zj rfl (Zg rfl) ⟨(-1),rfl,h,hC.below⟩ (.inl rfl)
  ·replace h:=Zk h (cf hb11)
   refine ZF8 (Zd (sr (Zb (v:=vI r11) rfl (Zc (v:=vI r11) rfl (dn (ZGd ?_))))))
   exact Zj rfl (Zg rfl) ⟨r11,rfl,h,hC.below⟩ (.inl rfl)
end Go.Proofs.YtheenipahifleaaGreat
namespace Go.Proofs.YtheenipahifleaaGreat
open Go Vc
theorem Zi6 {a b:A8} {K:Bool→Prop} (h:K (decide (pcmp a b < 0))):Zcc a b K:=by
  simp only [Zcc,Yi,A8.get]
  simp only [pcmp,A8.list,Xr] at h
  have e:∀ x y:Int,decide (x - y < 0)=decide (x < y):=fun x y=>decide_eq_decide.2 (by omega)
  repeat' split
  all_goals (simp_all)
theorem Zbb {x:Int} {K:Int→Prop} (h:K (x % 10007)):Xz x K:=by
  unfold Xz
  have:=Zfb x
  rw [i64_in _ (by omega),Zli]
  exact h
theorem Zlt {x:Int} {K:Int→Prop} (h:K (x % 10007)):Zbl x K:=by
  unfold Zbl
  have:=Zfb x
  rw [i64_in _ (by omega),Zli]
  exact h
theorem Zhb {a b:Int} (ha:0≤a∧a≤10006) (hb:0≤b∧b≤10006):0≤a * b∧a * b≤100120036 :=
  ⟨ZMz ha.1 hb.1,by have:=ZM8 ha.2 hb.2 hb.1 (by omega:(0:Int)≤10006); omega⟩
theorem Zi7 {S:Type} {c:Prop} [Decidable c] {A B:(S→Prop)→Prop} {T:S→Prop} (h:c) (k:A T):joinP (fun J=>if c then A J else B J) T:=by show if c then A T else B T; rw [if_pos h]; exact k
theorem Zhc {S:Type} {c:Prop} [Decidable c] {A B:(S→Prop)→Prop} {T:S→Prop} (h:¬ c) (k:B T):joinP (fun J=>if c then A J else B J) T:=by show if c then A T else B T; rw [if_neg h]; exact k
theorem Zdo {A B:Prop} (h:A):if true=true then A else B:=by simpa using h
theorem Zhd {A B:Prop} (h:B):if false=true then A else B:=by simpa using h
theorem Jd {c:Prop} [Decidable c] {A B:Prop} (h:c) (k:A):if c then A else B:=by rw [if_pos h]; exact k
theorem Jn {c:Prop} [Decidable c] {A B:Prop} (h:¬ c) (k:B):if c then A else B:=by rw [if_neg h]; exact k
theorem Zhe {f g : List Term} {k : Int} {K : ZF9 → Prop} (cf : Canon f) (cg : Canon g) (hk : 0 ≤ k ∧ k ≤ 10006) (hf : f.length ≤ 100000000) (hg : g.length ≤ 100000000) (h : ∀ out, IsAdd f g k out → K ⟨out⟩) : J2 ⟨f⟩ ⟨g⟩ k K := by
  unfold J2
  dsimp only
  refine X4 (fun (s:List Term×Int×Int)=>0≤s.2.1∧0≤s.2.2∧AddI f g k s.1 s.2.1.toNat s.2.2.toNat) (fun s=>(f.length - s.2.1.toNat)+(g.length - s.2.2.toNat)) ?_ ⟨ZMp _,ZMp _,AddI.zero f g k⟩
  rintro ⟨out,i,j⟩ next ⟨h1,h2,hI⟩ hn
  have hi:=hI.hi
  have hj:=hI.hj
  have hln:=hI.ln
  have hR:Xd (out.length+1) 16:=by unfold Xd; dsimp only at hln hi hj ⊢; omega
  dsimp only at h1 h2 hI hi hj hR hn ⊢
  have ni:(i+1).toNat=i.toNat+1:=by omega
  have nj:(j+1).toNat=j.toNat+1:=by omega
  have wi:Zxa.wrap (i+1)=i+1:=i64_in _ (by omega)
  have wj:Zxa.wrap (j+1)=j+1:=i64_in _ (by omega)
  rw [wi,wj]
  have goF:i.toNat < f.length→(j.toNat < g.length→pcmp (f.getD i.toNat Zuw).mono (g.getD j.toNat Zuw).mono < 0)→next (out++[f.getD i.toNat Zuw],i+1,j):=fun a b =>
    hn _ ⟨by dsimp only; omega,by dsimp only; omega,by dsimp only; rw [ni]; exact hI.stepF cf cg a b⟩ (by dsimp only; omega)
  have bg:j.toNat < g.length→1≤(g.getD j.toNat Zuw).factor∧(g.getD j.toNat Zuw).factor≤10006:=fun a=>cg.at_range a
  have bf:i.toNat < f.length→1≤(f.getD i.toNat Zuw).factor∧(f.getD i.toNat Zuw).factor≤10006:=fun a=>cf.at_range a
  have wk:j.toNat < g.length→Zxa.wrap (k * (g.getD j.toNat Zuw).factor)=k * (g.getD j.toNat Zuw).factor:=fun a=>by
    have:=bg a
    have:=Zhb hk (show 0≤(g.getD j.toNat Zuw).factor∧(g.getD j.toNat Zuw).factor≤10006 by omega)
    exact i64_in _ (by omega)
  have goG:j.toNat < g.length→(i.toNat < f.length→pcmp (g.getD j.toNat Zuw).mono (f.getD i.toNat Zuw).mono < 0) →
      Xz (Zxa.wrap (k * ((g.getD j.toNat Zuw).factor))) (fun r=>(if r≠0 then((0≤j∧j < (g.length:Int))∧(Xd (out.length+1) 16∧next (out++[(⟨(g.getD j.toNat Zuw).mono,r⟩:Term)],i,j+1))) else next (out,i,j+1))):=by
    intro a b
    refine Zbb ?_
    rw [wk a]
    split
    · rename_i q
      exact⟨by omega,hR,hn _ ⟨by dsimp only; omega,by dsimp only; omega,by dsimp only; rw [nj]; exact hI.stepG1 cf cg a b rfl q⟩ (by dsimp only; omega)⟩
    · rename_i q
      exact hn _ ⟨by dsimp only; omega,by dsimp only; omega,by dsimp only; rw [nj]; exact hI.stepG0 cf cg a (by omega)⟩ (by dsimp only; omega)
  have goB:i.toNat < f.length→j.toNat < g.length→(f.getD i.toNat Zuw).mono=(g.getD j.toNat Zuw).mono →
      ((0≤i∧i < (f.length:Int))∧((0≤j∧j < (g.length:Int))∧Xz (Zxa.wrap (k * ((g.getD j.toNat Zuw).factor))) (fun r753=>Xz (Zxa.wrap (((f.getD i.toNat Zuw).factor)+r753)) (fun r758=>(if r758≠0 then((0≤i∧i < (f.length:Int))∧(Xd (out.length+1) 16∧next (out++[(⟨(f.getD i.toNat Zuw).mono,r758⟩:Term)],i+1,j+1))) else next (out,i+1,j+1)))))):=by
    intro a b e
    refine⟨by omega,by omega,Zbb ?_⟩
    rw [wk b]
    have:=bf a
    rw [i64_in _ (by omega)]
    refine Zbb ?_
    rw [show ((f.getD i.toNat Zuw).factor+k * (g.getD j.toNat Zuw).factor % 10007) % 10007=((f.getD i.toNat Zuw).factor+k * (g.getD j.toNat Zuw).factor) % 10007 by omega]
    split
    · rename_i q
      exact⟨by omega,hR,hn _ ⟨by dsimp only; omega,by dsimp only; omega,by dsimp only; rw [ni,nj]; exact hI.stepB1 cf cg a b e rfl q⟩ (by dsimp only; omega)⟩
    · rename_i q
      exact hn _ ⟨by dsimp only; omega,by dsimp only; omega,by dsimp only; rw [ni,nj]; exact hI.stepB0 cf cg a b e (by omega)⟩ (by dsimp only; omega)
  by_cases hif:i < (f.length:Int)
  · refine Zi7 hif (Zdo ?_)
    by_cases hjg:j=(g.length:Int)
    · exact Zi7 hjg (Zdo ⟨by omega,hR,goF (by omega) (fun q=>by omega)⟩)
    · refine Zhc hjg (Jd hif ⟨by omega,by omega,Zi6 ?_⟩)
      by_cases hp:pcmp (f.getD i.toNat Zuw).mono (g.getD j.toNat Zuw).mono < 0
      · rw [decide_eq_true hp]
        exact Zdo ⟨by omega,hR,goF (by omega) (fun _=>hp)⟩
      · rw [decide_eq_false hp]
        refine Zhd (Zhc (by omega) ⟨by omega,by omega,Zi6 ?_⟩)
        by_cases hq:pcmp (g.getD j.toNat Zuw).mono (f.getD i.toNat Zuw).mono < 0
        · rw [decide_eq_true hq]
          exact Zdo ⟨by omega,goG (by omega) (fun _=>hq)⟩
        · rw [decide_eq_false hq]
          exact Zhd (goB (by omega) (by omega) (Zg1 hp hq))
  · refine Zhc hif ?_
    by_cases hjg:j < (g.length:Int)
    · rw [decide_eq_true hjg]
      refine Zdo (Zhc (by omega) (Jn hif (Zhd (Zi7 (by omega) (Zdo ⟨by omega,goG (by omega) (fun q=>by omega)⟩)))))
    · rw [decide_eq_false hjg]
      exact Zhd (h _ (hI.done (by omega) (by omega)))
def OkForm (ds:List Int) (l:List Term):Prop:=l.length≤400∧∀ i,i < l.length→OkMono ds (l.getD i Zuw).mono∧(1≤(l.getD i Zuw).factor∧(l.getD i Zuw).factor≤10006)∧(0 < i→pcmp (l.getD (i - 1) Zuw).mono (l.getD i Zuw).mono < 0)
instance (ds:List Int) (l:List Term):Decidable (OkForm ds l):=inferInstanceAs (Decidable (_∧∀ i,i < l.length→_))
theorem OkForm.canon {ds:List Int} {l:List Term} (h:OkForm ds l):Canon l:=by
  have step:∀ n i,i+n+1 < l.length→pcmp (l.getD i Zuw).mono (l.getD (i+n+1) Zuw).mono < 0:=by
    intro n
    induction n with
    | zero=>intro i hi; have:=(h.2 (i+1) (by omega)).2.2 (by omega); simpa using this
    | succ n ih =>
      intro i hi
      have h1:=ih i (by omega)
      have h2:=(h.2 (i+(n+1)+1) (by omega)).2.2 (by omega)
      rw [show i+(n+1)+1 - 1=i+n+1 by omega] at h2
      exact Zah h1 h2
  refine⟨Zuz.2 fun i j hi hj hij=>?_,fun t ht=>?_⟩
  · have:=step (j - i - 1) i (by omega)
    rw [show i+(j - i - 1)+1=j by omega] at this
    simpa [Zu3,hi,hj] using this
  · obtain ⟨i,hi,rfl⟩:=Zvb ht
    have:=(h.2 i hi).2.1
    simpa [Zu3,hi] using this
theorem OkForm.mono {ds:List Int} {l:List Term} (h:OkForm ds l) {t:Term} (ht:t∈l):OkMono ds t.mono:=by
  obtain ⟨i,hi,rfl⟩:=Zvb ht
  have:=(h.2 i hi).1
  simpa [Zu3,hi] using this
def Zdp (l:List Term):Prop:=∀ t,t∈l→∀ i,i < 8→0≤t.mono.get i∧t.mono.get i≤255
theorem Zlu {ds : List Int} {l : List Term} {K : Bool → Prop} (hd : ds.length ≤ 8) (hp : Zdp l) (hl : l.length ≤ 100000000) (h : K (decide (OkForm ds l))) : Zdg ds ⟨l⟩ K := by
  unfold Zdg
  dsimp only
  refine X4 (fun (s:Int)=>0≤s∧s≤l.length∧∀ i,i < s.toNat→OkMono ds (l.getD i Zuw).mono∧(1≤(l.getD i Zuw).factor∧(l.getD i Zuw).factor≤10006)∧(0 < i→pcmp (l.getD (i - 1) Zuw).mono (l.getD i Zuw).mono < 0)) (fun s=>l.length - s.toNat) ?_ ⟨by omega,by omega,fun i hi=>by omega⟩
  rintro i next ⟨h1,h2,h3⟩ hn
  have bad:(i.toNat < l.length)→¬ (OkMono ds (l.getD i.toNat Zuw).mono∧(1≤(l.getD i.toNat Zuw).factor∧(l.getD i.toNat Zuw).factor≤10006)∧(0 < i.toNat→pcmp (l.getD (i.toNat - 1) Zuw).mono (l.getD i.toNat Zuw).mono < 0))→K false:=by
    intro a b
    have:¬ OkForm ds l:=fun q=>b (q.2 _ a)
    rwa [decide_eq_false this] at h
  split
  · rename_i hi
    have a:i.toNat < l.length:=by omega
    refine⟨by omega,Zqb (fun q hq=>(hp _ (X1 a) q hq).1) hd ?_⟩
    split
    · rename_i q
      exact bad a fun z=>q (decide_eq_true z.1)
    · rename_i q1
      have q1:OkMono ds (l.getD i.toNat Zuw).mono:=by simpa using q1
      refine Zi1 ?_
      split
      · rename_i q
        exact bad a fun z=>q (decide_eq_true z.2.1)
      · rename_i q2
        have q2:1≤(l.getD i.toNat Zuw).factor∧(l.getD i.toNat Zuw).factor≤10006:=by simpa using q2
        have w1:Zxa.wrap (i+1)=i+1:=i64_in _ (by omega)
        rw [w1]
        have ok:(0 < i.toNat→pcmp (l.getD (i.toNat - 1) Zuw).mono (l.getD i.toNat Zuw).mono < 0)→next (i+1):=fun q3=>by
          refine hn _ ⟨by omega,by omega,fun j hj=>?_⟩ (by omega)
          by_cases hji:j=i.toNat
          · subst hji; exact⟨q1,q2,q3⟩
          · exact h3 j (by omega)
        split
        · have w2:Zxa.wrap (i - 1)=i - 1:=i64_in _ (by omega)
          rw [w2,show (i - 1).toNat=i.toNat - 1 by omega]
          refine⟨by omega,Zi6 ?_⟩
          split
          · rename_i q
            exact bad a fun z=>q (decide_eq_true (z.2.2 (by omega)))
          · rename_i q
            exact ok fun _=>by simpa using q
        · exact ok fun q=>by omega
  · rename_i hi
    have:OkForm ds l↔(l.length:Int)≤400:=⟨fun q=>by have:=q.1; omega,fun q=>⟨by omega,fun i hi'=>h3 i (by omega)⟩⟩
    rw [decide_eq_decide.2 this] at h
    exact h
theorem Zi8 {s a b:Int} (hs:s=1∨s=-1) (ha:1≤a∧a≤10006) (hb:1≤b∧b≤10006):Zxa.wrap (Zxa.wrap (s * a) * b)=s * (a * b):=by
  have:=Zhb (show 0≤a∧a≤10006 by omega) (show 0≤b∧b≤10006 by omega)
  rcases hs with rfl | rfl
  · rw [i64_in (1 * a) (by omega),ZM9,i64_in _ (by omega)]
  · rw [i64_in (-1 * a) (by omega),ZM9,i64_in _ (by omega)]
theorem Zlv {ds:List Int} {t:Term} {g:List Term} {K:ZF9→Prop} (hd:OkDeg ds) (ht:Xv ds t.mono) (htf:1≤t.factor∧t.factor≤10006) (pt:∀ i,i < 8→0≤t.mono.get i) (cg:Canon g) (wg:∀ u,u∈g→Xv ds u.mono) (pg:Zdp g) (hl:g.length≤100000000)
    (h:∀ out,IsShift ds t g out→K ⟨out⟩):Zej ds t ⟨g⟩ K:=by
  unfold Zej
  dsimp only
  refine X4 (fun (s:List Term×Int)=>0≤s.2∧s.2≤g.length∧IsShift ds t (g.take s.2.toNat) s.1) (fun s=>g.length - s.2.toNat) ?_ ⟨by omega,by omega,by simpa using IsShift.nil ds t⟩
  rintro ⟨out,i⟩ next ⟨h1,h2,hI⟩ hn
  dsimp only at h1 h2 hI hn ⊢
  split
  · rename_i hi
    have a:i.toNat < g.length:=by omega
    have hu:=X1 a
    have ni:(i+1).toNat=i.toNat+1:=by omega
    have wi:Zxa.wrap (i+1)=i+1:=i64_in _ (by omega)
    rw [wi]
    have hct:Canon (g.take i.toNat++[g.getD i.toNat Zuw]):=by
      rw [← Jy a]
      exact⟨cg.1.sublist (List.take_sublist _ _),fun s hs=>cg.2 s (ZNa hs)⟩
    refine⟨by omega,Zqh hd ht (wg _ hu) pt (fun q hq=>(pg _ hu q hq).1) ?_⟩
    split
    · rename_i hs
      have hf:=cg.at_range a
      have hln:=hI.ln
      simp only [Zxh] at hln
      refine⟨by omega,Zbb ?_⟩
      rw [Zi8 (Zfc hs).2.2 htf hf]
      refine⟨by unfold Xd; omega,hn _ ⟨by dsimp only; omega,by dsimp only; omega,?_⟩ (by dsimp only; omega)⟩
      dsimp only
      rw [ni,Jy a]
      exact hI.put hct htf hs rfl
    · rename_i hs
      refine hn _ ⟨by dsimp only; omega,by dsimp only; omega,?_⟩ (by dsimp only; omega)
      dsimp only
      rw [ni,Jy a]
      exact hI.skip (by simpa using hs)
  · rename_i hi
    rw [Zwh (by omega)] at hI
    exact h _ hI
theorem Zlw {ds:List Int} {f g:List Term} {K:ZF9→Prop} (hd:OkDeg ds) (cf:Canon f) (wf:∀ u,u∈f→Xv ds u.mono) (pf:Zdp f) (cg:Canon g) (wg:∀ u,u∈g→Xv ds u.mono) (pg:Zdp g) (hf:f.length≤10000) (hg:g.length≤10000)
    (h:∀ out,IsProd ds f g out→K ⟨out⟩):Xx ds ⟨f⟩ ⟨g⟩ K:=by
  unfold Xx
  dsimp only
  refine X4 (fun (s:List Term×Int)=>0≤s.2∧s.2≤f.length∧IsProd ds (f.take s.2.toNat) g s.1) (fun s=>f.length - s.2.toNat) ?_ ⟨by omega,by omega,by simpa using IsProd.nil ds g⟩
  rintro ⟨out,i⟩ next ⟨h1,h2,hI⟩ hn
  dsimp only at h1 h2 hI hn ⊢
  split
  · rename_i hi
    have a:i.toNat < f.length:=by omega
    have hu:=X1 a
    have ni:(i+1).toNat=i.toNat+1:=by omega
    have wi:Zxa.wrap (i+1)=i+1:=i64_in _ (by omega)
    rw [wi]
    refine⟨by omega,Zlv hd (wf _ hu) (cf.at_range a) (fun q hq=>(pf _ hu q hq).1) cg wg pg (by omega) fun sh hsh=>?_⟩
    have hln:=hI.ln
    have hls:=hsh.ln
    have:(f.take i.toNat).length * g.length≤10000 * 10000:=Nat.mul_le_mul (by rw [Zxh]; omega) hg
    refine Zhe hI.can hsh.can (by omega) (by omega) (by omega) fun out' ho=>?_
    refine hn _ ⟨by dsimp only; omega,by dsimp only; omega,?_⟩ (by dsimp only; omega)
    dsimp only
    rw [ni,Jy a]
    exact hI.step hsh ho
  · rename_i hi
    rw [Zwh (by omega)] at hI
    exact h _ hI
end Go.Proofs.YtheenipahifleaaGreat
namespace Go.Proofs.YtheenipahifleaaGreat
open Go Vc
theorem Zre {a b:A8} {K:Int→Prop} (ha:OkP a) (hb:OkP b) (h:K (pcmp a b)):Zgs a b K:=Zkq ha hb h
def FitT (l:List Term):Prop:=∀ t,t∈l→J1 .u8 t.mono
theorem FitT.pos {l:List Term} (h:FitT l):Zdp l:=fun t ht i hi=>Zim (Zin (h t ht) hi)
theorem Zlx {a:A8} (h:J1 .u8 a):OkP a:=fun x hx=>by
  obtain ⟨i,hi,rfl⟩:=A8.mem_list.1 hx
  have:=Zim (Zin h hi)
  omega
theorem Zrf {x:Int} {K:Bool→Prop} (h:K (decide (1≤x∧x≤10006))):Zgw x K:=Zi2 h
theorem Zrg {ds : List Int} {l : List Term} {K : Bool → Prop} (hd : OkDeg ds) (hp : FitT l) (h : K (decide (OkForm ds l))) : Zdi ds ⟨l⟩ K := by
  unfold Zdi
  dsimp only
  split
  · rename_i q
    have:¬ OkForm ds l:=fun z=>by have:=z.1; omega
    rwa [decide_eq_false this] at h
  · rename_i q0
    refine Ys (fun i _=>∀ j,j < i→OkMono ds (l.getD j Zuw).mono∧(1≤(l.getD j Zuw).factor∧(l.getD j Zuw).factor≤10006)∧(0 < j→pcmp (l.getD (j - 1) Zuw).mono (l.getD j Zuw).mono < 0)) l.length ?_ ?_ _ _ _ (by omega) (by intro j hj; omega)
    · intro i s next hi hI hn
      have bad:¬ (OkMono ds (l.getD i Zuw).mono∧(1≤(l.getD i Zuw).factor∧(l.getD i Zuw).factor≤10006)∧(0 < i→pcmp (l.getD (i - 1) Zuw).mono (l.getD i Zuw).mono < 0))→K false:=by
        intro b
        have:¬ OkForm ds l:=fun q=>b (q.2 _ hi)
        rwa [decide_eq_false this] at h
      refine Zqc hd (fun q hq=>(hp.pos _ (X1 hi) q hq).1) ?_
      split
      · rename_i q
        exact bad fun z=>q (decide_eq_true z.1)
      · rename_i q1
        have q1:OkMono ds (l.getD i Zuw).mono:=of_decide_eq_true (ZJw.1 q1)
        refine Zrf ?_
        split
        · rename_i q
          exact bad fun z=>q (decide_eq_true z.2.1)
        · rename_i q2
          have q2:1≤(l.getD i Zuw).factor∧(l.getD i Zuw).factor≤10006:=of_decide_eq_true (ZJw.1 q2)
          have ok:(0 < i→pcmp (l.getD (i - 1) Zuw).mono (l.getD i Zuw).mono < 0)→next ():=fun q3=>by
            refine hn _ fun j hj=>?_
            by_cases hji:j=i
            · subst hji; exact⟨q1,q2,q3⟩
            · exact hI j (by omega)
          split
          · have w2:Zxa.wrap ((i:Int) - 1)=(i:Int) - 1:=i64_in _ (by omega)
            rw [w2,show ((i:Int) - 1).toNat=i - 1 by omega]
            have f1:=hp _ (X1 (show i - 1 < l.length by omega))
            have f2:=hp _ (X1 hi)
            refine⟨by omega,Zgz f1 (Zgz f2 (Zre (Zlx f1) (Zlx f2) ?_))⟩
            split
            · rename_i q
              exact bad fun z=>by have:=z.2.2 (by omega); omega
            · rename_i q
              exact ok fun _=>by omega
          · exact ok fun q=>by omega
    · intro s hI
      have:OkForm ds l:=⟨by omega,hI⟩
      rwa [decide_eq_true this] at h
structure IsMap (l:List Term) (m:List (A8×Int)):Prop where
  ok:MapOk m
  cf:∀ x,co m x=coT l x
  ks:∀ p,p∈m→∃ t,t∈l∧t.mono=p.1
theorem Zi9 {l : List Term} {K : List (A8 × Int) → Prop} (hc : Canon l) (hp : FitT l) (h : ∀ m, IsMap l m → K m) : Zcd ⟨l⟩ K := by
  unfold Zcd
  dsimp only
  refine Ys (fun i (s:List (A8×Int))=>IsMap (l.take i) s) l.length ?_ ?_ _ _ _ (by omega) ⟨MapOk.nil,by intro x; rfl,by simp⟩
  · intro i s next hi hI hn
    refine Zgz (hp _ (X1 hi)) (hn _ ?_)
    rw [Jy hi]
    have hnew:co s (l.getD i Zuw).mono=0:=by
      rw [hI.cf]
      refine Zfa fun t ht=>?_
      obtain ⟨j,hj,rfl⟩:=Zvb ht
      rw [Zxh] at hj
      have:=hc.at_lt (show j < i by omega) hi
      have hjl:j < l.length:=by omega
      simp only [List.getElem_take]
      rw [show l.getD j Zuw=l[j] by simp [Zu3,hjl]] at this
      exact Ze8 this
    refine⟨hI.ok.put (hc.at_range hi),fun x=>?_,fun p hpm=>?_⟩
    · rw [Zlm hI.ok.1,Za9,← hI.cf]
      by_cases hx:x=(l.getD i Zuw).mono
      · subst hx; rw [if_pos rfl,if_pos rfl,hnew,ZIw]
      · rw [if_neg hx,if_neg (fun e=>hx e.symm),ZMm]
    · rcases Zi5 hpm with rfl | q
      · exact⟨_,by simp,rfl⟩
      · obtain ⟨t,ht,e⟩:=hI.ks p q
        exact⟨t,by simp [ht],e⟩
  · intro s hI
    rw [List.take_length] at hI
    exact h _ hI
theorem Zly {l:List (A8×Int)} {x:A8} {c:Int} {K:List (A8×Int)→Prop} (hl:MapOk l) (hc:-100000000000≤c∧c≤100000000000) (h:∀ l',IsPut l x c l'→K l'):Zdh l x c K:=by
  unfold Zdh
  rw [Zdk hl.1]
  have:=hl.range x
  rw [i64_in _ (by omega)]
  refine Zlt ?_
  split
  · rename_i q; exact h _ (IsPut.put hl rfl q)
  · rename_i q; exact h _ (IsPut.del hl (by omega))
structure IsSum (s t:List (A8×Int)) (k:Int) (out:List (A8×Int)):Prop where
  ok:MapOk out
  cf:∀ m,co out m % 10007=(co s m+k * co t m) % 10007
  ks:∀ p,p∈out→∃ q,(q∈s∨q∈t)∧q.1=p.1
  ln:out.length≤s.length+t.length
theorem Zlz {s t : List (A8 × Int)} {k : Int} {K : List (A8 × Int) → Prop} (hs : MapOk s) (ht : MapOk t) (hk : 0 ≤ k ∧ k ≤ 10006) (h : ∀ out, IsSum s t k out → K out) : Zbn s t k K := by
  unfold Zbn
  refine Zc9 (fun l' (out:List (A8×Int))=>(∀ p,p∈l'→p∈t)∧MapOk out∧(∀ m,(co out m+k * co l' m) % 10007=(co s m+k * co t m) % 10007)∧(∀ p,p∈out→∃ q,(q∈s∨q∈t)∧q.1=p.1)∧out.length+l'.length≤s.length+t.length) ?_ ?_ t s ⟨fun _ h=>h,hs,fun _=>rfl,fun p hp=>⟨p,.inl hp,rfl⟩,by omega⟩
  · intro l' p l'' out next hp ⟨h0,h1,h2,h3,h4⟩ hn
    have hperm:=Zda hp
    have hpm:p∈l':=hperm.mem_iff.2 (by simp)
    have hpt:=ht.2 p (h0 p hpm)
    have hb:=Zhb (show 0≤p.2∧p.2≤10006 by omega) hk
    rw [i64_in _ (by omega)]
    have htm:=Zfb (p.2 * k)
    refine Zly h1 (by omega) fun out' ho=>hn _ ⟨fun q hq=>h0 q (hperm.mem_iff.2 (by simp [hq])),ho.ok,fun m=>?_,fun q hq=>?_,?_⟩
    · have e1:=ho.cf m
      have e2:=h2 m
      have e3:co l' m=(if p.1=m then p.2 else 0)+co l'' m:=by rw [co,Zci _ hperm]; rfl
      rw [e3,Int.mul_add] at e2
      by_cases hm:p.1=m
      · rw [if_pos hm] at e1 e2
        have e4:=Zlj (p.2 * k)
        rw [Int.mul_comm k p.2] at e2
        omega
      · rw [if_neg hm] at e1 e2
        omega
    · rcases ho.ks q hq with e | ⟨q',hq',e⟩
      · exact⟨p,.inr (h0 p hpm),e.symm⟩
      · obtain ⟨z,hz,e'⟩:=h3 q' hq'
        exact⟨z,hz,e'.trans e⟩
    · have:=ho.ln
      have:=Zc6 hp
      omega
  · intro out ⟨_,h1,h2,h3,h4⟩
    exact h _ ⟨h1,fun m=>by have:=h2 m; rw [Zck,ZMv,ZMm] at this; exact this,h3,by simpa using h4⟩
def shM (ds:List Int) (p:A8×Int) (t:List (A8×Int)) (m:A8):Int:=tot (fun q=>pr1 ds p.1 p.2 q.1 q.2 m) t
def prM (ds:List Int) (s t:List (A8×Int)) (m:A8):Int:=tot (fun p=>shM ds p t m) s
structure IsProdM (ds:List Int) (s t out:List (A8×Int)):Prop where
  ok:MapOk out
  cf:∀ m,co out m % 10007=prM ds s t m % 10007
  ks:∀ p,p∈out→∃ a b,a∈s∧b∈t∧p.1=a.1.add b.1∧¬ Clash ds a.1 b.1
theorem Zja {ds : List Int} {s t : List (A8 × Int)} {K : List (A8 × Int) → Prop} (hd : OkDeg ds) (hs : MapOk s) (ws : ∀ p, p ∈ s → Xv ds p.1) (ps : ∀ p, p ∈ s → ∀ i, i < 8 → 0 ≤ p.1.get i) (ht : MapOk t) (wt : ∀ p, p ∈ t → Xv ds p.1) (pt : ∀ p, p ∈ t → ∀ i, i < 8 → 0 ≤ p.1.get i)
    (h:∀ out,IsProdM ds s t out→K out):J3 s ds t K:=by
  unfold J3
  refine Zc9 (fun l' (out:List (A8×Int))=>(∀ p,p∈l'→p∈s)∧MapOk out∧(∀ m,(co out m+prM ds l' t m) % 10007=prM ds s t m % 10007)∧(∀ p,p∈out→∃ a b,a∈s∧b∈t∧p.1=a.1.add b.1∧¬ Clash ds a.1 b.1)) ?_ ?_ s [] ⟨fun _ h=>h,MapOk.nil,fun m=>by rw [Zck,ZIw],by simp⟩
  · intro l' p l'' out next hp ⟨h0, h1, h2, h3⟩ hn
    have hperm:=Zda hp
    have hpm:p∈s:=h0 p (hperm.mem_iff.2 (by simp))
    have hpf:=hs.2 p hpm
    have e3:∀ m,prM ds l' t m=shM ds p t m+prM ds l'' t m:=fun m=>by rw [prM,Zci _ hperm]; rfl
    refine Zc9 (fun k' (o2:List (A8×Int))=>(∀ q,q∈k'→q∈t)∧MapOk o2∧(∀ m,(co o2 m+shM ds p k' m) % 10007=(co out m+shM ds p t m) % 10007)∧(∀ q,q∈o2→∃ a b,a∈s∧b∈t∧q.1=a.1.add b.1∧¬ Clash ds a.1 b.1)) ?_ ?_ t out ⟨fun _ h=>h,h1,fun _=>rfl,h3⟩
    · intro k' q k'' o2 next' hq ⟨g0, g1, g2, g3⟩ hn'
      have hperm2:=Zda hq
      have hqm:q∈t:=g0 q (hperm2.mem_iff.2 (by simp))
      have hqf:=ht.2 q hqm
      have e4:∀ m,shM ds p k' m=pr1 ds p.1 p.2 q.1 q.2 m+shM ds p k'' m:=fun m=>by rw [shM,Zci _ hperm2]; rfl
      refine Zqi hd (ws p hpm) (wt q hqm) (ps p hpm) (pt q hqm) ?_
      split
      · rename_i hsg
        rw [Zi8 (Zfc hsg).2.2 hpf hqf]
        have htm:=Zfb ((Yt ds p.1 q.1).2 * (p.2 * q.2))
        refine Zly g1 (by omega) fun o3 ho=>hn' _ ⟨fun z hz=>g0 z (hperm2.mem_iff.2 (by simp [hz])),ho.ok,fun m=>?_,fun z hz=>?_⟩
        · have e1:=ho.cf m
          have e2:=g2 m
          rw [e4,pr1] at e2
          by_cases hm:(Yt ds p.1 q.1).1=m
          · rw [if_pos hm] at e1 e2
            have e5:=Zlj ((Yt ds p.1 q.1).2 * (p.2 * q.2))
            omega
          · rw [if_neg hm] at e1 e2
            omega
        · rcases ho.ks z hz with e | ⟨z',hz',e⟩
          · exact⟨p,q,hpm,hqm,by rw [e,(Zfc hsg).2.1],(Zfc hsg).1⟩
          · obtain ⟨a,b,ha,hb,e',hc⟩:=g3 z' hz'
            exact⟨a,b,ha,hb,e ▸ e',hc⟩
      · rename_i hsg
        refine hn' _ ⟨fun z hz=>g0 z (hperm2.mem_iff.2 (by simp [hz])),g1,fun m=>?_,g3⟩
        have e2:=g2 m
        rw [e4,pr1,show (Yt ds p.1 q.1).2=0 by simpa using hsg] at e2
        simpa using e2
    · intro o2 ⟨_,g1,g2,g3⟩
      refine hn _ ⟨fun q hq=>h0 q (hperm.mem_iff.2 (by simp [hq])),g1,fun m=>?_,g3⟩
      have e1:=g2 m
      have e2:=h2 m
      rw [e3] at e2
      rw [show shM ds p [] m=0 from rfl] at e1
      omega
  · intro out ⟨_,h1,h2,h3⟩
    exact h _ ⟨h1,fun m=>by have:=h2 m; rw [show prM ds [] t m=0 from rfl,ZMm] at this; exact this,h3⟩
theorem Zhf {l : List Term} {k : List (A8 × Int)} (hk : IsMap l k) (hc : Canon l) (F : A8 → Int → Int) (hF : ∀ a, F a 0 = 0) : tot (fun p => F p.1 p.2) k = tot (fun t => F t.mono t.factor) l := by
  have hnd:(l.map fun t=>(t.mono,t.factor)).Nodup:=by
    refine ZNd.2 (hc.1.imp fun {a b} h e=>?_)
    exact Ze8 h (congrArg Prod.fst e)
  have hperm:k.Perm (l.map fun t=>(t.mono,t.factor)):=by
    have hkn:k.Nodup:=by
      have:=hk.ok.1
      exact List.Pairwise.imp (fun {a b} h e=>h (congrArg Prod.fst e)) (ZNd.1 this)
    refine(List.perm_ext_iff_of_nodup hkn hnd).2 fun p=>?_
    have atk:∀ p,p∈k→co k p.1=p.2:=by
      intro p hp
      obtain ⟨i,hi,rfl⟩:=Zvb hp
      have hkk:=hk.ok.1
      clear hk hkn
      induction k generalizing i with
      | nil=>simp at hi
      | cons q k ih =>
        simp only [List.map_cons,ZIx] at hkk
        rw [J4]
        cases i with
        | zero=>rw [List.getElem_cons_zero,if_pos rfl,Zbo fun t ht e=>hkk.1 (Zv7.2 ⟨t,ht,e⟩),ZMm]
        | succ i =>
          have hi':i < k.length:=by simpa using hi
          rw [List.getElem_cons_succ,if_neg (fun e=>hkk.1 (Zv7.2 ⟨_,List.getElem_mem hi',e.symm⟩)),ZIw]
          exact ih i hi' (List.getElem_mem hi') hkk.2
    have atl:∀ t,t∈l→coT l t.mono=t.factor:=by
      intro t ht
      clear hk hkn hnd atk
      induction l with
      | nil=>simp at ht
      | cons q l ih =>
        rcases Zus.1 ht with rfl | ht
        · exact hc.at_head
        · rw [Za8,if_neg (Ze8 (hc.head t ht)),ZIw]; exact ih hc.tail ht
    constructor
    · intro hp
      obtain ⟨t,ht,e⟩:=hk.ks p hp
      refine Zv7.2 ⟨t,ht,?_⟩
      have h1:=atk p hp
      rw [hk.cf,← e,atl t ht] at h1
      rw [e,h1]
    · intro hp
      obtain ⟨t,ht,rfl⟩:=Zv7.1 hp
      have h1:=hk.cf t.mono
      rw [atl t ht] at h1
      have hnz:=hc.2 t ht
      have:∃ p,p∈k∧p.1=t.mono:=by
        refine ZNe fun hno=>?_
        rw [Zbo (fun p hp e=>hno ⟨p,hp,e⟩)] at h1
        omega
      obtain ⟨p,hp,e⟩:=this
      have h2:=atk p hp
      rw [e,h1] at h2
      rw [← e,h2]; exact hp
  rw [Zci _ hperm,Zai]
def Low (a:A8):Prop:=∀ i,i < 8→a.get i≤20
instance (a:A8):Decidable (Low a):=inferInstanceAs (Decidable (∀ i,i < 8→_))
def Zco (l:List Term):ZF9×Int:=if l.length≤400∧∀ t,t∈l→Low t.mono then(⟨l⟩,0) else(⟨[]⟩,3)
theorem Zrh {m : List (A8 × Int)} {K : ZF9 → Int → Prop} (hm : MapOk m) (hok : ∀ p, p ∈ m → OkP p.1) (h : ∀ l, Canon l → (∀ x, coT l x = co m x) → (∀ t, t ∈ l → ∃ p, p ∈ m ∧ p.1 = t.mono) → K (Zco l).1 (Zco l).2) : Zce m K := by
  by_cases hl:m.length≤400
  · have hlist:∀ xs:List A8,xs.Perm (m.map (·.1))→(∀ t,t∈xs.map (fun x=>(⟨x,(Ym m x).getD 0⟩:Term))→∃ p,p∈m∧p.1=t.mono)∧(xs.map (fun x=>(⟨x,(Ym m x).getD 0⟩:Term))).length=m.length:=by
      intro xs hp
      refine⟨fun t ht=>?_,by rw [ZMw,hp.length_eq,ZMw]⟩
      obtain ⟨x,hx,rfl⟩:=Zv7.1 ht
      obtain ⟨p,hpm,e⟩:=Zv7.1 (hp.mem_iff.1 hx)
      exact⟨p,hpm,e⟩
    refine Zqk hl hok ?_ ?_
    · intro hbad
      obtain ⟨xs,hxs,hw⟩:=Zg4 (m.map (·.1))
      obtain ⟨h1,h2⟩:=Zg3 hm hxs hw
      obtain ⟨h3,h4⟩:=hlist xs hxs
      have:=h _ h1 h2 h3
      rw [Zco,if_neg] at this
      · exact this
      · rintro ⟨_,q⟩
        obtain ⟨p,hp,i,hi,hgt⟩:=hbad
        have hx:p.1∈xs:=hxs.mem_iff.2 (Zv7.2 ⟨p,hp,rfl⟩)
        have:=q _ (Zv7.2 ⟨p.1,hx,rfl⟩) i hi
        dsimp only at this
        omega
    · intro hle xs hxs hw
      obtain ⟨h1,h2⟩:=Zg3 hm hxs hw
      obtain ⟨h3,h4⟩:=hlist xs hxs
      have:=h _ h1 h2 h3
      rw [Zco,if_pos] at this
      · exact this
      · refine⟨by omega,fun t ht i hi=>?_⟩
        obtain ⟨p,hp,e⟩:=h3 t ht
        rw [← e]; exact hle p hp i hi
  · obtain ⟨xs,hxs,hw⟩:=Zg4 (m.map (·.1))
    obtain ⟨h1,h2⟩:=Zg3 hm hxs hw
    have hln:(xs.map (fun x=>(⟨x,(Ym m x).getD 0⟩:Term))).length=m.length:=by rw [ZMw,hxs.length_eq,ZMw]
    have:=h _ h1 h2 (fun t ht=>by
      obtain ⟨x,hx,rfl⟩:=Zv7.1 ht
      obtain ⟨p,hpm,e⟩:=Zv7.1 (hxs.mem_iff.1 hx)
      exact⟨p,hpm,e⟩)
    rw [Zco,if_neg (by omega)] at this
    unfold Zce
    rw [if_pos (by omega)]
    exact this
end Go.Proofs.YtheenipahifleaaGreat
namespace Vc
open Go
def A8.mkf (f:Nat→Int):A8:=⟨f 0,f 1,f 2,f 3,f 4,f 5,f 6,f 7⟩
theorem A8.get_mkf (f:Nat→Int) {i:Nat} (hi:i < 8):(A8.mkf f).get i=f i:=by
  match i,hi with
  | 0,_ | 1,_ | 2,_ | 3,_ | 4,_ | 5,_ | 6,_ | 7,_=>rfl
def Xt (m:A8) (i:Nat):A8:=A8.mkf fun j=>if j < i then m.get j else 0
def leftA (m:A8) (i:Nat):A8:=A8.mkf fun j=>if j < i then m.get j else if j=i then m.get i - 1 else 0
def backA (m:A8) (i:Nat):A8:=A8.mkf fun j=>if i < j then m.get j else 0
def wtU (ds:List Int) (m:A8):Nat→Int
  | 0=>0
  | i+1=>wtU ds m i+ds.getD i Zuw * m.get i
theorem Zhg (F : A8 → Int) (S : List A8) (hS : S.Nodup) : ∀ l : List Term, (∀ t, t ∈ l → t.mono ∈ S) → tot (fun t => F t.mono * t.factor) l = tot (fun x => F x * coT l x) S := by
  intro l
  induction l with
  | nil=>intro _; simp only [tot]; rw [Zg2]; intro x _; rw [Zcj,ZMv]
  | cons t l ih =>
    intro h
    simp only [tot]
    rw [ih fun s hs=>h s (by simp [hs])]
    have e:∀ x,F x * coT (t::l) x=(if t.mono=x then F x * t.factor else 0)+F x * coT l x:=fun x=>by
      rw [Za8,Int.mul_add]
      congr 1
      split
      · rfl
      · rw [ZMv]
    rw [Zav (fun x _=>e x),Zqm]
    congr 1
    have ht:=h t (by simp)
    clear ih h e
    induction S with
    | nil=>cases ht
    | cons s S ihS =>
      simp only [tot]
      have hn:=ZIx.1 hS
      by_cases hs:t.mono=s
      · subst hs
        rw [if_pos rfl,Zg2]
        · omega
        · intro x hx
          rw [if_neg]
          rintro rfl
          exact hn.1 hx
      · rw [if_neg hs,ZIw]
        refine ihS hn.2 ?_
        rcases Zus.1 ht with q | q
        · exact absurd q hs
        · exact q
def Zax:List A8→List A8
  | []=>[]
  | a::l=>if a∈Zax l then Zax l else a::Zax l
theorem Zjb {a:A8}:∀ l,a∈l→a∈Zax l
  | b :: l, h => by
    simp only [Zax]
    rcases Zus.1 h with rfl | h
    · split
      · assumption
      · simp
    · have:=Zjb l h
      split
      · exact this
      · simp [this]
theorem Zhh:∀ l,(Zax l).Nodup
  | []=>ZNf
  | a :: l => by
    simp only [Zax]
    split
    · exact Zhh l
    · exact ZIx.2 ⟨by assumption,Zhh l⟩
theorem lin (F:A8→Int) {l k:List Term} (h:∀ x,coT l x % 10007=coT k x % 10007):tot (fun t=>F t.mono * t.factor) l % 10007=tot (fun t=>F t.mono * t.factor) k % 10007:=by
  have S:=Zax (l.map ZMr++k.map ZMr)
  rw [Zhg F (Zax (l.map ZMr++k.map ZMr)) (Zhh _) l fun t ht=>Zjb _ (by simp; exact .inl ⟨t,ht,rfl⟩),
    Zhg F (Zax (l.map ZMr++k.map ZMr)) (Zhh _) k fun t ht=>Zjb _ (by simp; exact .inr ⟨t,ht,rfl⟩)]
  refine Zi3 fun x _=>?_
  rw [ZMl,h x,← ZMl]
def tri (ds:List Int) (l b u:A8) (n:Int) (x:A8):Int:=if(Yt ds (Yt ds l u).1 b).1=x then(Yt ds (Yt ds l u).1 b).2 * ((Yt ds l u).2 * n) else 0
def triC (ds:List Int) (l b:A8) (img:List Term) (x:A8):Int:=tot (fun u=>tri ds l b u.mono u.factor x) img
theorem Zl0 {ds:List Int} {l b:A8} {img own prod:List Term} (h1:∀ y,coT own y % 10007=shC ds ⟨l,1⟩ img y % 10007) (h2:∀ x,coT prod x % 10007=prC ds own [⟨b,1⟩] x % 10007) (x:A8):coT prod x % 10007=triC ds l b img x % 10007:=by
  rw [h2]
  have e1:prC ds own [⟨b,1⟩] x=tot (fun t=>(if(Yt ds t.mono b).1=x then(Yt ds t.mono b).2 else 0) * t.factor) own:=by
    refine Zav fun t _=>?_
    unfold shC pr1
    simp only [tot,ZM0,ZMm]
    split <;> simp
  have hL:∀ y,coT own y % 10007=coT (img.map fun u=>(⟨(Yt ds l u.mono).1,(Yt ds l u.mono).2 * u.factor⟩:Term)) y % 10007:=fun y=>by
    rw [h1 y,shC,coT,Zai]
    congr 1
    refine Zav fun u _=>?_
    unfold pr1
    simp only [ZM1]
  rw [e1,lin (fun y=>if(Yt ds y b).1=x then(Yt ds y b).2 else 0) hL,Zai]
  congr 1
  refine Zav fun u _=>?_
  unfold tri
  dsimp only
  split <;> simp
def dK (ds:List Int) (m:A8) (n:Int) (i:Nat):Int:=(sg (wtU ds m i) * (n * m.get i)) % 10007
def dS (ds:List Int) (imgs:List (List Term)) (m:A8) (n:Int) (x:A8):Nat→Nat→Int
  | 0,_=>0
  | r+1,i=>(if m.get i > 0 then dK ds m n i * triC ds (leftA m i) (backA m i) (imgs.getD i Zuw) x else 0)+dS ds imgs m n x r (i+1)
def dT (ds:List Int) (imgs:List (List Term)) (m:A8) (n:Int) (x:A8):Int:=dS ds imgs m n x 8 0
theorem Zri (ds:List Int) (m:A8) (i:Nat):dK ds m 0 i=0:=by simp [dK]
theorem Zl1 (ds:List Int) (imgs:List (List Term)) (m x:A8):dT ds imgs m 0 x=0:=by
  have:∀ r i,dS ds imgs m 0 x r i=0:=by
    intro r
    induction r with
    | zero=>intro i; rfl
    | succ r ih=>intro i; simp only [dS,ih,Zri]; split <;> simp
  exact this 8 0
theorem Zrj {ds:List Int} {imgs:List (List Term)} {m:A8} {n:Int} {x:A8}:∀ r i,(∀ j,i≤j→j < i+r→m.get j=0)→dS ds imgs m n x r i=0:=by
  intro r
  induction r with
  | zero=>intro i _; rfl
  | succ r ih=>intro i h; simp only [dS]; rw [h i (by omega) (by omega),if_neg (by omega),ih (i+1) fun j h1 h2=>h j (by omega) (by omega)]; rfl
def DMono (ds:List Int) (imgs:List (List Term)) (x m:A8):Prop:=∃ i u,i < 8∧0 < m.get i∧u∈imgs.getD i Zuw∧x=((leftA m i).add u.mono).add (backA m i)∧¬ Clash ds (leftA m i) u.mono∧¬ Clash ds ((leftA m i).add u.mono) (backA m i)
structure IsD (ds:List Int) (imgs:List (List Term)) (f out:List Term):Prop where
  can:Canon out
  cf:∀ x,coT out x % 10007=tot (fun t=>dT ds imgs t.mono t.factor x) f % 10007
  mo:∀ y,y∈out→∃ t,t∈f∧DMono ds imgs y.mono t.mono
theorem Zl2 {ds : List Int} {m : A8} {i : Nat} (h : OkMono ds m) (hi : i < 8) (hp : 0 < m.get i) : Xv ds (leftA m i) ∧ Xv ds (backA m i) := by
  constructor
  · intro j hj
    rw [leftA,A8.get_mkf _ hj]
    have hm:=h j hj
    refine⟨fun hl=>?_,fun hl=>?_⟩
    · have h1:=hm.1 hl
      split
      · exact⟨by omega,h1.2⟩
      · split
        · rename_i e; subst e; exact⟨by omega,fun q=>by have:=h1.2 q; omega⟩
        · exact⟨by omega,fun _=>by omega⟩
    · have h1:=hm.2 hl
      split
      · exact h1
      · split
        · rename_i e; subst e; omega
        · rfl
  · intro j hj
    rw [backA,A8.get_mkf _ hj]
    have hm:=h j hj
    refine⟨fun hl=>?_,fun hl=>?_⟩
    · have h1:=hm.1 hl
      split
      · exact⟨by omega,h1.2⟩
      · exact⟨by omega,fun _=>by omega⟩
    · have h1:=hm.2 hl
      split
      · exact h1
      · rfl
theorem Zl3 {ds:List Int} {a b:A8} (ha:Xv ds a) (hb:Xv ds b) (pa:∀ i,i < 8→0≤a.get i) (pb:∀ i,i < 8→0≤b.get i) (hs:∀ i,i < 8→a.get i+b.get i≤100) (hc:¬ Clash ds a b):Xv ds (a.add b):=by
  intro j hj
  rw [ZMs]
  have h1:=ha j hj
  have h2:=hb j hj
  refine⟨fun hl=>⟨hs j hj,fun ho=>?_⟩,fun hl=>by rw [h1.2 hl,h2.2 hl]; rfl⟩
  have g1:=(h1.1 hl).2 ho
  have g2:=(h2.1 hl).2 ho
  have:=pa j hj
  have:=pb j hj
  have:¬ (0 < a.get j∧0 < b.get j):=fun q=>hc ⟨j,hl,ho,q⟩
  omega
end Vc
namespace Go.Proofs.YtheenipahifleaaGreat
open Go Vc
def asT (m:List (A8×Int)):List Term:=m.map fun p=>⟨p.1,p.2⟩
theorem Zjc (m:List (A8×Int)) (x:A8):coT (asT m) x=co m x:=by rw [coT,asT,Zai]; rfl
theorem Zl4 {l : List Term} {out : List (A8 × Int)} (hc : Canon l) (ho : MapOk out) (h : ∀ x, co out x % 10007 = coT l x % 10007) : IsMap l out := by
  have hcf:∀ x,co out x=coT l x:=fun x=>by have:=h x; have:=ho.range x; have:=hc.range x; omega
  refine⟨ho,hcf,fun p hp=>ZNe fun hno=>?_⟩
  have h1:coT l p.1=0:=Zfa fun t ht e=>hno ⟨t,ht,e⟩
  rw [← hcf,← Zdk ho.1] at h1
  have h2:=ho.2 p hp
  have h3:(Ym out p.1).getD 0=p.2:=by
    rw [Zdk ho.1]
    have hk:=ho.1
    clear h hcf hno h1 h2 ho
    induction out with
    | nil=>simp at hp
    | cons q k ih =>
      simp only [List.map_cons,ZIx] at hk
      rw [J4]
      rcases Zus.1 hp with rfl | hp
      · rw [if_pos rfl,Zbo fun t ht e=>hk.1 (Zv7.2 ⟨t,ht,e⟩),ZMm]
      · rw [if_neg (fun e=>hk.1 (Zv7.2 ⟨p,hp,e.symm⟩)),ZIw]
        exact ih hp hk.2
  omega
theorem Zrk {ds:List Int} {l b:A8} {img:List Term} {s own t:List (A8×Int)} (hs:IsMap img s) (hc:Canon img) (h1:IsProdM ds [(l,1)] s own) (h2:IsProdM ds own [(b,1)] t) (x:A8):co t x % 10007=triC ds l b img x % 10007:=by
  rw [← Zjc]
  refine Zl0 (own:=asT own) (fun y=>?_) (fun x=>?_) x
  · rw [Zjc,h1.cf]
    unfold prM shM shC
    simp only [tot,ZMm]
    rw [Zhf hs hc (fun a n=>pr1 ds l 1 a n y) (fun a=>by unfold pr1; split <;> simp)]
  · rw [Zjc,h2.cf]
    unfold prM shM prC shC asT
    rw [Zai]
    simp only [tot,ZMm]
structure IsDM (ds:List Int) (imgs:List (List Term)) (s out:List (A8×Int)):Prop where
  ok:MapOk out
  cf:∀ x,co out x % 10007=tot (fun p=>dT ds imgs p.1 p.2 x) s % 10007
  mo:∀ y,y∈out→∃ t,t∈s∧DMono ds imgs y.1 t.1
theorem Zrl {ds:List Int} {imgs:List (List Term)} {f:List Term} {s out':List (A8×Int)} {out:List Term} (hs:IsMap f s) (hc:Canon f) (h:IsD ds imgs f out) (h':IsDM ds imgs s out'):IsMap out out' :=
  Zl4 h.can h'.ok fun x=>by
    rw [h'.cf,h.cf,Zhf hs hc (fun a n=>dT ds imgs a n x) (fun a=>Zl1 ds imgs a x)]
theorem Zl5 {l:List Term} {m:List (A8×Int)} (h:IsMap l m) (hc:Canon l):m=[]↔l=[]:=by
  constructor
  · intro e
    cases l with
    | nil=>rfl
    | cons t l =>
      have h1:=h.cf t.mono
      rw [hc.at_head,e,Zck] at h1
      have:=hc.2 t (by simp)
      omega
  · intro e
    cases m with
    | nil=>rfl
    | cons p m =>
      obtain ⟨t,ht,_⟩:=h.ks p (by simp)
      rw [e] at ht; cases ht
end Go.Proofs.YtheenipahifleaaGreat
namespace Go.Proofs.YtheenipahifleaaGreat
open Go Vc
theorem Zrm {a b:Term} {K:Bool→Prop} (h:K (decide (a=b))):Ze3 a b K:=by
  unfold Ze3
  refine Zqf ?_
  cases a with | mk m x=>cases b with | mk n y =>
  by_cases h1:m=n
  · by_cases h2:x=y
    · simpa [h1,h2] using h
    · simpa [h1,h2] using h
  · simpa [h1] using h
theorem Zl6 {α : Type} [DecidableEq α] [Inhabited α] {a b : List α} {K : Bool → Prop} {eq : α → α → (Bool → Prop) → Prop} (he : ∀ x y K, K (decide (x = y)) → eq x y K) (h : K (decide (a = b))) :
    (if(a.length:Int)≠(b.length:Int) then K false else Yi (fun i (s:Unit) next=>((0≤(i:Int)∧(i:Int) < (b.length:Int))∧eq (a.getD i Zuw) (b.getD i Zuw) (fun r=>(if¬ (r=true) then K false else next ())))) (fun (s:Unit)=>K true) a.length 0 ()):=by
  split
  · rename_i h1
    have:¬ a=b:=fun e=>h1 (by rw [e])
    simpa [this] using h
  · rename_i h1
    have hl:a.length=b.length:=by omega
    refine Ys (fun i _=>∀ j,j < i→a.getD j Zuw=b.getD j Zuw) a.length ?_ ?_ _ _ _ (by omega) (by intro j hj; omega)
    · intro i s next hi hI hn
      refine⟨by omega,he _ _ _ ?_⟩
      split
      · rename_i h1
        have:¬ a=b:=fun e=>h1 (by rw [e]; simp)
        simpa [this] using h
      · rename_i h1
        refine hn _ fun j hj=>?_
        by_cases hji:j=i
        · subst hji; simpa only [decide_eq_true_eq,ZJw] using h1
        · exact hI j (by omega)
    · intro s hI
      have:a=b:=by
        apply List.ext_getElem hl
        intro i h1 h2
        have:=hI i h1
        simpa [Zu3,h1,h2] using this
      simpa [this] using h
theorem Zrn {a b:List Term} {K:Bool→Prop} (h:K (decide (a=b))):Zgx a b K:=Zl6 (fun _ _ _ h=>Zrm h) h
theorem Zro {a b:ZF9} {K:Bool→Prop} (h:K (decide (a=b))):Ze4 a b K:=by
  unfold Ze4
  refine Zrn ?_
  cases a with | mk s=>cases b with | mk t =>
  by_cases h1:s=t
  · simpa [h1] using h
  · simpa [h1] using h
theorem Zrp {a b:List ZF9} {K:Bool→Prop} (h:K (decide (a=b))):Zgy a b K:=Zl6 (fun _ _ _ h=>Zro h) h
theorem Zrq {a b:Alg} {K:Bool→Prop} (h:K (decide (a=b))):Zba a b K:=by
  unfold Zba
  refine Zla ?_
  cases a with | mk s t=>cases b with | mk u v =>
  dsimp only
  by_cases h1:s=u
  · simp only [h1,decide_true,not_true_eq_false,if_false]
    refine Zrp ?_
    by_cases h2:t=v
    · simpa [h1,h2] using h
    · simpa [h2] using h
  · simpa [h1] using h
theorem Zbc {α:Type} [Inhabited α] {xs:List α} {i j:Nat} {x:α} (hi:i < xs.length):(xs.set i x).getD j Zuw=if j=i then x else xs.getD j Zuw:=by
  by_cases h:j=i
  · subst h; simp [Zu3,hi]
  · simp [Zu3,List.getElem?_set_ne (fun e=>h e.symm),h]
def Zfm (t:Term) (c:Int):Prop:=(∀ q,q < 8→t.mono.get q=ZGh.wrap (c+q))∧t.factor=c+8
theorem Zrr {x:List Term} {m:Int} {K':Int→Prop} (hm:0≤m∧m+9 * x.length≤4611686018427387904) (h:∀ j:Nat,j < x.length→Zfm (x.getD j Zuw) (m+9 * j)) (hK:K' (m+9 * x.length)):Ze6 x m K':=by
  unfold Ze6
  refine Ys (fun i (s:Int)=>s=m+9 * i) x.length ?_ ?_ _ _ _ (by omega) (by simp)
  · intro i s next hi hs hn
    obtain ⟨g1,g2⟩:=h i hi
    refine Ys (fun q (t:Int)=>t=s+q) 8 ?_ ?_ _ _ _ (by omega) (by simp)
    · intro q t next' hq ht hn'
      rw [if_neg (by rw [g1 q hq,ht,hs]; simp),i64_in (t+1) (by omega)]
      exact hn' _ (by omega)
    · intro t ht
      rw [if_neg (by rw [g2,ht,hs]; omega),i64_in (t+1) (by omega)]
      exact hn _ (by omega)
  · intro s hs
    rw [hs]; exact hK
theorem Zl7 {l : List Term} {m : Int} {K : Int → List Term → Prop} (hm : 0 ≤ m ∧ m + 9 * l.length ≤ 4611686018427387904) (h : ∀ x', x'.length = l.length → (∀ j : Nat, j < x'.length → Zfm (x'.getD j Zuw) (m + 9 * j)) → K (m + 9 * l.length) x') : Ze5 l m K := by
  unfold Ze5
  refine X4 (fun (s:List Term×Int×Int)=>s.1.length=l.length∧(0≤s.2.2∧s.2.2≤l.length)∧s.2.1=m+9 * s.2.2∧∀ j:Nat,(j:Int) < s.2.2→Zfm (s.1.getD j Zuw) (m+9 * j)) (fun s=>l.length - s.2.2.toNat) ?_ ⟨rfl,by dsimp only; omega,by simp,by intro j hj; dsimp only at hj; omega⟩
  rintro ⟨x,c,i⟩ next ⟨h1,h2,h3,h4⟩ hn
  dsimp only at h1 h2 h3 h4 ⊢
  split
  · rename_i hi
    refine Ys (fun q (s:List Term×Int)=>s.1.length=l.length∧s.2=c+q∧(∀ j:Nat,(j:Int) < i→Zfm (s.1.getD j Zuw) (m+9 * j))∧∀ r,r < q→(s.1.getD i.toNat Zuw).mono.get r=ZGh.wrap (c+r)) 8 ?_ ?_ _ _ _ (by omega) ⟨h1,by simp,h4,by intro r hr; omega⟩
    · rintro q ⟨y,d⟩ next' hq ⟨g1,g2,g3,g4⟩ hn'
      dsimp only at g1 g2 g3 g4 ⊢
      refine⟨by omega,?_⟩
      rw [i64_in (d+1) (by omega)]
      refine hn' _ ⟨by simpa using g1,by dsimp only; omega,fun j hj=>?_,fun r hr=>?_⟩
      · dsimp only; rw [Zbc (by omega),if_neg (by omega)]; exact g3 j hj
      · dsimp only; rw [Zbc (by omega),if_pos rfl]
        dsimp only
        rw [ZIy hq]
        split
        · rename_i e; rw [g2,e]
        · exact g4 r (by omega)
    · rintro ⟨y,d⟩ ⟨g1,g2,g3,g4⟩
      dsimp only at g1 g2 g3 g4 ⊢
      refine⟨by omega,?_⟩
      rw [i64_in (d+1) (by omega),i64_in (i+1) (by omega)]
      refine hn _ ⟨by simpa using g1,by dsimp only; omega,by dsimp only; omega,fun j hj=>?_⟩ (by dsimp only; omega)
      dsimp only at hj ⊢
      rw [Zbc (by omega)]
      split
      · rename_i e
        have hc:c=m+9 * (j:Int):=by rw [h3]; omega
        exact⟨fun q hq=>by dsimp only; rw [g4 q hq,hc],by dsimp only; omega⟩
      · exact g3 j (by omega)
  · rename_i hi
    have hc:c=m+9 * l.length:=by rw [h3]; omega
    rw [hc]
    exact h x h1 fun j hj=>h4 j (by omega)
end Go.Proofs.YtheenipahifleaaGreat
namespace Go.Proofs.YtheenipahifleaaGreat
open Go Vc
theorem Zrs {t:Term} {K:Term→Prop} (h:K t):Ze0 t K:=by
  unfold Ze0
  exact Zqe h
theorem Zrt {l:List Term} {K:List Term→Prop} (hl:l.length≤1048576) (h:K l):Ze1 l K:=by
  unfold Ze1
  refine⟨by omega,?_⟩
  refine Ys (fun i (s:List Term)=>s.length=l.length∧∀ j,j < i→s.getD j Zuw=l.getD j Zuw) l.length ?_ ?_ _ _ _ (by omega) ⟨by simp,by intro j hj; omega⟩
  · intro i s next hi ⟨h1,h2⟩ hn
    refine Zrs ⟨by omega,hn _ ⟨by simpa using h1,fun j hj=>?_⟩⟩
    rw [Zbc (by omega)]
    by_cases e:j=i
    · rw [if_pos e,e]
    · rw [if_neg e]; exact h2 j (by omega)
  · intro s ⟨h1,h2⟩
    have:s=l:=List.ext_getElem h1 fun j hj hj'=>by have:=h2 j (by omega); simpa [Zu3,hj,hj'] using this
    rw [this]; exact h
theorem Zru {f:ZF9} {K:ZF9→Prop} (hl:f.terms.length≤1048576) (h:K f):Ze2 f K:=by
  unfold Ze2
  exact Zrt hl h
theorem Zrv {f:ZF9} {n:Int} {K:Int→Prop} (hl:(f.terms.length:Int)≤9223372036854775807) (hn:0≤n∧n≤1048576) (h1:(f.terms.length:Int)≤n→K (n - f.terms.length)) (h2:∀ r,r < 0→K r):Zdm f n K:=by
  unfold Zdm Zg7
  rw [i64_in _ (by omega)]
  split
  · exact h2 _ (by omega)
  · dsimp only
    rw [if_neg (by assumption)]
    exact h1 (by omega)
theorem Zdq {ds:List Int} {a:A8} (h:OkMono ds a):Low a:=fun i hi=>by
  by_cases hl:i < ds.length
  · exact((h i hi).1 hl).1
  · rw [(h i hi).2 (by omega)]; omega
theorem Zdr {b:Bool} {c:Int} {K:Int→Prop} (h:K (if b=true then c else 0)):Zch b c K:=by
  unfold Zch
  split
  · rename_i q; rwa [if_pos q] at h
  · rename_i q; rwa [if_neg q] at h
theorem Zfn {A B:Prop} (h:B):if¬ (true=true) then A else B:=by simpa using h
theorem Zhi {c:Int} {A B:Prop} (h:B):if c≠c then A else B:=by simpa using h
theorem Zjd {c:Int} {A B:Prop} (hc:0≤c) (h:B):if c < 0 then A else B:=by rw [if_neg (by omega)]; exact h
theorem Zrw {l:List Int} {K:Bool→Prop} (h:K true):Zcg l l K:=Zla (by simpa using h)
end Go.Proofs.YtheenipahifleaaGreat
namespace Go.Proofs.YtheenipahifleaaGreat
open Go Vc
def imgsT (a:Alg):List (List Term):=a.images.map Vc.Form.terms
theorem Zhj (a:Alg) {i:Nat} (h:i < a.images.length):(imgsT a).getD i Zuw=(a.images.getD i Zuw).terms:=by
  simp [imgsT,Zu3,h]
structure AlgF (a:Alg):Prop where
  deg:OkDeg a.degrees
  len:a.images.length=a.degrees.length
  frm:∀ i,i < a.images.length→OkForm a.degrees (a.images.getD i Zuw).terms
  fit:∀ i,i < a.images.length→FitT (a.images.getD i Zuw).terms
theorem Zhk {m:A8} {K:ZF9→Prop} (h:K ⟨[⟨m,1⟩]⟩):Xs m 1 K:=by
  unfold Xs
  refine Zbb ?_
  rw [if_neg (by decide)]
  exact Zbb h
theorem Zds {ds:List Int} {m:A8} (hd:OkDeg ds) (hm:∀ i,i < 8→0≤m.get i∧m.get i≤255):∀ k,k≤ds.length→0≤wtU ds m k∧wtU ds m k≤3060 * k:=by
  intro k
  induction k with
  | zero=>intro _; simp [wtU]
  | succ k ih =>
    intro hk
    have h1:=ih (by omega)
    have h2:=hd.2 k (by omega)
    have h3:=hm k (by have:=hd.1; omega)
    have h4:0≤ds.getD k Zuw * m.get k:=ZMz (by omega) h3.1
    have h5:ds.getD k Zuw * m.get k≤12 * 255:=ZM8 h2.2 h3.2 h3.1 (by omega)
    simp only [wtU]
    omega
theorem Zl8 {ds:List Int} {m:A8} (hd:OkDeg ds) (hm:∀ i,i < 8→0≤m.get i∧m.get i≤255) {k:Nat} (hk:k < ds.length):0≤ds.getD k Zuw * m.get k∧ds.getD k Zuw * m.get k≤3060:=by
  have h2:=hd.2 k hk
  have h3:=hm k (by have:=hd.1; omega)
  exact⟨ZMz (by omega) h3.1,ZM8 h2.2 h3.2 h3.1 (by omega)⟩
theorem Zje {ds:List Int} {m:A8} {K:Int→Prop} (hd:OkDeg ds) (hm:∀ i,i < 8→0≤m.get i∧m.get i≤255) (h:K (wtU ds m ds.length)):Zbk ds m K:=by
  unfold Zbk
  have h8:=hd.1
  refine Ys (fun i (s:Int)=>s=wtU ds m i) ds.length ?_ ?_ _ _ _ (by omega) rfl
  · intro i s next hi hs hn
    have h1:=hm i (by omega)
    have h2:=Zl8 hd hm hi
    have h3:=Zds hd hm i (by omega)
    refine⟨by omega,?_⟩
    rw [i64_in (m.get i) (by omega),i64_in (ds.getD i Zuw * m.get i) (by omega),i64_in _ (by omega)]
    exact hn _ (by simp only [wtU]; rw [hs])
  · intro s hs; rw [hs]; exact h
theorem Zrx {ds:List Int} {m:A8} {K:Int→Prop} (hd:OkDeg ds) (hm:∀ i,i < 8→0≤m.get i∧m.get i≤255) (h:K (wtU ds m ds.length)):Zes m ds K:=by
  unfold Zes
  have h8:=hd.1
  refine Ys (fun i (s:Int)=>s=wtU ds m i) ds.length ?_ ?_ _ _ _ (by omega) rfl
  · intro i s next hi hs hn
    have h2:=Zl8 hd hm hi
    have h3:=Zds hd hm i (by omega)
    refine⟨by omega,?_⟩
    rw [i64_in (ds.getD i Zuw * m.get i) (by omega),i64_in _ (by omega)]
    exact hn _ (by simp only [wtU]; rw [hs])
  · intro s hs; rw [hs]; exact h
theorem Zry {ds:List Int} {m:A8} {i:Nat} (h8:ds.length≤8):∀ k,k≤ds.length→wtU ds (Xt m i) k=wtU ds m (min i k):=by
  intro k
  induction k with
  | zero=>intro _; simp [wtU]
  | succ k ih =>
    intro hk
    simp only [wtU]
    rw [ih (by omega),Xt,A8.get_mkf _ (by omega)]
    by_cases h:k < i
    · rw [if_pos h,show min i (k+1)=k+1 by omega,show min i k=k by omega]
      simp only [wtU]
    · rw [if_neg h,show min i (k+1)=i by omega,show min i k=i by omega]
      simp
theorem Zhl (m:A8):Canon [⟨m,1⟩]:=⟨by simp,by intro t ht; obtain rfl:=Zwj.1 ht; simp⟩
theorem Zrz {l g:List Term} {m:A8} (h:l.length≤([⟨m,1⟩]:List Term).length * g.length):l.length≤g.length:=by simpa using h
theorem Zhm {a:A8} (h:Low a) (p:∀ i,i < 8→0≤a.get i∧a.get i≤255):∀ i,i < 8→0≤a.get i∧a.get i≤20:=fun i hi=>⟨(p i hi).1,h i hi⟩
theorem Zl9 {m:A8} {i:Nat} (hm:∀ i,i < 8→0≤m.get i∧m.get i≤20) (hp:0 < m.get i):(∀ j,j < 8→0≤(leftA m i).get j∧(leftA m i).get j≤20)∧(∀ j,j < 8→0≤(backA m i).get j∧(backA m i).get j≤20)∧∀ j,j < 8→(leftA m i).get j+(backA m i).get j≤20:=by
  refine⟨fun j hj=>?_,fun j hj=>?_,fun j hj=>?_⟩
  · rw [leftA,A8.get_mkf _ hj]
    have:=hm j hj
    split
    · exact this
    · split
      · rename_i e; subst e; omega
      · omega
  · rw [backA,A8.get_mkf _ hj]
    have:=hm j hj
    split <;> omega
  · rw [leftA,backA,A8.get_mkf _ hj,A8.get_mkf _ hj]
    have:=hm j hj
    split
    · rw [if_neg (by omega)]; omega
    · split
      · rename_i e; subst e; rw [if_neg (by omega)]; omega
      · split <;> omega
theorem Zma (ds:List Int) (m:A8) (n:Int) (i:Nat):0≤dK ds m n i∧dK ds m n i≤10006:=by unfold dK; omega
theorem Zr0 {w:Int} (hw:0≤w):(Zvh w 2≠0∧sg w=-1)∨(¬ Zvh w 2≠0∧sg w=1):=by
  rw [ZI1 hw]
  unfold sg
  by_cases h:w % 2=0
  · right; rw [if_pos h]; exact⟨by omega,rfl⟩
  · left; rw [if_neg h]; exact⟨h,rfl⟩
structure StepD (ds:List Int) (imgs:List (List Term)) (m:A8) (n:Int) (i:Nat) (out out':List Term):Prop where
  can:Canon out'
  cf:∀ x,coT out' x % 10007=(coT out x+dK ds m n i * triC ds (leftA m i) (backA m i) (imgs.getD i Zuw) x) % 10007
  mo:∀ y,y∈out'→(∃ z,z∈out∧z.mono=y.mono)∨DMono ds imgs y.mono m
  ln:out'.length≤out.length+400
theorem Zr1 {a:Alg} {K:ZF9→Prop} {m:A8} {n v:Int} {i:Nat} {out:List Term} (ha:AlgF a) (hi:i < a.images.length) (hm:OkMono a.degrees m) (pm:∀ i,i < 8→0≤m.get i∧m.get i≤255) (hp:0 < m.get i) (hc:Canon out) (hl:out.length≤50000000) (hv:v % 10007=dK a.degrees m n i)
    (h:∀ out',StepD a.degrees (imgsT a) m n i out out'→K ⟨out'⟩) :
    Xs (leftA m i) 1 (fun r=>Xx a.degrees r (a.images.getD i Zuw) (fun r'=>Xs (backA m i) 1 (fun r2=>Xx a.degrees r' r2 (fun r3=>Xz v (fun k=>J2 ⟨out⟩ r3 k K))))):=by
  have hd:=ha.deg
  have hi8:i < 8:=by have:=hd.1; have:=ha.len; omega
  have hf:=ha.frm i hi
  have ff:=ha.fit i hi
  have hm20:=Zhm (Zdq hm) pm
  obtain ⟨lb,bb,lbb⟩:=Zl9 hm20 hp
  obtain ⟨wl,wb⟩:=Zl2 hm hi8 hp
  refine Zhk ?_
  have hL:(⟨(a.images.getD i Zuw).terms⟩:ZF9)=a.images.getD i Zuw:=rfl
  rw [← hL]
  refine Zlw hd (Zhl _) (fun u hu=>by obtain rfl:=Zwj.1 hu; exact wl) (fun u hu q hq=>by obtain rfl:=Zwj.1 hu; have:=lb q hq; dsimp only; omega) hf.canon (fun u hu=>(hf.mono hu).wk) ff.pos (by simp) (by have:=hf.1; omega) fun own ho=>?_
  refine Zhk ?_
  have hown:∀ u,u∈own→∃ z,z∈(a.images.getD i Zuw).terms∧u.mono=(leftA m i).add z.mono∧¬ Clash a.degrees (leftA m i) z.mono∧(∀ q,q < 8→0≤z.mono.get q∧z.mono.get q≤20):=fun u hu=>by
    obtain ⟨t,z,ht,hz,e,hcl⟩:=ho.mo u hu
    obtain rfl:=Zwj.1 ht
    exact⟨z,hz,e,hcl,Zhm (Zdq (hf.mono hz)) (ff.pos z hz)⟩
  have wown:∀ u,u∈own→Xv a.degrees u.mono∧∀ q,q < 8→0≤u.mono.get q∧u.mono.get q≤40:=fun u hu=>by
    obtain ⟨z,hz,e,hcl,hz20⟩:=hown u hu
    rw [e]
    refine⟨Zl3 wl (hf.mono hz).wk (fun q hq=>(lb q hq).1) (fun q hq=>(hz20 q hq).1) (fun q hq=>by have:=lb q hq; have:=hz20 q hq; omega) hcl,fun q hq=>?_⟩
    rw [ZMs]
    have:=lb q hq
    have:=hz20 q hq
    omega
  have lo:=Zrz ho.ln
  refine Zlw hd ho.can (fun u hu=>(wown u hu).1) (fun u hu q hq=>by have:=(wown u hu).2 q hq; omega) (Zhl _) (fun u hu=>by obtain rfl:=Zwj.1 hu; exact wb) (fun u hu q hq=>by obtain rfl:=Zwj.1 hu; have:=bb q hq; dsimp only; omega) (by have:=hf.1; omega) (by simp) fun prod hpr=>?_
  have lp:prod.length≤400:=by have h1:=hpr.ln; have:=hf.1; simp at h1; omega
  refine Zbb ?_
  rw [hv]
  refine Zhe hc hpr.can (Zma _ _ _ _) (by omega) (by omega) fun out' hout=>h out' ⟨hout.can,fun x=>?_,fun y hy=>?_,by have:=hout.ln; omega⟩
  · rw [hout.cf]
    have e1:=Zl0 (ds:=a.degrees) (l:=leftA m i) (b:=backA m i) (img:=(a.images.getD i Zuw).terms) (own:=own) (prod:=prod) (fun y=>by rw [ho.cf]; simp [prC,tot]) (fun x=>hpr.cf x) x
    rw [Zhj a hi,ZM2,ZMl,e1,← ZMl,← ZM2]
  · obtain ⟨z,hz,e⟩:=hout.mo y hy
    rcases hz with hz | hz
    · exact .inl ⟨z,hz,e⟩
    · obtain ⟨t,b,ht,hb,e2,hcl2⟩:=hpr.mo z hz
      obtain rfl:=Zwj.1 hb
      obtain ⟨u,hu,e3,hcl,_⟩:=hown t ht
      refine .inr ⟨i,u,hi8,hp,by rw [Zhj a hi]; exact hu,by rw [← e,e2,e3],hcl,?_⟩
      rw [← e3]; exact hcl2
theorem Zr2 {a : Alg} {f : List Term} {K : ZF9 → Prop} (ha : AlgF a) (hf : OkForm a.degrees f) (ff : FitT f) (h : ∀ out, IsD a.degrees (imgsT a) f out → out.length ≤ 1280000 → K ⟨out⟩) : Zel a ⟨f⟩ K := by
  have hd:=ha.deg
  have h8:=hd.1
  have hlen:=ha.len
  have hl4:=hf.1
  unfold Zel
  dsimp only
  refine X4 (fun (s:List Term×Int)=>0≤s.2∧s.2≤f.length∧IsD a.degrees (imgsT a) (f.take s.2.toNat) s.1∧s.1.length≤3200 * s.2.toNat) (fun s=>f.length - s.2.toNat) ?_ ⟨ZMp _,by dsimp only; omega,⟨Canon.nil,by intro x; rfl,by intro y hy; cases hy⟩,by simp⟩
  rintro ⟨out0,k⟩ next ⟨h1,h2,hI,hL⟩ hn
  dsimp only at h1 h2 hI hL hn ⊢
  split
  · rename_i hk
    have kn:k.toNat < f.length:=by omega
    refine⟨by omega,?_⟩
    have tm:=X1 kn
    have hm:=hf.mono tm
    have pm:=ff.pos _ tm
    have hfac:=hf.canon.at_range kn
    generalize hgm:(f.getD k.toNat Zuw).mono=m at hm pm ⊢
    generalize hgn:(f.getD k.toNat Zuw).factor=n at hfac ⊢
    have nk:(k+1).toNat=k.toNat+1:=by omega
    have wk1:Zxa.wrap (k+1)=k+1:=i64_in _ (by omega)
    refine X4 (fun (s:List Term×Int)=>0≤s.2∧s.2≤a.degrees.length∧Canon s.1∧(∀ x,(coT s.1 x+dS a.degrees (imgsT a) m n x (8 - s.2.toNat) s.2.toNat) % 10007=(tot (fun t=>dT a.degrees (imgsT a) t.mono t.factor x) (f.take k.toNat)+dT a.degrees (imgsT a) m n x) % 10007)∧(∀ y,y∈s.1→∃ t,t∈f.take (k.toNat+1)∧DMono a.degrees (imgsT a) y.mono t.mono)∧s.1.length≤3200 * k.toNat+400 * s.2.toNat)
      (fun s=>a.degrees.length - s.2.toNat) ?_ ⟨ZMp _,by dsimp only; omega,hI.can,fun x=>?_,fun y hy=>?_,by dsimp only; omega⟩
    · rintro ⟨out,i⟩ next' ⟨g1,g2,gc,gf,gm,gl⟩ hn'
      dsimp only at g1 g2 gc gf gm gl hn' ⊢
      have ni:(i+1).toNat=i.toNat+1:=by omega
      have wi:Zxa.wrap (i+1)=i+1:=i64_in _ (by omega)
      rw [wi,wk1]
      split
      · rename_i hi
        have hin:i.toNat < a.degrees.length:=by omega
        have hi8:i.toNat < 8:=by omega
        have pmi:=pm i.toNat hi8
        have hdS:∀ x,dS a.degrees (imgsT a) m n x (8 - i.toNat) i.toNat=(if m.get i.toNat > 0 then dK a.degrees m n i.toNat * triC a.degrees (leftA m i.toNat) (backA m i.toNat) ((imgsT a).getD i.toNat Zuw) x else 0)+dS a.degrees (imgsT a) m n x (8 - (i.toNat+1)) (i.toNat+1):=fun x=>by
          rw [show 8 - i.toNat=(8 - (i.toNat+1))+1 by omega]; rfl
        refine⟨by omega,?_⟩
        split
        · rename_i he
          refine hn' _ ⟨by dsimp only; omega,by dsimp only; omega,gc,fun x=>?_,gm,by dsimp only; omega⟩ (by dsimp only; omega)
          dsimp only
          rw [ni]
          have:=gf x
          rw [hdS,if_neg (by omega),ZIw] at this
          exact this
        · rename_i he
          have hp:0 < m.get i.toNat:=by omega
          refine Ys (fun j (s:A8×A8)=>∀ q,q < 8→(s.1.get q=if q < j∧i.toNat≤q then 0 else m.get q)∧(s.2.get q=if q < j∧q≤i.toNat then 0 else m.get q)) 8 ?_ ?_ _ _ _ (by omega) (fun q hq=>⟨by rw [if_neg (by omega)],by rw [if_neg (by omega)]⟩)
          · rintro j ⟨s1,s2⟩ nx hj hs hnx
            dsimp only at hs ⊢
            have fin:∀ t1 t2:A8,(∀ q,q < 8→t1.get q=if q=j∧i.toNat≤j then 0 else s1.get q)→(∀ q,q < 8→t2.get q=if q=j∧j≤i.toNat then 0 else s2.get q)→nx (t1,t2):=fun t1 t2 e1 e2=>hnx _ fun q hq=>by
              obtain ⟨a1,a2⟩:=hs q hq
              dsimp only
              rw [e1 q hq,e2 q hq]
              constructor
              · by_cases c1:q=j∧i.toNat≤j
                · rw [if_pos c1,if_pos ⟨by omega,by omega⟩]
                · rw [if_neg c1,a1]
                  by_cases c2:q < j∧i.toNat≤q
                  · rw [if_pos c2,if_pos ⟨by omega,c2.2⟩]
                  · rw [if_neg c2,if_neg (by omega)]
              · by_cases c1:q=j∧j≤i.toNat
                · rw [if_pos c1,if_pos ⟨by omega,by omega⟩]
                · rw [if_neg c1,a2]
                  by_cases c2:q < j∧q≤i.toNat
                  · rw [if_pos c2,if_pos ⟨by omega,c2.2⟩]
                  · rw [if_neg c2,if_neg (by omega)]
            have z0:∀ (s:A8) q,(s.set j 0).get q=if q=j then 0 else s.get q:=fun s q=>ZIy hj
            split
            · rename_i hge
              split
              · rename_i hle
                exact fin _ _ (fun q hq=>by rw [z0]; by_cases e:q=j <;> simp [e]; omega) (fun q hq=>by rw [z0]; by_cases e:q=j <;> simp [e]; omega)
              · rename_i hle
                exact fin _ _ (fun q hq=>by rw [z0]; by_cases e:q=j <;> simp [e]; omega) (fun q hq=>by rw [if_neg (by omega)])
            · rename_i hge
              split
              · rename_i hle
                exact fin _ _ (fun q hq=>by rw [if_neg (by omega)]) (fun q hq=>by rw [z0]; by_cases e:q=j <;> simp [e]; omega)
              · rename_i hle
                exact fin _ _ (fun q hq=>by rw [if_neg (by omega)]) (fun q hq=>by rw [if_neg (by omega)])
          · rintro ⟨s1,s2⟩ hs
            have e1:s1=Xt m i.toNat:=ZIz fun q hq=>by
              rw [(hs q hq).1,Xt,A8.get_mkf _ hq]
              by_cases hh:q < i.toNat
              · rw [if_neg (by omega),if_pos hh]
              · rw [if_pos ⟨hq,by omega⟩,if_neg hh]
            have e2:s2=backA m i.toNat:=ZIz fun q hq=>by
              rw [(hs q hq).2,backA,A8.get_mkf _ hq]
              by_cases hh:i.toNat < q
              · rw [if_neg (by omega),if_pos hh]
              · rw [if_pos ⟨hq,by omega⟩,if_neg hh]
            dsimp only
            rw [e1,e2]
            have hw:∀ q,q < 8→0≤(Xt m i.toNat).get q∧(Xt m i.toNat).get q≤255:=fun q hq=>by
              rw [Xt,A8.get_mkf _ hq]
              have:=pm q hq
              split <;> omega
            have hwt:wtU a.degrees (Xt m i.toNat) a.degrees.length=wtU a.degrees m i.toNat:=by rw [Zry h8 _ (Zuv _),show min i.toNat a.degrees.length=i.toNat by omega]
            have hwb:=Zds hd pm i.toNat (by omega)
            have hml:=Zdq hm i.toNat hi8
            have hset:(Xt m i.toNat).set i.toNat (ZGh.wrap (m.get i.toNat - 1))=leftA m i.toNat:=ZIz fun q hq=>by
              rw [ZIy hi8,Zgd _ (by omega),Xt,leftA,A8.get_mkf _ hq,A8.get_mkf _ hq]
              by_cases e:q=i.toNat
              · subst e; rw [if_pos rfl,if_neg (by omega),if_pos rfl]
              · rw [if_neg e]
                by_cases hh:q < i.toNat
                · rw [if_pos hh,if_pos hh]
                · rw [if_neg hh,if_neg hh,if_neg e]
            rw [hset]
            have hwm:Zxa.wrap (m.get i.toNat)=m.get i.toNat:=i64_in _ (by omega)
            have hpb:0≤n * m.get i.toNat∧n * m.get i.toNat≤100120036:=Zhb (by omega) (by omega)
            rw [hwm,i64_in (n * m.get i.toNat) (by omega),i64_in (0 - n * m.get i.toNat) (by omega)]
            refine⟨by omega,by omega,by omega,by omega,Zje hd hw ?_⟩
            rw [hwt]
            have key:∀ v,v % 10007=dK a.degrees m n i.toNat→Xs (leftA m i.toNat) 1 (fun r=>Xx a.degrees r (a.images.getD i.toNat Zuw) (fun r'=>Xs (backA m i.toNat) 1 (fun r2=>Xx a.degrees r' r2 (fun r3=>Xz v (fun k=>J2 ⟨out⟩ r3 k (fun r=>next' (r.terms,i+1))))))):=fun v hv =>
              Zr1 ha (by omega) hm pm hp gc (by omega) hv fun out' hs' => by
                refine hn' _ ⟨by dsimp only; omega,by dsimp only; omega,hs'.can,fun x=>?_,fun y hy=>?_,by have:=hs'.ln; dsimp only; omega⟩ (by dsimp only; omega)
                · dsimp only
                  rw [ni]
                  have b1:=gf x
                  have b2:=hs'.cf x
                  rw [hdS,if_pos (by omega)] at b1
                  omega
                · rcases hs'.mo y hy with ⟨z,hz,e⟩ | hD
                  · obtain ⟨t,ht,q⟩:=gm z hz
                    exact⟨t,ht,e ▸ q⟩
                  · exact⟨f.getD k.toNat Zuw,by rw [Jy kn]; exact Zvj _ (Zwj.2 rfl),by rw [hgm]; exact hD⟩
            rcases Zr0 hwb.1 with ⟨q1,q2⟩ | ⟨q1,q2⟩
            · rw [if_pos q1]
              refine⟨by omega,key _ ?_⟩
              unfold dK; rw [q2]; congr 1; omega
            · rw [if_neg q1]
              refine⟨by omega,key _ ?_⟩
              unfold dK; rw [q2]; congr 1; omega
      · rename_i hi
        refine hn _ ⟨by dsimp only; omega,by dsimp only; omega,⟨gc,fun x=>?_,fun y hy=>?_⟩,by dsimp only; omega⟩ (by dsimp only; omega)
        · dsimp only
          rw [nk,Jy kn,Zdj]
          simp only [tot]
          rw [hgm,hgn]
          have:=gf x
          rw [Zrj _ _ (fun j hj1 hj2=>(hm j (by omega)).2 (by omega))] at this
          omega
        · dsimp only
          rw [nk]; exact gm y hy
    · dsimp only
      have:=hI.cf x
      show (coT out0 x+dT a.degrees (imgsT a) m n x) % 10007=_
      omega
    · obtain ⟨t,ht,q⟩:=hI.mo y hy
      exact⟨t,ZNa (i:=k.toNat) (by rw [List.take_take,show min k.toNat (k.toNat+1)=k.toNat by omega]; exact ht),q⟩
  · rename_i hk
    rw [Zwh (by omega)] at hI
    exact h _ hI (by omega)
end Go.Proofs.YtheenipahifleaaGreat
namespace Go.Proofs.YtheenipahifleaaGreat
open Go Vc
theorem Zr3 {a:Alg} {K:List (Option (List (A8×Int)))→Prop} (ha:AlgF a) (h:∀ ls:List (Option (List (A8×Int))),(∀ i,i < a.images.length→∃ m,ls[i]? = some (some m)∧IsMap (a.images.getD i Zuw).terms m)→K ls):Zev a K:=by
  unfold Zev
  have h8:a.images.length≤8:=by have:=ha.deg.1; have:=ha.len; omega
  refine Ys (fun i (s:List (Option (List (A8×Int))))=>s.length=8∧∀ j,j < i→∃ m,s[j]? = some (some m)∧IsMap (a.images.getD j Zuw).terms m) a.images.length ?_ ?_ _ _ _ (by omega) ⟨by simp,by intro j hj; omega⟩
  · intro i s next hi ⟨h1,h2⟩ hn
    have hL:(⟨(a.images.getD i Zuw).terms⟩:ZF9)=a.images.getD i Zuw:=rfl
    rw [← hL]
    refine Zi9 (ha.frm i hi).canon (ha.fit i hi) fun m hm=>⟨by omega,hn _ ⟨by simpa using h1,fun j hj=>?_⟩⟩
    by_cases e:j=i
    · subst e
      exact⟨m,by rw [List.getElem?_set_self (by omega)],hm⟩
    · rw [List.getElem?_set_ne (fun q=>e q.symm)]
      exact h2 j (by omega)
  · intro s ⟨h1,h2⟩
    exact h s h2
theorem Zfo (m:A8):MapOk [(m,1)]:=⟨by simp,by intro p hp; obtain rfl:=Zwj.1 hp; simp⟩
theorem Zr4 {a:Alg} {K:List (A8×Int)→Prop} {m:A8} {n v:Int} {i:Nat} {out ml:List (A8×Int)} (ha:AlgF a) (hi:i < a.images.length) (hm:OkMono a.degrees m) (pm:∀ i,i < 8→0≤m.get i∧m.get i≤255) (hp:0 < m.get i) (ho:MapOk out) (hml:IsMap (a.images.getD i Zuw).terms ml) (hv:v % 10007=dK a.degrees m n i)
    (h:∀ out',MapOk out'→(∀ x,co out' x % 10007=(co out x+dK a.degrees m n i * triC a.degrees (leftA m i) (backA m i) ((imgsT a).getD i Zuw) x) % 10007)→(∀ y,y∈out'→(∃ z,z∈out∧z.1=y.1)∨DMono a.degrees (imgsT a) y.1 m)→K out') :
    J3 (Yc ([]:List (A8×Int)) (leftA m i) 1) a.degrees ml (fun r=>J3 r a.degrees (Yc ([]:List (A8×Int)) (backA m i) 1) (fun r2=>Zbl v (fun k=>Zbn out r2 k K))):=by
  have hd:=ha.deg
  have hi8:i < 8:=by have:=hd.1; have:=ha.len; omega
  have hf:=ha.frm i hi
  have ff:=ha.fit i hi
  have hm20:=Zhm (Zdq hm) pm
  obtain ⟨lb,bb,lbb⟩:=Zl9 hm20 hp
  obtain ⟨wl,wb⟩:=Zl2 hm hi8 hp
  have hml20:∀ p,p∈ml→OkMono a.degrees p.1∧∃ t,t∈(a.images.getD i Zuw).terms∧t.mono=p.1∧∀ q,q < 8→0≤p.1.get q∧p.1.get q≤20:=fun p hpm=>by
    obtain ⟨t,ht,e⟩:=hml.ks p hpm
    rw [← e]
    exact⟨hf.mono ht,t,ht,rfl,Zhm (Zdq (hf.mono ht)) (ff.pos t ht)⟩
  show J3 [(leftA m i,1)] a.degrees ml _
  refine Zja hd (Zfo _) (fun p hp'=>by obtain rfl:=Zwj.1 hp'; exact wl) (fun p hp' q hq=>by obtain rfl:=Zwj.1 hp'; exact(lb q hq).1) hml.ok (fun p hpm=>(hml20 p hpm).1.wk) (fun p hpm q hq=>by obtain ⟨_,t,_,_,b⟩:=hml20 p hpm; exact(b q hq).1) fun own hown=>?_
  have wown:∀ u,u∈own→∃ z,z∈(a.images.getD i Zuw).terms∧u.1=(leftA m i).add z.mono∧¬ Clash a.degrees (leftA m i) z.mono∧Xv a.degrees u.1∧∀ q,q < 8→0≤u.1.get q∧u.1.get q≤40:=fun u hu=>by
    obtain ⟨t,z,ht,hz,e,hcl⟩:=hown.ks u hu
    obtain rfl:=Zwj.1 ht
    obtain ⟨hzm,tt,htt,ett,hz20⟩:=hml20 z hz
    refine⟨tt,htt,by rw [ett]; exact e,by rw [ett]; exact hcl,?_,fun q hq=>?_⟩
    · rw [e]
      exact Zl3 wl hzm.wk (fun q hq=>(lb q hq).1) (fun q hq=>(hz20 q hq).1) (fun q hq=>by have:=lb q hq; have:=hz20 q hq; dsimp only; omega) hcl
    · rw [e,ZMs]
      have:=lb q hq
      have:=hz20 q hq
      dsimp only
      omega
  show J3 own a.degrees [(backA m i,1)] _
  refine Zja hd hown.ok (fun u hu=>by obtain ⟨_,_,_,_,w,_⟩:=wown u hu; exact w) (fun u hu q hq=>by obtain ⟨_,_,_,_,_,b⟩:=wown u hu; exact(b q hq).1) (Zfo _) (fun p hp'=>by obtain rfl:=Zwj.1 hp'; exact wb) (fun p hp' q hq=>by obtain rfl:=Zwj.1 hp'; exact(bb q hq).1) fun prod hpr=>?_
  refine Zlt ?_
  rw [hv]
  refine Zlz ho hpr.ok (Zma _ _ _ _) fun out' hout=>h out' hout.ok (fun x=>?_) fun y hy=>?_
  · rw [hout.cf,Zhj a hi]
    have e1:=Zrk hml hf.canon hown hpr x
    rw [ZM2,ZMl,e1,← ZMl,← ZM2]
  · obtain ⟨z,hz,e⟩:=hout.ks y hy
    rcases hz with hz | hz
    · exact .inl ⟨z,hz,e⟩
    · obtain ⟨t,b,ht,hb,e2,hcl2⟩:=hpr.ks z hz
      obtain rfl:=Zwj.1 hb
      obtain ⟨u,hu,e3,hcl,_⟩:=wown t ht
      refine .inr ⟨i,u,hi8,hp,by rw [Zhj a hi]; exact hu,by rw [← e,e2,e3],hcl,?_⟩
      rw [← e3]; exact hcl2
theorem Zr5 (m:A8):A8.zero=Xt m 0:=ZIz fun q hq=>by rw [A8.get_zero,Xt,A8.get_mkf _ hq,if_neg (by omega)]
theorem Zr6 {m:A8} {i:Nat} (hi:i < 8):(Xt m i).set i (m.get i)=Xt m (i+1):=ZIz fun q hq=>by
  rw [ZIy hi,Xt,Xt,A8.get_mkf _ hq,A8.get_mkf _ hq]
  by_cases e:q=i
  · subst e; rw [if_pos rfl,if_pos (by omega)]
  · rw [if_neg e]
    by_cases hh:q < i
    · rw [if_pos hh,if_pos (by omega)]
    · rw [if_neg hh,if_neg (by omega)]
theorem Zr7 {d e:Int} (hd:1≤d∧d≤12) (he:0≤e):sg (d * e)=if Zvh d 2=1∧Zvh e 2=1 then -1 else 1:=by
  rw [ZI1 (by omega),ZI1 he]
  unfold sg
  have h:=ZMl d e 2
  rcases (by omega:d % 2=0∨d % 2=1) with a | a <;> rcases (by omega:e % 2=0∨e % 2=1) with b | b <;> rw [a,b] at h <;> simp [h,a,b]
theorem m_d {a : Alg} {f : List Term} {s : List (A8 × Int)} {K : List (A8 × Int) → Prop} (ha : AlgF a) (hs : IsMap f s) (hf : OkForm a.degrees f) (ff : FitT f) (h : ∀ out, IsDM a.degrees (imgsT a) s out → K out) : Zew a s K := by
  have hd:=ha.deg
  have h8:=hd.1
  have hlen:=ha.len
  unfold Zew
  refine Zr3 ha fun ls hls=>?_
  refine Zc9 (fun l' (out:List (A8×Int))=>(∀ p,p∈l'→p∈s)∧MapOk out∧(∀ x,(co out x+tot (fun p=>dT a.degrees (imgsT a) p.1 p.2 x) l') % 10007=tot (fun p=>dT a.degrees (imgsT a) p.1 p.2 x) s % 10007)∧(∀ y,y∈out→∃ t,t∈s∧DMono a.degrees (imgsT a) y.1 t.1)) ?_ ?_ s [] ⟨fun _ h=>h,MapOk.nil,fun x=>by rw [Zck,ZIw],by simp⟩
  · intro l' p l'' out next hpk ⟨h0, h1, h2, h3⟩ hn
    have hperm:=Zda hpk
    have hpm:p∈s:=h0 p (hperm.mem_iff.2 (by simp))
    have hpf:=hs.ok.2 p hpm
    obtain ⟨t,ht,et⟩:=hs.ks p hpm
    have hm:OkMono a.degrees p.1:=by rw [← et]; exact hf.mono ht
    have pm:∀ i,i < 8→0≤p.1.get i∧p.1.get i≤255:=by rw [← et]; exact ff.pos t ht
    have e3:∀ x,tot (fun p=>dT a.degrees (imgsT a) p.1 p.2 x) l'=dT a.degrees (imgsT a) p.1 p.2 x+tot (fun p=>dT a.degrees (imgsT a) p.1 p.2 x) l'':=fun x=>by rw [Zci _ hperm]; rfl
    refine Ys (fun i (t:A8×(List (A8×Int))×Int)=>t.1=Xt p.1 i∧MapOk t.2.1∧t.2.2=sg (wtU a.degrees p.1 i)∧(∀ x,(co t.2.1 x+dS a.degrees (imgsT a) p.1 p.2 x (8 - i) i) % 10007=(co out x+dT a.degrees (imgsT a) p.1 p.2 x) % 10007)∧(∀ y,y∈t.2.1→∃ t,t∈s∧DMono a.degrees (imgsT a) y.1 t.1)) 8 ?_ ?_ _ _ _ (by omega) ⟨Zr5 _,h1,rfl,fun x=>rfl,h3⟩
    · rintro i ⟨t1,o1,sg1⟩ nx hi ⟨g1,g2,g3,g4,g5⟩ hnx
      dsimp only at g1 g2 g3 g4 g5 ⊢
      subst g1 g3
      have pmi:=pm i hi
      have hdS:∀ x,dS a.degrees (imgsT a) p.1 p.2 x (8 - i) i=(if p.1.get i > 0 then dK a.degrees p.1 p.2 i * triC a.degrees (leftA p.1 i) (backA p.1 i) ((imgsT a).getD i Zuw) x else 0)+dS a.degrees (imgsT a) p.1 p.2 x (8 - (i+1)) (i+1):=fun x=>by
        rw [show 8 - i=(8 - (i+1))+1 by omega]; rfl
      have hspm:=Zkt (wtU a.degrees p.1 i)
      have tail:∀ o2:List (A8×Int),MapOk o2→(∀ x,(co o2 x+dS a.degrees (imgsT a) p.1 p.2 x (8 - (i+1)) (i+1)) % 10007=(co out x+dT a.degrees (imgsT a) p.1 p.2 x) % 10007)→(∀ y,y∈o2→∃ t,t∈s∧DMono a.degrees (imgsT a) y.1 t.1) →
          (if(i:Int) < (a.degrees.length:Int) then((0≤(i:Int)∧(i:Int) < (a.degrees.length:Int))∧(if Zvh (a.degrees.getD i Zuw) 2=1 then(if Zvh (p.1.get i) 2=1 then nx ((Xt p.1 i).set i (p.1.get i),o2,Zxa.wrap (0 - sg (wtU a.degrees p.1 i))) else nx ((Xt p.1 i).set i (p.1.get i),o2,sg (wtU a.degrees p.1 i))) else nx ((Xt p.1 i).set i (p.1.get i),o2,sg (wtU a.degrees p.1 i)))) else nx ((Xt p.1 i).set i (p.1.get i),o2,sg (wtU a.degrees p.1 i))):=by
        intro o2 k1 k2 k3
        rw [Zr6 hi]
        have go:∀ z,z=sg (wtU a.degrees p.1 (i+1))→nx (Xt p.1 (i+1),o2,z):=fun z hz=>hnx _ ⟨rfl,k1,hz,k2,k3⟩
        have hw:wtU a.degrees p.1 (i+1)=wtU a.degrees p.1 i+a.degrees.getD i Zuw * p.1.get i:=rfl
        split
        · rename_i hin
          have hdi:=hd.2 i (by omega)
          have hstep:=Zr7 hdi pmi.1
          refine⟨by omega,?_⟩
          split
          · rename_i q1
            split
            · rename_i q2
              rw [if_pos ⟨q1,q2⟩] at hstep
              rw [i64_in _ (by omega)]
              exact go _ (by rw [hw,Zge,hstep]; omega)
            · rename_i q2
              rw [if_neg (fun z=>q2 z.2)] at hstep
              exact go _ (by rw [hw,Zge,hstep,ZM0])
          · rename_i q1
            rw [if_neg (fun z=>q1 z.1)] at hstep
            exact go _ (by rw [hw,Zge,hstep,ZM0])
        · rename_i hin
          have:=(hm i hi).2 (by omega)
          exact go _ (by rw [hw,this,ZMv,ZMm])
      split
      · rename_i hp0
        have hp0':0 < p.1.get i:=hp0
        have hin:i < a.images.length:=by
          rcases Nat.lt_or_ge i a.images.length with q | q
          · exact q
          · have:=(hm i hi).2 (by omega); omega
        have wi:Zxa.wrap ((i:Int)+1)=(i:Int)+1:=i64_in _ (by omega)
        rw [wi]
        refine X4 (fun (t:A8×Int)=>0≤t.2∧t.2≤i+1∧∀ q,q < 8→t.1.get q=if(q:Int) < t.2 then 0 else p.1.get q) (fun t=>i+1 - t.2.toNat) ?_ ⟨ZMp _,by dsimp only; omega,fun q hq=>by rw [if_neg (by dsimp only; omega)]⟩
        rintro ⟨t1,k⟩ nk ⟨b1,b2,b3⟩ hnk
        dsimp only at b1 b2 b3 hnk ⊢
        split
        · rename_i hk
          refine⟨by omega,?_⟩
          rw [i64_in (k+1) (by omega)]
          refine hnk _ ⟨by dsimp only; omega,by dsimp only; omega,fun q hq=>?_⟩ (by dsimp only; omega)
          dsimp only
          rw [ZIy (by omega),b3 q hq]
          by_cases e:q=k.toNat
          · rw [if_pos e,if_pos (by omega)]
          · rw [if_neg e]
            by_cases hh:(q:Int) < k
            · rw [if_pos hh,if_pos (by omega)]
            · rw [if_neg hh,if_neg (by omega)]
        · rename_i hk
          have eb:t1=backA p.1 i:=ZIz fun q hq=>by
            rw [b3 q hq,backA,A8.get_mkf _ hq]
            by_cases hh:i < q
            · rw [if_neg (by omega),if_pos hh]
            · rw [if_pos (by omega),if_neg hh]
          have hml:=Zdq hm i hi
          have el:(Xt p.1 i).set i (Zxa.wrap (p.1.get i - 1))=leftA p.1 i:=ZIz fun q hq=>by
            rw [ZIy hi,i64_in _ (by omega),Xt,leftA,A8.get_mkf _ hq,A8.get_mkf _ hq]
            by_cases e:q=i
            · subst e; rw [if_pos rfl,if_neg (by omega),if_pos rfl]
            · rw [if_neg e]
              by_cases hh:q < i
              · rw [if_pos hh,if_pos hh]
              · rw [if_neg hh,if_neg hh,if_neg e]
          rw [eb,el]
          obtain ⟨ml,hml1,hml2⟩:=hls i hin
          refine⟨ml,hml1,?_⟩
          refine Zr4 (n:=p.2) ha hin hm pm hp0' g2 hml2 ?_ fun o2 k1 k2 k3=>?_
          · rw [Zi8 hspm hpf (by omega)]; rfl
          · refine tail o2 k1 (fun x=>?_) fun y hy=>?_
            · have c1:=g4 x
              have c2:=k2 x
              rw [hdS,if_pos hp0] at c1
              omega
            · rcases k3 y hy with ⟨z,hz,e⟩ | hD
              · obtain ⟨t,ht,q⟩:=g5 z hz
                exact⟨t,ht,e ▸ q⟩
              · exact⟨p,hpm,hD⟩
      · rename_i hp0
        refine tail o1 g2 (fun x=>?_) g5
        have c1:=g4 x
        rw [hdS,if_neg hp0,ZIw] at c1
        exact c1
    · rintro ⟨t1,o1,sg1⟩ ⟨g1,g2,g3,g4,g5⟩
      dsimp only at g2 g4 g5 ⊢
      refine hn _ ⟨fun q hq=>h0 q (hperm.mem_iff.2 (by simp [hq])),g2,fun x=>?_,g5⟩
      have c1:=g4 x
      have c2:=h2 x
      rw [e3] at c2
      simp only [Nat.sub_self,dS] at c1
      omega
  · intro out ⟨_,h1,h2,h3⟩
    exact h _ ⟨h1,fun x=>by have:=h2 x; simp only [tot,ZMm] at this; exact this,h3⟩
theorem Zr8 {m:List (A8×Int)} (hm:MapOk m):∃ l,Canon l∧(∀ x,coT l x=co m x)∧∀ t,t∈l→∃ p,p∈m∧p.1=t.mono:=by
  obtain ⟨xs,hxs,hw⟩:=Zg4 (m.map (·.1))
  obtain ⟨h1,h2⟩:=Zg3 hm hxs hw
  refine⟨_,h1,h2,fun t ht=>?_⟩
  obtain ⟨x,hx,rfl⟩:=Zv7.1 ht
  obtain ⟨p,hpm,e⟩:=Zv7.1 (hxs.mem_iff.1 hx)
  exact⟨p,hpm,e⟩
theorem Zr9 {ds:List Int} {imgs:List (List Term)} {f:List Term} {s out':List (A8×Int)} (hs:IsMap f s) (hc:Canon f) (h':IsDM ds imgs s out'):out'=[]↔∀ out,IsD ds imgs f out→out=[]:=by
  constructor
  · intro e out ho
    exact(Zl5 (Zrl hs hc ho h') ho.can).1 e
  · intro hall
    obtain ⟨l,hl,hcf,hks⟩:=Zr8 h'.ok
    have hd:IsD ds imgs f l:=⟨hl,fun x=>by rw [hcf,h'.cf,Zhf hs hc (fun a n=>dT ds imgs a n x) (fun a=>Zl1 ds imgs a x)],fun y hy=>by
      obtain ⟨p,hp,e⟩:=hks y hy
      obtain ⟨t,ht,q⟩:=h'.mo p hp
      obtain ⟨u,hu,e2⟩:=hs.ks t ht
      exact⟨u,hu,by rw [← e,e2]; exact q⟩⟩
    have e:=hall l hd
    have hm:IsMap l out':=Zl4 hl h'.ok fun x=>by rw [hcf]
    exact(Zl5 hm hl).2 e
theorem Zsa {ds:List Int} {imgs:List (List Term)} {f out out2:List Term} (h:IsD ds imgs f out) (k:IsD ds imgs f out2):out=out2:=Zlh h.can k.can fun x=>by rw [h.cf,k.cf]
def Hom (ds:List Int) (l:List Term) (n:Int):Prop:=∀ i,i < l.length→wtU ds (l.getD i Zuw).mono ds.length=n
instance (ds:List Int) (l:List Term) (n:Int):Decidable (Hom ds l n):=inferInstanceAs (Decidable (∀ i,i < l.length→_))
theorem Zsb {ds : List Int} {l : List Term} {K : Int → Bool → Prop} (hd : OkDeg ds) (hp : FitT l) (h0 : l.length = 0 → K (-1) true) (h1 : 0 < l.length → Hom ds l (wtU ds (l.getD 0 Zuw).mono ds.length) → K (wtU ds (l.getD 0 Zuw).mono ds.length) true) (h2 : (∀ n, ¬ Hom ds l n) → K 0 false) : Zet ds ⟨l⟩ K := by
  unfold Zet
  dsimp only
  refine Ys (fun i (s:Int)=>(i=0∧s=-1)∨(0 < i∧s=wtU ds (l.getD 0 Zuw).mono ds.length∧∀ j,j < i→wtU ds (l.getD j Zuw).mono ds.length=wtU ds (l.getD 0 Zuw).mono ds.length)) l.length ?_ ?_ _ _ _ (by omega) (.inl ⟨rfl,rfl⟩)
  · intro i s next hi hI hn
    have f1:=hp _ (X1 hi)
    have b0:=hp.pos _ (X1 hi)
    have hw:=Zds hd b0 ds.length (Zuv _)
    refine Zgz f1 (Zrx hd b0 ?_)
    rcases hI with ⟨e1,e2⟩ | ⟨e1,e2,e3⟩
    · subst e1 e2
      rw [if_neg (by omega)]
      exact hn _ (.inr ⟨by omega, rfl, fun j hj => by obtain rfl : j = 0 := by omega
                                                      rfl⟩)
    · have hw0:=Zds hd (hp.pos _ (X1 (show 0 < l.length by omega))) ds.length (Zuv _)
      rw [if_pos (by omega)]
      split
      · rename_i q
        refine h2 fun n hn'=>q ?_
        rw [hn' i hi,e2,hn' 0 (by omega)]
      · rename_i q
        have q:wtU ds (l.getD i Zuw).mono ds.length=s:=ZJw.1 q
        refine hn _ (.inr ⟨by omega,by rw [q,e2],fun j hj=>?_⟩)
        by_cases e:j=i
        · subst e; rw [q,e2]
        · exact e3 j (by omega)
  · intro s hI
    rcases hI with ⟨e1,e2⟩ | ⟨e1,e2,e3⟩
    · rw [e2]; exact h0 e1
    · rw [e2]; exact h1 e1 e3
theorem Zsc {ds:List Int} {l:List Term} {n:Int} {K:Bool→Prop} (hd:OkDeg ds) (hp:FitT l) (h:K (decide (Hom ds l n))):Zeu ds ⟨l⟩ n K:=by
  unfold Zeu
  refine Zsb hd hp (fun e=>?_) (fun e hh=>?_) (fun hno=>?_)
  · rw [if_pos rfl,if_pos rfl]
    have:Hom ds l n:=fun i hi=>by omega
    rwa [decide_eq_true this] at h
  · have hw0:=Zds hd (hp.pos _ (X1 e)) ds.length (Zuv _)
    rw [if_pos rfl,if_neg (by omega)]
    have:Hom ds l n↔wtU ds (l.getD 0 Zuw).mono ds.length=n:=⟨fun q=>q 0 e,fun q=>q ▸ hh⟩
    rwa [decide_eq_decide.2 this] at h
  · rw [if_neg (by simp)]
    rwa [decide_eq_false (hno n)] at h
theorem Zsd {ds : List Int} {l : List Term} {K : Int → Bool → Prop} (hd : OkDeg ds) (hp : Zdp l) (hl : l.length ≤ 100000000) (h0 : l.length = 0 → K (-1) true) (h1 : 0 < l.length → Hom ds l (wtU ds (l.getD 0 Zuw).mono ds.length) → K (wtU ds (l.getD 0 Zuw).mono ds.length) true) (h2 : (∀ n, ¬ Hom ds l n) → K 0 false) : Zek ds ⟨l⟩ K := by
  unfold Zek
  dsimp only
  split
  · exact h0 (by omega)
  · rename_i q0
    have hpos:0 < l.length:=by omega
    refine⟨by omega,Zje hd (hp _ (X1 hpos)) ?_⟩
    refine X4 (fun (s:Int)=>1≤s∧s≤l.length∧∀ j:Nat,(j:Int) < s→wtU ds (l.getD j Zuw).mono ds.length=wtU ds (l.getD 0 Zuw).mono ds.length) (fun s=>l.length - s.toNat) ?_ ⟨ZMp _,by omega,fun j hj=>by
      have hj':(j:Int) < 1:=hj
      obtain rfl:j=0:=by omega
      rfl⟩
    rintro i next ⟨g1,g2,g3⟩ hn
    split
    · rename_i hi
      have a:i.toNat < l.length:=by omega
      refine⟨by omega,Zje hd (hp _ (X1 a)) ?_⟩
      split
      · rename_i q
        refine h2 fun n hn'=>q ?_
        rw [hn' _ a,hn' 0 hpos]
      · rename_i q
        have q:=ZJw.1 q
        rw [i64_in _ (by omega)]
        refine hn _ ⟨by omega,by omega,fun j hj=>?_⟩ (by omega)
        by_cases e:j=i.toNat
        · subst e; exact q
        · exact g3 j (by omega)
    · exact h1 hpos fun j hj=>g3 j (by omega)
structure OkAlg (a:Alg):Prop where
  deg:OkDeg a.degrees
  len:a.images.length=a.degrees.length
  frm:∀ i,i < a.images.length→OkForm a.degrees (a.images.getD i Zuw).terms
  hom:∀ i,i < a.images.length→Hom a.degrees (a.images.getD i Zuw).terms (a.degrees.getD i Zuw+1)
  clo:∀ i,i < a.images.length→∀ out,IsD a.degrees (imgsT a) (a.images.getD i Zuw).terms out→out=[]
def Zaj (a:Alg):Prop:=∀ i,i < a.images.length→FitT (a.images.getD i Zuw).terms∧(a.images.getD i Zuw).terms.length≤1048576
theorem Zse {a : Alg} {K : Bool → Prop} (hf : Zaj a) (h1 : OkAlg a → K true) (h2 : ¬ OkAlg a → K false) : Zem a K := by
  unfold Zem
  refine Zqa ?_
  split
  · rename_i q; exact h2 fun z=>q (decide_eq_true z.deg)
  · rename_i q1
    have q1:=of_decide_eq_true (ZJw.1 q1)
    have h8:=q1.1
    split
    · rename_i q; exact h2 fun z=>q (by rw [z.len])
    · rename_i q2
      have q2:a.images.length=a.degrees.length:=by have:=ZJw.1 q2; omega
      refine X4 (fun (s:Int)=>0≤s∧s≤a.images.length∧∀ i:Nat,(i:Int) < s→OkForm a.degrees (a.images.getD i Zuw).terms∧Hom a.degrees (a.images.getD i Zuw).terms (a.degrees.getD i Zuw+1)) (fun s=>a.images.length - s.toNat) ?_ ⟨ZMp _,by omega,fun i hi=>by omega⟩
      rintro i next ⟨g1,g2,g3⟩ hn
      split
      · rename_i hi
        have hin:i.toNat < a.images.length:=by omega
        obtain ⟨hft,hfl⟩:=hf i.toNat hin
        have hL:(⟨(a.images.getD i.toNat Zuw).terms⟩:ZF9)=a.images.getD i.toNat Zuw:=rfl
        have hdi:=q1.2 i.toNat (by omega)
        have wi:Zxa.wrap (i+1)=i+1:=i64_in _ (by omega)
        rw [wi,← hL]
        refine⟨by omega,Zlu h8 hft.pos (by omega) ?_⟩
        split
        · rename_i q; exact h2 fun z=>q (decide_eq_true (z.frm _ hin))
        · rename_i q3
          have q3:=of_decide_eq_true (ZJw.1 q3)
          have good:Hom a.degrees (a.images.getD i.toNat Zuw).terms (a.degrees.getD i.toNat Zuw+1)→next (i+1):=fun hh=>hn _ ⟨by omega,by omega,fun j hj=>by
            by_cases e:j=i.toNat
            · subst e; exact⟨q3,hh⟩
            · exact g3 j (by omega)⟩ (by omega)
          have hwd:Zxa.wrap (a.degrees.getD i.toNat Zuw+1)=a.degrees.getD i.toNat Zuw+1:=i64_in _ (by omega)
          rw [hwd]
          refine⟨by omega,Zsd q1 hft.pos (by omega) (fun e=>?_) (fun e hh=>?_) (fun hno=>?_)⟩
          · rw [if_neg (by simp)]
            dsimp only
            refine⟨by omega,?_⟩
            rw [if_neg (by omega)]
            exact good fun j hj=>by omega
          · rw [if_neg (by simp)]
            dsimp only
            refine⟨by omega,?_⟩
            rw [if_pos (by omega)]
            refine⟨by omega,?_⟩
            split
            · rename_i q
              exact h2 fun z=>q (z.hom _ hin 0 e)
            · rename_i q
              have q:=ZJw.1 q
              exact good (q ▸ hh)
          · rw [if_pos (by simp)]
            exact h2 fun z=>hno _ (z.hom _ hin)
      · rename_i hi
        have hF:AlgF a:=⟨q1,q2,fun i hi=>(g3 i (by omega)).1,fun i hi=>(hf i hi).1⟩
        refine X4 (fun (s:Int)=>0≤s∧s≤a.images.length∧∀ i:Nat,(i:Int) < s→∀ out,IsD a.degrees (imgsT a) (a.images.getD i Zuw).terms out→out=[]) (fun s=>a.images.length - s.toNat) ?_ ⟨ZMp _,by omega,fun i hi=>by omega⟩
        rintro k next' ⟨k1,k2,k3⟩ hn'
        split
        · rename_i hk
          have hkn:k.toNat < a.images.length:=by omega
          have hL:(⟨(a.images.getD k.toNat Zuw).terms⟩:ZF9)=a.images.getD k.toNat Zuw:=rfl
          rw [← hL]
          refine⟨by omega,Zr2 hF (hF.frm _ hkn) (hF.fit _ hkn) fun out ho _=>?_⟩
          dsimp only
          split
          · rename_i q
            refine h2 fun z=>?_
            have:=z.clo _ hkn out ho
            rw [this] at q; simp at q
          · rename_i q
            rw [i64_in _ (by omega)]
            have e:out=[]:=List.length_eq_zero_iff.1 (by omega)
            refine hn' _ ⟨by omega,by omega,fun j hj=>?_⟩ (by omega)
            by_cases ej:j=k.toNat
            · subst ej; intro o2 ho2; rw [Zsa ho2 ho,e]
            · exact k3 j (by omega)
        · rename_i hk
          exact h1 ⟨q1,q2,hF.frm,fun i hi=>(g3 i (by omega)).2,fun i hi=>k3 i (by omega)⟩
theorem Zmb {l:List ZF9} {p:ZF9→(Bool→Prop)→Prop} {K:Bool→Prop} {Q:ZF9→Prop} (hp:∀ i,i < l.length→∀ K':Bool→Prop,(Q (l.getD i Zuw)→K' true)→(¬ Q (l.getD i Zuw)→K' false)→p (l.getD i Zuw) K')
    (h1:(∃ i,i < l.length∧Q (l.getD i Zuw))→K true) (h2:(∀ i,i < l.length→¬ Q (l.getD i Zuw))→K false):Zdl l p K:=by
  unfold Zdl Zg5
  refine Ys (fun i (_:Unit)=>∀ j,j < i→¬ Q (l.getD j Zuw)) l.length ?_ ?_ _ _ _ (by omega) (by intro j hj; omega)
  · intro i s next hi hI hn
    refine hp i hi _ (fun q=>?_) (fun q=>?_)
    · rw [if_pos rfl]
      show K (decide ((i:Int)≥0))
      rw [decide_eq_true (show (i:Int)≥0 by omega)]
      exact h1 ⟨i,hi,q⟩
    · rw [if_neg (by simp)]
      refine hn _ fun j hj=>?_
      by_cases e:j=i
      · subst e; exact q
      · exact hI j (by omega)
  · intro s hI
    show K (decide ((-1:Int)≥0))
    rw [decide_eq_false (show ¬ (-1:Int)≥0 by omega)]
    exact h2 hI
theorem Zsf {a : Alg} {K : Bool → Prop} (hf : Zaj a) (h1 : OkAlg a → K true) (h2 : ¬ OkAlg a → K false) : Zfe a K := by
  unfold Zfe
  refine Zqd ?_
  split
  · rename_i q; exact h2 fun z=>q (decide_eq_true z.deg)
  · rename_i q1
    have q1:=of_decide_eq_true (ZJw.1 q1)
    have h8:=q1.1
    split
    · rename_i q; exact h2 fun z=>q (by rw [z.len])
    · rename_i q2
      have q2:a.images.length=a.degrees.length:=by have:=ZJw.1 q2; omega
      refine Ys (fun i (_:Unit)=>∀ j:Nat,j < i→OkForm a.degrees (a.images.getD j Zuw).terms∧Hom a.degrees (a.images.getD j Zuw).terms (a.degrees.getD j Zuw+1)) a.images.length ?_ ?_ _ _ _ (by omega) (by intro j hj; omega)
      · intro i s next hi hI hn
        obtain ⟨hft,hfl⟩:=hf i hi
        have hL:(⟨(a.images.getD i Zuw).terms⟩:ZF9)=a.images.getD i Zuw:=rfl
        have hdi:=q1.2 i (by omega)
        rw [← hL]
        refine Zrg q1 hft ?_
        split
        · rename_i q; exact h2 fun z=>q (decide_eq_true (z.frm _ hi))
        · rename_i q3
          have q3:=of_decide_eq_true (ZJw.1 q3)
          rw [i64_in _ (by omega)]
          refine⟨by omega,Zsc q1 hft ?_⟩
          split
          · rename_i q; exact h2 fun z=>q (decide_eq_true (z.hom _ hi))
          · rename_i q4
            have q4:=of_decide_eq_true (ZJw.1 q4)
            refine hn _ fun j hj=>?_
            by_cases e:j=i
            · subst e; exact⟨q3,q4⟩
            · exact hI j (by omega)
      · intro s hI
        have hF:AlgF a:=⟨q1,q2,fun i hi=>(hI i hi).1,fun i hi=>(hf i hi).1⟩
        refine Zmb (Q:=fun f=>¬ ∀ out,IsD a.degrees (imgsT a) f.terms out→out=[]) (fun i hi K' c1 c2=>?_) (fun hex=>?_) (fun hall=>?_)
        · unfold Zfd
          have hL:(⟨(a.images.getD i Zuw).terms⟩:ZF9)=a.images.getD i Zuw:=rfl
          rw [← hL]
          refine Zi9 (hF.frm i hi).canon (hF.fit i hi) fun m hm=>m_d hF hm (hF.frm i hi) (hF.fit i hi) fun out ho=>?_
          have hiff:=Zr9 hm (hF.frm i hi).canon ho
          by_cases e:out=[]
          · subst e
            rw [decide_eq_false (by simp)]
            exact c2 fun z=>z (hiff.1 rfl)
          · have hlen:0 < out.length:=List.length_pos_iff.2 e
            rw [decide_eq_true (by omega)]
            exact c1 fun z=>e (hiff.2 z)
        · obtain ⟨i,hi,hq⟩:=hex
          exact h2 fun z=>hq (z.clo i hi)
        · exact h1 ⟨q1,q2,hF.frm,fun i hi=>(hI i hi).2,fun i hi=>ZNe (hall i hi)⟩
theorem Zsg {a:Alg} {K:Int→Prop} (hf:Zaj a) (h1:OkAlg a→K 0) (h2:¬ OkAlg a→K 1):Zff a [] K:=by
  unfold Zff
  refine Zsf hf (fun z=>?_) (fun z=>?_)
  · rw [if_neg (by simp)]
    refine Zmb (Q:=fun _=>True) (fun i hi=>by simp at hi) (fun hex=>by obtain ⟨i,hi,_⟩:=hex; simp at hi) (fun _=>?_)
    exact Zdr (h1 z)
  · rw [if_pos (by simp)]
    exact Zdr (h2 z)
end Go.Proofs.YtheenipahifleaaGreat
namespace Go.Proofs.YtheenipahifleaaGreat
open Go Vc
def Zcp (ds:List Int) (f g:List Term):List Term:=(f.map fun t=>g.map fun u=>(⟨(Yt ds t.mono u.mono).1,(Yt ds t.mono u.mono).2 * (t.factor * u.factor)⟩:Term)).flatten
theorem Zsh (f g:List Term) (m:A8):coT (f++g) m=coT f m+coT g m:=Zdj _ f g
theorem Zsi (ds:List Int) (f g:List Term) (m:A8):coT (Zcp ds f g) m=prC ds f g m:=by
  induction f with
  | nil=>rfl
  | cons t f ih =>
    have e:Zcp ds (t::f) g=(g.map fun u=>(⟨(Yt ds t.mono u.mono).1,(Yt ds t.mono u.mono).2 * (t.factor * u.factor)⟩:Term))++Zcp ds f g:=rfl
    rw [e,Zsh,ih]
    have e2:coT (g.map fun u=>(⟨(Yt ds t.mono u.mono).1,(Yt ds t.mono u.mono).2 * (t.factor * u.factor)⟩:Term)) m=shC ds t g m:=by
      unfold coT shC
      rw [Zai]
      exact Zav fun u _=>rfl
    rw [e2]; rfl
theorem Zsj (l:List A8):∃ S:List A8,S.Nodup∧∀ x,x∈l→x∈S:=by
  induction l with
  | nil=>exact⟨[],ZNf,fun x h=>h⟩
  | cons a l ih =>
    obtain ⟨S,h1,h2⟩:=ih
    by_cases c:a∈S
    · exact⟨S,h1,fun x hx=>(Zus.1 hx).elim (fun e=>e ▸ c) (h2 x)⟩
    · exact⟨a::S,ZIx.2 ⟨c,h1⟩,fun x hx=>(Zus.1 hx).elim (fun e=>e ▸ ZMt) fun q=>ZMq _ (h2 x q)⟩
theorem Zmc (F:A8→Int) {f f':List Term} (c:Int) (h:∀ x,coT f x % 10007=(c * coT f' x) % 10007):tot (fun t=>F t.mono * t.factor) f % 10007=(c * tot (fun t=>F t.mono * t.factor) f') % 10007:=by
  obtain ⟨S,hS,hc⟩:=Zsj ((f++f').map ZMr)
  rw [Zhg F S hS f fun t ht=>hc _ (Zv7.2 ⟨t,Zvo _ ht,rfl⟩),Zhg F S hS f' fun t ht=>hc _ (Zv7.2 ⟨t,Zvj _ ht,rfl⟩),← Zlf]
  refine Zi3 fun x _=>?_
  rw [ZMl,h,← ZMl,Int.mul_left_comm]
theorem Zsk (ds:List Int) (a:A8) (n:Int) (b:A8) (k:Int) (m:A8):pr1 ds a n b k m=n * pr1 ds a 1 b k m:=by
  unfold pr1; split
  · rw [ZM1,Int.mul_left_comm]
  · rw [ZMv]
theorem Zsl (ds:List Int) (a:A8) (n:Int) (b:A8) (k:Int) (m:A8):pr1 ds a n b k m=pr1 ds a n b 1 m * k:=by
  unfold pr1; split
  · rw [ZM0,ZM9]
  · rw [Int.zero_mul]
theorem Zsm {ds:List Int} {f f' g:List Term} (c:Int) (h:∀ x,coT f x % 10007=(c * coT f' x) % 10007) (m:A8):prC ds f g m % 10007=(c * prC ds f' g m) % 10007:=by
  have e:∀ l:List Term,prC ds l g m=tot (fun t=>shC ds ⟨t.mono,1⟩ g m * t.factor) l:=fun l=>Zav fun t _=>by
    unfold shC
    rw [Int.mul_comm,← Zlf]
    exact Zav fun u _=>Zsk ..
  rw [e,e]; exact Zmc (fun a=>shC ds ⟨a,1⟩ g m) c h
theorem Zsn {ds:List Int} {f g g':List Term} (h:∀ x,coT g x % 10007=coT g' x % 10007) (m:A8):prC ds f g m % 10007=prC ds f g' m % 10007:=by
  refine Zi3 fun t _=>?_
  have e:∀ l:List Term,shC ds t l m=tot (fun u=>pr1 ds t.mono t.factor u.mono 1 m * u.factor) l:=fun l=>Zav fun u _=>Zsl ..
  rw [e,e]
  have:=Zmc (fun b=>pr1 ds t.mono t.factor b 1 m) (f:=g) (f':=g') 1 fun x=>by rw [ZM1]; exact h x
  rwa [ZM1] at this
theorem Zjf {ds:List Int} {f f' g g':List Term} (c:Int) (h1:∀ x,coT f x % 10007=(c * coT f' x) % 10007) (h2:∀ x,coT g x % 10007=coT g' x % 10007) (m:A8):prC ds f g m % 10007=(c * coT (Zcp ds f' g') m) % 10007:=by
  rw [Zsi,Zsm c h1 m,ZMl,Zsn h2,← ZMl]
def tl (s:List (A8×Int)):List Term:=s.map fun q=>⟨q.1,q.2⟩
theorem Zmd (s:List (A8×Int)) (x:A8):coT (tl s) x=co s x:=by
  unfold coT co tl
  rw [Zai]
theorem Zso (ds:List Int) (s t:List (A8×Int)) (m:A8):prM ds s t m=prC ds (tl s) (tl t) m:=by
  unfold prM prC tl
  rw [Zai]
  refine Zav fun q _=>?_
  unfold shM shC
  rw [Zai]
theorem Zme {ds:List Int} {s t:List (A8×Int)} {f' g':List Term} (c:Int) (h1:∀ x,co s x % 10007=(c * coT f' x) % 10007) (h2:∀ x,co t x % 10007=coT g' x % 10007) (m:A8):prM ds s t m % 10007=(c * coT (Zcp ds f' g') m) % 10007:=by
  rw [Zso]
  exact Zjf c (fun x=>by rw [Zmd]; exact h1 x) (fun x=>by rw [Zmd]; exact h2 x) m
end Go.Proofs.YtheenipahifleaaGreat
namespace Go.Proofs.YtheenipahifleaaGreat
open Go Vc
structure WM (ds:List Int) (w:Int) (m:A8):Prop where
  pos:∀ i,i < 8→0≤m.get i
  odd:∀ i,i < ds.length→Zvh (ds.getD i Zuw) 2≠0→m.get i≤1
  out:∀ i,i < 8→ds.length≤i→m.get i=0
  wt:wtU ds m ds.length=w
theorem Zmf (ds:List Int) (a b:A8):∀ k,wtU ds (a.add b) k=wtU ds a k+wtU ds b k
  | 0=>rfl
  | k+1=>by simp only [wtU]; rw [Zmf ds a b k,ZMs,Int.mul_add]; omega
theorem Zfp {ds:List Int} {m:A8} (hd:OkDeg ds) (hp:∀ i,i < 8→0≤m.get i):∀ k,k≤ds.length→0≤wtU ds m k∧∀ i,i < k→ds.getD i Zuw * m.get i≤wtU ds m k
  | 0,_=>⟨ZMp _,fun i hi=>by omega⟩
  | k + 1, h => by
    obtain ⟨h0,h1⟩:=Zfp hd hp k (by omega)
    have h8:=hd.1
    have hk:=hd.2 k (by omega)
    have hm:=hp k (by omega)
    have hx:0≤ds.getD k Zuw * m.get k:=ZMz (by omega) hm
    simp only [wtU]
    refine⟨by omega,fun i hi=>?_⟩
    by_cases e:i=k
    · subst e; omega
    · have:=h1 i (by omega); omega
theorem WM.le {ds:List Int} {w:Int} {m:A8} (hd:OkDeg ds) (h:WM ds w m) {i:Nat} (hi:i < 8):m.get i≤w∨m.get i=0:=by
  by_cases c:i < ds.length
  · left
    have h1:=(Zfp hd h.pos ds.length (Zuv _)).2 i c
    have hk:=hd.2 i c
    have hp:=h.pos i hi
    have:m.get i≤ds.getD i Zuw * m.get i:=by
      have:=ZN3 hk.1 hp
      omega
    rw [h.wt] at h1; omega
  · exact .inr (h.out i hi (by omega))
theorem WM.wk {ds:List Int} {w:Int} {m:A8} (hd:OkDeg ds) (h:WM ds w m) (hw:w≤40):Xv ds m∧∀ i,i < 8→0≤m.get i∧m.get i≤255:=by
  have b:∀ i,i < 8→m.get i≤40:=fun i hi=>by rcases h.le hd hi with q | q <;> omega
  exact⟨fun i hi=>⟨fun hl=>⟨by have:=b i hi; omega,h.odd i hl⟩,h.out i hi⟩,fun i hi=>⟨h.pos i hi,by have:=b i hi; omega⟩⟩
theorem WM.six {ds : List Int} {w : Int} {m : A8} (hd : OkDeg ds) (h : WM ds w m) (hw : w ≤ 13) {i : Nat} (hi : i < 8) : 0 ≤ m.get i ∧ m.get i ≤ 6 := by
  refine⟨h.pos i hi,?_⟩
  by_cases c:i < ds.length
  · have h1:=(Zfp hd h.pos ds.length (Zuv _)).2 i c
    have hk:=hd.2 i c
    have hp:=h.pos i hi
    rw [h.wt] at h1
    by_cases o:Zvh (ds.getD i Zuw) 2=0
    · have h2:2≤ds.getD i Zuw:=by
        rw [ZI1 (by omega)] at o; omega
      have:=ZN3 h2 hp
      omega
    · have:=h.odd i c o; omega
  · rw [h.out i hi (by omega)]; omega
theorem WM.add {ds:List Int} {v w:Int} {a b:A8} (ha:WM ds v a) (hb:WM ds w b) (hc:¬ Clash ds a b) (h8:ds.length≤8):WM ds (v+w) (a.add b) where
  pos i hi:=by rw [ZMs]; have:=ha.pos i hi; have:=hb.pos i hi; omega
  odd i hi o:=by
    rw [ZMs]
    have h1:=ha.odd i hi o
    have h2:=hb.odd i hi o
    have h3:=ha.pos i (by omega)
    have h4:=hb.pos i (by omega)
    by_cases c:0 < a.get i∧0 < b.get i
    · exact absurd ⟨i,hi,o,c.1,c.2⟩ hc
    · omega
  out i hi hl:=by rw [ZMs,ha.out i hi hl,hb.out i hi hl]; rfl
  wt:=by rw [Zmf,ha.wt,hb.wt]
def Zdt (m:A8):Nat:=(m.get 0+7 * (m.get 1+7 * (m.get 2+7 * (m.get 3+7 * (m.get 4+7 * (m.get 5+7 * (m.get 6+7 * m.get 7))))))).toNat
theorem Zsp {m:A8} (h:∀ i,i < 8→0≤m.get i∧m.get i≤6):Zdt m < 5764801:=by
  have h0:=h 0 (by omega); have h1:=h 1 (by omega); have h2:=h 2 (by omega); have h3:=h 3 (by omega)
  have h4:=h 4 (by omega); have h5:=h 5 (by omega); have h6:=h 6 (by omega); have h7:=h 7 (by omega)
  unfold Zdt; omega
theorem Zsq {a b:A8} (ha:∀ i,i < 8→0≤a.get i∧a.get i≤6) (hb:∀ i,i < 8→0≤b.get i∧b.get i≤6) (h:Zdt a=Zdt b):a=b:=by
  have h0:=ha 0 (by omega); have h1:=ha 1 (by omega); have h2:=ha 2 (by omega); have h3:=ha 3 (by omega)
  have h4:=ha 4 (by omega); have h5:=ha 5 (by omega); have h6:=ha 6 (by omega); have h7:=ha 7 (by omega)
  have g0:=hb 0 (by omega); have g1:=hb 1 (by omega); have g2:=hb 2 (by omega); have g3:=hb 3 (by omega)
  have g4:=hb 4 (by omega); have g5:=hb 5 (by omega); have g6:=hb 6 (by omega); have g7:=hb 7 (by omega)
  unfold Zdt at h
  have e0:a.get 0=b.get 0:=by omega
  have e1:a.get 1=b.get 1:=by omega
  have e2:a.get 2=b.get 2:=by omega
  have e3:a.get 3=b.get 3:=by omega
  have e4:a.get 4=b.get 4:=by omega
  have e5:a.get 5=b.get 5:=by omega
  have e6:a.get 6=b.get 6:=by omega
  have e7:a.get 7=b.get 7:=by omega
  cases a; cases b
  simp only [A8.get] at *
  simp_all
theorem Zjg:∀ {l k:List Nat}, l.Nodup→(∀ q,q∈l→q∈k)→l.length≤k.length
  | [],_,_,_=>Nat.zero_le _
  | x :: l, k, hn, h => by
    obtain ⟨h1,h2⟩:=ZIx.1 hn
    have hx:=h x (by simp)
    have:=Zjg h2 (k:=k.erase x) fun q hq=>(List.mem_erase_of_ne (fun e=>h1 (by rw [← e]; exact hq))).2 (h q (by simp [hq]))
    rw [List.length_erase_of_mem hx] at this
    have:=List.length_pos_of_mem hx
    simp only [List.length_cons]; omega
theorem Zcq {ds:List Int} {w:Int} {l:List Term} (hd:OkDeg ds) (hw:w≤13) (hc:Canon l) (h:∀ t,t∈l→WM ds w t.mono):l.length≤5764801:=by
  have hn:(l.map fun t=>Zdt t.mono).Nodup:=by
    rw [List.Nodup,ZNd]
    refine hc.1.imp_of_mem fun {a b} ha hb q e=>?_
    have:=Zsq (fun i hi=>(h a ha).six hd hw hi) (fun i hi=>(h b hb).six hd hw hi) e
    exact Ze8 q this
  have:=Zjg hn (k:=List.range 5764801) fun q hq=>by
    obtain ⟨t,ht,rfl⟩:=Zv7.1 hq
    exact List.mem_range.2 (Zsp fun i hi=>(h t ht).six hd hw hi)
  rw [ZMw,List.length_range] at this
  exact this
structure HomF (ds:List Int) (w:Int) (f:List Term):Prop where
  can:Canon f
  hom:∀ t,t∈f→WM ds w t.mono
theorem Zmg {ds:List Int} {v w:Int} {f g out:List Term} (h8:ds.length≤8) (hf:∀ t,t∈f→WM ds v t.mono) (hg:∀ t,t∈g→WM ds w t.mono) (h:IsProd ds f g out):HomF ds (v+w) out:=⟨h.can,fun x hx=>by
  obtain ⟨t,u,ht,hu,e,hc⟩:=h.mo x hx
  rw [e]; exact(hf t ht).add (hg u hu) hc h8⟩
theorem Zmh {ds:List Int} {v w:Int} {f g:List Term} {K:ZF9→Prop} (hd:OkDeg ds) (hf:HomF ds v f) (hg:HomF ds w g) (hv:v≤13) (hw:w≤13) (hvw:v+w≤13) (h:∀ out,IsProd ds f g out→HomF ds (v+w) out→K ⟨out⟩):Xx ds ⟨f⟩ ⟨g⟩ K:=by
  have lf:=Zcq hd hv hf.can hf.hom
  have lg:=Zcq hd hw hg.can hg.hom
  unfold Xx
  dsimp only
  refine X4 (fun (s:List Term×Int)=>0≤s.2∧s.2≤f.length∧IsProd ds (f.take s.2.toNat) g s.1) (fun s=>f.length - s.2.toNat) ?_ ⟨by omega,by omega,by simpa using IsProd.nil ds g⟩
  rintro ⟨out,i⟩ next ⟨h1,h2,hI⟩ hn
  dsimp only at h1 h2 hI hn ⊢
  split
  · rename_i hi
    have a:i.toNat < f.length:=by omega
    have hu:=X1 a
    have ni:(i+1).toNat=i.toNat+1:=by omega
    have wi:Zxa.wrap (i+1)=i+1:=i64_in _ (by omega)
    rw [wi]
    have wu:=(hf.hom _ hu).wk hd (by omega)
    refine⟨by omega,Zlv hd wu.1 (hf.can.at_range a) (fun q hq=>(wu.2 q hq).1) hg.can (fun u hu=>((hg.hom u hu).wk hd (by omega)).1) (fun u hu=>((hg.hom u hu).wk hd (by omega)).2) (by omega) fun sh hsh=>?_⟩
    have hls:=hsh.ln
    have hlo:=Zcq hd hvw hI.can (Zmg hd.1 (fun t ht=>hf.hom t (ZNa ht)) hg.hom hI).hom
    refine Zhe hI.can hsh.can (by omega) (by omega) (by omega) fun out' ho=>?_
    refine hn _ ⟨by dsimp only; omega,by dsimp only; omega,?_⟩ (by dsimp only; omega)
    dsimp only
    rw [ni,Jy a]
    exact hI.step hsh ho
  · rename_i hi
    rw [Zwh (by omega)] at hI
    exact h _ hI (Zmg hd.1 hf.hom hg.hom hI)
end Go.Proofs.YtheenipahifleaaGreat
namespace Vc
open Go Go.RowKit
section
variable {P:Program} {ops:Array Oper} {Q:Exit→Act→World→Prop} {n:Nat} {e:Env} {w w':World} {rest:List Oper}
variable {X:Nat→Prop} {w0:World} {M Ps:List Item}
variable {d ty:Nat} {pos:String} {af:Array Edge}
end
section
variable {X:Nat→Prop} {w0 w w':World} {M Ps:List Item}
end
section
variable {P:Program} {ops:Array Oper} {Q:Exit→Act→World→Prop} {n:Nat} {e:Env} {w w':World} {rest:List Oper}
variable {d ty:Nat} {pos:String} {af:Array Edge}
end
end Vc
namespace Vc
open Go Go.RowKit
section
variable {α β:Type}
def Zbs (kv : α → Value) (vv : β → Value) : Ty (List (α × β)) where
  sz:=1
  rep l cs fp w:=∃ b,cs=[.map (some b)]∧b∈fp∧(∀ c,c∈fp→c < w.heap.size)∧(Z7 kv vv b l).holds w
  keep h hw:=by
    obtain ⟨b,rfl,hb,hl,hm⟩:=hw
    exact⟨b,rfl,hb,Zf6 h hl,Item.keep _ _ _ (fun c hc=>h c (by obtain rfl:=Zwj.1 hc; exact hb)) hm⟩
  low hw:=by
    obtain ⟨b,rfl,hb,hl,hm⟩:=hw
    exact hl
  len hw:=by obtain ⟨b,rfl,_⟩:=hw; rfl
  one hw u hu:=by
    obtain ⟨b,rfl,_⟩:=hw
    obtain rfl:=Zwj.1 hu
    rfl
  more hw h1 h2:=by
    obtain ⟨b,rfl,hb,hl,hm⟩:=hw
    exact⟨b,rfl,h1 b hb,h2,hm⟩
def X2 (kv : α → Value) (vv : β → Value) : Tr (List (α × β)) where
  ty:=Zbs kv vv
  tree l cs fp w:=∃ b,cs=[.map (some b)]∧fp=[b]∧(Z7 kv vv b l).holds w
  tkeep h hw:=by
    obtain ⟨b,rfl,rfl,hm⟩:=hw
    exact⟨b,rfl,rfl,Item.keep _ _ _ h hm⟩
  tlow hw:=by
    obtain ⟨b,rfl,rfl,hm⟩:=hw
    exact fun c hc=>Item.low _ _ hm c hc
  trep hw:=by
    obtain ⟨b,rfl,rfl,hm⟩:=hw
    exact⟨b,rfl,ZMk _,fun c hc=>Item.low _ _ hm c hc,hm⟩
theorem Zmi {kv:α→Value} {vv:β→Value} {b:Nat} {l:List (α×β)} {w:World} (h:(Z7 kv vv b l).holds w):((X2 kv vv).item l [.map (some b)] [b]).holds w :=
  ⟨⟨b,rfl,rfl,h⟩,ZIx.2 ⟨by simp,ZNf⟩⟩
theorem Zsr {kv:α→Value} {vv:β→Value} {ls:List (List (α×β))} {v:Value} {fp:List Nat} {w:World} (h:(Zbs kv vv).sl.rep ls [v] fp w) (i:Nat) (hi:i < ls.length) :
    ∃ A c b,v=.slice (some A) ls.length c∧Xh w (A.add i) [.map (some b)]∧b∈fp∧(Z7 kv vv b ls[i]).holds w:=by
  obtain ⟨A,c,hv,cs,hl,hc,b,rfl,hb,_,hm⟩:=Zd2 h i hi
  exact⟨A,c,b,hv,by simpa [Zbs] using hc,hb,hm⟩
end
structure Derive where
  alg:Alg
  drop:Int
  images:List (List (A8×Int))
  deriving Inhabited
def TSum:Ty (List (A8×Int)):=Zbs (kvA .i64) (vvI .i64)
section
variable {α β:Type} {kv:α→Value} {vv:β→Value}
end
end Vc
namespace Vc
open Go Go.RowKit
section
variable {X:Nat→Prop} {w0 w w':World} {M Ps:List Item}
end
section
variable {P:Program} {ops:Array Oper} {Q:Exit→Act→World→Prop} {n:Nat} {e:Env} {w w':World} {rest:List Oper}
variable {X:Nat→Prop} {w0:World} {M Ps:List Item}
variable {d ty:Nat} {pos:String} {af:Array Edge}
end
section
variable {P:Program} {ops:Array Oper} {Q:Exit→Act→World→Prop} {n:Nat} {e:Env} {w w':World} {rest:List Oper}
variable {d ty:Nat} {pos:String} {af:Array Edge}
end
section
variable {P:Program} {ops:Array Oper} {Q:Exit→Act→World→Prop} {n:Nat} {e:Env} {w w':World} {rest:List Oper}
variable {X:Nat→Prop} {w0:World} {M Ps:List Item}
variable {d ty:Nat} {pos:String} {af:Array Edge} {gd:Option (Nat×Bool)}
end
theorem Zss {α:Type} {t:Ty α} {xs:List α} {v:Value} {fp:List Nat} {w:World} (h:t.sl.rep xs [v] fp w):∃ ds,(rdr t.sz v xs.length ds fp).holds w∧t.all xs ds fp w:=by
  obtain ⟨v',ecs,e,h1,h2⟩:=h
  obtain rfl:v=v':=by simpa using e
  exact⟨ecs,h1,h2⟩
theorem Zst {α:Type} (t:Ty α) (w:World):(t.allItem ([]:List α) [] []).holds w:=⟨by simp,by simp,by simp,fun i hi=>absurd hi (by simp)⟩
theorem Zsu {α:Type} {t:Ty α} {xs ys:List α} {cs ds:List Value} {f g:List Nat} {w:World} (h:(t.allItem xs cs f).holds w) (k:(t.allItem ys ds g).holds w):(t.allItem (xs++ys) (cs++ds) (f++g)).holds w:=by
  have hl:∀ b,b∈f++g→b < w.heap.size:=fun b hb=>(Zu9.1 hb).elim (h.1 b) (k.1 b)
  refine⟨hl,by rw [Zvm,h.2.1,k.2.1,Zvm,Nat.add_mul],fun u hu=>(Zu9.1 hu).elim (h.2.2.1 u) (k.2.2.1 u),fun i hi=>?_⟩
  by_cases hx:i < xs.length
  · have e1:(xs++ys)[i]=xs[i]:=List.getElem_append_left hx
    have hle:i * t.sz+t.sz≤cs.length:=by rw [h.2.1]; exact J6 hx
    rw [e1,List.drop_append_of_le_length (by omega),List.take_append_of_le_length (by rw [List.length_drop]; omega)]
    exact t.more (h.2.2.2 i hx) (fun b hb=>Zvo _ hb) hl
  · have hy:i - xs.length < ys.length:=by rw [Zvm] at hi; omega
    have e1:(xs++ys)[i]=ys[i - xs.length]:=List.getElem_append_right (by omega)
    have hm:i * t.sz=cs.length+(i - xs.length) * t.sz:=by rw [h.2.1,← Nat.add_mul]; congr 1; omega
    rw [e1,hm,← List.drop_drop,List.drop_left' rfl]
    exact t.more (k.2.2.2 _ hy) (fun b hb=>Zvj _ hb) hl
end Vc
namespace Vc
open Go Go.RowKit
section
variable {P:Program} {ops:Array Oper} {Q:Exit→Act→World→Prop} {n:Nat} {e:Env} {w w':World} {rest:List Oper}
variable {X:Nat→Prop} {w0:World} {M Ps:List Item}
variable {d ty:Nat} {pos:String} {af:Array Edge}
end
end Vc
namespace Vc
open Go Go.RowKit
structure Elem where
  gen:Int
  mono:A8
  deriving DecidableEq,Inhabited
def Elem.enc (t:Elem):List Value:=.int .i64 t.gen::A8.enc .i64 t.mono
section
variable {P:Program} {k:Nat} {ik:IntKind}
theorem Zsv (hk:P.underlying k=some (.int ik)):KeyT P k (vvI ik) where
  under:=⟨_,hk,.inr fun x y=>by simp [Instr.sameNow,Bool.beq_eq_decide_eq]⟩
  check em w x:=by
    show (Zwn em (9999+1) k _).run P w=_
    unfold Zwn; simp [Zup,run_underlying hk]
  equal w x y:=Zii (d:=9999) hk w x y
  stays x:=by simp [Instr.sameBits]
end
section
variable {P:Program} {ops:Array Oper} {Q:Exit→Act→World→Prop} {n:Nat} {e:Env} {w w':World} {rest:List Oper}
variable {X:Nat→Prop} {w0:World} {M Ps:List Item}
variable {d ty:Nat} {pos:String} {af:Array Edge}
end
section
variable {P:Program} {ops:Array Oper} {Q:Exit→Act→World→Prop} {n:Nat} {e:Env} {w w':World} {rest:List Oper}
variable {X:Nat→Prop} {w0:World} {M Ps:List Item}
variable {d ty:Nat} {pos:String} {af:Array Edge}
end
end Vc
namespace Vc
open Go Go.RowKit
abbrev hd (ecs:List Value) (i:Nat):Value:=ecs.getD i undef
section
variable {α:Type} {E:Enc α} {t e:Nat} {v:Value} {ecs:List Value} {xs:List (List α)} {w w':World}
end
section
variable {α:Type} {E:Enc α} {t e:Nat} {v:Value} {ecs:List Value} {xs:List (List α)} {w w':World}
variable {X:Nat→Prop} {w0:World} {M Ps:List Item}
end
section
variable {P:Program} {ops:Array Oper} {Q:Exit→Act→World→Prop} {n:Nat} {ev_:Env} {w w':World} {rest:List Oper}
variable {X:Nat→Prop} {w0:World} {M Ps:List Item}
variable {d ty:Nat} {pos:String} {af:Array Edge}
variable {α:Type} {E:Enc α} {t e:Nat} {v:Value} {ecs:List Value} {xs:List (List α)}
end
section
variable {α:Type}
end
section
variable {P:Program} {ops:Array Oper} {Q:Exit→Act→World→Prop} {n:Nat} {ev_:Env} {w:World} {rest:List Oper}
variable {d ty:Nat} {pos:String} {af:Array Edge}
end
end Vc
namespace Vc
open Go Go.RowKit
structure Lvl where
  list:List A8
  place:List (A8×Int)
  deriving Inhabited
structure Lev where
  n:Int
  b:Nat
  pb:Nat
  vl:Value
  vm:Value
  vc:Value
  vd:Value
  vk:Value
  md:Bool
  c3:Bool
  c4:Bool
  c5:Bool
def Lev.cells (e:Lev):List Value:=[e.vl,.map (some e.pb),e.vm,e.vc,e.vd,e.vk]
def Lev.key (e:Lev):Int×Nat:=(e.n,e.b)
structure Cx where
  LV:Int→List A8
  PL:Int→List (A8×Int)
  MX:Int→List (List Int)
  CL:Int→List (List Int)
  BD:Int→List (List Int)
  KL:Int→List (List Int)
section
variable {lt:Nat} {D D1 D2:List Lev} {e:Lev} {w w':World}
end
section
variable {C:Cx} {D:List Lev} {F:List Nat} {e:Lev} {w:World}
end
section
variable {C:Cx} {D:List Lev} {F:List Nat} {e:Lev} {w:World} {n:Int}
end
section
variable {P:Program} {ops:Array Oper} {Q:Exit→Act→World→Prop} {n:Nat} {e:Env} {w w':World} {rest:List Oper}
variable {X:Nat→Prop} {w0:World} {M Ps:List Item}
variable {d ty:Nat} {pos:String} {af:Array Edge}
theorem Zsw {α β:Type} [DecidableEq α] {kv:α→Value} {vv:β→Value} {t k el b:Nat} {l:List (α×β)} {x y:Operand} (kx:α) (z:Value) (hh:(Z7 kv vv b l).holds w) (K:KeyT P k kv) (ht:P.underlying t=some (.map k el)) (hz:Xc P el z)
    (hx:ev n e x=.map (some b)) (hy:ev n e y=kv kx) (h1:∀ c,Ym l kx=some c→W P ops Q rest n (upd e d (.tuple #[vv c,.bool true])) w) (h0:Ym l kx=none→W P ops Q rest n (upd e d (.tuple #[z,.bool false])) w) :
    W P ops Q (⟨some d,.lookup t x y true,ty,pos,af,none⟩::rest) n e w:=by
  obtain ⟨es,clock,g1,g2,g3⟩:=hh
  have hg:(getObj b).run P w=.ok (.map es clock) w:=by simp [getObj,Sem.run,g1]
  cases hf:Jq l kx 0 with
  | none =>
    refine Yv _ rfl rfl ?_ (h0 (Zb4 hf).1)
    have hl:(ZM3 t (.map (some b)) (kv kx) true).run P w=.ok (.tuple #[z,.bool false]) w:=by
      simp only [ZM3,Zup,run_underlying ht,Zuq,hg,Sem.run_pure,K.check,Zb7 K w kx es.toList l g2]
      simp [hf,Zfz hz]
    simp [execOp,hx,hy,hl]
  | some q =>
    obtain ⟨j,v⟩:=q
    refine Yv _ rfl rfl ?_ (h1 v (Zb5 hf).2.2.1)
    have hl:(ZM3 t (.map (some b)) (kv kx) true).run P w=.ok (.tuple #[vv v,.bool true]) w:=by
      simp only [ZM3,Zup,run_underlying ht,Zuq,hg,Sem.run_pure,K.check,Zb7 K w kx es.toList l g2]
      simp [hf]
    simp [execOp,hx,hy,hl]
end
section
variable {X:Nat→Prop} {w0 w w':World} {M Ps:List Item}
theorem Ctx.turnMP (h : Ctx X w0 w M Ps) (k j : Nat) {it jt pt qt : Item} (hk : M[k]? = some it) (hj : Ps[j]? = some pt) (hB : BelO it.fp w w') (hh : jt.holds w') (hq : qt.holds w')
    (hf:∀ b,b∈jt.fp→b∈it.fp∨w.heap.size≤b) (hg:∀ b,b∈qt.fp→b∈pt.fp∨w.heap.size≤b) (hd:∀ b,b∈qt.fp→b∉jt.fp):Ctx X w0 w' (M.set k jt) (Ps.set j qt):=by
  have h1:=h.turn k hk hB.os hB.tape hB.output hB.size hB.drawn hB.old hh hf
  refine { h1 with p:=fun x hx=>?_,pd:=fun x hx b hb m hm=>?_ }
  · rcases ZCo hx with q | q
    · exact h1.p x q
    · subst q; exact hq
  · rcases ZCo hx with q | q
    · exact h1.pd x q b hb m hm
    · subst q
      rcases hg b hb with g | g
      · rcases ZCo hm with z | z
        · exact h.pd pt (List.mem_of_getElem? hj) b g m z
        · subst z; exact hd b hb
      · rcases ZCo hm with z | z
        · exact fun hbm=>absurd (m.low w (h.m m z) b hbm) (Nat.not_lt.2 g)
        · subst z; exact hd b hb
theorem Ctx.turnMPN (h:Ctx X w0 w M Ps) (k j:Nat) {it jt pt qt nt:Item} (hk:M[k]? = some it) (hj:Ps[j]? = some pt) (hB:BelO it.fp w w') (hh:jt.holds w') (hq:qt.holds w') (hn:nt.holds w')
    (hf:∀ b,b∈jt.fp→b∈it.fp∨w.heap.size≤b) (hg:∀ b,b∈qt.fp→b∈pt.fp∨w.heap.size≤b) (hd:∀ b,b∈qt.fp→b∉jt.fp) (hnf:∀ b,b∈nt.fp→w.heap.size≤b) (hnj:∀ b,b∈nt.fp→b∉jt.fp∧b∉qt.fp) :
    Ctx X w0 w' (nt::M.set k jt) (Ps.set j qt):=by
  have h1:=h.turnMP k j hk hj hB hh hq hf hg hd
  refine { h1 with m:=fun x hx=>?_,mfp:=fun x hx b hb=>?_,dis:=?_,pd:=fun x hx b hb m hm=>?_ }
  · rcases Zus.1 hx with rfl | hx
    · exact hn
    · exact h1.m x hx
  · rcases Zus.1 hx with rfl | hx
    · exact .inl (Zux h.size (hnf b hb))
    · exact h1.mfp x hx b hb
  · refine List.pairwise_cons.2 ⟨fun m hm x hx hxm=>?_,h1.dis⟩
    rcases ZCo hm with z | z
    · exact absurd (m.low w (h.m m z) x hxm) (Nat.not_lt.2 (hnf x hx))
    · subst z; exact(hnj x hx).1 hxm
  · rcases Zus.1 hm with rfl | hm
    · intro hbm
      rcases ZCo hx with z | z
      · exact absurd (x.low w (h.p x z) b hb) (Nat.not_lt.2 (hnf b hbm))
      · subst z; exact(hnj b hbm).2 hb
    · exact h1.pd x hx b hb m hm
theorem Xj (b:Nat):PreW (BelB b) :=
  ⟨fun w=>⟨rfl,rfl,rfl,Zuv _,Zuv _,fun _ _ _=>rfl⟩,fun h k=>⟨k.os.trans h.os,k.tape.trans h.tape,k.output.trans h.output,Zux h.size k.size,Zux h.drawn k.drawn,fun c hc hne=>(k.old c (Nat.lt_of_lt_of_le hc h.size) hne).trans (h.old c hc hne)⟩⟩
end
structure Lev.Le (e e':Lev):Prop where
  n:e'.n=e.n
  b:e'.b=e.b
  md:e.md=true→e'.md=true
  c3:e.c3=true→e'.c3=true
  c4:e.c4=true→e'.c4=true
  c5:e.c5=true→e'.c5=true
structure CpX (S:Nat→Prop) (D D':List Lev) (F F':List Nat):Prop where
  up:∀ e,e∈D→∃ e',e'∈D'∧e.Le e'
  dn:∀ e',e'∈D'→¬ S e'.b→e'.c3=true→(e'.c4=true∧e'.c5=true)∨∃ e,e∈D∧e.b=e'.b∧e.c3=true∧(e.c4=true→e'.c4=true)∧(e.c5=true→e'.c5=true)
  fp:∀ x,x∈F→x∈F'
theorem CpX.some {S T:Nat→Prop} {D D':List Lev} {F F':List Nat} (h:CpX S D D' F F') (hs:∀ b,S b→T b):CpX T D D' F F':=⟨h.up,fun e he ht h3=>h.dn e he (fun q=>ht (hs _ q)) h3,h.fp⟩
section
variable {C:Cx} {lt mb:Nat} {D:List Lev} {F:List Nat} {w:World} {n:Int} {b:Nat} {md cd:Bool}
end
section
variable {X:Nat→Prop} {w0 w w':World} {M Ps:List Item}
theorem Ctx.growC (h:Ctx X w0 w M Ps) (k:Nat) {it:Item} {b:Nat} (hk:M[k]? = some it) (hb:b∈it.fp) (hB:BelB b w w'):Ctx X w0 w' (M.eraseIdx k) Ps:=by
  have hlt:k < M.length:=(List.getElem?_eq_some_iff.1 hk).1
  have hget:M[k]=it:=(List.getElem?_eq_some_iff.1 hk).2
  have hmem:it∈M:=List.mem_of_getElem? hk
  have g:=h.sub (M':=M.eraseIdx k) (Ps':=Ps) (List.eraseIdx_sublist ..) (fun _ x=>x)
  have sep:∀ m,m∈M.eraseIdx k→b∉m.fp:=by
    intro m hm hbm
    obtain ⟨i,hi,hmi⟩:=Zvb hm
    rw [List.getElem_eraseIdx] at hmi
    split at hmi
    · rename_i hik
      subst hmi
      exact(Zuz.1 h.dis i k (by omega) hlt hik) b hbm (hget ▸ hb)
    · rename_i hik
      have hi2:i < M.length - 1:=by rw [List.length_eraseIdx_of_lt hlt] at hi; exact hi
      subst hmi
      exact(Zuz.1 h.dis k (i+1) hlt (by omega) (by omega)) b (hget ▸ hb) hbm
  refine { g with os:=hB.os.trans h.os,tape:=hB.tape.trans h.tape,output:=hB.output.trans h.output,size:=Zux h.size hB.size,drawn:=Zux h.drawn hB.drawn,old:=fun c hc hx=>?_,m:=fun x hx=>?_,p:=fun x hx=>?_ }
  · by_cases e:c=b
    · subst e
      rcases h.mfp it hmem c hb with q | q
      · omega
      · exact absurd q hx
    · rw [hB.old c (Nat.lt_of_lt_of_le hc h.size) e]; exact h.old c hc hx
  · exact x.keep w w' (fun c hc=>hB.old c (x.low w (g.m x hx) c hc) (fun e=>sep x hx (e ▸ hc))) (g.m x hx)
  · exact x.keep w w' (fun c hc=>hB.old c (x.low w (h.p x hx) c hc) (fun e=>h.pd x hx c hc it hmem (e ▸ hb))) (h.p x hx)
theorem Zjh {b:Nat} (h:Bel w w'):BelB b w w':=⟨h.os,h.tape,h.output,h.size,h.drawn,fun c hc _=>h.block c hc⟩
theorem Zmj {P:Program} {Q:Exit→Act→World→Prop} {l:List Oper} {n:Nat} {e:Env} (b:Nat) {id:Nat} (m:Nat) (hm:P.follows .mixedOrders=true) (rows lk lf:List Nat) (hro:Zb2 l rows=true) (hk:lk.all (J8 rows l m)=true) (hf:lf.all (J8 rows l l.length)=true)
    (h:(∀ i,lk.contains i=true→Xl .any l.toArray m i=true)→(∀ i,lf.contains i=true→Xl .any l.toArray l.toArray.size i=true)→∀ w',Bel w w'→AE (BelB b) P .any l.toArray Q m n l.length (Zur l.length false).toArray e w'):(Code.region id l.toArray true).wp P Q (actOf n e) w:=by
  refine wp_region_any hm ?_
  have:=(h (fun i hi=>Zcz hro (List.all_eq_true.1 hk i (by simpa using hi))) (fun i hi=>Zcz (m:=l.length) hro (List.all_eq_true.1 hf i (by simpa using hi))) { w with drawn:=w.drawn+1 } ⟨⟨rfl,rfl,rfl,Zuv _,fun _ _=>rfl⟩,Nat.le_succ _⟩).out (Zic _)
  have h2:=Zia _ _ _ _ this
  simpa using h2
theorem BelB.belO {b:Nat} {l:List Nat} (h:BelB b w w') (hb:b∈l):BelO l w w':=⟨h.os,h.tape,h.output,h.size,h.drawn,fun c hc hn=>h.old c hc (fun e=>hn (e ▸ hb))⟩
end
end Vc
namespace Vc
open Go Go.RowKit
def A8.encB (a:A8):List Value:=[.bool (decide (a.x0=1)),.bool (decide (a.x1=1)),.bool (decide (a.x2=1)),.bool (decide (a.x3=1)),.bool (decide (a.x4=1)),.bool (decide (a.x5=1)),.bool (decide (a.x6=1)),.bool (decide (a.x7=1))]
def bi (b:Bool):Int:=if b=true then 1 else 0
theorem A8.encB_get (a:A8) {i:Nat} (h:i < 8):a.encB[i]? = some (.bool (decide (a.get i=1))):=by
  match i,h with
  | 0,_=>rfl
  | 1,_=>rfl
  | 2,_=>rfl
  | 3,_=>rfl
  | 4,_=>rfl
  | 5,_=>rfl
  | 6,_=>rfl
  | 7,_=>rfl
theorem A8.encB_set (a:A8) {i:Nat} (b:Bool) (h:i < 8):Yz a.encB i [.bool b]=(a.set i (bi b)).encB:=by
  cases b
  all_goals
    match i,h with
    | 0,_=>rfl
    | 1,_=>rfl
    | 2,_=>rfl
    | 3,_=>rfl
    | 4,_=>rfl
    | 5,_=>rfl
    | 6,_=>rfl
    | 7,_=>rfl
abbrev vvB (b:Bool):Value:=.bool b
def kv2 (p:Int×Int):Value:=.agg #[.int .i64 p.1,.int .i64 p.2]
abbrev vvM (p:Nat):Value:=.map (some p)
section
variable {P:Program} {k el:TypeId}
theorem Zsx (hk:P.underlying k=some (.array 2 el)) (he:P.underlying el=some (.int .i64)) (hs:ScaT P el):KeyT P k kv2 where
  under:=⟨_,hk,.inl fun x u=>by cases u <;> rfl⟩
  check em w x:=by
    have hi:∀ m y,(Zwn em (m+1) el (.int .i64 y)).run P w=.ok () w:=by
      intro m y; unfold Zwn; simp [Zup,run_underlying he]
    show (Zwn em (9999+1) k _).run P w=_
    unfold Zwn
    simp only [Zup,run_underlying hk,Zuq]
    simp [Zy0,List.range',Jt hs.size,part,Zbw hs,kv2,Zup,hi 9998]
  equal w x y:=by
    show (Op.equalIn (9999+1) k _ _).run P w=_
    unfold Op.equalIn
    simp only [Zup,run_underlying hk,Zuq]
    simp [Zy0,List.range',Jt hs.size,part,Zbw hs,kv2,Zup,Zii (d:=9998) he]
    have e:(x=y)↔(x.1=y.1∧x.2=y.2):=by cases x; cases y; simp
    simp only [e]
    (repeat' split) <;> simp_all
  stays x:=by simp [Instr.sameBits,kv2]
end
theorem Zsy {w w':World} {a:Addr} {cs:List Value} (h:Xh w a cs) (hb:w'.heap[a.block]? = w.heap[a.block]?):Xh w' a cs:=by
  intro j u hj
  have e:(a.add j).block=a.block:=by unfold Addr.add; split <;> rfl
  exact(World.cell?_of_block (by rw [e]; exact hb)).trans (h j u hj)
theorem Zsz {α:Type} {t:Ty α} {xs:List α} {v:Value} {fp:List Nat} {w:World} (h:t.sl.rep xs [v] fp w) (hi:0 < xs.length):∃ A c,v=.slice (some A) xs.length c∧A.block∈fp:=by
  obtain ⟨v',ecs,e,⟨a0,a1,a2,A,c,rfl,anc,a3⟩,h2⟩:=h
  obtain rfl:v=_:=by simpa using e
  obtain ⟨a,rfl,ha,hc⟩:=a3 (by omega)
  exact⟨a,c,rfl,ha⟩
theorem Zs0 {mb:Nat} {ls:List (List (A8×Int))} {v:Value} {fp:List Nat} {w:World} (h:TSum.sl.rep ls [v] fp w) (i:Nat) (hi:i < ls.length) (hm:mb∉fp) :
    ∃ A c b,v=.slice (some A) ls.length c∧(∀ w',BelB mb w w'→Xh w' (A.add i) [.map (some b)])∧b∈fp∧(mapS b (ls.getD i [])).holds w:=by
  obtain ⟨A,c,b,e,hc,hb,hq⟩:=Zsr h i hi
  obtain ⟨A',c',e',hA⟩:=Zsz h (by omega)
  rw [e] at e'
  injection e' with e1
  injection e1 with e1
  subst e1
  refine⟨A,c,b,e,fun w' hB=>Zsy hc ?_,hb,by rwa [show ls.getD i []=ls[i] by simp [Zu3,hi]]⟩
  have eb:(A.add i).block=A.block:=by unfold Addr.add; split <;> rfl
  rw [eb]
  exact hB.old _ (TSum.sl.low h _ hA) fun e=>hm (e ▸ hA)
structure Kp where
  i:Int
  e:Int
  p:Nat
  s:List (A8×Int)
def Kp.key (d:Kp):(Int×Int)×Nat:=((d.i,d.e),d.p)
def Kp.ent (d:Kp):Nat×List (A8×Int):=(d.p,d.s)
def ldI (C : Int → Int → List (A8 × Int) → Prop) (mb : Nat) (D : List Kp) (E : List (Nat × List (A8 × Int))) : Item where
  fp:=mb::E.map (·.1)
  holds w:=(Z7 kv2 vvM mb (D.map Kp.key)).holds w∧(∀ q,q∈E→(mapS q.1 q.2).holds w)∧(∀ d,d∈D→d.ent∈E∧C d.i d.e d.s)∧mb∉E.map (·.1)
  keep w w' h hw:=by
    obtain ⟨h1,h2,h3,h4⟩:=hw
    refine⟨(Z7 kv2 vvM mb _).keep w w' (fun c hc=>h c ?_) h1,fun q hq=>(mapS q.1 q.2).keep w w' (fun c hc=>h c ?_) (h2 q hq),h3,h4⟩
    · obtain rfl:c=mb:=by simpa [Z7] using hc
      exact ZMt
    · obtain rfl:c=q.1:=by simpa [Z7] using hc
      exact ZMq _ (Zv7.2 ⟨q,hq,rfl⟩)
  low w hw b hb := by
    obtain ⟨h1,h2,h3,h4⟩:=hw
    rcases Zus.1 hb with rfl | hb
    · exact(Z7 kv2 vvM b _).low w h1 b (by simp [Z7])
    · obtain ⟨q,hq,rfl⟩:=Zv7.1 hb
      exact(mapS q.1 q.2).low w (h2 q hq) _ (by simp [Z7])
section
variable {C:Int→Int→List (A8×Int)→Prop} {mb:Nat} {D:List Kp} {E:List (Nat×List (A8×Int))} {w w':World}
theorem Zs1 (h:(ldI C mb D E).holds w) {p:Nat} {s:List (A8×Int)} (hp:(mapS p s).holds w) (ne:p≠mb):(ldI C mb D ((p,s)::E)).holds w:=by
  obtain ⟨h1,h2,h3,h4⟩:=h
  refine⟨h1,fun q hq=>?_,fun d hd=>⟨ZMq _ (h3 d hd).1,(h3 d hd).2⟩,fun hm=>?_⟩
  · rcases Zus.1 hq with rfl | hq
    · exact hp
    · exact h2 q hq
  · rcases Zus.1 hm with e | hm
    · exact ne e.symm
    · exact h4 hm
theorem Zs2 {n:Int×Int} {b:Nat} (h:Ym (D.map Kp.key) n=some b):∃ d,d∈D∧((d.i,d.e):Int×Int)=n∧d.p=b:=by
  cases hf:Jq (D.map Kp.key) n 0 with
  | none=>rw [(Zb4 hf).1] at h; cases h
  | some q =>
    obtain ⟨j,v⟩:=q
    obtain ⟨_,h1,h2,h3⟩:=Zb5 hf
    rw [h2] at h
    obtain rfl:v=b:=by simpa using h
    have hm:=List.mem_of_getElem? h1
    obtain ⟨d,hd,e⟩:=Zv7.1 hm
    have e1:(d.i,d.e)=n:=congrArg Prod.fst e
    have e2:d.p=v:=congrArg Prod.snd e
    exact⟨d,hd,e1,e2⟩
theorem Zs3 (D:List Kp) (n:Int×Int) (p:Nat) (s:List (A8×Int)):∃ D':List Kp,D'.map Kp.key=Yc (D.map Kp.key) n p∧∀ d,d∈D'→d∈D∨d=⟨n.1,n.2,p,s⟩:=by
  cases hf:Jq (D.map Kp.key) n 0 with
  | none=>exact⟨D++[⟨n.1,n.2,p,s⟩],by rw [(Zb4 hf).2.1 p,List.map_append]; rfl,fun d hd=>by
      rcases Zu9.1 hd with q | q
      · exact .inl q
      · exact .inr (Zwj.1 q)⟩
  | some q =>
    obtain ⟨j,v⟩:=q
    refine⟨D.set j ⟨n.1,n.2,p,s⟩,?_,fun d hd=>?_⟩
    · rw [(Zb5 hf).2.2.2.1 p,List.map_set]; rfl
    · exact ZCo hd
end
def ldE (C : Int → Int → List (A8 × Int) → Prop) (D : List Kp) (E : List (Nat × List (A8 × Int))) : Item where
  fp:=E.map (·.1)
  holds w:=(∀ q,q∈E→(mapS q.1 q.2).holds w)∧(∀ d,d∈D→d.ent∈E∧C d.i d.e d.s)
  keep w w' h hw:=⟨fun q hq=>(mapS q.1 q.2).keep w w' (fun c hc=>h c (by
    obtain rfl:c=q.1:=by simpa [Z7] using hc
    exact Zv7.2 ⟨q,hq,rfl⟩)) (hw.1 q hq),hw.2⟩
  low w hw b hb:=by
    obtain ⟨q,hq,rfl⟩:=Zv7.1 hb
    exact(mapS q.1 q.2).low w (hw.1 q hq) _ (by simp [Z7])
theorem Zhn {C:Int→Int→List (A8×Int)→Prop} {mb:Nat} {D:List Kp} {E:List (Nat×List (A8×Int))} {w:World} (h:(ldI C mb D E).holds w):(Z7 kv2 vvM mb (D.map Kp.key)).holds w∧(ldE C D E).holds w∧mb∉E.map (·.1):=⟨h.1,⟨h.2.1,h.2.2.1⟩,h.2.2.2⟩
theorem Zho {C:Int→Int→List (A8×Int)→Prop} {mb:Nat} {D:List Kp} {E:List (Nat×List (A8×Int))} {w:World} (h1:(Z7 kv2 vvM mb (D.map Kp.key)).holds w) (h2:(ldE C D E).holds w) (h3:mb∉E.map (·.1)):(ldI C mb D E).holds w:=⟨h1,h2.1,h2.2,h3⟩
def LdLe (w0:World) (E0 E:List (Nat×List (A8×Int))):Prop:=∀ x,x∈E.map (·.1)→x∈E0.map (·.1)∨w0.heap.size≤x
theorem LdLe.refl (w0:World) (E:List (Nat×List (A8×Int))):LdLe w0 E E:=fun x hx=>.inl hx
theorem LdLe.step {w0 w:World} {E0 E E':List (Nat×List (A8×Int))} (h:LdLe w0 E0 E) (hs:w0.heap.size≤w.heap.size) (hf:LdLe w E E'):LdLe w0 E0 E':=fun x hx=>(hf x hx).elim (h x) fun q=>.inr (Zux hs q)
theorem Zs4 (C:Int→Int→List (A8×Int)→Prop) (w:World):(ldE C [] []).holds w:=⟨by simp,by simp⟩
section
variable {X:Nat→Prop} {w0 w w':World} {M Ps:List Item} {C:Int→Int→List (A8×Int)→Prop} {mb:Nat} {D D':List Kp} {E E':List (Nat×List (A8×Int))}
theorem Ctx.ldOff (h:Ctx X w0 w M Ps) (k j:Nat) (hk:M[k]? = some (Z7 kv2 vvM mb (D.map Kp.key))) (hj:Ps[j]? = some (ldE C D E)):mb∉E.map (·.1):=fun hm =>
  h.pd _ (List.mem_of_getElem? hj) mb hm _ (List.mem_of_getElem? hk) (ZMk _)
theorem Ctx.ldTurn (h:Ctx X w0 w M Ps) (k j:Nat) (hk:M[k]? = some (Z7 kv2 vvM mb (D.map Kp.key))) (hj:Ps[j]? = some (ldE C D E)) (hB:BelB mb w w') (h1:(Z7 kv2 vvM mb (D'.map Kp.key)).holds w') (h2:(ldE C D' E').holds w') (h3:mb∉E'.map (·.1)) (hg:LdLe w E E') :
    Ctx X w0 w' (M.set k (Z7 kv2 vvM mb (D'.map Kp.key))) (Ps.set j (ldE C D' E')) :=
  h.turnMP k j hk hj (hB.belO (ZMk _)) h1 h2 (fun b hb=>.inl hb) hg fun b hb hb2=>h3 (by obtain rfl:=Zwj.1 hb2; exact hb)
theorem Ctx.ldTurnP (h:Ctx X w0 w M Ps) (k j:Nat) (hk:M[k]? = some (Z7 kv2 vvM mb (D.map Kp.key))) (hj:Ps[j]? = some (ldE C D E)) (hB:BelB mb w w') (h1:(Z7 kv2 vvM mb (D'.map Kp.key)).holds w') (h2:(ldE C D' E').holds w') (h3:mb∉E'.map (·.1)) (hg:LdLe w E E')
    {nt:Item} (hn:nt.holds w') (hnf:∀ b,b∈nt.fp→w.heap.size≤b) (hnd:∀ b,b∈nt.fp→b∉E'.map (·.1)):Ctx X w0 w' (nt::M.set k (Z7 kv2 vvM mb (D'.map Kp.key))) (Ps.set j (ldE C D' E')):=by
  have hmb:mb < w.heap.size:=(Z7 kv2 vvM mb (D.map Kp.key)).low w (h.getM k hk) mb (ZMk _)
  exact h.turnMPN k j hk hj (hB.belO (ZMk _)) h1 h2 hn (fun b hb=>.inl hb) hg (fun b hb hb2=>h3 (by obtain rfl:=Zwj.1 hb2; exact hb)) hnf (fun b hb=>⟨fun q=>by have:=hnf b hb; obtain rfl:=Zwj.1 q; omega,hnd b hb⟩)
end
end Vc
set_option maxRecDepth 4000
set_option maxHeartbeats 4000000
namespace Go.Proofs.YtheenipahifleaaGreat
open Go Go.RowKit Vc
variable {b0 bp0 b1 bp1 b2 bp2 b3 bp3 b4 bp4 b5 bp5 b6 bp6 b7 bp7 mb0:Nat} {u0_0 u0_1 u0_2 u0_3 u0_4 u0_5 u1_0 u1_1 u1_2 u1_3 u1_4 u1_5 u2_0 u2_1 u2_2 u2_3 u2_4 u2_5 u3_0 u3_1 u3_2 u3_3 u3_4 u3_5 u4_0 u4_1 u4_2 u4_3 u4_4 u4_5 u5_0 u5_1 u5_2 u5_3 u5_4 u5_5 u6_0 u6_1 u6_2 u6_3 u6_4 u6_5 u7_0 u7_1 u7_2 u7_3 u7_4 u7_5:Value} {fp0 fp1 fp2 fp3 fp4 fp5 fp6 fp7 fp0_0 fp0_1 fp0_2 fp0_3 fp0_4 fp0_5 fp1_0 fp1_1 fp1_2 fp1_3 fp1_4 fp1_5 F0:List Nat}
def Zcr  (K:List (A8×Int)→Prop):Prop :=
 K (Yc ([]:List (A8×Int)) A8.zero 1)
theorem Zmk   {K:List (A8×Int)→Prop} (h:Zcr  K) (w0:World)  :
  Calls ZF7 86 #[] w0 fun e w'=>∃ (r0:List (A8×Int)) (zb0:Nat),
   e=.returned (.map (some zb0))∧K r0∧(mapS zb0 r0).holds w'∧w0.heap.size≤zb0∧Bel w0 w':=by
 unfold Zcr at h
 refine cof Tryz.func86 rfl 4 Tryz.ntmps86 ?_
 have hC:=ZGq (X:=Nox) w0 [] (by simp)
 refine sr (Zc (v:=.map none) rfl (dn (sr (Za3 hC (kvA .i64) (vvI .i64) fun b1 w3 hB_ hC=>Y5 [] rfl (Zef   _) ?_))))
 refine Zc2 hC 0 A8.zero 1 rfl Xw ZG1 rfl rfl rfl (fun w4 hC=>?_) (.inr rfl)
 refine Zb (v:=.map (some b1)) rfl (Zc (v:=.map (some b1)) rfl (dn (ZGd ?_)))
 exact Zj rfl (Zg rfl) ⟨Yc ([]:List (A8×Int)) A8.zero 1,b1,rfl,h,(hC.getM 0 rfl),(Zc1 hC 0 rfl),hC.below⟩ (.inl rfl)
end Go.Proofs.YtheenipahifleaaGreat
set_option maxRecDepth 4000
set_option maxHeartbeats 4000000
namespace Go.Proofs.YtheenipahifleaaGreat
open Go Go.RowKit Vc
theorem lsc94:ScaT ZF7 94:=⟨⟨_,ZNh,rfl⟩,by kernel_rfl⟩
theorem lsc95:ScaT ZF7 95:=⟨⟨_,Tryz.underlying95,rfl⟩,by kernel_rfl⟩
theorem lag141:AggT ZF7 141 2:=⟨⟨_,Tryz.underlying141,rfl⟩,by kernel_rfl⟩
theorem Zs5:Xc ZF7 141 (.agg #[.int .i64 0,.int .i64 0]):=by unfold Xc; kernel_rfl
theorem Zs6:Xc ZF7 99 (.map none):=by unfold Xc; kernel_rfl
theorem Zml:KeyT ZF7 141 kv2:=Zsx Tryz.underlying141 Tryz.underlying3 sc3
theorem Zs7 (a b:Int) (w:World):(Instr.build 141 #[(0,.int .i64 a),(1,.int .i64 b)]).run ZF7 w=.ok (.agg #[.int .i64 a,.int .i64 b]) w:=by kernel_rfl
def Zdu (C:Int→Int→List (A8×Int)→Prop) (to:List Int) (imgs:List (List (A8×Int))) (i:Nat) (e:Nat):Prop :=
  Zcr (fun r=>C i 0 r)∧∀ k:Nat,k < e→∀ r,C i k r→J3 r to (imgs.getD i []) (fun s=>C i ((k:Int)+1) s)
theorem Zs8 (C : Int → Int → List (A8 × Int) → Prop) (to : List Int) (imgs : List (List (A8 × Int))) (i : Nat) (hi : i < imgs.length) {lb mb : Nat} {uf ut ui : Value} {ft fi : List Nat} : ∀ (e : Nat) (he : e ≤ 1000) {D : List Kp} {E : List (Nat × List (A8 × Int))} (h : Zdu C to imgs i e) (w0 : World)
    (ql:(blk lb 97 [uf,ut,ui,.map (some mb)]).holds w0) (qt:TInts.rep to [ut] ft w0) (qi:TSum.sl.rep imgs [ui] fi w0) (qd:(ldI C mb D E).holds w0) (dl:lb≠mb) (dt:∀ b,b∈ft→b≠mb) (di:∀ b,b∈fi→b≠mb),
    Calls ZF7 88 #[.pointer (some ⟨lb,0,none⟩),.int .i64 (i:Int),.int .i64 (e:Int)] w0 fun ret w'=>∃ (p:Nat) (s:List (A8×Int)) (D':List Kp) (E':List (Nat×List (A8×Int))),
      ret=.returned (.map (some p))∧C i e s∧(p,s)∈E'∧(ldI C mb D' E').holds w'∧(∀ x,x∈(ldI C mb D' E').fp→x∈(ldI C mb D E).fp∨w0.heap.size≤x)∧BelB mb w0 w':=by
  intro e
  induction e with
  | zero =>
    intro he D E h w0 ql qt qi qd dl dt di
    obtain ⟨k1,k2,k3⟩:=Zhn qd
    refine cof (args:=[.pointer (some ⟨lb,0,none⟩),.int .i64 (i:Int),.int .i64 ((0:Nat):Int)]) ZM4 rfl 52 Tryz.ntmps88 ?_
    have hC:=Ctx.start1 w0 mb (it:=Z7 kv2 vvM mb (D.map Kp.key)) rfl [ldE C D E] k1 (al1 k2) (al1 fun c hc ec=>k3 (ec ▸ hc))
    refine sr (Zc (v:=.map none) rfl (dn (ZF5 (sr (Zb (v:=.int .i64 ((0:Nat):Int)) rfl (Je rfl rfl (dn ?_)))))))
    refine Z8 rfl (decide_eq_true rfl) (sr (Zf [] _ Tryz.func86 rfl rfl rfl (Zmk h.1 _) ?_))
    rintro _ w1 ⟨r,p,rfl,hr,hm,hf,hB⟩
    refine rt ?_
    replace hC:=hC.push hB (mapS p r) hm (fun b_ hb_=>by obtain rfl:=Zwj.1 hb_; exact hf)
    refine Zc (v:=.map (some p)) rfl (dn (ZGd ?_))
    have lowE:∀ x,x∈E.map (·.1)→x < w0.heap.size:=fun x hx=>(ldE C D E).low w0 k2 x hx
    have hmb:mb < w0.heap.size:=(Z7 kv2 vvM mb (D.map Kp.key)).low w0 k1 mb (by simp [Z7])
    refine Ze (Zj (v:=.map (some p)) rfl (Zg rfl) ⟨p,r,D,(p,r)::E,rfl,hr,ZMt,?_,?_,hC.belB⟩ (.inl rfl))
    · exact Zs1 (Zho (hC.getM 1 rfl) (hC.getP 0 rfl) k3) (hC.getM 0 rfl) (by omega)
    · intro x hx
      rcases Zus.1 hx with e | hx
      · exact .inl (e ▸ ZMt)
      · rcases Zus.1 hx with e | hx
        · exact .inr (by rw [e]; exact hf)
        · exact .inl (ZMq _ hx)
  | succ e ih =>
    intro he D E h w0 ql qt qi qd dl dt di
    obtain ⟨k1,k2,k3⟩:=Zhn qd
    have wr:Zxa.wrap (((e+1:Nat):Int) - 1)=(e:Int):=by rw [i64_in _ (by omega)]; omega
    have hP:Zdu C to imgs i e:=⟨h.1,fun k hk=>h.2 k (by omega)⟩
    refine cof (args:=[.pointer (some ⟨lb,0,none⟩),.int .i64 (i:Int),.int .i64 ((e+1:Nat):Int)]) ZM4 rfl 52 Tryz.ntmps88 ?_
    have hC:=Ctx.start1 w0 mb (it:=Z7 kv2 vvM mb (D.map Kp.key)) rfl [ldE C D E,blk lb 97 [uf,ut,ui,.map (some mb)],ZCh TInts to [ut] ft,ZCh TSum.sl imgs [ui] fi] k1 (alc k2 (alc ql (alc qt (al1 qi))))
      (alc (fun c hc ec=>k3 (ec ▸ hc)) (alc (fun c hc ec=>dl ((Zwj.1 hc).symm.trans ec)) (alc dt (al1 di))))
    refine sr (Zc (v:=.map none) rfl (dn (ZF5 (sr (Zb (v:=.int .i64 ((e+1:Nat):Int)) rfl (Je rfl rfl (dn ?_)))))))
    refine Z9 rfl (decide_eq_false (by omega)) (ZF8 (Zd ?_))
    refine sr (Zb (v:=.int .i64 (i:Int)) rfl (Zb (v:=.int .i64 ((e+1:Nat):Int)) rfl (Y5 [(0,.int .i64 (i:Int)),(1,.int .i64 ((e+1:Nat):Int))] rfl (Zs7 _ _ _) (Z1 hC [.int .i64 0,.int .i64 0] Zs5 rfl fun kb w1 hB_ hC=>?_))))
    refine Zo (v:=.agg (ZF4 [.int .i64 (i:Int),.int .i64 ((e+1:Nat):Int)])) hC 0 [.int .i64 (i:Int),.int .i64 ((e+1:Nat):Int)] [.int .i64 (i:Int),.int .i64 ((e+1:Nat):Int)] rfl lag141.size rfl rfl rfl rfl rfl (ZGe rfl) rfl fun w2 hC=>?_
    refine dn ?_
    refine ZF5 (ZF5 ?_)
    refine Zid 10 mixed [0,1,3,7,0,31,63,127,127,255,1023] [3,4] [0,1,2,6,7,8,9] (by kernel_rfl) (by kernel_rfl) (by kernel_rfl) (fun hM1 hM2 w3 hB_=>?_)
    replace hC:=hC.grow hB_
    refine aF 0 (.pointer (some ⟨lb,0,none⟩)) rfl rfl (hM2 0 rfl) rfl (fun _=>by exact Jo (v:=.pointer (some ⟨lb,0,none⟩)) rfl) (Za 11 1) ?_
    refine aF 1 (.pointer (some ⟨lb,0,none⟩)) rfl rfl (hM2 1 rfl) rfl (fun _=>by exact Zam rfl) (Za 11 3) ?_
    refine aF 2 (.pointer (some ⟨lb,3,none⟩)) rfl rfl (hM2 2 rfl) rfl (fun _=>by exact Yh 3 ZMu rfl lsc94.size rfl rfl) (Za 11 7) ?_
    refine aL 3 (.map (some mb)) rfl rfl (hM1 3 rfl) rfl (fun _ hB_=>by exact Zaa (.map (some mb)) ((hC.grow hB_).getP 1 rfl) lsc94 rfl rfl) (Za 11 15) ?_
    refine aL 4 (.agg (ZF4 [.int .i64 (i:Int),.int .i64 ((e+1:Nat):Int)])) rfl rfl (hM1 4 rfl) rfl (fun _ hB_=>by exact Y9 (hC.grow hB_) 0 [.int .i64 (i:Int),.int .i64 ((e+1:Nat):Int)] rfl lag141 rfl rfl rfl) (Za 11 31) ?_
    refine aO 5 rfl (Zsw ((i:Int),((e+1:Nat):Int)) (.map none) (hC.getM 1 rfl) Zml ZNh Zs6 rfl rfl (fun b hg=>?_) (fun hg=>?_))
    · refine done (aK (Bel.refl _) (Za 11 63) ?_)
      obtain ⟨d,hd,ed,rfl⟩:=Zs2 hg
      refine aF 6 (.tuple #[vvM d.p,.bool true]) rfl rfl (hM2 6 rfl) rfl (fun _=>by exact Jo (v:=.tuple #[vvM d.p,.bool true]) rfl) (Za 11 127) ?_
      refine aF 7 (vvM d.p) rfl rfl (hM2 7 rfl) rfl (fun _=>by exact Ji (v:=vvM d.p) rfl rfl) (Za 11 255) ?_
      refine aF 8 (.bool true) rfl rfl (hM2 8 rfl) rfl (fun _=>by exact Ji (v:=.bool true) rfl rfl) (Za 11 511) ?_
      refine aF 9 (vvM d.p) rfl rfl (hM2 9 rfl) rfl (fun _=>by exact Zh3 (v:=vvM d.p) rfl) (Za 11 1023) ?_
      refine Z2 10 (by decide) (by decide) (by kernel_rfl) (by kernel_rfl) rfl ?_
      refine Zc (v:=.bool true) rfl (done (Z3 ?_))
      refine Zd (sr (Zb (v:=.bool true) rfl (dn ?_)))
      refine Z8 rfl rfl (sr (Zb (v:=vvM d.p) rfl (Zc (v:=vvM d.p) rfl (dn (ZGd ?_)))))
      obtain ⟨hE,hCd⟩:=k2.2 d hd
      obtain ⟨ei,ee⟩:d.i=(i:Int)∧d.e=((e+1:Nat):Int):=⟨congrArg Prod.fst ed,congrArg Prod.snd ed⟩
      rw [ei,ee] at hCd
      refine Ze (Zj (v:=vvM d.p) rfl (Zg rfl) ⟨d.p,d.s,D,E,rfl,hCd,hE,?_,fun x hx=>.inl hx,hC.belB⟩ (.inl rfl))
      exact Zho (hC.getM 1 rfl) (hC.getP 0 rfl) k3
    · refine done (aK (Bel.refl _) (Za 11 63) ?_)
      refine aF 6 (.tuple #[.map none,.bool false]) rfl rfl (hM2 6 rfl) rfl (fun _=>by exact Jo (v:=.tuple #[.map none,.bool false]) rfl) (Za 11 127) ?_
      refine aF 7 (.map none) rfl rfl (hM2 7 rfl) rfl (fun _=>by exact Ji (v:=.map none) rfl rfl) (Za 11 255) ?_
      refine aF 8 (.bool false) rfl rfl (hM2 8 rfl) rfl (fun _=>by exact Ji (v:=.bool false) rfl rfl) (Za 11 511) ?_
      refine aF 9 (.map none) rfl rfl (hM2 9 rfl) rfl (fun _=>by exact Zh3 (v:=.map none) rfl) (Za 11 1023) ?_
      refine Z2 10 (by decide) (by decide) (by kernel_rfl) (by kernel_rfl) rfl ?_
      refine Zc (v:=.bool false) rfl (done (Z3 ?_))
      refine Zd (sr (Zb (v:=.bool false) rfl (dn ?_)))
      refine Z9 rfl rfl (ZF8 (Zd ?_))
      have hmf:mb∉fi:=fun hb=>di mb hb rfl
      obtain ⟨Ai,ci,pi,rfl,hci,hpi,hmi⟩:=Zs0 (hC.getP 3 rfl) i hi hmf
      refine ZF5 ?_
      refine Zmj mb 16 mixed [0,0,0,4,15,0,32,96,224,0,512,1536,3584,0,15872,32256,65535,131071] [8,12,15] [0,1,2,3,5,6,7,9,10,11,13,14] (by kernel_rfl) (by kernel_rfl) (by kernel_rfl) (fun hM1 hM2 w4 hB_=>?_)
      replace hC:=hC.grow hB_
      have hci:∀ w',BelB mb w4 w'→Xh w' (Ai.add i) [.map (some pi)]:=fun w' hB=>hci w' ((Xj mb).trans (Zjh hB_) hB)
      refine bMR (Xj mb) 0 (.pointer (some ⟨lb,0,none⟩)) rfl hM2 (Za 18 1) (bMR (Xj mb) 1 (.int .i64 (i:Int)) rfl hM2 (Za 18 3) (bMR (Xj mb) 2 (.int .i64 ((e+1:Nat):Int)) rfl hM2 (Za 18 7) ?_))
      refine Zt (Xj mb) 3 (.int .i64 (e:Int)) rfl rfl (by kernel_rfl) (hM2 3 rfl) (fun w_=>.inl ⟨rfl,by rw [← wr]; exact Zh4 rfl rfl⟩) (l9:=(Za 18 15)) (by kernel_rfl) ?_
      refine bMR (Xj mb) 5 (.pointer (some ⟨lb,0,none⟩)) rfl hM2 (Za 18 47) ?_
      refine Zt (Xj mb) 6 (.pointer (some ⟨lb,0,none⟩)) rfl rfl (by kernel_rfl) (hM2 6 rfl) (fun w_=>.inl ⟨rfl,by exact Zam rfl⟩) (l9:=(Za 18 111)) (by kernel_rfl) ?_
      refine Zt (Xj mb) 7 (.pointer (some ⟨lb,1,none⟩)) rfl rfl (by kernel_rfl) (hM2 7 rfl) (fun w_=>.inl ⟨rfl,by exact Yh 1 ZMu rfl sc22.size rfl rfl⟩) (l9:=(Za 18 239)) (by kernel_rfl) ?_
      refine Jl (Xj mb) 8 ut rfl rfl (by kernel_rfl) (hM1 8 rfl) (fun w_ hB_=>.inl ⟨rfl,by exact Zaa ut ((hC.growC 1 rfl (ZMk _) hB_).getP 1 rfl) sc22 rfl rfl⟩) (l9:=(Za 18 495)) (by kernel_rfl) ?_
      refine bMR (Xj mb) 9 (.pointer (some ⟨lb,0,none⟩)) rfl hM2 (Za 18 1007) ?_
      refine Zt (Xj mb) 10 (.pointer (some ⟨lb,0,none⟩)) rfl rfl (by kernel_rfl) (hM2 10 rfl) (fun w_=>.inl ⟨rfl,by exact Zam rfl⟩) (l9:=(Za 18 2031)) (by kernel_rfl) ?_
      refine Zt (Xj mb) 11 (.pointer (some ⟨lb,2,none⟩)) rfl rfl (by kernel_rfl) (hM2 11 rfl) (fun w_=>.inl ⟨rfl,by exact Yh 2 ZMu rfl lsc95.size rfl rfl⟩) (l9:=(Za 18 4079)) (by kernel_rfl) ?_
      refine Jl (Xj mb) 12 (.slice (some Ai) imgs.length ci) rfl rfl (by kernel_rfl) (hM1 12 rfl) (fun w_ hB_=>.inl ⟨rfl,by exact Zaa (.slice (some Ai) imgs.length ci) ((hC.growC 1 rfl (ZMk _) hB_).getP 1 rfl) lsc95 rfl rfl⟩) (l9:=(Za 18 8175)) (by kernel_rfl) ?_
      refine bMR (Xj mb) 13 (.int .i64 (i:Int)) rfl hM2 (Za 18 16367) ?_
      refine Zt (Xj mb) 14 (.pointer (some (Ai.add (i * 1)))) rfl rfl (by kernel_rfl) (hM2 14 rfl) (fun w_=>.inl ⟨rfl,by exact Yw (len:=imgs.length) Tryz.underlying95 sc99.size rfl rfl (ZGm _) (ZG4.2 hi)⟩) (l9:=(Za 18 32751)) (by kernel_rfl) ?_
      refine Jl (Xj mb) 15 (.map (some pi)) rfl rfl (by kernel_rfl) (hM1 15 rfl) (fun w_ hB_=>.inl ⟨rfl,by exact Jw (.map (some pi)) (by rw [Nat.mul_one]; exact hci w_ hB_) sc99 rfl⟩) (l9:=(Za 18 65519)) (by kernel_rfl) ?_
      refine aO 4 rfl ?_
      refine Zf [.pointer (some ⟨lb,0,none⟩),.int .i64 (i:Int),.int .i64 (e:Int)] _ ZM4 rfl rfl rfl (ih (by omega) hP _ (hC.getP 1 rfl) (hC.getP 2 rfl) (hC.getP 3 rfl) (Zho (hC.getM 1 rfl) (hC.getP 0 rfl) k3) dl dt di) ?_
      rintro _ w5 ⟨p,r,D1,E1,rfl,hCr,hpr,hld,hfp,hB1⟩
      refine rt ?_
      obtain ⟨j1,j2,j3⟩:=Zhn hld
      have hs4:=hC.size
      have hmi:=(mapS pi (imgs.getD i [])).keep _ w5 (fun c hc=>by
        obtain rfl:c=pi:=by simpa [Z7] using hc
        exact((Xj mb).trans (Zjh hB_) hB1).old _ ((mapS c (imgs.getD i [])).low _ hmi c hc) (fun q=>hmf (q ▸ hpi))) hmi
      replace hC:=hC.turnMP 1 0 (jt:=Z7 kv2 vvM mb (D1.map Kp.key)) (qt:=ldE C D1 E1) rfl rfl (hB1.belO (ZMk _)) j1 j2 (fun b hb=>.inl hb) (fun b hb=>(hfp b (ZMq _ hb)).elim (fun q=>by
        rcases Zus.1 q with q | q
        · exact absurd (q ▸ hb) j3
        · exact .inl q) .inr) (fun b hb hb2=>j3 (by obtain rfl:=Zwj.1 hb2; exact hb))
      refine done (aK hB1 (Za 18 65535) ?_)
      refine Z2 16 (by decide) (by decide) (by kernel_rfl) (by kernel_rfl) rfl ?_
      have e1:((e+1:Nat):Int)=(e:Int)+1:=by omega
      refine Zf [.map (some p),ut,.map (some pi)] _ Tryz.func87 rfl rfl rfl (X0 r to (imgs.getD i []) (h.2 e (by omega) r hCr) _ ((hC.getP 0 rfl).1 (p,r) hpr) (hC.getP 2 rfl) hmi) ?_
      rintro _ w6 ⟨s,ps,rfl,hs,hsm,hsf,hB2⟩
      refine rt ?_
      have hs5:=hC.size
      replace hC:=hC.push hB2 (mapS ps s) hsm (fun b_ hb_=>by obtain rfl:=Zwj.1 hb_; exact hsf)
      refine Zc (v:=.map (some ps)) rfl (done (Z3 ?_))
      refine Zd (ZF5 ?_)
      refine Zid 6 mixed [0,1,3,7,0,0,63] [3,4] [0,1,2,5] (by kernel_rfl) (by kernel_rfl) (by kernel_rfl) (fun hM1 hM2 w7 hB_=>?_)
      replace hC:=hC.grow hB_
      refine aF 0 (.pointer (some ⟨lb,0,none⟩)) rfl rfl (hM2 0 rfl) rfl (fun _=>by exact Jo (v:=.pointer (some ⟨lb,0,none⟩)) rfl) (Za 7 1) ?_
      refine aF 1 (.pointer (some ⟨lb,0,none⟩)) rfl rfl (hM2 1 rfl) rfl (fun _=>by exact Zam rfl) (Za 7 3) ?_
      refine aF 2 (.pointer (some ⟨lb,3,none⟩)) rfl rfl (hM2 2 rfl) rfl (fun _=>by exact Yh 3 ZMu rfl lsc94.size rfl rfl) (Za 7 7) ?_
      refine aL 3 (.map (some mb)) rfl rfl (hM1 3 rfl) rfl (fun _ hB_=>by exact Zaa (.map (some mb)) ((hC.grow hB_).getP 1 rfl) lsc94 rfl rfl) (Za 7 15) ?_
      refine aL 4 (.agg (ZF4 [.int .i64 (i:Int),.int .i64 ((e+1:Nat):Int)])) rfl rfl (hM1 4 rfl) rfl (fun _ hB_=>by exact Y9 (hC.grow hB_) 1 [.int .i64 (i:Int),.int .i64 ((e+1:Nat):Int)] rfl lag141 rfl rfl rfl) (Za 7 31) ?_
      refine aF 5 (.map (some ps)) rfl rfl (hM2 5 rfl) rfl (fun _=>by exact Jo (v:=.map (some ps)) rfl) (Za 7 63) ?_
      refine Z2 6 (by decide) (by decide) (by kernel_rfl) (by kernel_rfl) rfl ?_
      refine Zc2 hC 2 ((i:Int),((e+1:Nat):Int)) ps rfl Zml ZNh rfl rfl rfl (fun w8 hC=>?_) (.inl rfl)
      refine done (Z3 ?_)
      refine Zd (sr (Zb (v:=.map (some ps)) rfl (Zc (v:=.map (some ps)) rfl (dn (ZGd ?_)))))
      obtain ⟨D2,hD2,hD2m⟩:=Zs3 D1 ((i:Int),((e+1:Nat):Int)) ps s
      have hmb:mb < w0.heap.size:=(Z7 kv2 vvM mb (D.map Kp.key)).low w0 k1 mb (by simp [Z7])
      have hCs:C i ((e+1:Nat):Int) s:=by rw [e1]; exact hs
      refine Zj (v:=.map (some ps)) rfl (Zg rfl) ⟨ps,s,D2,(ps,s)::E1,rfl,hCs,ZMt,?_,?_,hC.belB⟩ (.inl rfl)
      · have f1:=hC.getM 2 rfl
        rw [← hD2] at f1
        have f2:=hC.getP 0 rfl
        refine⟨f1,fun q hq=>?_,fun d hd=>?_,fun hm=>?_⟩
        · rcases Zus.1 hq with rfl | hq
          · exact hC.getM 0 rfl
          · exact f2.1 q hq
        · rcases hD2m d hd with q | rfl
          · exact⟨ZMq _ (f2.2 d q).1,(f2.2 d q).2⟩
          · exact⟨ZMt,hCs⟩
        · rcases Zus.1 hm with q | q
          · dsimp only at q; omega
          · exact j3 q
      · intro x hx
        rcases Zus.1 hx with q | hx
        · exact .inl (q ▸ ZMt)
        · rcases Zus.1 hx with q | hx
          · exact .inr (by rw [q]; dsimp only; omega)
          · exact(hfp x (ZMq _ hx)).imp id fun q=>by omega
theorem Zs9 (C:Int→Int→List (A8×Int)→Prop) (to:List Int) (imgs:List (List (A8×Int))) (i:Nat) (e:Int) {lb mb:Nat} {uf ut ui:Value} {ft fi:List Nat} {D:List Kp} {E:List (Nat×List (A8×Int))} (h:(i < imgs.length∧0≤e∧e≤1000)∧Zdu C to imgs i e.toNat) (w0:World)
    (ql:(blk lb 97 [uf,ut,ui,.map (some mb)]).holds w0) (qt:TInts.rep to [ut] ft w0) (qi:TSum.sl.rep imgs [ui] fi w0) (q1:(Z7 kv2 vvM mb (D.map Kp.key)).holds w0) (q2:(ldE C D E).holds w0) (q3:mb∉E.map (·.1)) (dl:lb≠mb) (dt:∀ b,b∈ft→b≠mb) (di:∀ b,b∈fi→b≠mb) :
    Calls ZF7 88 #[.pointer (some ⟨lb,0,none⟩),.int .i64 (i:Int),.int .i64 e] w0 fun ret w'=>∃ (p:Nat) (s:List (A8×Int)) (D':List Kp) (E':List (Nat×List (A8×Int))),
      ret=.returned (.map (some p))∧C i e s∧(p,s)∈E'∧(Z7 kv2 vvM mb (D'.map Kp.key)).holds w'∧(ldE C D' E').holds w'∧mb∉E'.map (·.1)∧LdLe w0 E E'∧BelB mb w0 w':=by
  obtain ⟨⟨hi,h0,h1⟩,hp⟩:=h
  obtain ⟨n,rfl⟩:∃ n:Nat,e=(n:Int):=⟨e.toNat,by omega⟩
  rw [Int.toNat_natCast] at hp
  refine(Zs8 C to imgs i hi n (by omega) hp w0 ql qt qi (Zho q1 q2 q3) dl dt di).mono ?_
  rintro r w' ⟨p,s,D',E',rfl,hc,hps,hld,hfp,hB⟩
  obtain ⟨j1,j2,j3⟩:=Zhn hld
  refine⟨p,s,D',E',rfl,hc,hps,j1,j2,j3,fun x hx=>(hfp x (ZMq _ hx)).imp (fun q=>?_) id,hB⟩
  rcases Zus.1 q with q | q
  · exact absurd (q ▸ hx) j3
  · exact q
end Go.Proofs.YtheenipahifleaaGreat
set_option maxRecDepth 4000
set_option maxHeartbeats 4000000
namespace Go.Proofs.YtheenipahifleaaGreat
open Go Go.RowKit Vc
variable {b0 bp0 b1 bp1 b2 bp2 b3 bp3 b4 bp4 b5 bp5 b6 bp6 b7 bp7 mb0:Nat} {Dk0:List Kp} {Ek0:List (Nat×List (A8×Int))} {u0_0 u0_1 u0_2 u0_3 u0_4 u0_5 u1_0 u1_1 u1_2 u1_3 u1_4 u1_5 u2_0 u2_1 u2_2 u2_3 u2_4 u2_5 u3_0 u3_1 u3_2 u3_3 u3_4 u3_5 u4_0 u4_1 u4_2 u4_3 u4_4 u4_5 u5_0 u5_1 u5_2 u5_3 u5_4 u5_5 u6_0 u6_1 u6_2 u6_3 u6_4 u6_5 u7_0 u7_1 u7_2 u7_3 u7_4 u7_5:Value} {fp0 fp1 fp2 fp3 fp4 fp5 fp6 fp7 fp0_0 fp0_1 fp0_2 fp0_3 fp0_4 fp0_5 fp1_0 fp1_1 fp1_2 fp1_3 fp1_4 fp1_5 F0:List Nat}
def Zfq (Cl:Int→Int→List (A8×Int)→Prop) (a5:List Int) (a6:List Int) (a7:List (List (A8×Int))) (a1:List (A8×Int)) (K:List (A8×Int)→Prop):Prop :=
 Zab (fun (q10:A8×Int) (s11:(List (A8×Int))) nx11=>Zcr  (fun r11=>Yi (fun i10 (s10:(List (A8×Int))) nx10=>((0≤(i10:Int)∧(i10:Int) < 8)∧(if q10.1.get i10 > 0 then((0≤(i10:Int)∧(i10:Int) < 8)∧(((i10 < a7.length∧0≤q10.1.get i10∧q10.1.get i10≤1000)∧Zdu Cl a6 a7 i10 (q10.1.get i10).toNat)∧∀ (r10:List (A8×Int)),Cl (i10:Int) (q10.1.get i10) r10→J3 s10 a6 r10 (fun r12=>nx10 r12))) else nx10 s10))) (fun (s10:(List (A8×Int)))=>Zbn s11 s10 q10.2 (fun m10=>nx11 m10)) a5.length 0 r11)) (fun (s11:(List (A8×Int)))=>K s11) a1.length a1 ([]:List (A8×Int))
theorem Zta (Cl:Int→Int→List (A8×Int)→Prop) (a5:List Int) (a6:List Int) (a7:List (List (A8×Int))) (a1:List (A8×Int))  {K:List (A8×Int)→Prop} (h:Zfq Cl a5 a6 a7 a1 K) (w0:World) (q5:TInts.rep a5 [u5_0] fp5 w0) (q6:TInts.rep a6 [u6_0] fp6 w0) (q7:((Zbs (kvA .i64) (vvI .i64)).sl).rep a7 [u7_0] fp7 w0) (qbp0:(blk bp0 97 [u5_0,u6_0,u7_0,.map (some mb0)]).holds w0) (qm0:(Z7 kv2 vvM mb0 (Dk0.map Kp.key)).holds w0) (qe0:(ldE Cl Dk0 Ek0).holds w0) (qo0:mb0∉Ek0.map (·.1)) (dbp0:bp0≠mb0) (d5:∀ c,c∈fp5→c≠mb0) (d6:∀ c,c∈fp6→c≠mb0) (d7:∀ c,c∈fp7→c≠mb0) (q1:(mapS b1 a1).holds w0) (d1:∀ c,c∈[b1]→c≠mb0) :
  Calls ZF7 65 #[vQ bp0,.map (some b1)] w0 fun e w'=>∃ (r0:List (A8×Int)) (zb0:Nat) (Dz:List Kp) (Ez:List (Nat×List (A8×Int))),
   e=.returned (.map (some zb0))∧K r0∧(mapS zb0 r0).holds w'∧w0.heap.size≤zb0∧(Z7 kv2 vvM mb0 (Dz.map Kp.key)).holds w'∧(ldE Cl Dz Ez).holds w'∧mb0∉Ez.map (·.1)∧LdLe w0 Ek0 Ez∧zb0∉Ez.map (·.1)∧BelB mb0 w0 w':=by
 unfold Zfq at h
 refine cof Tryz.func65 rfl 49 Tryz.ntmps65 ?_
 have hC:=Ctx.start1 w0 mb0 (it:=Z7 kv2 vvM mb0 (Dk0.map Kp.key)) rfl [ZCh TInts a5 [u5_0] fp5,ZCh TInts a6 [u6_0] fp6,ZCh ((Zbs (kvA .i64) (vvI .i64)).sl) a7 [u7_0] fp7,mapS b1 a1,ldE Cl Dk0 Ek0,blk bp0 97 [u5_0,u6_0,u7_0,.map (some mb0)]] qm0 (alc q5 (alc q6 (alc q7 (alc q1 (alc qe0 (al1 qbp0)))))) (alc d5 (alc d6 (alc d7 (alc d1 (alc (fun c_ hc_ e_=>qo0 (e_ ▸ hc_)) (al1 (fun c_ hc_ e_=>dbp0 ((Zwj.1 hc_).symm.trans e_))))))))
 refine sr (Zc (v:=.map none) rfl (dn (sr (Za3 hC (kvA .i64) (vvI .i64) fun b8 w10 hB_ hC=>Zc (v:=.map (some b8)) rfl (dn (ZF5 (sr (Zb (v:=.map (some b1)) rfl (Zc3 hC 3 rfl ZG1 rfl fun r13 es10 ck10 w11 hB_ hn10 hbn10 hC=>dn (ZGb ?_))))))))))
 refine Zc7 (S:=(List (A8×Int))) _ _ (fun l11 s11 e_ w_=>∃ (D326:List Kp),∃ (E327:List (Nat×List (A8×Int))),∃ (la10:Option MapEntry),Zy e_ [(0,vQ bp0),(5,.map (some b8)),(12,vQ r13)]∧LdLe w0 Ek0 E327∧Ctx (fun c_=>c_=mb0) w0 w_ [itI (kvA .i64) (vvI .i64) r13 b1 es10 ck10 la10 l11,mapS b8 s11,Z7 kv2 vvM mb0 (D326.map Kp.key)] [Jx b1 es10 ck10,ZCh TInts a5 [u5_0] fp5,ZCh TInts a6 [u6_0] fp6,ZCh ((Zbs (kvA .i64) (vvI .i64)).sl) a7 [u7_0] fp7,mapS b1 a1,ldE Cl D326 E327,blk bp0 97 [u5_0,u6_0,u7_0,.map (some mb0)]]) ?_ (l0:=a1) (s0:=([]:List (A8×Int))) ?_ h
 ·clear hC h
  rintro l11 s11 e_ w12 nx11 K11 ⟨D326,E327,la10,hS_,hq11,hC⟩ h hK11
  rw [ue hS_]
  refine sr ?_
  refine Zc4 hC 0 0 rfl rfl hn10 hbn10 rfl (fun hr10=>?_) (fun q10 l10 ent10 w13 hp10 hk10 hv10 hC=>?_)
  ·replace h:=h.1 hr10
   refine Yu (v:=.bool false) rfl rfl (dn (ZF5 (Z9 rfl rfl ?_)))
   refine ZGj (Zl (Zl (Z5 ?_)))
   refine Zd (sr (Zb (v:=.map (some b8)) rfl (Zc (v:=.map (some b8)) rfl (dn (ZGd ?_)))))
   exact Zj rfl (Zg rfl) ⟨s11,b8,D326,E327,rfl,h,(hC.getM 1 rfl),((hC.mfk 1 rfl _ (ZMk _)).elim id (fun e_=>absurd (Zwj.2 e_) (hC.mm 1 2 rfl rfl (by decide) _ (ZMk _)))),(hC.getM 2 rfl),(hC.getP 5 rfl),(hC.ldOff 2 5 rfl rfl),hq11,(fun hm_=>hC.pdk 5 1 rfl rfl _ hm_ (ZMk _)),hC.belB⟩ (.inl rfl)
  ·replace h:=h.2 q10 l10 hp10
   refine Yu (v:=.bool true) rfl rfl (dn (ZF5 (Z8 rfl rfl (ZF8 (Zd (ZGb (sr (Zc5 hC 0 0 q10 rfl rfl hn10 rfl hk10 hv10 (Yu (v:=.agg (ZF4 (A8.enc .i64 q10.1))) rfl rfl (Yu (v:=vI q10.2) rfl rfl (Z1 hC (A8.enc .i64 A8.zero) Js rfl fun b11 w14 hB_ hC=>Zo (v:=.agg (ZF4 (A8.enc .i64 q10.1))) hC 0 (A8.enc .i64 q10.1) (A8.enc .i64 q10.1) rfl ag110.size rfl rfl rfl rfl rfl (ZGe rfl) rfl fun w15 hC=>Zc (v:=vI q10.2) rfl (dn (sr (Zf [] _ Tryz.func86 rfl rfl rfl (Zmk h _) ?_))))))))))))))
   rintro _ w16 ⟨r11,b12,rfl,h,hr11,hf10,hB10⟩
   refine rt ?_
   replace hC:=hC.push hB10 (mapS b12 r11) hr11 (fun b_ hb_=>by obtain rfl:=Zwj.1 hb_; exact hf10)
   refine Zc (v:=.map (some b12)) rfl (dn (ZF5 (sr (Zb (v:=vQ bp0) rfl (Zan rfl (Zx 0 ZMu rfl sc22.size rfl rfl (Za1 (u5_0) (hC.getP 6 rfl) sc22 rfl rfl (Zv hC 1 rfl ZGo rfl (Zb (v:=vI 0) rfl (dn (ZGb ?_)))))))))))
   have hN10:a5.length≤9223372036854775807:=Y3 (hC.getP 1 rfl)
   refine Yn (S:=(List (A8×Int))) _ _ (fun i10 s10 e_ w_=>∃ (D431:List Kp),∃ (E432:List (Nat×List (A8×Int))),∃ (b10:Nat),Zy e_ [(0,vQ bp0),(5,.map (some b8)),(6,vQ b11),(7,vI q10.2),(8,.map (some b10)),(12,vQ r13),(23,vI (a5.length:Int)),(24,vI (i10:Int))]∧LdLe w0 Ek0 E432∧Ctx (fun c_=>c_=mb0) w0 w_ [mapS b10 s10,blk b11 110 (A8.enc .i64 q10.1),itI (kvA .i64) (vvI .i64) r13 b1 es10 ck10 (some ent10) l10,mapS b8 s11,Z7 kv2 vvM mb0 (D431.map Kp.key)] [Jx b1 es10 ck10,ZCh TInts a5 [u5_0] fp5,ZCh TInts a6 [u6_0] fp6,ZCh ((Zbs (kvA .i64) (vvI .i64)).sl) a7 [u7_0] fp7,mapS b1 a1,ldE Cl D431 E432,blk bp0 97 [u5_0,u6_0,u7_0,.map (some mb0)]]) a5.length ?_ ?_ (s0:=r11) ?_ h
   ·clear hC h
    rintro i10 s10 e_ w17 nx10 K10 hi10 ⟨D431,E432,b10,hS_,hq10,hC⟩ h hK10
    rw [ue hS_]
    refine sr (Zn rfl rfl (dn (ZF5 (Z8 rfl (decide_eq_true (by omega)) (ZF8 (Zd (ZF5 (ZGb (sr (Zb (v:=vI (i10:Int)) rfl (Zc (v:=vI (i10:Int)) rfl (dn (sr (Zb (v:=vI (i10:Int)) rfl ?_))))))))))))))
    obtain ⟨⟨h10,h11⟩,h⟩:=h
    refine Y6 i10 Tryz.underlying110 sc3.size rfl rfl h10 h11 (by omega) (Z4 hC 1 (vI (q10.1.get i10)) rfl sc3 rfl (A8.enc_get _ _ (show i10 < 8 by omega)) (Xy rfl rfl (dn ?_)))
    refine Zq rfl (fun hb10=>?_) (fun hb10=>?_)
    ·replace h:=ift h (ct hb10)
     refine Zmj mb0 11 mixed [0,0,2,6,14,0,0,0,128,384,992,2047,4095] [4,8,9] [0,1,2,3,5,6,7] (by kernel_rfl) (by kernel_rfl) (by kernel_rfl) (fun hM11 hM10 w18 hB_=>?_)
     replace hC:=hC.grow hB_
     refine bMR (Xj mb0) 0 (.map (some b10)) rfl hM10 (Za 13 1) (bMR (Xj mb0) 1 (vQ bp0) rfl hM10 (Za 13 3) (Zt (Xj mb0) 2 (vQ bp0) rfl rfl (by kernel_rfl) (hM10 2 rfl) (fun w_=>.inl ⟨rfl,by exact Zam rfl⟩) (l9:=(Za 13 7)) (by kernel_rfl) (Zt (Xj mb0) 3 (.pointer (some ⟨bp0,1,none⟩)) rfl rfl (by kernel_rfl) (hM10 3 rfl) (fun w_=>.inl ⟨rfl,by exact Yh 1 ZMu rfl sc22.size rfl rfl⟩) (l9:=(Za 13 15)) (by kernel_rfl) (Jl (Xj mb0) 4 (u6_0) rfl rfl (by kernel_rfl) (hM11 4 rfl) (fun w_ hB_=>.inl ⟨rfl,by exact Zaa (u6_0) ((hC.growC 4 rfl (ZMk _) hB_).getP 6 rfl) sc22 rfl rfl⟩) (l9:=(Za 13 31)) (by kernel_rfl) (bMR (Xj mb0) 5 (vQ bp0) rfl hM10 (Za 13 63) (bMR (Xj mb0) 6 (vI (i10:Int)) rfl hM10 (Za 13 127) (bMR (Xj mb0) 7 (vI (i10:Int)) rfl hM10 (Za 13 255) ?_)))))))
     obtain ⟨⟨h12,h13⟩,h⟩:=h
     refine Jl (Xj mb0) 8 (.pointer (some ⟨b11,i10,none⟩)) rfl rfl (by kernel_rfl) (hM11 8 rfl) (fun w_ hB_=>.inl ⟨rfl,by exact Jf i10 Tryz.underlying110 sc3.size rfl rfl h12 h13 (by omega)⟩) (l9:=(Za 13 511)) (by kernel_rfl) (Jl (Xj mb0) 9 (vI (q10.1.get i10)) rfl rfl (by kernel_rfl) (hM11 9 rfl) (fun w_ hB_=>.inl ⟨rfl,by exact Yd (hC.growC 4 rfl (ZMk _) hB_) 1 (vI (q10.1.get i10)) rfl sc3 rfl (A8.enc_get _ _ (show i10 < 8 by omega))⟩) (l9:=(Za 13 1023)) (by kernel_rfl) (aO 10 rfl ?_))
     obtain ⟨hok460,h⟩:=h
     refine Zf [vQ bp0,vI (i10:Int),vI (q10.1.get i10)] _ ZM4 rfl rfl rfl (Zs9 Cl a6 a7 i10 (q10.1.get i10) hok460 _ (hC.getP 6 rfl) (hC.getP 2 rfl) (hC.getP 3 rfl) (hC.getM 4 rfl) (hC.getP 5 rfl) (hC.ldOff 4 5 rfl rfl) (fun e_=>hC.pdk 6 4 rfl rfl _ (ZMk _) (Zwj.2 e_)) (fun c_ hc_ e_=>hC.pdk 2 4 rfl rfl c_ hc_ (Zwj.2 e_)) (fun c_ hc_ e_=>hC.pdk 3 4 rfl rfl c_ hc_ (Zwj.2 e_))) ?_
     rintro _ w19 ⟨b13,r10,D452,E453,rfl,hc10,hps462,hj10,hj11,hj12,hle457,hB11⟩
     refine rt ?_
     replace h:=h r10 hc10
     have hs10:=hC.size
     replace hC:=hC.ldTurn 4 5 rfl rfl hB11 hj10 hj11 hj12 hle457
     replace hC:=hC.derive 5 rfl (mapS b13 r10) (fun h_=>h_.1 (b13,r10) hps462) (fun b_ hb_=>by obtain rfl:=Zwj.1 hb_; exact Zv7.2 ⟨_,hps462,rfl⟩)
     refine done (aK (by first | assumption | exact Zjh (by assumption)) (Za 13 2047) (Z2 11 (by decide) (by decide) (by kernel_rfl) (by kernel_rfl) rfl (Zf [.map (some b10),u6_0,.map (some b13)] _ Tryz.func87 rfl rfl rfl (X0 s10 a6 r10 h _ (hC.getM 0 rfl) (hC.getP 3 rfl) (hC.getP 0 rfl)) ?_)))
     rintro _ w20 ⟨r12,b14,rfl,h,hr12,hf11,hB12⟩
     refine rt ?_
     replace hC:=hC.push hB12 (mapS b14 r12) hr12 (fun b_ hb_=>by obtain rfl:=Zwj.1 hb_; exact hf11)
     refine Zc (v:=.map (some b14)) rfl (done (Z3 (Zs (Zd (Zm (Zp rfl rfl (Zb (v:=vI (Zxa.wrap ((i10:Int)+1))) rfl (done ?_))))))))
     exact hK10 r12 _ _ ⟨D452,E453,b14,(sl ⟨rfl,rfl,rfl,rfl,rfl,rfl,rfl,(tr rfl (congrArg _ (Z6 hi10 hN10))),trivial⟩),(hq10.step hs10 hle457),((hC.xM [0,2,3,4,5] rfl).sP [1,2,3,4,5,6,7] rfl)⟩ h
    ·replace h:=Zk h (cf hb10)
     refine ZF8 (Zs (Zd (Zm (Zp rfl rfl (Zb (v:=vI (Zxa.wrap ((i10:Int)+1))) rfl (done ?_))))))
     exact hK10 s10 _ _ ⟨D431,E432,b10,(sl ⟨rfl,rfl,rfl,rfl,rfl,rfl,rfl,(tr rfl (congrArg _ (Z6 hi10 hN10))),trivial⟩),hq10,hC⟩ h
   ·clear hC h
    rintro s10 e_ w21 K10 ⟨D431,E432,b10,hS_,hq10,hC⟩ h
    rw [ue hS_]
    refine sr (Zn rfl rfl (dn (ZF5 (Z9 rfl (decide_eq_false (by omega)) ?_))))
    refine ZGj (Zl (Zl (Z5 ?_)))
    refine Zd (Zm (Zb (v:=.map (some b8)) rfl (Zb (v:=.map (some b10)) rfl (Zb (v:=vI q10.2) rfl (Zf [.map (some b8),.map (some b10),vI q10.2] _ Tryz.func89 rfl rfl rfl (Zk7 s11 s10 q10.2 h _ (hC.getM 3 rfl) (fun c_ hc_ e_=>hC.mm 0 3 rfl rfl (by decide) c_ hc_ (Zwj.2 e_)) (hC.getM 0 rfl)) ?_)))))
    rintro _ w22 ⟨m10,rfl,h,hm10,hB13⟩
    refine rt ?_
    replace hC:=hC.turnB 3 rfl hB13 rfl rfl hm10
    refine done (Zs ?_)
    exact hK11 q10 l10 m10 _ _ hp10 ⟨D431,E432,(some ent10),(slq rfl),hq10,(hC.xM [2,3,4] rfl)⟩ h
   ·skip
    exact⟨D326,E327,b12,(slq rfl),hq11,hC⟩
 ·skip
  exact⟨Dk0,Ek0,none,(slq rfl),(LdLe.refl _ _),hC⟩
end Go.Proofs.YtheenipahifleaaGreat
