import Derived.Test.YtaagfepgbofmlaaGreatQ4
set_option linter.unusedSectionVars false
set_option linter.unusedSimpArgs false
set_option linter.unusedVariables false
open Go renaming wp_seq→ZKw,wp_ret→ZK4,wp_skip→ZK0,wp_block→ZK2,wp_exit→ZLa
open Go.IntKind renaming i64→ZFm
open Go.Proofs.Tryz renaming underlying85→ZXp,underlying22→ZLf,prog→ZKz,f22→Z0a,f62→Z0b,underlying32→ZLg,f114→Z0d,underlying198→ZUl,f21→Z0f,func171→Z0g,ntmps171→Z0h,func100→Z0i,f171→Z0j,underlying120→Z0k,func117→Z0l,func64→Z0m,func75→Z0o,func86→Z0q,func115→Z0r,func81→Z0s,func141→Z0t,func116→Z0z
open Go.Value renaming ownBlock→ZD0,int→ZN5
open Inhabited renaming default→ZC7
open Int renaming tmod→ZDy,natCast_nonneg→ZLc,ofNat_lt→ZLv,tdiv→ZTa,toNat_of_nonneg→ZN6
open List renaming mem_append→ZDd,mem_singleton_self→ZTj,replicate→ZC2,toArray→ZKu,length_eq_one_iff→ZLt,range→ZDp,mem_cons→ZC3,not_mem_nil→ZFc,pairwise_singleton→ZYi,mem_singleton→ZEf
open Nat renaming lt_of_le_of_lt→ZOj,zero_le→ZEp,le_of_ble_eq_true→ZK5
open Option renaming toList→ZLw
open Vc renaming TInts→ZNz,Lvl→ZZ9
open Vc.A8 renaming zero→ZK1,mk→ZZ8,enc→ZKt
open Vc.A8.mk renaming injEq→Z0e
open Vc.Ctx renaming start→ZLh,startL→Z0p
open Vc.Enc renaming encs_append→ZLo,encs_one'→ZL1,encs→ZTn,encs_len→ZYb
open Vc.Tr renaming sl→ZTe,item→ZLd,trep→ZXr
open Vc.Ty renaming item→ZKv,allItem→ZXs
set_option maxRecDepth 4000
set_option maxHeartbeats 4000000
namespace Go.Proofs.YtaagfepgbofmlaaGreat
open Go Go.RowKit Vc
variable {b0 bp0 b1 bp1 b2 bp2 b3 bp3 b4 bp4 b5 bp5 b6 bp6 b7 bp7 mb0:Nat} {u0_0 u0_1 u0_2 u0_3 u0_4 u0_5 u1_0 u1_1 u1_2 u1_3 u1_4 u1_5 u2_0 u2_1 u2_2 u2_3 u2_4 u2_5 u3_0 u3_1 u3_2 u3_3 u3_4 u3_5 u4_0 u4_1 u4_2 u4_3 u4_4 u4_5 u5_0 u5_1 u5_2 u5_3 u5_4 u5_5 u6_0 u6_1 u6_2 u6_3 u6_4 u6_5 u7_0 u7_1 u7_2 u7_3 u7_4 u7_5:Value} {fp0 fp1 fp2 fp3 fp4 fp5 fp6 fp7 fp0_0 fp0_1 fp0_2 fp0_3 fp0_4 fp0_5 fp1_0 fp1_1 fp1_2 fp1_3 fp1_4 fp1_5 F0:List Nat} {D0:List Lev}
def Zik (a0:Alg) (a1:Int) (a2:Int) (a3:Int) (K:Int→Int→Prop):Prop :=
 Zie a0 (fun r10=>(if r10=0 then Zc7 a1 0 20 (fun r12=>(if¬ (r12=true) then K 0 2 else Zc7 a2 0 20 (fun r13=>(if¬ (r13=true) then K 0 2 else Zig a0 a3 (fun r11=>(if r11≠0 then K 0 r11 else Zf2 a0 a1 a2 a3 (fun r14=>K r14 0))))))) else(if r10≠0 then K 0 r10 else Zf2 a0 a1 a2 a3 (fun r15=>K r15 0))))
theorem Zzv (a0:Alg) (a1:Int) (a2:Int) (a3:Int)  {K:Int→Int→Prop} (h:Zik a0 a1 a2 a3 K) (w0:World) (q0:TAlg.rep a0 [u0_0,u0_1] fp0 w0) :
  Calls ZKz 21 #[.agg #[u0_0,u0_1],vI a1,vI a2,vI a3] w0 fun e w'=>∃ (r0:Int) (r1:Int),
   e=.returned (.tuple #[vI r0,vI r1])∧K r0 r1∧Bel w0 w':=by
 unfold Zik at h
 refine cof Tryz.func21 rfl 38 Tryz.ntmps21 ?_
 have hC:=ZLh (X:=Nox) w0 [ZKv TAlg a0 [u0_0,u0_1] fp0] (al1 q0)
 replace hC:=hC.dAlg 0 rfl
 refine sr (Yi (v:=.agg #[u0_0,u0_1]) hC [u0_0,u0_1] rfl rfl fun b4 w6 hB_ hC=>Zd (v:=vI 0) rfl (Zd (v:=vI 0) rfl (dn (sr (Yw hC 0 [u0_0,u0_1] rfl ag32 rfl rfl rfl ?_)))))
 refine Zg [.agg #[u0_0,u0_1]] _ Tryz.func58 rfl rfl rfl (Zzo a0 h _ (Yp (hC.getP 1 rfl) (hC.getP 0 rfl))) (fun ret7 w9 hR8=>?_)
 obtain ⟨r10,rfl,h,hB10⟩:=hR8
 refine⟨_,rfl,?_⟩
 replace hC:=hC.grow hB10
 refine Zd (v:=vI r10) rfl (dn (ZKw (sr (Za (v:=vI r10) rfl (Xu rfl rfl (Za (v:=.bool (decide (r10=0))) rfl ?_))))))
 refine Y8 (decide (r10=0)) (fun hb10=>?_) (fun hb10=>?_)
 ·replace h:=ift h (ct hb10)
  refine Zm 2 15 rfl rfl hb10 (Za (v:=vI a1) rfl (Zm 2 15 rfl rfl hb10 ?_))
  refine Zg [vI a1,vI 0,vI 20] _ Tryz.func59 rfl rfl rfl (Zgx a1 0 20 h _) (fun ret10 w10 hR10=>?_)
  obtain ⟨r12,rfl,h,hB11⟩:=hR10
  refine⟨_,rfl,?_⟩
  replace hC:=hC.grow hB11
  refine Zm 2 15 rfl rfl hb10 (Xe rfl (Zm 2 15 rfl rfl hb10 (Za (v:=.bool (!r12)) rfl ?_)))
  refine Y8 (!r12) (fun hb11=>?_) (fun hb11=>?_)
  ·replace h:=ift h (Y4 (Xj hb11))
   refine Zk (b:=true) 6 19 rfl (tr rfl (congrArg _ hb11)) (by decide) (Zk (b:=true) 6 19 rfl (tr rfl (congrArg _ hb11)) (by decide) (Zk (b:=true) 6 19 rfl (tr rfl (congrArg _ hb11)) (by decide) (Zm 2 15 rfl rfl hb10 (Z3 (v:=.bool true) (b:=true) (tr rfl (congrArg _ hb11)) rfl (Z3 (v:=.bool true) (b:=true) (tr rfl (congrArg _ hb10)) rfl (dn (Z6 rfl rfl (Zh (Zd (v:=vI 2) rfl (dn (ZKw ?_)))))))))))
   refine sr (Za (v:=vI 2) rfl (Xu rfl rfl (dn (Z2 rfl rfl (ZK0 (Ze (ZKw (sr (Za (v:=vI 2) rfl (Y5 rfl rfl (dn ?_)))))))))))
   refine Z6 rfl rfl (sr (Za (v:=vI 2) rfl (Zd (v:=vI 0) rfl (Zd (v:=vI 2) rfl (dn ?_)))))
   refine ZK4 (Zn ?_)
   refine Y7 (fn:=Z0f) rfl ?_ ?_ ⟨0,2,rfl,h,hC.below⟩ (.inl rfl)
   ·exact Zf rfl
   ·exact Zf rfl
  ·replace h:=Zl h (not_not_intro ((Xk hb11)))
   refine Zm 6 19 rfl rfl hb11 (Za (v:=vI a2) rfl (Zm 6 19 rfl rfl hb11 ?_))
   refine Zg [vI a2,vI 0,vI 20] _ Tryz.func59 rfl rfl rfl (Zgx a2 0 20 h _) (fun ret11 w11 hR11=>?_)
   obtain ⟨r13,rfl,h,hB12⟩:=hR11
   refine⟨_,rfl,?_⟩
   replace hC:=hC.grow hB12
   refine Zm 6 19 rfl rfl hb11 (Xe rfl (Zm 2 15 rfl rfl hb10 (Z3 (v:=.bool (!r13)) (b:=false) (tr rfl (congrArg _ hb11)) rfl (Z3 (v:=.bool (!r13)) (b:=true) (tr rfl (congrArg _ hb10)) rfl (dn ?_)))))
   refine Zs rfl (fun hb12=>?_) (fun hb12=>?_)
   ·replace h:=ift h (Y4 (Xj hb12))
    refine Zh (Zd (v:=vI 2) rfl (dn (ZKw (sr (Za (v:=vI 2) rfl (Xu rfl rfl (dn (Z2 rfl rfl (ZK0 (Ze (ZKw ?_)))))))))))
    refine sr (Za (v:=vI 2) rfl (Y5 rfl rfl (dn (Z6 rfl rfl (sr (Za (v:=vI 2) rfl (Zd (v:=vI 0) rfl (Zd (v:=vI 2) rfl (dn ?_)))))))))
    refine ZK4 (Zn ?_)
    refine Y7 (fn:=Z0f) rfl ?_ ?_ ⟨0,2,rfl,h,hC.below⟩ (.inl rfl)
    ·exact Zf rfl
    ·exact Zf rfl
   ·replace h:=Zl h (not_not_intro ((Xk hb12)))
    refine ZK0 (Ze (ZKw (sr (Za (v:=vI r10) rfl (Xu rfl rfl (dn (Z6 rfl hb10 (Zh (Yw hC 0 [u0_0,u0_1] rfl ag32 rfl rfl rfl (Za (v:=vI a3) rfl ?_))))))))))
    refine Zg [.agg #[u0_0,u0_1],vI a3] _ Tryz.func60 rfl rfl rfl (Zzr a0 a3 h _ (Yp (hC.getP 1 rfl) (hC.getP 0 rfl))) (fun ret12 w12 hR12=>?_)
    obtain ⟨r11,rfl,h,hB13⟩:=hR12
    refine⟨_,rfl,?_⟩
    replace hC:=hC.grow hB13
    refine Zd (v:=vI r11) rfl (dn (ZKw (sr (Za (v:=vI r11) rfl (Y5 rfl rfl (dn ?_))))))
    refine Zs rfl (fun hb13=>?_) (fun hb13=>?_)
    ·replace h:=ift h (ct hb13)
     refine sr (Za (v:=vI r11) rfl (Zd (v:=vI 0) rfl (Zd (v:=vI r11) rfl (dn ?_))))
     refine ZK4 (Zn ?_)
     refine Y7 (fn:=Z0f) rfl ?_ ?_ ⟨0,r11,rfl,h,hC.below⟩ (.inl rfl)
     ·exact Zf rfl
     ·exact Zf rfl
    ·replace h:=Zl h (cf hb13)
     refine ZK0 (Ze (sr (Yw hC 0 [u0_0,u0_1] rfl ag32 rfl rfl rfl (Za (v:=vI a1) rfl (Za (v:=vI a2) rfl (Za (v:=vI a3) rfl ?_))))))
     refine Zg [.agg #[u0_0,u0_1],vI a1,vI a2,vI a3] _ Tryz.func61 rfl rfl rfl (Zrh a0 a1 a2 a3 h _ (Yp (hC.getP 1 rfl) (hC.getP 0 rfl))) (fun ret13 w13 hR13=>?_)
     obtain ⟨r14,rfl,h,hB14⟩:=hR13
     refine⟨_,rfl,?_⟩
     replace hC:=hC.grow hB14
     refine Zd (v:=vI r14) rfl (Zd (v:=vI 0) rfl (dn (ZK4 ?_)))
     refine Y7 (fn:=Z0f) rfl ?_ ?_ ⟨r14,0,rfl,h,hC.below⟩ (.inl rfl)
     ·exact Zf rfl
     ·exact Zf rfl
 ·replace h:=Zl h (cf hb10)
  refine Zk (b:=false) 2 15 rfl (tr rfl (congrArg _ hb10)) (by decide) (Zk (b:=false) 2 15 rfl (tr rfl (congrArg _ hb10)) (by decide) (Zk (b:=false) 2 15 rfl (tr rfl (congrArg _ hb10)) (by decide) (Zk (b:=false) 2 15 rfl (tr rfl (congrArg _ hb10)) (by decide) (Jr 6 19 rfl rfl (Jr 6 19 rfl rfl (Jr 6 19 rfl rfl (Zk (b:=false) 2 15 rfl (tr rfl (congrArg _ hb10)) (by decide) (Z3 (v:=.bool false) (b:=false) (tr rfl (congrArg _ hb10)) rfl (dn (Z2 rfl rfl (ZK0 ?_)))))))))))
  refine Ze (ZKw (sr (Za (v:=vI r10) rfl (Xu rfl rfl (dn (Z2 rfl hb10 (ZK0 (Ze (ZKw (sr (Za (v:=vI r10) rfl ?_)))))))))))
  refine Y5 rfl rfl (dn ?_)
  refine Zs rfl (fun hb14=>?_) (fun hb14=>?_)
  ·replace h:=ift h (ct hb14)
   refine sr (Za (v:=vI r10) rfl (Zd (v:=vI 0) rfl (Zd (v:=vI r10) rfl (dn ?_))))
   refine ZK4 (Zn ?_)
   refine Y7 (fn:=Z0f) rfl ?_ ?_ ⟨0,r10,rfl,h,hC.below⟩ (.inl rfl)
   ·exact Zf rfl
   ·exact Zf rfl
  ·replace h:=Zl h (cf hb14)
   refine ZK0 (Ze (sr (Yw hC 0 [u0_0,u0_1] rfl ag32 rfl rfl rfl (Za (v:=vI a1) rfl (Za (v:=vI a2) rfl (Za (v:=vI a3) rfl ?_))))))
   refine Zg [.agg #[u0_0,u0_1],vI a1,vI a2,vI a3] _ Tryz.func61 rfl rfl rfl (Zrh a0 a1 a2 a3 h _ (Yp (hC.getP 1 rfl) (hC.getP 0 rfl))) (fun ret14 w14 hR14=>?_)
   obtain ⟨r15,rfl,h,hB15⟩:=hR14
   refine⟨_,rfl,?_⟩
   replace hC:=hC.grow hB15
   refine Zd (v:=vI r15) rfl (Zd (v:=vI 0) rfl (dn (ZK4 ?_)))
   refine Y7 (fn:=Z0f) rfl ?_ ?_ ⟨r15,0,rfl,h,hC.below⟩ (.inl rfl)
   ·exact Zf rfl
   ·exact Zf rfl
def Ze0 (a0:List (List Int)) (p1:(List Int)→(Bool→Prop)→Prop) (K:Int→Prop):Prop :=
 Yc (fun i10 (s10:Unit) nx10=>p1 (a0.getD i10 ZC7) (fun r10=>(if r10=true then K (i10:Int) else nx10 ()))) (fun (s10:Unit)=>K (-1)) a0.length 0 ()
theorem Zri (a0:List (List Int)) (p1:(List Int)→(Bool→Prop)→Prop)  {K:Int→Prop} (h:Ze0 a0 p1 K) (w0:World) (q0:(ZNz.sl).rep a0 [u0_0] fp0 w0) {g1:Nat} {cp1:List Value} {fn1:Func} (hf1:ZKz.funcs[g1]? = some fn1) (hb1:fn1.body.isNone=false) (hn1:(fn1.name == "runtime.NumGoroutine")=false) (hp1:∀ (y0:List Int) (yu0_0:Value) (yf0:List Nat) (K_:Bool→Prop) (w_:World),Bel w0 w_→ZNz.rep y0 [yu0_0] yf0 w_→p1 y0 K_→Calls ZKz g1 (ZKu ([yu0_0]++cp1)) w_ fun e w'=>∃ (z0:Bool),e=.returned (.bool z0)∧K_ z0∧Bel w_ w') :
  Calls ZKz 141 #[u0_0,.func (.func g1) #[] (ZKu cp1)] w0 fun e w'=>∃ (r0:Int),
   e=.returned (vI r0)∧K r0∧Bel w0 w':=by
 unfold Ze0 at h
 refine cof Z0t rfl 19 Tryz.ntmps141 ?_
 have hC:=ZLh (X:=Nox) w0 [ZKv (ZNz.sl) a0 [u0_0] fp0] (al1 q0)
 refine sr (Zd (v:=vI 0) rfl (dn (ZKw (sr (Za (v:=u0_0) rfl ?_)))))
 obtain ⟨Ad2,c3,hv4⟩:=Zu (hC.getP 0 rfl)
 refine Zt ZXp (tr rfl hv4) (Za (v:=vI 0) rfl (dn (ZK2 ?_)))
 have hN10:a0.length≤9223372036854775807:=Y2 (hC.getP 0 rfl)
 refine Yk (S:=Unit) _ _ (fun i10 s10 e_ w_=>Zv e_ [(0,u0_0),(1,.func (.func g1) #[] (ZKu cp1)),(7,vI (a0.length:Int)),(8,vI (i10:Int))]∧Ctx Nox w0 w_ [] [ZKv (ZNz.sl) a0 [u0_0] fp0]) a0.length ?_ ?_ (s0:=()) ?_ h
 ·clear hC h
  rintro i10 s10 e_ w10 nx10 K10 hi10 ⟨hS_,hC⟩ h hK10
  rw [ue hS_]
  refine sr (Zp rfl rfl (dn (ZKw (Z6 rfl (decide_eq_true (by omega)) (ZK0 (Ze (ZKw (ZK2 (sr (Za (v:=vI (i10:Int)) rfl (Zd (v:=vI (i10:Int)) rfl ?_)))))))))))
  refine dn (sr (Za (v:=.func (.func g1) #[] (ZKu cp1)) rfl (Za (v:=u0_0) rfl (Za (v:=vI (i10:Int)) rfl ?_))))
  obtain ⟨Ad10,c10,hv10⟩:=Zx (hC.getP 0 rfl) i10 hi10
  refine Yn (len:=a0.length) ZXp sc22.size (tr rfl hv10) rfl (ZLc _) (ZLv.2 hi10) ?_
  obtain ⟨cs_,hl10,hc10,hr10⟩:=Xh (hC.getP 0 rfl) hv10 i10 hi10
  obtain ⟨u10,rfl⟩:=ZLt.1 hl10
  clear hl10
  rw [Xg _ _ hi10] at hr10
  replace hC:=hC.derive 0 rfl (ZKv TInts (a0.getD i10 ZC7) [u10] fp0) (fun _=>hr10) (fun _ hb_=>hb_)
  refine Yo (u10) hc10 sc22 rfl ?_
  refine Zl4 [u10] _ rfl hf1 hb1 hn1 rfl (hp1 _ _ _ _ _ hC.below (hC.getP 0 rfl) h) (fun ret10 w11 hR10=>?_)
  obtain ⟨r10,rfl,h,hB10⟩:=hR10
  refine⟨_,rfl,?_⟩
  replace hC:=hC.grow hB10
  refine dn ?_
  refine Zs rfl (fun hb10=>?_) (fun hb10=>?_)
  ·replace h:=ift h (hb10)
   refine sr (Za (v:=vI (i10:Int)) rfl (Zd (v:=vI (i10:Int)) rfl (dn ?_)))
   refine ZK4 (Z9 (Zn (Zn (Z9 (Zn ?_)))))
   refine Zi (fn:=Tryz.f141) rfl ?_ ⟨(i10:Int),rfl,h,hC.below⟩ (.inl rfl)
   exact Zf rfl
  ·replace h:=Zl h (Y4 hb10)
   refine ZK0 (Zr (Ze (Zh (Zq rfl rfl (Za (v:=vI (ZFm.wrap ((i10:Int)+1))) rfl (done ?_))))))
   exact hK10 () _ _ ⟨(sl ⟨rfl,rfl,rfl,(tr rfl (congrArg _ (Z5 hi10 hN10))),trivial⟩),(hC.sP [1] rfl)⟩ h
 ·clear hC h
  rintro s10 e_ w12 K10 ⟨hS_,hC⟩ h
  rw [ue hS_]
  refine sr (Zp rfl rfl (dn (ZKw (Z2 rfl (decide_eq_false (by omega)) ?_))))
  refine ZLa (Zj (Zj (Z0 ?_)))
  refine Ze (sr (Zd (v:=vI (-1)) rfl (dn (ZK4 ?_))))
  refine Zi (fn:=Tryz.f141) rfl ?_ ⟨(-1),rfl,h,hC.below⟩ (.inl rfl)
  exact Zf rfl
 ·skip
  exact⟨(sl ⟨rfl,rfl,rfl,rfl,trivial⟩),hC⟩
def Zkx (a0:List (List Int)) (p1:(List Int)→(Bool→Prop)→Prop) (K:Bool→Prop):Prop :=
 Ze0 a0 p1 (fun r5=>K (decide (r5≥0)))
theorem Zzw (a0:List (List Int)) (p1:(List Int)→(Bool→Prop)→Prop)  {K:Bool→Prop} (h:Zkx a0 p1 K) (w0:World) (q0:(ZNz.sl).rep a0 [u0_0] fp0 w0) {g1:Nat} {cp1:List Value} {fn1:Func} (hf1:ZKz.funcs[g1]? = some fn1) (hb1:fn1.body.isNone=false) (hn1:(fn1.name == "runtime.NumGoroutine")=false) (hp1:∀ (y0:List Int) (yu0_0:Value) (yf0:List Nat) (K_:Bool→Prop) (w_:World),Bel w0 w_→ZNz.rep y0 [yu0_0] yf0 w_→p1 y0 K_→Calls ZKz g1 (ZKu ([yu0_0]++cp1)) w_ fun e w'=>∃ (z0:Bool),e=.returned (.bool z0)∧K_ z0∧Bel w_ w') :
  Calls ZKz 178 #[u0_0,.func (.func g1) #[] (ZKu cp1)] w0 fun e w'=>∃ (r0:Bool),
   e=.returned (.bool r0)∧K r0∧Bel w0 w':=by
 unfold Zkx at h
 refine cof Tryz.func178 rfl 9 Tryz.ntmps178 ?_
 have hC:=ZLh (X:=Nox) w0 [ZKv (ZNz.sl) a0 [u0_0] fp0] (al1 q0)
 refine sr (Zd (v:=.bool false) rfl (dn (sr (Za (v:=u0_0) rfl (Za (v:=.func (.func g1) #[] (ZKu cp1)) rfl ?_)))))
 refine Zg [u0_0,.func (.func g1) #[] (ZKu cp1)] _ Z0t rfl rfl rfl (Zri a0 p1 h _ (hC.getP 0 rfl) hf1 hb1 hn1 (fun x0_ x1_ x2_ K_ w_ hb_=>hp1 x0_ x1_ x2_ K_ w_ (Zl7 hC.below hb_))) (fun Y7 w4 hR3=>?_)
 obtain ⟨r5,rfl,h,hB6⟩:=hR3
 refine⟨_,rfl,?_⟩
 replace hC:=hC.grow hB6
 refine J7 rfl rfl (Zd (v:=.bool (decide (r5≥0))) rfl (dn (ZK4 ?_)))
 refine Zi (fn:=Tryz.f178) rfl ?_ ⟨decide (r5≥0),rfl,h,hC.below⟩ (.inl rfl)
 exact Zf rfl
def Zky (a0:Int) (K:A8→Prop):Prop :=
 ((0≤a0∧a0 < 8)∧K (ZK1.set a0.toNat 1))
theorem Zzx (a0:Int)  {K:A8→Prop} (h:Zky a0 K) (w0:World)  :
  Calls ZKz 202 #[vI a0] w0 fun e w'=>∃ (r0:A8),
   e=.returned (.agg (ZKu (ZKt .i64 r0)))∧K r0∧Bel w0 w':=by
 unfold Zky at h
 refine cof Tryz.func202 rfl 8 Tryz.ntmps202 ?_
 have hC:=ZLh (X:=Nox) w0 [] (by simp)
 refine sr (Ys hC (ZKt .i64 ZK1) z73 rfl fun b1 w3 hB_ hC=>dn (sr (J0 [] rfl (Zgw   _) (Ys hC (ZKt .i64 ZK1) z73 rfl fun b4 w6 hB_ hC=>Z4 (v:=.agg (ZKu (ZKt .i64 ZK1))) hC 0 (ZKt .i64 ZK1) (ZKt .i64 ZK1) rfl ag73.size rfl rfl rfl rfl rfl (ZK5 rfl) rfl fun w7 hC=>dn (sr (Za (v:=vI a0) rfl ?_))))))
 obtain ⟨⟨h0_8,h1_9⟩,h⟩:=h
 refine Xx a0.toNat Tryz.underlying73 sc3.size rfl rfl h0_8 h1_9 (by omega) (Z4 (v:=vI 1) hC 0 [vI 1] (ZKt .i64 (ZK1.set a0.toNat 1)) rfl sc3.size rfl rfl rfl rfl rfl (show a0.toNat < 8 by omega) (A8.enc_set _ _ _ (show a0.toNat < 8 by omega)) fun w10 hC=>dn (sr (Yw hC 0 (ZKt .i64 (ZK1.set a0.toNat 1)) rfl ag73 rfl rfl rfl (Z4 (v:=.agg (ZKu (ZKt .i64 (ZK1.set a0.toNat 1)))) hC 1 (ZKt .i64 (ZK1.set a0.toNat 1)) (ZKt .i64 (ZK1.set a0.toNat 1)) rfl ag73.size rfl rfl rfl rfl rfl (ZK5 rfl) rfl fun w11 hC=>dn (ZK4 ?_)))))
 refine Zi (fn:=Tryz.f202) rfl ?_ ⟨ZK1.set a0.toNat 1,rfl,h,hC.below⟩ (.inl rfl)
 exact J8 hC 1 rfl ag73 rfl rfl
def Zil (a0:List Int) (a1:Vc.Form) (K:List Int→Prop):Prop :=
 Zei a1 (fun r10=>Yc (fun i10 (s10:(List Int)) nx10=>Zky (i10:Int) (fun r11=>(Zy (s10.length+1) 8∧nx10 (s10++[(Xb r10 r11).getD 0])))) (fun (s10:(List Int))=>K s10) a0.length 0 [])
theorem Zzy (a0:List Int) (a1:Vc.Form)  {K:List Int→Prop} (h:Zil a0 a1 K) (w0:World) (q0:ZNz.rep a0 [u0_0] fp0 w0) (q1:TForm.rep a1 [u1_0] fp1 w0) :
  Calls ZKz 197 #[u0_0,.agg #[u1_0]] w0 fun e w'=>∃ (r0:List Int) (z0_0:Value) (fz0:List Nat),
   e=.returned (z0_0)∧K r0∧(ZLd (ZTe 2 (eI.tr)) r0 [z0_0] fz0).holds w'∧(∀ b,b∈fz0→w0.heap.size≤b)∧Bel w0 w':=by
 unfold Zil at h
 refine cof Tryz.func197 rfl 25 Tryz.ntmps197 ?_
 have hC:=ZLh (X:=Nox) w0 [ZKv TInts a0 [u0_0] fp0,ZKv TForm a1 [u1_0] fp1] (alc q0 (al1 q1))
 have hp3:=(hC.getP 1 rfl)
 replace hC:=hC.derive 1 rfl (ZKv ETerm.ty.sl a1.terms [u1_0] fp1) (fun _=>(Xm hp3)) (fun _ hb_=>hb_)
 refine sr (Yi (v:=.agg #[u1_0]) hC [u1_0] rfl rfl fun b5 w7 hB_ hC=>Zd (v:=.slice none 0 0) rfl (dn (sr (Yw hC 0 [u1_0] rfl ag55 rfl rfl rfl ?_))))
 refine Zg [.agg #[u1_0]] _ Tryz.func78 rfl rfl rfl (Zmt a1 h _ (Y3 (hC.getP 0 rfl))) (fun ret8 w10 hR9=>?_)
 obtain ⟨r10,b10,rfl,h,hr10,hf10,hB10⟩:=hR9
 refine⟨_,rfl,?_⟩
 replace hC:=hC.push hB10 (mapS b10 r10) hr10 (fun b_ hb_=>by obtain rfl:=ZEf.1 hb_; exact hf10)
 refine Yh (sz:=1) hC [] (eI.encs []) rfl (fun _=>Zdg  _) rfl (by decide) fun b11 w11 hB_ hC=>Zd (v:=.map (some b10)) rfl (Zd (v:=.slice (some ⟨b11,0,none⟩) 0 0) rfl (dn (ZKw (sr (Za (v:=u0_0) rfl ?_)))))
 obtain ⟨Ad10,c10,hv10⟩:=Zu (hC.getP 1 rfl)
 refine Zt ZLf (tr rfl hv10) (Za (v:=vI 0) rfl (dn (ZK2 ?_)))
 have hN10:a0.length≤9223372036854775807:=Y2 (hC.getP 1 rfl)
 refine Yk (S:=(List Int)) _ _ (fun i10 s10 e_ w_=>∃ (v10:Value),Zv e_ [(5,.map (some b10)),(6,v10),(12,vI (a0.length:Int)),(13,vI (i10:Int))]∧Ctx Nox w0 w_ [own 2 1 v10 s10.length (eI.encs s10),mapS b10 r10] [ZKv ETerm.ty.sl a1.terms [u1_0] fp1,ZKv TInts a0 [u0_0] fp0,ZKv TForm a1 [u1_0] fp1]) a0.length ?_ ?_ (s0:=[]) ?_ h
 ·clear hC h
  rintro i10 s10 e_ w12 nx10 K10 hi10 ⟨v10,hS_,hC⟩ h hK10
  rw [ue hS_]
  refine sr (Zp rfl rfl (dn (ZKw (Z6 rfl (decide_eq_true (by omega)) (ZK0 (Ze (ZKw (ZK2 (sr (Za (v:=vI (i10:Int)) rfl (Zd (v:=vI (i10:Int)) rfl ?_)))))))))))
  refine dn (Zh (Za (v:=v10) rfl (Za (v:=.map (some b10)) rfl (Za (v:=vI (i10:Int)) rfl ?_))))
  refine Zg [vI (i10:Int)] _ Tryz.func202 rfl rfl rfl (Zzx (i10:Int) h _) (fun ret10 w13 hR10=>?_)
  obtain ⟨r11,rfl,h,hB11⟩:=hR10
  refine⟨_,rfl,?_⟩
  replace hC:=hC.grow hB11
  refine Zpj r11 0 (hC.getM 1 rfl) Jt Tryz.underlying115 z2 rfl rfl (Yh (sz:=1) hC [(0,vI ((Xb r10 r11).getD 0))] (eI.encs [(Xb r10 r11).getD 0]) rfl (fun _=>Zib ((Xb r10 r11).getD 0) _) rfl (by decide) fun b12 w14 hB_ hC=>?_)
  obtain ⟨hm10,h⟩:=h
  refine Jf hC 1 ZLf el2 rfl (by decide) (by decide) rfl (Zag (hC.getM 0 rfl)) (fun q hq=>ZL1 (E:=eI) _ q hq) rfl rfl hm10 fun v11 w15 hC=>?_
  replace hC:=Y9 hC 1 ((s10++[(Xb r10 r11).getD 0]).length) (eI.encs (s10++[(Xb r10 r11).getD 0])) rfl (by simp) (by first | (simp [ZLo]; done) | simp [ZLo,ZTn])
  refine Zd (v:=v11) rfl (done (Zr (Ze (Zh (Zq rfl rfl (Za (v:=vI (ZFm.wrap ((i10:Int)+1))) rfl (done ?_)))))))
  exact hK10 (s10++[(Xb r10 r11).getD 0]) _ _ ⟨v11,(sl ⟨rfl,rfl,rfl,(tr rfl (congrArg _ (Z5 hi10 hN10))),trivial⟩),(hC.xM [1,2] rfl)⟩ h
 ·clear hC h
  rintro s10 e_ w16 K10 ⟨v10,hS_,hC⟩ h
  rw [ue hS_]
  refine sr (Zp rfl rfl (dn (ZKw (Z2 rfl (decide_eq_false (by omega)) ?_))))
  refine ZLa (Zj (Zj (Z0 ?_)))
  refine Ze (sr (Za (v:=v10) rfl (Zd (v:=v10) rfl (dn (ZK4 ?_)))))
  refine Zi (fn:=Tryz.f197) rfl ?_ ⟨s10,v10,(ZLw (ZD0 v10)),rfl,h,(Xq (hC.getM 0 rfl)),(Xi hC 0 rfl),hC.below⟩ (.inl rfl)
  exact Zf rfl
 ·skip
  exact⟨.slice (some ⟨b11,0,none⟩) 0 0,(sl ⟨rfl,rfl,rfl,rfl,trivial⟩),(hC.xM [0,1] rfl)⟩
def Zkz (a0:Alg) (K:List (List Int)→Prop):Prop :=
 Yc (fun i10 (s10:(List (List Int))) nx10=>Zil a0.degrees (a0.images.getD i10 ZC7) (fun r10=>(Zy (s10.length+1) 24∧nx10 (s10++[r10])))) (fun (s10:(List (List Int)))=>K s10) a0.images.length 0 []
theorem Zzz (a0:Alg)  {K:List (List Int)→Prop} (h:Zkz a0 K) (w0:World) (q0:TAlg.rep a0 [u0_0,u0_1] fp0 w0) (qb0:(blk b0 32 [u0_0,u0_1]).holds w0) :
  Calls ZKz 179 #[vQ b0] w0 fun e w'=>∃ (r0:List (List Int)) (z0_0:Value) (fz0:List Nat),
   e=.returned (z0_0)∧K r0∧(ZLd (ZTe 22 (ZTe 2 (eI.tr))) r0 [z0_0] fz0).holds w'∧(∀ b,b∈fz0→w0.heap.size≤b)∧Bel w0 w':=by
 unfold Zkz at h
 refine cof Tryz.func179 rfl 27 Tryz.ntmps179 ?_
 have hC:=ZLh (X:=Nox) w0 [ZKv TAlg a0 [u0_0,u0_1] fp0,blk b0 32 [u0_0,u0_1]] (alc q0 (al1 qb0))
 replace hC:=hC.dAlg 0 rfl
 refine sr (Zd (v:=.slice none 0 0) rfl (dn (sr (Yh (sz:=1) hC [] [] rfl (fun _=>Zak _) rfl (by decide) fun b5 w6 hB_ hC=>?_))))
 replace hC:=hC.pushM0 (Ya (ZTe 2 (eI.tr)) ([]:List (List Int)) [] []) (Jb _ _) rfl
 replace hC:=hC.gather (c:=ZLd (ZTe 22 (ZTe 2 (eI.tr))) [] [.slice (some ⟨b5,0,none⟩) 0 0] ((ZLw (ZD0 (.slice (some ⟨b5,0,none⟩) 0 0)))++([]:List (List Nat)).flatten)) (fun x_ hx_=>(ZDd.1 hx_).symm) (fun h1_ h2_ hd_=>X3 h2_ h1_ (fun b_ hb_ hb2_=>hd_ b_ hb2_ hb_))
 refine Zd (v:=.slice (some ⟨b5,0,none⟩) 0 0) rfl (dn (ZKw (sr (Za (v:=vQ b0) rfl (Xl rfl (Z1 1 ZLg rfl sc30.size rfl rfl (Zce (u0_1) (hC.getP 3 rfl) sc30 rfl rfl ?_)))))))
 obtain ⟨Ad8,c9,hv11⟩:=Zu (hC.getP 0 rfl)
 refine Zt Tryz.underlying30 (tr rfl hv11) (Za (v:=vI 0) rfl (dn (ZK2 ?_)))
 have hN10:a0.images.length≤9223372036854775807:=Y2 (hC.getP 0 rfl)
 refine Yk (S:=(List (List Int))) _ _ (fun i10 s10 e_ w_=>∃ (v10:Value),∃ (f10:List Nat),Zv e_ [(0,vQ b0),(3,v10),(10,u0_1),(11,vI (a0.images.length:Int)),(12,vI (i10:Int))]∧Ctx Nox w0 w_ [ZLd (ZTe 22 (ZTe 2 (eI.tr))) s10 [v10] f10] [ZKv TForm.sl a0.images [u0_1] fp0,ZKv TInts a0.degrees [u0_0] fp0,ZKv TAlg a0 [u0_0,u0_1] fp0,blk b0 32 [u0_0,u0_1]]) a0.images.length ?_ ?_ (s0:=[]) ?_ h
 ·clear hC h
  rintro i10 s10 e_ w10 nx10 K10 hi10 ⟨v10,f10,hS_,hC⟩ h hK10
  rw [ue hS_]
  refine sr (Zp rfl rfl (dn (ZKw (Z6 rfl (decide_eq_true (by omega)) (ZK0 (Ze (ZKw (ZK2 (sr ?_)))))))))
  obtain ⟨Ad10,c10,hv10⟩:=Zx (hC.getP 0 rfl) i10 hi10
  refine Yn (len:=a0.images.length) Tryz.underlying30 ag55.size (tr rfl hv10) rfl (ZLc _) (ZLv.2 hi10) ?_
  obtain ⟨cs_,hl10,hc10,hr10⟩:=Xh (hC.getP 0 rfl) hv10 i10 hi10
  obtain ⟨u11,rfl⟩:=ZLt.1 hl10
  clear hl10
  rw [Xg _ _ hi10] at hr10
  have hp10:=hr10
  replace hC:=hC.derive 0 rfl (ZKv ETerm.ty.sl ((a0.images.getD i10 ZC7).terms) [u11] fp0) (fun _=>(Xm hp10)) (fun _ hb_=>hb_)
  refine Ji [u11] hc10 ag55 rfl rfl (Ys hC [.slice none 0 0] z55 rfl fun b11 w11 hB_ hC=>Z4 (v:=.agg #[u11]) hC 0 [u11] [u11] rfl ag55.size rfl rfl rfl rfl (Xr (Zdq (hC.getP 0 rfl)) rfl) (ZK5 rfl) rfl fun w12 hC=>dn ?_)
  refine Yq 8 Yl [0,0,2,6,14,0,62,126,255,511] [4,5] [0,1,2,3] (by kernel_rfl) (by kernel_rfl) (by kernel_rfl) (fun hM11 hM10 w13 hB_=>?_)
  replace hC:=hC.grow hB_
  refine bM 0 (v10) rfl hM10 (Zc 10 1) (bM 1 (vQ b0) rfl hM10 (Zc 10 3) (bF 2 (vQ b0) rfl rfl hM10 (fun _=>by exact Zau rfl) (Zc 10 7) (bF 3 (vQ b0) rfl rfl hM10 (fun _=>by exact Yr 0 ZLg rfl sc22.size rfl rfl) (Zc 10 15) (bL 4 (u0_0) rfl rfl hM11 (fun _ hB_=>by exact Zc3 (u0_0) ((hC.grow hB_).getP 4 rfl) sc22 rfl rfl) (Zc 10 31) (bL 5 (.agg #[u11]) rfl rfl hM11 (fun _ hB_=>by exact Xc (hC.grow hB_) 0 [u11] rfl ag55 rfl rfl rfl) (Zc 10 63) (aO 6 rfl ?_))))))
  refine Zg [u0_0,.agg #[u11]] _ Tryz.func197 rfl rfl rfl (Zzy a0.degrees (a0.images.getD i10 ZC7) h _ (hC.getP 2 rfl) (Y3 (hC.getP 0 rfl))) (fun ret10 w14 hR10=>?_)
  obtain ⟨r10,u10,f11,rfl,h,hr11,hf10,hB10⟩:=hR10
  refine⟨_,rfl,?_⟩
  replace hC:=hC.push hB10 (ZLd (ZTe 2 (eI.tr)) r10 [u10] f11) hr11 hf10
  obtain ⟨ho10,hf11⟩:=Y6 (hC.getM 0 rfl).1
  subst hf11
  replace hC:=hC.recast (c:=own 2 1 u10 r10.length (eI.encs r10)) (fun _ h_=>h_) (fun _=>ho10)
  refine done (aK (by assumption) (Zc 10 127) (aO 7 rfl (Yh (sz:=1) hC [(0,u10)] [u10] rfl (fun _=>Zad u10 (Zbc (hC.getM 0 rfl)) _) rfl (by decide) fun b10 w15 hB_ hC=>?_)))
  replace hC:=hC.pushM0 (Ya (ZTe 2 (eI.tr)) [] [] []) (Jb _ _) rfl
  replace hC:=hC.sM [2,0,1,3,4] (M':=[own 2 1 u10 r10.length (eI.encs r10),Ya (ZTe 2 (eI.tr)) [] [] [],own 22 1 (.slice (some ⟨b10,0,none⟩) 1 1) 1 [u10],blk b11 55 [u11],ZLd (ZTe 22 (ZTe 2 (eI.tr))) s10 [v10] f10]) (by decide) rfl
  replace hC:=hC.gather (c:=Ya (ZTe 2 (eI.tr)) [r10] [u10] [(ZLw (ZD0 u10))]) (fun x_ hx_=>Zbk hx_) (fun h1_ h2_ hd_=>Zbb (c:=[u10]) (id (Xq h1_)) h2_ hd_)
  replace hC:=hC.sM [1,0,2,3] (M':=[own 22 1 (.slice (some ⟨b10,0,none⟩) 1 1) 1 [u10],Ya (ZTe 2 (eI.tr)) [r10] [u10] [(ZLw (ZD0 u10))],blk b11 55 [u11],ZLd (ZTe 22 (ZTe 2 (eI.tr))) s10 [v10] f10]) (by decide) rfl
  replace hC:=hC.gather (c:=ZLd (ZTe 22 (ZTe 2 (eI.tr))) [r10] [.slice (some ⟨b10,0,none⟩) 1 1] ((ZLw (ZD0 (.slice (some ⟨b10,0,none⟩) 1 1)))++([(ZLw (ZD0 u10))]:List (List Nat)).flatten)) (fun x_ hx_=>ZDd.1 hx_) (fun h1_ h2_ hd_=>X3 h1_ h2_ hd_)
  refine done (aK (by assumption) (Zc 10 255) (Z7 8 (by decide) (by decide) (by kernel_rfl) (by kernel_rfl) rfl ?_))
  replace hC:=hC.sM [2,0,1] (M':=[ZLd (ZTe 22 (ZTe 2 (eI.tr))) s10 [v10] f10,ZLd (ZTe 22 (ZTe 2 (eI.tr))) [r10] [.slice (some ⟨b10,0,none⟩) 1 1] ((ZLw (ZD0 (.slice (some ⟨b10,0,none⟩) 1 1)))++([(ZLw (ZD0 u10))]:List (List Nat)).flatten),blk b11 55 [u11]]) (by decide) rfl
  obtain ⟨hm10,h⟩:=h
  refine Za8 hC ZXp J2 rfl (by decide) (by decide) rfl rfl hm10 fun v11 f12 w16 hC=>Zd (v:=v11) rfl (done (Z8 (Zr (Ze (Zh (Zq rfl rfl (Za (v:=vI (ZFm.wrap ((i10:Int)+1))) rfl (done ?_))))))))
  exact hK10 (s10++[r10]) _ _ ⟨v11,f12,(sl ⟨rfl,rfl,rfl,rfl,(tr rfl (congrArg _ (Z5 hi10 hN10))),trivial⟩),((hC.xM [0] rfl).sP [1,2,3,4] rfl)⟩ h
 ·clear hC h
  rintro s10 e_ w17 K10 ⟨v10,f10,hS_,hC⟩ h
  rw [ue hS_]
  refine sr (Zp rfl rfl (dn (ZKw (Z2 rfl (decide_eq_false (by omega)) ?_))))
  refine ZLa (Zj (Zj (Z0 ?_)))
  refine Ze (sr (Za (v:=v10) rfl (Zd (v:=v10) rfl (dn (ZK4 ?_)))))
  refine Zi (fn:=Tryz.f179) rfl ?_ ⟨s10,v10,f10,rfl,h,(hC.getM 0 rfl),(Zai hC 0 rfl),hC.below⟩ (.inl rfl)
  exact Zf rfl
 ·skip
  exact⟨.slice (some ⟨b5,0,none⟩) 0 0,((ZLw (ZD0 (.slice (some ⟨b5,0,none⟩) 0 0)))++([]:List (List Nat)).flatten),(sl ⟨rfl,rfl,rfl,rfl,rfl,trivial⟩),hC⟩
def Zf3 (a0:Int) (K:Bool→Prop):Prop :=
 K (decide (a0≠0))
theorem Zz0 (a0:Int)  {K:Bool→Prop} (h:Zf3 a0 K) (w0:World)  :
  Calls ZKz 182 #[vI a0] w0 fun e w'=>∃ (r0:Bool),
   e=.returned (.bool r0)∧K r0∧Bel w0 w':=by
 unfold Zf3 at h
 refine cof Tryz.func182 rfl 5 Tryz.ntmps182 ?_
 have hC:=ZLh (X:=Nox) w0 [] (by simp)
 refine sr (Zd (v:=.bool false) rfl (dn (sr (Za (v:=vI a0) rfl (Y5 rfl rfl (Zd (v:=.bool (decide (a0≠0))) rfl (dn (ZK4 ?_))))))))
 refine Zi (fn:=Tryz.f182) rfl ?_ ⟨decide (a0≠0),rfl,h,hC.below⟩ (.inl rfl)
 exact Zf rfl
def Zf4 (a0:List Int) (K:Bool→Prop):Prop :=
 Zfn a0 Zf3 (fun r5=>K r5)
theorem Zz1 (a0:List Int)  {K:Bool→Prop} (h:Zf4 a0 K) (w0:World) (q0:ZNz.rep a0 [u0_0] fp0 w0) :
  Calls ZKz 180 #[u0_0] w0 fun e w'=>∃ (r0:Bool),
   e=.returned (.bool r0)∧K r0∧Bel w0 w':=by
 unfold Zf4 at h
 refine cof Tryz.func180 rfl 5 Tryz.ntmps180 ?_
 have hC:=ZLh (X:=Nox) w0 [ZKv TInts a0 [u0_0] fp0] (al1 q0)
 refine sr (Zd (v:=.bool false) rfl (dn (sr (Za (v:=u0_0) rfl ?_))))
 refine Zg [u0_0,.func (.func 182) #[] (ZKu [])] _ Tryz.func181 rfl rfl rfl (Zp1 a0 Zf3 h _ (hC.getP 0 rfl) Tryz.func182 rfl rfl (fun x0_ K_ w_ _ hq_=>Zz0 x0_ hq_ w_)) (fun Y7 w4 hR3=>?_)
 obtain ⟨r5,rfl,h,hB6⟩:=hR3
 refine⟨_,rfl,?_⟩
 replace hC:=hC.grow hB6
 refine Zd (v:=.bool r5) rfl (dn (ZK4 ?_))
 refine Zi (fn:=Tryz.f180) rfl ?_ ⟨r5,rfl,h,hC.below⟩ (.inl rfl)
 exact Zf rfl
def Zim (a0:Alg) (K:Bool→Prop):Prop :=
 Zkz a0 (fun r8=>Zkx r8 (fun y0_ K_=>Zf4 y0_ K_) (fun r10=>K (!r10)))
theorem Zz2 (a0:Alg)  {K:Bool→Prop} (h:Zim a0 K) (w0:World) (q0:TAlg.rep a0 [u0_0,u0_1] fp0 w0) (qb0:(blk b0 32 [u0_0,u0_1]).holds w0) :
  Calls ZKz 131 #[vQ b0] w0 fun e w'=>∃ (r0:Bool),
   e=.returned (.bool r0)∧K r0∧Bel w0 w':=by
 unfold Zim at h
 refine cof Tryz.func131 rfl 7 Tryz.ntmps131 ?_
 have hC:=ZLh (X:=Nox) w0 [ZKv TAlg a0 [u0_0,u0_1] fp0,blk b0 32 [u0_0,u0_1]] (alc q0 (al1 qb0))
 replace hC:=hC.dAlg 0 rfl
 refine sr (Zd (v:=.bool false) rfl (dn (sr (Za (v:=vQ b0) rfl ?_))))
 refine Zg [vQ b0] _ Tryz.func179 rfl rfl rfl (Zzz a0 h _ (Yp (hC.getP 1 rfl) (hC.getP 0 rfl)) (hC.getP 3 rfl)) (fun ret5 w7 hR6=>?_)
 obtain ⟨r8,u9,f10,rfl,h,hr10,hf10,hB10⟩:=hR6
 refine⟨_,rfl,?_⟩
 replace hC:=hC.push hB10 (ZLd (ZTe 22 (ZTe 2 (eI.tr))) r8 [u9] f10) hr10 hf10
 refine Zg [u9,.func (.func 180) #[] (ZKu [])] _ Tryz.func178 rfl rfl rfl (Zzw r8 (fun y0_ K_=>Zf4 y0_ K_) h _ (ZXr _ (hC.getM 0 rfl).1) Tryz.func180 rfl rfl (fun y0_ yu0_0_ yf0_ K_ w_ hb_ rq0_ hq_=>Zz1 y0_ hq_ w_ rq0_)) (fun ret10 w10 hR10=>?_)
 obtain ⟨r10,rfl,h,hB11⟩:=hR10
 refine⟨_,rfl,?_⟩
 replace hC:=hC.grow hB11
 refine Xe rfl (Zd (v:=.bool (!r10)) rfl (dn (ZK4 ?_)))
 refine Zi (fn:=Tryz.f131) rfl ?_ ⟨!r10,rfl,h,hC.below⟩ (.inl rfl)
 exact Zf rfl
def Ze1 (a0:Alg) (a1:Bool) (K:Int→Prop):Prop :=
 Zhx a0 [] (fun r8=>(if r8=0 then Zim a0 (fun r16=>(if¬ (r16=true) then Zda (!a1) 2 (fun r10=>Zep [5,r10] (fun r13=>K r13)) else Zda (!a1) 2 (fun r11=>Zep [r8,r11] (fun r14=>K r14)))) else Zda (!a1) 2 (fun r12=>Zep [r8,r12] (fun r15=>K r15))))
theorem Znw (a0:Alg) (a1:Bool)  {K:Int→Prop} (h:Ze1 a0 a1 K) (w0:World) (q0:TAlg.rep a0 [u0_0,u0_1] fp0 w0) (qb0:(blk b0 32 [u0_0,u0_1]).holds w0) :
  Calls ZKz 75 #[vQ b0,.bool a1] w0 fun e w'=>∃ (r0:Int),
   e=.returned (vI r0)∧K r0∧Bel w0 w':=by
 unfold Ze1 at h
 refine cof Z0o rfl 21 Tryz.ntmps75 ?_
 have hC:=ZLh (X:=Nox) w0 [ZKv TAlg a0 [u0_0,u0_1] fp0,blk b0 32 [u0_0,u0_1]] (alc q0 (al1 qb0))
 replace hC:=hC.dAlg 0 rfl
 refine sr (Zd (v:=vI 0) rfl (dn (sr (Za (v:=vQ b0) rfl ?_))))
 refine Zg [vQ b0,.slice none 0 0] _ Tryz.func44 rfl rfl rfl (Zwg a0 [] h _ (Yp (hC.getP 1 rfl) (hC.getP 0 rfl)) (hC.getP 3 rfl) (Zo8 _ _)) (fun ret5 w7 hR6=>?_)
 obtain ⟨r8,rfl,h,hB9⟩:=hR6
 refine⟨_,rfl,?_⟩
 replace hC:=hC.grow hB9
 refine Zd (v:=vI r8) rfl (dn (ZKw (sr (Za (v:=vI r8) rfl (Xu rfl rfl (Za (v:=.bool (decide (r8=0))) rfl ?_))))))
 refine Y8 (decide (r8=0)) (fun hb10=>?_) (fun hb10=>?_)
 ·replace h:=ift h (ct hb10)
  refine Zm 2 10 rfl rfl hb10 (Za (v:=vQ b0) rfl (Zm 2 10 rfl rfl hb10 ?_))
  refine Zg [vQ b0] _ Tryz.func131 rfl rfl rfl (Zz2 a0 h _ (Yp (hC.getP 1 rfl) (hC.getP 0 rfl)) (hC.getP 3 rfl)) (fun ret10 w10 hR10=>?_)
  obtain ⟨r16,rfl,h,hB10⟩:=hR10
  refine⟨_,rfl,?_⟩
  replace hC:=hC.grow hB10
  refine Zm 2 10 rfl rfl hb10 (Xe rfl (Z3 (v:=.bool (!r16)) (b:=true) (tr rfl (congrArg _ hb10)) rfl (dn ?_)))
  refine Zs rfl (fun hb11=>?_) (fun hb11=>?_)
  ·replace h:=ift h (Y4 (Xj hb11))
   refine Zh (Zd (v:=vI 5) rfl (dn (sr (Za (v:=vI 5) rfl (Za (v:=.bool a1) rfl (Xe rfl ?_))))))
   refine Zg [.bool (!a1),vI 2] _ Tryz.func45 rfl rfl rfl (Zhm (!a1) 2 h _) (fun ret11 w11 hR11=>?_)
   obtain ⟨r10,rfl,h,hB11⟩:=hR11
   refine⟨_,rfl,?_⟩
   replace hC:=hC.grow hB11
   refine Yh (sz:=1) hC [(0,vI 5),(1,vI r10)] (eI.encs [5,r10]) rfl (fun _=>Znu 5 r10 _) rfl (by decide) fun b10 w12 hB_ hC=>?_
   refine Zg [.slice (some ⟨b10,0,none⟩) 2 2] _ Tryz.func43 rfl rfl rfl (Zmz [5,r10] h _ (Yv (hC.getM 0 rfl))) (fun ret12 w13 hR12=>?_)
   obtain ⟨r13,rfl,h,hB12⟩:=hR12
   refine⟨_,rfl,?_⟩
   replace hC:=hC.grow hB12
   refine Zd (v:=vI r13) rfl (dn (ZK4 ?_))
   refine Zi (fn:=Tryz.f75) rfl ?_ ⟨r13,rfl,h,hC.below⟩ (.inl rfl)
   exact Zf rfl
  ·replace h:=Zl h (not_not_intro ((Xk hb11)))
   refine ZK0 (Ze (sr (Za (v:=vI r8) rfl (Za (v:=.bool a1) rfl (Xe rfl ?_)))))
   refine Zg [.bool (!a1),vI 2] _ Tryz.func45 rfl rfl rfl (Zhm (!a1) 2 h _) (fun ret13 w14 hR13=>?_)
   obtain ⟨r11,rfl,h,hB13⟩:=hR13
   refine⟨_,rfl,?_⟩
   replace hC:=hC.grow hB13
   refine Yh (sz:=1) hC [(0,vI r8),(1,vI r11)] (eI.encs [r8,r11]) rfl (fun _=>Znu r8 r11 _) rfl (by decide) fun b11 w15 hB_ hC=>?_
   refine Zg [.slice (some ⟨b11,0,none⟩) 2 2] _ Tryz.func43 rfl rfl rfl (Zmz [r8,r11] h _ (Yv (hC.getM 0 rfl))) (fun ret14 w16 hR14=>?_)
   obtain ⟨r14,rfl,h,hB14⟩:=hR14
   refine⟨_,rfl,?_⟩
   replace hC:=hC.grow hB14
   refine Zd (v:=vI r14) rfl (dn (ZK4 ?_))
   refine Zi (fn:=Tryz.f75) rfl ?_ ⟨r14,rfl,h,hC.below⟩ (.inl rfl)
   exact Zf rfl
 ·replace h:=Zl h (cf hb10)
  refine Zk (b:=false) 2 10 rfl (tr rfl (congrArg _ hb10)) (by decide) (Zk (b:=false) 2 10 rfl (tr rfl (congrArg _ hb10)) (by decide) (Zk (b:=false) 2 10 rfl (tr rfl (congrArg _ hb10)) (by decide) (Z3 (v:=.bool false) (b:=false) (tr rfl (congrArg _ hb10)) rfl (dn (Z2 rfl rfl (ZK0 (Ze (sr (Za (v:=vI r8) rfl (Za (v:=.bool a1) rfl (Xe rfl ?_)))))))))))
  refine Zg [.bool (!a1),vI 2] _ Tryz.func45 rfl rfl rfl (Zhm (!a1) 2 h _) (fun ret15 w17 hR15=>?_)
  obtain ⟨r12,rfl,h,hB15⟩:=hR15
  refine⟨_,rfl,?_⟩
  replace hC:=hC.grow hB15
  refine Yh (sz:=1) hC [(0,vI r8),(1,vI r12)] (eI.encs [r8,r12]) rfl (fun _=>Znu r8 r12 _) rfl (by decide) fun b12 w18 hB_ hC=>?_
  refine Zg [.slice (some ⟨b12,0,none⟩) 2 2] _ Tryz.func43 rfl rfl rfl (Zmz [r8,r12] h _ (Yv (hC.getM 0 rfl))) (fun ret16 w19 hR16=>?_)
  obtain ⟨r15,rfl,h,hB16⟩:=hR16
  refine⟨_,rfl,?_⟩
  replace hC:=hC.grow hB16
  refine Zd (v:=vI r15) rfl (dn (ZK4 ?_))
  refine Zi (fn:=Tryz.f75) rfl ?_ ⟨r15,rfl,h,hC.below⟩ (.inl rfl)
  exact Zf rfl
def Zk0 (a0:Int) (K:Bool→Prop):Prop :=
 Zdy a0 0 20 (fun r4=>K r4)
theorem Zz3 (a0:Int)  {K:Bool→Prop} (h:Zk0 a0 K) (w0:World)  :
  Calls ZKz 112 #[vI a0] w0 fun e w'=>∃ (r0:Bool),
   e=.returned (.bool r0)∧K r0∧Bel w0 w':=by
 unfold Zk0 at h
 refine cof Tryz.func112 rfl 5 Tryz.ntmps112 ?_
 have hC:=ZLh (X:=Nox) w0 [] (by simp)
 refine sr (Zd (v:=.bool false) rfl (dn (sr (Za (v:=vI a0) rfl ?_))))
 refine Zg [vI a0,vI 0,vI 20] _ Tryz.func46 rfl rfl rfl (Zj1 a0 0 20 h _) (fun Zi w3 hR2=>?_)
 obtain ⟨r4,rfl,h,hB5⟩:=hR2
 refine⟨_,rfl,?_⟩
 replace hC:=hC.grow hB5
 refine Zd (v:=.bool r4) rfl (dn (ZK4 ?_))
 refine Zi (fn:=Tryz.f112) rfl ?_ ⟨r4,rfl,h,hC.below⟩ (.inl rfl)
 exact Zf rfl
def Zin (a0:Int) (K:Bool→Prop):Prop :=
 Zdy a0 0 20 (fun r4=>K r4)
theorem Zrj (a0:Int)  {K:Bool→Prop} (h:Zin a0 K) (w0:World)  :
  Calls ZKz 63 #[vI a0] w0 fun e w'=>∃ (r0:Bool),
   e=.returned (.bool r0)∧K r0∧Bel w0 w':=by
 unfold Zin at h
 refine cof Tryz.func63 rfl 5 Tryz.ntmps63 ?_
 have hC:=ZLh (X:=Nox) w0 [] (by simp)
 refine sr (Zd (v:=.bool false) rfl (dn (sr (Za (v:=vI a0) rfl ?_))))
 refine Zg [vI a0,vI 0,vI 20] _ Tryz.func46 rfl rfl rfl (Zj1 a0 0 20 h _) (fun Zi w3 hR2=>?_)
 obtain ⟨r4,rfl,h,hB5⟩:=hR2
 refine⟨_,rfl,?_⟩
 replace hC:=hC.grow hB5
 refine Zd (v:=.bool r4) rfl (dn (ZK4 ?_))
 refine Zi (fn:=Tryz.f63) rfl ?_ ⟨r4,rfl,h,hC.below⟩ (.inl rfl)
 exact Zf rfl
def Zk1 (a0:List Int) (K:List Int→Prop):Prop :=
 ((a0=[]→K [])∧(Zy (0+a0.length) 8∧K a0))
theorem Zz4 (a0:List Int)  {K:List Int→Prop} (h:Zk1 a0 K) (w0:World) (q0:ZNz.rep a0 [u0_0] fp0 w0) :
  Calls ZKz 139 #[u0_0] w0 fun e w'=>∃ (r0:List Int) (z0_0:Value) (fz0:List Nat),
   e=.returned (z0_0)∧K r0∧(ZLd (ZTe 2 (eI.tr)) r0 [z0_0] fz0).holds w'∧(∀ b,b∈fz0→w0.heap.size≤b)∧Bel w0 w':=by
 unfold Zk1 at h
 refine cof Tryz.func139 rfl 8 Tryz.ntmps139 ?_
 have hC:=ZLh (X:=Nox) w0 [ZKv TInts a0 [u0_0] fp0] (al1 q0)
 refine sr (Zd (v:=.slice none 0 0) rfl (dn (ZKw (sr (Za (v:=u0_0) rfl ?_)))))
 rcases Zxz (hC.getP 0 rfl) with ⟨z4,z5,he2,ha3⟩ | ⟨z6,z7,z8,he2⟩
 ·replace h:=h.1 ha3
  refine Zkk true ZLf (tr rfl he2) rfl rfl (dn (Z6 rfl rfl (sr (Zd (v:=.slice none 0 0) rfl (dn ?_)))))
  refine ZK4 (Zn ?_)
  refine Zi (fn:=Tryz.f139) rfl ?_ ⟨[],.slice none 0 0,[],rfl,h,(Zfh _ _ _),(fun b hb=>absurd hb (by simp)),hC.below⟩ (.inl rfl)
  exact Zf rfl
 ·replace h:=h.2
  refine Zkk false ZLf (tr rfl he2) rfl rfl (dn (Z2 rfl rfl (ZK0 (Ze (sr (Yh (sz:=1) hC [] (eI.encs []) rfl (fun _=>Zdg  _) rfl (by decide) fun b9 w10 hB_ hC=>Za (v:=u0_0) rfl ?_))))))
  obtain ⟨hm10,h⟩:=h
  refine Jf hC 0 ZLf el2 rfl (by decide) (by decide) rfl (Zjq (hC.getP 0 rfl)) (fun q hq=>ZL1 (E:=eI) _ q hq) rfl rfl hm10 fun v10 w11 hC=>?_
  replace hC:=Y9 hC 0 (a0.length) (eI.encs a0) rfl (by simp) (by first | (simp [ZLo]; done) | simp [ZLo,ZTn])
  refine Zd (v:=v10) rfl (dn (ZK4 ?_))
  refine Zi (fn:=Tryz.f139) rfl ?_ ⟨a0,v10,(ZLw (ZD0 v10)),rfl,h,(Xq (hC.getM 0 rfl)),(Xi hC 0 rfl),hC.below⟩ (.inl rfl)
  exact Zf rfl
def Zio (a0:List Int) (a1:List Int) (a2:Int) (K:List Int→Prop):Prop :=
 Yc (fun i10 (s10:(List Int)) nx10=>((0≤(i10:Int)∧(i10:Int) < (s10.length:Int))∧Zc9 (ZFm.wrap ((s10.getD i10 ZC7) - (ZDy (ZFm.wrap (a2 * (a1.getD i10 ZC7))) 10007))) (fun r10=>((0≤(i10:Int)∧(i10:Int) < (s10.length:Int))∧nx10 (s10.set i10 r10))))) (fun (s10:(List Int))=>K s10) a1.length 0 a0
theorem Zz5 (a0:List Int) (a1:List Int) (a2:Int)  {K:List Int→Prop} (h:Zio a0 a1 a2 K) (w0:World) (qw0:(own 2 1 u0_0 a0.length (eI.encs a0)).holds w0) (q1:ZNz.rep a1 [u1_0] fp1 w0) (do1:∀ b,b∈fp1→b∉(ZLw (ZD0 u0_0))) :
  Calls ZKz 140 #[u0_0,u1_0,vI a2] w0 fun e w'=>∃ (mw:List Int),
   e=.returned (.tuple #[])∧K mw∧(own 2 1 u0_0 mw.length (eI.encs mw)).holds w'∧BelO ((ZLw (ZD0 u0_0))) w0 w':=by
 unfold Zio at h
 refine cof Tryz.func140 rfl 29 Tryz.ntmps140 ?_
 have hC:=Z0p w0 ((ZLw (ZD0 u0_0))) [own 2 1 u0_0 a0.length (eI.encs a0)] [ZKv TInts a1 [u1_0] fp1] (by simp only [ZC3,ZFc,or_false,forall_eq_or_imp,forall_eq]; exact qw0) (by simp only [ZC3,ZFc,or_false,forall_eq_or_imp,forall_eq]; exact q1) (by simp only [ZC3,ZFc,or_false,forall_eq_or_imp,forall_eq]; exact fun b hb=>hb) (ZYi _ _) (by simp only [ZC3,ZFc,or_false,forall_eq_or_imp,forall_eq]; exact do1)
 refine sr (Za (v:=u1_0) rfl ?_)
 obtain ⟨Ad3,c4,hv5⟩:=Zu (hC.getP 0 rfl)
 refine Zt ZLf (tr rfl hv5) (Za (v:=vI 0) rfl (dn (ZK2 ?_)))
 have hN10:a1.length≤9223372036854775807:=Y2 (hC.getP 0 rfl)
 refine Yk (S:=(List Int)) _ _ (fun i10 s10 e_ w_=>Zv e_ [(0,u0_0),(2,vI a2),(8,u1_0),(9,vI (a1.length:Int)),(10,vI (i10:Int))]∧Ctx (fun c_=>c_∈(ZLw (ZD0 u0_0))) w0 w_ [own 2 1 u0_0 s10.length (eI.encs s10)] [ZKv TInts a1 [u1_0] fp1]) a1.length ?_ ?_ (s0:=a0) ?_ h
 ·clear hC h
  rintro i10 s10 e_ w10 nx10 K10 hi10 ⟨hS_,hC⟩ h hK10
  rw [ue hS_]
  refine sr (Zp rfl rfl (dn (ZKw (Z6 rfl (decide_eq_true (by omega)) (ZK0 (Ze (ZKw (ZK2 (sr (Za (v:=vI (i10:Int)) rfl ?_))))))))))
  obtain ⟨Ad10,c10,hv10⟩:=Zx (hC.getP 0 rfl) i10 hi10
  refine Yn (len:=a1.length) ZLf sc2.size (tr rfl hv10) rfl (ZLc _) (ZLv.2 hi10) (Yo (vI (a1.getD i10 ZC7)) (Ye (hC.getP 0 rfl) hv10 i10 hi10) sc2 rfl (Zd (v:=vI (i10:Int)) rfl (Zd (v:=vI (a1.getD i10 ZC7)) rfl (dn (Zh (Za (v:=u0_0) rfl (Za (v:=vI (i10:Int)) rfl (Za (v:=u0_0) rfl (Za (v:=vI (i10:Int)) rfl ?_)))))))))
  obtain ⟨⟨h10,h11⟩,h⟩:=h
  obtain ⟨Ad11,c11,hv11⟩:=Xz (hC.getM 0 rfl) (ZOj (ZEp _) (show i10 < s10.length by omega))
  refine X6 (i10 * 1) ZLf sc2.size (tr rfl hv11) rfl h10 h11 rfl (Yo (vI (s10.getD i10 ZC7)) (Zah (hC.getM 0 rfl) hv11 i10 (show i10 < s10.length by omega)) sc2 rfl (Za (v:=vI a2) rfl (Za (v:=vI (a1.getD i10 ZC7)) rfl (Zao rfl rfl (Ja rfl rfl (by decide) (X0 rfl rfl ?_))))))
  refine Zg [vI (ZFm.wrap ((s10.getD i10 ZC7) - (ZDy (ZFm.wrap (a2 * (a1.getD i10 ZC7))) 10007)))] _ Tryz.func187 rfl rfl rfl (Zmr (ZFm.wrap ((s10.getD i10 ZC7) - (ZDy (ZFm.wrap (a2 * (a1.getD i10 ZC7))) 10007))) h _) (fun ret10 w11 hR10=>?_)
  obtain ⟨r10,rfl,h,hB10⟩:=hR10
  refine⟨_,rfl,?_⟩
  replace hC:=hC.grow hB10
  obtain ⟨⟨h12,h13⟩,h⟩:=h
  obtain ⟨Ad12,c12,hv12⟩:=Xz (hC.getM 0 rfl) (ZOj (ZEp _) (show i10 < s10.length by omega))
  refine X6 (i10 * 1) ZLf sc2.size (tr rfl hv12) rfl h12 h13 rfl (Zcc (v:=vI r10) hC 0 [vI r10] (eI.encs (s10.set i10 r10)) rfl hv12 sc2.size rfl rfl rfl rfl rfl (by rw [ZYb]; exact Zav (sz:=1) (show i10 < s10.length by omega)) (Zcd _ _ _ (show i10 < s10.length by omega)) fun w12 hC=>?_)
  replace hC:=Y9 hC 0 ((s10.set i10 r10).length) (eI.encs (s10.set i10 r10)) rfl (by simp) rfl
  refine done (Zr (Ze (Zh (Zq rfl rfl (Za (v:=vI (ZFm.wrap ((i10:Int)+1))) rfl (done ?_))))))
  exact hK10 (s10.set i10 r10) _ _ ⟨(sl ⟨rfl,rfl,rfl,rfl,(tr rfl (congrArg _ (Z5 hi10 hN10))),trivial⟩),hC⟩ h
 ·clear hC h
  rintro s10 e_ w13 K10 ⟨hS_,hC⟩ h
  rw [ue hS_]
  refine sr (Zp rfl rfl (dn (ZKw (Z2 rfl (decide_eq_false (by omega)) ?_))))
  refine ZLa (Zj (Zj (Z0 ?_)))
  refine Zc2 (fn:=Tryz.f140) rfl  ⟨s10,rfl,h,(hC.getM 0 rfl),hC.belO⟩ (.inr rfl)
 ·skip
  exact⟨(sl ⟨rfl,rfl,rfl,rfl,rfl,trivial⟩),hC⟩
def Zip (a0:Int) (K:Int→Prop):Prop :=
 X5 (fun (s6:Int×Int×Int) next7=>(if s6.2.2 > 0 then(if ZDy s6.2.2 2=1 then next7 (ZDy (ZFm.wrap (s6.1 * s6.1)) 10007,ZDy (ZFm.wrap (s6.2.1 * s6.1)) 10007,ZFm.wrap (ZTa s6.2.2 2)) else next7 (ZDy (ZFm.wrap (s6.1 * s6.1)) 10007,s6.2.1,ZFm.wrap (ZTa s6.2.2 2))) else K s6.2.1)) (a0,1,10005)
theorem Zz6 (a0:Int)  {K:Int→Prop} (h:Zip a0 K) (w0:World)  :
  Calls ZKz 143 #[vI a0] w0 fun e w'=>∃ (r0:Int),
   e=.returned (vI r0)∧K r0∧Bel w0 w':=by
 unfold Zip at h
 refine cof Tryz.func143 rfl 21 Tryz.ntmps143 ?_
 have hC:=ZLh (X:=Nox) w0 [] (by simp)
 refine sr (Zd (v:=vI 0) rfl (dn (sr (Zd (v:=vI 1) rfl (dn (ZKw (sr (Zd (v:=vI 10005) rfl (dn (ZK2 ?_))))))))))
 refine Jh (S:=Int×Int×Int) _ (fun s6 e_ w_=>Zv e_ [(0,vI s6.1),(3,vI s6.2.1),(4,vI s6.2.2)]∧Ctx Nox w0 w_ [] []) ?_ (s0:=(a0,1,10005)) ?_ h
 ·clear hC h
  rintro s6 e_ w10 next7 K8 ⟨hS_,hC⟩ h hK9
  rw [ue hS_]
  refine ZKw (sr (Za (v:=vI s6.2.2) rfl (Jg rfl rfl (dn ?_))))
  refine Zs rfl (fun hb10=>?_) (fun hb10=>?_)
  ·replace h:=ift h (ct hb10)
   refine ZK0 (Ze (ZKw (ZK2 (ZKw (sr (Za (v:=vI s6.2.2) rfl (Ja rfl rfl (by decide) (Xu rfl rfl (dn ?_)))))))))
   refine Zs rfl (fun hb11=>?_) (fun hb11=>?_)
   ·replace h:=ift h (ct hb11)
    refine Zh (Za (v:=vI s6.2.1) rfl (Za (v:=vI s6.1) rfl (Zao rfl rfl (Ja rfl rfl (by decide) (Zd (v:=vI (ZDy (ZFm.wrap (s6.2.1 * s6.1)) 10007)) rfl (dn (Zh (Za (v:=vI s6.1) rfl (Za (v:=vI s6.1) rfl (Zao rfl rfl (Ja rfl rfl (by decide) ?_)))))))))))
    refine Zd (v:=vI (ZDy (ZFm.wrap (s6.1 * s6.1)) 10007)) rfl (done (Zr (Ze (Zh (Za (v:=vI s6.2.2) rfl (Ze7 rfl rfl (by decide) (Zd (v:=vI (ZFm.wrap (ZTa s6.2.2 2))) rfl (done ?_))))))))
    exact hK9 (ZDy (ZFm.wrap (s6.1 * s6.1)) 10007,ZDy (ZFm.wrap (s6.2.1 * s6.1)) 10007,ZFm.wrap (ZTa s6.2.2 2)) _ _ ⟨(sl ⟨rfl,rfl,rfl,trivial⟩),hC⟩ h
   ·replace h:=Zl h (cf hb11)
    refine ZK0 (Ze (Zh (Za (v:=vI s6.1) rfl (Za (v:=vI s6.1) rfl (Zao rfl rfl (Ja rfl rfl (by decide) (Zd (v:=vI (ZDy (ZFm.wrap (s6.1 * s6.1)) 10007)) rfl (done (Zr (Ze (Zh ?_)))))))))))
    refine Za (v:=vI s6.2.2) rfl (Ze7 rfl rfl (by decide) (Zd (v:=vI (ZFm.wrap (ZTa s6.2.2 2))) rfl (done ?_)))
    exact hK9 (ZDy (ZFm.wrap (s6.1 * s6.1)) 10007,s6.2.1,ZFm.wrap (ZTa s6.2.2 2)) _ _ ⟨(sl ⟨rfl,rfl,rfl,trivial⟩),hC⟩ h
  ·replace h:=Zl h (cf hb10)
   refine ZLa (Zj (Zj (Z0 ?_)))
   refine Ze (sr (Za (v:=vI s6.2.1) rfl (Zd (v:=vI s6.2.1) rfl (dn (ZK4 ?_)))))
   refine Zi (fn:=Tryz.f143) rfl ?_ ⟨s6.2.1,rfl,h,hC.below⟩ (.inl rfl)
   exact Zf rfl
 ·skip
  exact⟨(sl ⟨rfl,rfl,rfl,trivial⟩),hC⟩
def Ze2 (a0:List (List Int)) (K:List (List Int)→Prop):Prop :=
 Yc (fun i10 (s13:(List (List Int))) nx12=>Zk1 (a0.getD i10 ZC7) (fun r11=>(Zy (s13.length+1) 24∧nx12 (s13++[r11])))) (fun (s13:(List (List Int)))=>X5 (fun (s10:(List (List Int))×Int×Int) nx11=>(if s10.2.1 < (s10.1.length:Int) then((0≤(0:Int)∧(0:Int) < (s10.1.length:Int))∧(if s10.2.2 < ((s10.1.getD 0 ZC7).length:Int) then((0≤s10.2.1∧s10.2.1≤(s10.1.length:Int))∧Ze0 (s10.1.drop s10.2.1.toNat) (fun y0_ K_=>Zd2 y0_ s10.2.2 K_) (fun r10=>(if r10 < 0 then nx11 (s10.1,s10.2.1,ZFm.wrap (s10.2.2+1)) else((0≤ZFm.wrap (s10.2.1+r10)∧ZFm.wrap (s10.2.1+r10) < (s10.1.length:Int))∧((0≤s10.2.1∧s10.2.1 < (s10.1.length:Int))∧((0≤s10.2.1∧s10.2.1 < (s10.1.length:Int))∧((0≤ZFm.wrap (s10.2.1+r10)∧ZFm.wrap (s10.2.1+r10) < (s10.1.length:Int))∧((0≤s10.2.1∧s10.2.1 < ((Xo ZC7 s10.1 s10.2.1.toNat ((ZFm.wrap (s10.2.1+r10)).toNat)).length:Int))∧((0≤s10.2.2∧s10.2.2 < (((Xo ZC7 s10.1 s10.2.1.toNat ((ZFm.wrap (s10.2.1+r10)).toNat)).getD s10.2.1.toNat ZC7).length:Int))∧Zip (((Xo ZC7 s10.1 s10.2.1.toNat ((ZFm.wrap (s10.2.1+r10)).toNat)).getD s10.2.1.toNat ZC7).getD s10.2.2.toNat ZC7) (fun r12=>((0≤s10.2.1∧s10.2.1 < ((Xo ZC7 s10.1 s10.2.1.toNat ((ZFm.wrap (s10.2.1+r10)).toNat)).length:Int))∧X5 (fun (s12:(List (List Int))×Int) nx13=>(if s12.2 < (((Xo ZC7 s10.1 s10.2.1.toNat ((ZFm.wrap (s10.2.1+r10)).toNat)).getD s10.2.1.toNat ZC7).length:Int) then((0≤s10.2.1∧s10.2.1 < (s12.1.length:Int))∧((0≤s10.2.1∧s10.2.1 < (s12.1.length:Int))∧((0≤s12.2∧s12.2 < ((s12.1.getD s10.2.1.toNat ZC7).length:Int))∧((0≤s12.2∧s12.2 < ((s12.1.getD s10.2.1.toNat ZC7).length:Int))∧nx13 (s12.1.set s10.2.1.toNat ((s12.1.getD s10.2.1.toNat ZC7).set s12.2.toNat (ZDy (ZFm.wrap (((s12.1.getD s10.2.1.toNat ZC7).getD s12.2.toNat ZC7) * r12)) 10007)),ZFm.wrap (s12.2+1)))))) else X5 (fun (s11:(List (List Int))×Int) nx10=>(if s11.2 < (s12.1.length:Int) then((0≤s11.2∧s11.2 < (s11.1.length:Int))∧(if s11.2≠s10.2.1 then((0≤s10.2.2∧s10.2.2 < ((s11.1.getD s11.2.toNat ZC7).length:Int))∧(if(s11.1.getD s11.2.toNat ZC7).getD s10.2.2.toNat ZC7≠0 then((0≤s10.2.1∧s10.2.1 < (s11.1.length:Int))∧((0≤s10.2.2∧s10.2.2 < ((s11.1.getD s11.2.toNat ZC7).length:Int))∧((s10.2.1.toNat≠s11.2.toNat)∧Zio (s11.1.getD s11.2.toNat ZC7) (s11.1.getD s10.2.1.toNat ZC7) ((s11.1.getD s11.2.toNat ZC7).getD s10.2.2.toNat ZC7) (fun m10=>nx10 (s11.1.set s11.2.toNat m10,ZFm.wrap (s11.2+1)))))) else nx10 (s11.1,ZFm.wrap (s11.2+1)))) else nx10 (s11.1,ZFm.wrap (s11.2+1)))) else nx11 (s11.1,ZFm.wrap (s10.2.1+1),ZFm.wrap (s10.2.2+1)))) (s12.1,0))) (Xo ZC7 s10.1 s10.2.1.toNat ((ZFm.wrap (s10.2.1+r10)).toNat),0)))))))))))) else((0≤s10.2.1∧s10.2.1≤(s10.1.length:Int))∧K (s10.1.take s10.2.1.toNat)))) else((0≤s10.2.1∧s10.2.1≤(s10.1.length:Int))∧K (s10.1.take s10.2.1.toNat)))) (s13,0,0)) a0.length 0 []
theorem Znx (a0 : List (List Int))  {K : List (List Int) → Prop} (h : Ze2 a0 K) (w0 : World) (q0 : (ZNz.sl).rep a0 [u0_0] fp0 w0) :
  Calls ZKz 86 #[u0_0] w0 fun e w'=>∃ (r0:List (List Int)) (z0_0:Value) (fz0:List Nat),
   e=.returned (z0_0)∧K r0∧(ZLd (ZTe 22 (ZTe 2 (eI.tr))) r0 [z0_0] fz0).holds w'∧(∀ b,b∈fz0→w0.heap.size≤b)∧Bel w0 w':=by
 unfold Ze2 at h
 refine cof Z0q rfl 132 Tryz.ntmps86 ?_
 have hC:=ZLh (X:=Nox) w0 [ZKv (ZNz.sl) a0 [u0_0] fp0] (al1 q0)
 refine sr (Zd (v:=.slice none 0 0) rfl (dn (sr (Yh (sz:=1) hC [] [] rfl (fun _=>Zak _) rfl (by decide) fun b2 w3 hB_ hC=>?_))))
 replace hC:=hC.pushM0 (Ya (ZTe 2 (eI.tr)) ([]:List (List Int)) [] []) (Jb _ _) rfl
 replace hC:=hC.gather (c:=ZLd (ZTe 22 (ZTe 2 (eI.tr))) [] [.slice (some ⟨b2,0,none⟩) 0 0] ((ZLw (ZD0 (.slice (some ⟨b2,0,none⟩) 0 0)))++([]:List (List Nat)).flatten)) (fun x_ hx_=>(ZDd.1 hx_).symm) (fun h1_ h2_ hd_=>X3 h2_ h1_ (fun b_ hb_ hb2_=>hd_ b_ hb2_ hb_))
 refine Zd (v:=.slice (some ⟨b2,0,none⟩) 0 0) rfl (dn (ZKw (sr (Za (v:=u0_0) rfl ?_))))
 obtain ⟨Ad5,c6,hv7⟩:=Zu (hC.getP 0 rfl)
 refine Zt ZXp (tr rfl hv7) (Za (v:=vI 0) rfl (dn (ZK2 ?_)))
 have hN10:a0.length≤9223372036854775807:=Y2 (hC.getP 0 rfl)
 refine Yk (S:=(List (List Int))) _ _ (fun i10 s13 e_ w_=>∃ (v13:Value),∃ (f10:List Nat),Zv e_ [(3,v13),(14,u0_0),(15,vI (a0.length:Int)),(16,vI (i10:Int))]∧Ctx Nox w0 w_ [ZLd (ZTe 22 (ZTe 2 (eI.tr))) s13 [v13] f10] [ZKv (ZNz.sl) a0 [u0_0] fp0]) a0.length ?_ ?_ (s0:=[]) ?_ h
 ·clear hC h
  rintro i10 s13 e_ w10 nx12 K10 hi10 ⟨v13,f10,hS_,hC⟩ h hK12
  rw [ue hS_]
  refine sr (Zp rfl rfl (dn (ZKw (Z6 rfl (decide_eq_true (by omega)) (ZK0 (Ze (ZKw (ZK2 (sr ?_)))))))))
  obtain ⟨Ad11,c11,hv10⟩:=Zx (hC.getP 0 rfl) i10 hi10
  refine Yn (len:=a0.length) ZXp sc22.size (tr rfl hv10) rfl (ZLc _) (ZLv.2 hi10) ?_
  obtain ⟨cs_,hl10,hc10,hr10⟩:=Xh (hC.getP 0 rfl) hv10 i10 hi10
  obtain ⟨u11,rfl⟩:=ZLt.1 hl10
  clear hl10
  rw [Xg _ _ hi10] at hr10
  replace hC:=hC.derive 0 rfl (ZKv TInts (a0.getD i10 ZC7) [u11] fp0) (fun _=>hr10) (fun _ hb_=>hb_)
  refine Yo (u11) hc10 sc22 rfl (Zd (v:=u11) rfl (dn (Zh (Za (v:=v13) rfl (Za (v:=u11) rfl ?_)))))
  refine Zg [u11] _ Tryz.func139 rfl rfl rfl (Zz4 (a0.getD i10 ZC7) h _ (hC.getP 0 rfl)) (fun ret10 w11 hR10=>?_)
  obtain ⟨r11,u10,f14,rfl,h,hr11,hf13,hB10⟩:=hR10
  refine⟨_,rfl,?_⟩
  replace hC:=hC.push hB10 (ZLd (ZTe 2 (eI.tr)) r11 [u10] f14) hr11 hf13
  obtain ⟨ho10,hf14⟩:=Y6 (hC.getM 0 rfl).1
  subst hf14
  replace hC:=hC.recast (c:=own 2 1 u10 r11.length (eI.encs r11)) (fun _ h_=>h_) (fun _=>ho10)
  refine Yh (sz:=1) hC [(0,u10)] [u10] rfl (fun _=>Zad u10 (Zbc (hC.getM 0 rfl)) _) rfl (by decide) fun b11 w12 hB_ hC=>?_
  replace hC:=hC.pushM0 (Ya (ZTe 2 (eI.tr)) [] [] []) (Jb _ _) rfl
  replace hC:=hC.sM [2,0,1,3] (M':=[own 2 1 u10 r11.length (eI.encs r11),Ya (ZTe 2 (eI.tr)) [] [] [],own 22 1 (.slice (some ⟨b11,0,none⟩) 1 1) 1 [u10],ZLd (ZTe 22 (ZTe 2 (eI.tr))) s13 [v13] f10]) (by decide) rfl
  replace hC:=hC.gather (c:=Ya (ZTe 2 (eI.tr)) [r11] [u10] [(ZLw (ZD0 u10))]) (fun x_ hx_=>Zbk hx_) (fun h1_ h2_ hd_=>Zbb (c:=[u10]) (id (Xq h1_)) h2_ hd_)
  replace hC:=hC.sM [1,0,2] (M':=[own 22 1 (.slice (some ⟨b11,0,none⟩) 1 1) 1 [u10],Ya (ZTe 2 (eI.tr)) [r11] [u10] [(ZLw (ZD0 u10))],ZLd (ZTe 22 (ZTe 2 (eI.tr))) s13 [v13] f10]) (by decide) rfl
  replace hC:=hC.gather (c:=ZLd (ZTe 22 (ZTe 2 (eI.tr))) [r11] [.slice (some ⟨b11,0,none⟩) 1 1] ((ZLw (ZD0 (.slice (some ⟨b11,0,none⟩) 1 1)))++([(ZLw (ZD0 u10))]:List (List Nat)).flatten)) (fun x_ hx_=>ZDd.1 hx_) (fun h1_ h2_ hd_=>X3 h1_ h2_ hd_)
  replace hC:=hC.sM [1,0] (M':=[ZLd (ZTe 22 (ZTe 2 (eI.tr))) s13 [v13] f10,ZLd (ZTe 22 (ZTe 2 (eI.tr))) [r11] [.slice (some ⟨b11,0,none⟩) 1 1] ((ZLw (ZD0 (.slice (some ⟨b11,0,none⟩) 1 1)))++([(ZLw (ZD0 u10))]:List (List Nat)).flatten)]) (by decide) rfl
  obtain ⟨hm10,h⟩:=h
  refine Za8 hC ZXp J2 rfl (by decide) (by decide) rfl rfl hm10 fun v16 f15 w13 hC=>Zd (v:=v16) rfl (done (Zr (Ze (Zh (Zq rfl rfl (Za (v:=vI (ZFm.wrap ((i10:Int)+1))) rfl (done ?_)))))))
  exact hK12 (s13++[r11]) _ _ ⟨v16,f15,(sl ⟨rfl,rfl,rfl,(tr rfl (congrArg _ (Z5 hi10 hN10))),trivial⟩),(hC.sP [1] rfl)⟩ h
 ·clear hC h
  rintro s13 e_ w14 K10 ⟨v13,f10,hS_,hC⟩ h
  rw [ue hS_]
  refine sr (Zp rfl rfl (dn (ZKw (Z2 rfl (decide_eq_false (by omega)) ?_))))
  refine ZLa (Zj (Zj (Z0 ?_)))
  refine Ze (sr (Zd (v:=vI 0) rfl (dn (ZKw (sr (Ys hC [vI 0] z3 rfl fun b13 w15 hB_ hC=>Z4 (v:=vI 0) hC 0 [vI 0] [vI 0] rfl sc3.size rfl rfl rfl rfl rfl (ZK5 rfl) rfl fun w16 hC=>dn (ZK2 ?_)))))))
  refine Jh (S:=(List (List Int))×Int×Int) _ (fun s10 e_ w_=>∃ (v10:Value),∃ (f12:List Nat),∃ (b10:Nat),Zv e_ [(3,v10),(6,vI s10.2.1),(7,vQ b10)]∧Ctx Nox w0 w_ [blk b10 3 [vI s10.2.2],ZLd (ZTe 22 (ZTe 2 (eI.tr))) s10.1 [v10] f12] [ZKv (ZNz.sl) a0 [u0_0] fp0]) ?_ (s0:=(s13,0,0)) ?_ h
  ·clear hC h
   rintro s10 e_ w17 nx11 K11 ⟨v10,f12,b10,hS_,hC⟩ h hK11
   rw [ue hS_]
   refine ZKw (ZKw ?_)
   refine Yq 10 Yl [0,0,2,7,15,31,31,95,223,479,1023,2047] [2,5,7,8,9] [0,1,3,4,5,6,7,8,9] (by kernel_rfl) (by kernel_rfl) (by kernel_rfl) (fun hM14 hM11 w18 hB_=>?_)
   replace hC:=hC.grow hB_
   refine bM 0 (vI s10.2.1) rfl hM11 (Zc 12 1) (bM 1 (v10) rfl hM11 (Zc 12 3) ?_)
   obtain ⟨Ad12,c12,hv28⟩:=Zdr (hC.getM 1 rfl)
   refine bL 2 (vI (s10.1.length:Int)) rfl rfl hM14 (fun _ hB_=>by exact Zby ZXp (by exact tr rfl hv28)) (Zc 12 7) (bF 3 (.bool (decide (s10.2.1 < (s10.1.length:Int)))) rfl rfl hM11 (fun _=>by exact Zoz rfl rfl) (Zc 12 15) (bM 4 (.bool (decide (s10.2.1 < (s10.1.length:Int)))) rfl hM11 (Zc 12 31) ?_))
   refine Y8 (decide (s10.2.1 < (s10.1.length:Int))) (fun hb10=>?_) (fun hb10=>?_)
   ·replace h := ift h (ct hb10)
    refine aL 5 (vI s10.2.2) rfl rfl (hM14 5 rfl) (Yj 4 30 rfl rfl hb10) (fun _ hB_=>by exact Yg (hC.grow hB_) 0 (vI s10.2.2) rfl sc3 rfl rfl) (Zc 12 63) (aF 6 (v10) rfl rfl (hM11 6 rfl) (Yj 4 30 rfl rfl hb10) (fun _=>by exact Za0 (v:=v10) rfl) (Zc 12 127) ?_)
    replace hC:=hC.sM [1,0] (M':=[ZLd (ZTe 22 (ZTe 2 (eI.tr))) s10.1 [v10] f12,blk b10 3 [vI s10.2.2]]) (by decide) rfl
    obtain ⟨cs10,ho11,hf11⟩:=Zkm (hC.getM 0 rfl)
    replace hC:=hC.recast (c:=mat eI 22 2 v10 cs10 s10.1) (fun x_ hx_=>by have e_:=hf11; exact e_ ▸ hx_) (fun _=>ho11)
    obtain ⟨⟨h13,h14⟩,h⟩:=h
    obtain ⟨g10,cap10,hv11⟩:=Zcq (hC.getM 0 rfl) (ZOj (ZEp _) (show 0 < s10.1.length by omega))
    refine aL 7 (.pointer (some ⟨g10,0 * 1,none⟩)) rfl rfl (hM14 7 rfl) (Yj 4 30 rfl rfl hb10) (fun _ hB_=>by exact Zbj (0 * 1) ZXp sc22.size (by exact tr rfl hv11) rfl h13 h14 rfl) (Zc 12 255) (aL 8 ((hd cs10 0)) rfl rfl (hM14 8 rfl) (Yj 4 30 rfl rfl hb10) (fun _ hB_=>by exact Xp (hd cs10 0) (Zdf ((hC.grow hB_).getM 0 rfl) hv11 (show 0 < s10.1.length by omega)) sc22 rfl) (Zc 12 511) ?_)
    obtain ⟨Ad13,c13,hv29⟩:=X1 (Zaq (hC.getM 0 rfl) (show 0 < s10.1.length by omega))
    refine aL 9 (vI ((s10.1.getD 0 ZC7).length:Int)) rfl rfl (hM14 9 rfl) (Yj 4 30 rfl rfl hb10) (fun _ hB_=>by exact Zby ZLf (by exact tr rfl hv29)) (Zc 12 1023) (Z7 10 (by decide) (by decide) (by kernel_rfl) (by kernel_rfl) rfl (Zm 4 30 rfl rfl hb10 (Zp rfl rfl (Z3 (v:=.bool (decide (s10.2.2 < ((s10.1.getD 0 ZC7).length:Int)))) (b:=true) (tr rfl (congrArg _ hb10)) rfl (done (Z8 (Ze ?_)))))))
    refine Zs rfl (fun hb12=>?_) (fun hb12=>?_)
    ·replace h:=ift h (ct hb12)
     refine ZK0 (Ze (ZKw (ZK2 (sr (Za (v:=v10) rfl (Za (v:=vI s10.2.1) rfl ?_))))))
     obtain ⟨h10,h⟩:=h
     obtain ⟨Ad10,c10,hv12,hcap10⟩:=Zyi (hC.getM 0 rfl)
     refine Znp ZXp sc22.size (tr rfl hv12) rfl h10.1 h10.2 (Zl6 (g:=142) [vQ b10] (Zl5 rfl rfl) ?_)
     refine Zg [sliced Ad10 s10.2.1.toNat s10.1.length c10 1,.func (.func 142) #[] (ZKu [vQ b10])] _ Z0t rfl rfl rfl (Zri (s10.1.drop s10.2.1.toNat) (fun y0_ K_=>Zd2 y0_ s10.2.2 K_) h _ (Znn (Zya (hC.getM 0 rfl)) hv12 (show _≤_ by omega) hcap10) Tryz.func142 rfl rfl (fun y0_ yu0_0_ yf0_ K_ w_ hb_ rq0_ hq_=>Zzl y0_ s10.2.2 hq_ w_ rq0_ ((hC.grow hb_).getM 1 rfl))) (fun ret11 w19 hR11=>?_)
     obtain ⟨r10,rfl,h,hB11⟩:=hR11
     refine⟨_,rfl,?_⟩
     replace hC:=hC.grow hB11
     refine Zd (v:=vI r10) rfl (dn (ZKw (sr (Za (v:=vI r10) rfl (Zp rfl rfl (dn ?_))))))
     refine Zs rfl (fun hb13=>?_) (fun hb13=>?_)
     ·replace h:=ift h (ct hb13)
      refine ZLa (Zj (Z0 ?_))
      refine Ze (ZKw (sr (Yb hC 1 (vI s10.2.2) rfl sc3 rfl rfl (dn (Zh (Ys hC [vI 0] z3 rfl fun b12 w20 hB_ hC=>Z4 (v:=vI s10.2.2) hC 0 [vI s10.2.2] [vI s10.2.2] rfl sc3.size rfl rfl rfl rfl rfl (ZK5 rfl) rfl fun w21 hC=>dn (Zh (Yb hC 0 (vI s10.2.2) rfl sc3 rfl rfl (Zq rfl rfl ?_)))))))))
      refine Z4 (v:=vI (ZFm.wrap (s10.2.2+1))) hC 0 [vI (ZFm.wrap (s10.2.2+1))] [vI (ZFm.wrap (s10.2.2+1))] rfl sc3.size rfl rfl rfl rfl rfl (ZK5 rfl) rfl fun w22 hC=>done ?_
      replace hC:=hC.sM [1,0,2] (M':=[mat eI 22 2 v10 cs10 s10.1,blk b12 3 [vI (ZFm.wrap (s10.2.2+1))],blk b10 3 [vI s10.2.2]]) (by decide) rfl
      replace hC:=hC.recast (c:=ZLd (ZTe 22 (ZTe 2 (eI.tr))) s10.1 [v10] (Jz v10 cs10)) (fun x_ hx_=>hx_) (fun h_=>Zde h_)
      rw [← hf11] at hC
      exact hK11 (s10.1,s10.2.1,ZFm.wrap (s10.2.2+1)) _ _ ⟨v10,f12,b12,(sl ⟨rfl,rfl,rfl,trivial⟩),(hC.xM [1,0] rfl)⟩ h
     ·replace h:=Zl h (cf hb13)
      refine ZK0 (Ze (ZKw ?_))
      refine Yq 17 Yl [0,0,0,0,0,24,0,0,0,384,960,1984,0,0,12288,28672,65475,131011,262143,524287] [10,11,14,15,16] [0,1,2,3,4,5,6,7,8,9,12,13] (by kernel_rfl) (by kernel_rfl) (by kernel_rfl) (fun hM15 hM10 w23 hB_=>?_)
      replace hC:=hC.grow hB_
      refine bM 0 (v10) rfl hM10 (Zc 20 1) (bM 1 (vI s10.2.1) rfl hM10 (Zc 20 3) (bM 2 (v10) rfl hM10 (Zc 20 7) (bM 3 (vI s10.2.1) rfl hM10 (Zc 20 15) (bM 4 (vI r10) rfl hM10 (Zc 20 31) (bF 5 (vI (ZFm.wrap (s10.2.1+r10))) rfl rfl hM10 (fun _=>by exact Zbx rfl rfl) (Zc 20 63) (bM 6 (v10) rfl hM10 (Zc 20 127) (bM 7 (vI s10.2.1) rfl hM10 (Zc 20 255) (bM 8 (vI r10) rfl hM10 (Zc 20 511) (bF 9 (vI (ZFm.wrap (s10.2.1+r10))) rfl rfl hM10 (fun _=>by exact Zbx rfl rfl) (Zc 20 1023) ?_)))))))))
      obtain ⟨⟨h15,h16⟩,h⟩:=h
      obtain ⟨g11,cap11,hv13⟩:=Zcq (hC.getM 0 rfl) (ZOj (ZEp _) (show (ZFm.wrap (s10.2.1+r10)).toNat < s10.1.length by omega))
      refine bL 10 (.pointer (some ⟨g11,(ZFm.wrap (s10.2.1+r10)).toNat * 1,none⟩)) rfl rfl hM15 (fun _ hB_=>by exact Zbj ((ZFm.wrap (s10.2.1+r10)).toNat * 1) ZXp sc22.size (by exact tr rfl hv13) rfl h15 h16 rfl) (Zc 20 2047) (bL 11 ((hd cs10 ((ZFm.wrap (s10.2.1+r10)).toNat))) rfl rfl hM15 (fun _ hB_=>by exact Xp (hd cs10 ((ZFm.wrap (s10.2.1+r10)).toNat)) (Zdf ((hC.grow hB_).getM 0 rfl) hv13 (show (ZFm.wrap (s10.2.1+r10)).toNat < s10.1.length by omega)) sc22 rfl) (Zc 20 4095) (bM 12 (v10) rfl hM10 (Zc 20 8191) (bM 13 (vI s10.2.1) rfl hM10 (Zc 20 16383) ?_)))
      obtain ⟨⟨h17,h18⟩,h⟩:=h
      obtain ⟨g12,cap12,hv14⟩:=Zcq (hC.getM 0 rfl) (ZOj (ZEp _) (show s10.2.1.toNat < s10.1.length by omega))
      refine bL 14 (.pointer (some ⟨g12,s10.2.1.toNat * 1,none⟩)) rfl rfl hM15 (fun _ hB_=>by exact Zbj (s10.2.1.toNat * 1) ZXp sc22.size (by exact tr rfl hv14) rfl h17 h18 rfl) (Zc 20 32767) (bL 15 ((hd cs10 s10.2.1.toNat)) rfl rfl hM15 (fun _ hB_=>by exact Xp (hd cs10 s10.2.1.toNat) (Zdf ((hC.grow hB_).getM 0 rfl) hv14 (show s10.2.1.toNat < s10.1.length by omega)) sc22 rfl) (Zc 20 65535) ?_)
      obtain ⟨⟨h19,h20⟩,h⟩:=h
      obtain ⟨g13,cap13,hv15⟩:=Zcq (hC.getM 0 rfl) (ZOj (ZEp _) (show s10.2.1.toNat < s10.1.length by omega))
      refine bL 16 (.pointer (some ⟨g13,s10.2.1.toNat * 1,none⟩)) rfl rfl hM15 (fun _ hB_=>by exact Zbj (s10.2.1.toNat * 1) ZXp sc22.size (by exact tr rfl hv15) rfl h19 h20 rfl) (Zc 20 131071) (aO 17 rfl (Zyf hC 0 rfl (show s10.2.1.toNat < s10.1.length by omega) (show (ZFm.wrap (s10.2.1+r10)).toNat < s10.1.length by omega) hv15 sc22.size rfl rfl fun w24 hC=>done (Zgk (by decide) (l9:=(Zc 20 262143)) (by kernel_rfl) (Z7 18 (by decide) (by decide) (by kernel_rfl) (by kernel_rfl) rfl ?_))))
      obtain ⟨⟨h21,h22⟩,h⟩:=h
      obtain ⟨g20,cap14,hv16⟩:=Zye (hC.getM 0 rfl) (ZOj (ZEp _) (show (ZFm.wrap (s10.2.1+r10)).toNat < s10.1.length by omega))
      refine X6 ((ZFm.wrap (s10.2.1+r10)).toNat * 1) ZXp sc22.size (tr rfl hv16) rfl h21 h22 rfl (Zyg hC 0 rfl (show s10.2.1.toNat < s10.1.length by omega) (show (ZFm.wrap (s10.2.1+r10)).toNat < s10.1.length by omega) hv16 sc22.size rfl rfl fun w25 hC=>done (Z8 (Ze (ZKw ?_))))
      refine Yq 5 Yl [0,0,3,7,0,31,63,127,255] [2,3,4] [0,1] (by kernel_rfl) (by kernel_rfl) (by kernel_rfl) (fun hM18 hM19 w26 hB_=>?_)
      replace hC:=hC.grow hB_
      refine bM 0 (v10) rfl hM19 (Zc 9 1) (bM 1 (vI s10.2.1) rfl hM19 (Zc 9 3) ?_)
      obtain ⟨⟨h23,h24⟩,h⟩:=h
      obtain ⟨g14,cap15,hv17⟩:=Zcq (hC.getM 0 rfl) (ZOj (ZEp _) (show s10.2.1.toNat < (Xo ZC7 s10.1 s10.2.1.toNat ((ZFm.wrap (s10.2.1+r10)).toNat)).length by omega))
      refine bL 2 (.pointer (some ⟨g14,s10.2.1.toNat * 1,none⟩)) rfl rfl hM18 (fun _ hB_=>by exact Zbj (s10.2.1.toNat * 1) ZXp sc22.size (by exact tr rfl hv17) rfl h23 h24 rfl) (Zc 9 7) (bL 3 ((hd (Xo undef cs10 s10.2.1.toNat ((ZFm.wrap (s10.2.1+r10)).toNat)) s10.2.1.toNat)) rfl rfl hM18 (fun _ hB_=>by exact Xp (hd (Xo undef cs10 s10.2.1.toNat ((ZFm.wrap (s10.2.1+r10)).toNat)) s10.2.1.toNat) (Zdf ((hC.grow hB_).getM 0 rfl) hv17 (show s10.2.1.toNat < (Xo ZC7 s10.1 s10.2.1.toNat ((ZFm.wrap (s10.2.1+r10)).toNat)).length by omega)) sc22 rfl) (Zc 9 15) (bL 4 (vI s10.2.2) rfl rfl hM18 (fun _ hB_=>by exact Yg (hC.grow hB_) 1 (vI s10.2.2) rfl sc3 rfl rfl) (Zc 9 31) (Z7 5 (by decide) (by decide) (by kernel_rfl) (by kernel_rfl) rfl ?_)))
      obtain ⟨⟨h25,h26⟩,h⟩:=h
      obtain ⟨g21,cap16,hv18⟩:=Xz (Zaq (hC.getM 0 rfl) (show s10.2.1.toNat < (Xo ZC7 s10.1 s10.2.1.toNat ((ZFm.wrap (s10.2.1+r10)).toNat)).length by omega)) (ZOj (ZEp _) (show s10.2.2.toNat < ((Xo ZC7 s10.1 s10.2.1.toNat ((ZFm.wrap (s10.2.1+r10)).toNat)).getD s10.2.1.toNat ZC7).length by omega))
      refine X6 (s10.2.2.toNat * 1) ZLf sc2.size (tr rfl hv18) rfl h25 h26 rfl (Yo (vI (((Xo ZC7 s10.1 s10.2.1.toNat ((ZFm.wrap (s10.2.1+r10)).toNat)).getD s10.2.1.toNat ZC7).getD s10.2.2.toNat ZC7)) (Zah (Zaq (hC.getM 0 rfl) (show s10.2.1.toNat < (Xo ZC7 s10.1 s10.2.1.toNat ((ZFm.wrap (s10.2.1+r10)).toNat)).length by omega)) hv18 s10.2.2.toNat (show s10.2.2.toNat < ((Xo ZC7 s10.1 s10.2.1.toNat ((ZFm.wrap (s10.2.1+r10)).toNat)).getD s10.2.1.toNat ZC7).length by omega)) sc2 rfl ?_)
      refine Zg [vI (((Xo ZC7 s10.1 s10.2.1.toNat ((ZFm.wrap (s10.2.1+r10)).toNat)).getD s10.2.1.toNat ZC7).getD s10.2.2.toNat ZC7)] _ Tryz.func143 rfl rfl rfl (Zz6 (((Xo ZC7 s10.1 s10.2.1.toNat ((ZFm.wrap (s10.2.1+r10)).toNat)).getD s10.2.1.toNat ZC7).getD s10.2.2.toNat ZC7) h _) (fun ret12 w27 hR12=>?_)
      obtain ⟨r12,rfl,h,hB12⟩:=hR12
      refine⟨_,rfl,?_⟩
      replace hC:=hC.grow hB12
      refine Zd (v:=vI r12) rfl (done (Z8 (Ze (ZKw (sr (Za (v:=v10) rfl (Za (v:=vI s10.2.1) rfl ?_)))))))
      obtain ⟨⟨h27,h28⟩,h⟩:=h
      obtain ⟨g22,cap17,hv19⟩:=Zcq (hC.getM 0 rfl) (ZOj (ZEp _) (show s10.2.1.toNat < (Xo ZC7 s10.1 s10.2.1.toNat ((ZFm.wrap (s10.2.1+r10)).toNat)).length by omega))
      refine X6 (s10.2.1.toNat * 1) ZXp sc22.size (tr rfl hv19) rfl h27 h28 rfl (Yo (hd (Xo undef cs10 s10.2.1.toNat ((ZFm.wrap (s10.2.1+r10)).toNat)) s10.2.1.toNat) (Zdf (hC.getM 0 rfl) hv19 (show s10.2.1.toNat < (Xo ZC7 s10.1 s10.2.1.toNat ((ZFm.wrap (s10.2.1+r10)).toNat)).length by omega)) sc22 rfl ?_)
      obtain ⟨Ad14,c14,hv30⟩:=X1 (Zaq (hC.getM 0 rfl) (show s10.2.1.toNat < (Xo ZC7 s10.1 s10.2.1.toNat ((ZFm.wrap (s10.2.1+r10)).toNat)).length by omega))
      refine Zt ZLf (tr rfl hv30) (Za (v:=vI 0) rfl (dn (ZK2 ?_)))
      replace hC:=hC.recast (c:=ZLd (ZTe 22 (ZTe 2 (eI.tr))) (Xo ZC7 s10.1 s10.2.1.toNat ((ZFm.wrap (s10.2.1+r10)).toNat)) [v10] (Jz v10 (Xo undef cs10 s10.2.1.toNat ((ZFm.wrap (s10.2.1+r10)).toNat)))) (fun x_ hx_=>hx_) (fun h_=>Zde h_)
      refine Jh (S:=(List (List Int))×Int) _ (fun s12 e_ w_=>∃ (v12:Value),∃ (f13:List Nat),Zv e_ [(3,v12),(6,vI s10.2.1),(7,vQ b10),(9,vI r12),(77,vI (((Xo ZC7 s10.1 s10.2.1.toNat ((ZFm.wrap (s10.2.1+r10)).toNat)).getD s10.2.1.toNat ZC7).length:Int)),(78,vI s12.2)]∧Ctx Nox w0 w_ [ZLd (ZTe 22 (ZTe 2 (eI.tr))) s12.1 [v12] f13,blk b10 3 [vI s10.2.2]] [ZKv (ZNz.sl) a0 [u0_0] fp0]) ?_ (s0:=(Xo ZC7 s10.1 s10.2.1.toNat ((ZFm.wrap (s10.2.1+r10)).toNat),0)) ?_ h
      ·clear hC h
       rintro s12 e_ w28 nx13 K12 ⟨v12,f13,hS_,hC⟩ h hK13
       rw [ue hS_]
       refine sr (Zp rfl rfl (dn (ZKw ?_)))
       refine Zs rfl (fun hb14=>?_) (fun hb14=>?_)
       ·replace h:=ift h (ct hb14)
        refine ZK0 (Ze (ZKw (ZK2 (sr (Za (v:=vI s12.2) rfl (Zd (v:=vI s12.2) rfl (dn ?_)))))))
        refine Yq 15 Yl [0,0,3,7,0,0,0,96,224,0,992,2016,0,8160,16352,32767,65535] [2,3,7,8,10,11] [0,1,4,5,6,9,12,13,14] (by kernel_rfl) (by kernel_rfl) (by kernel_rfl) (fun hM13 hM12 w29 hB_=>?_)
        replace hC:=hC.grow hB_
        refine bM 0 (v12) rfl hM12 (Zc 17 1) (bM 1 (vI s10.2.1) rfl hM12 (Zc 17 3) ?_)
        obtain ⟨cs12,ho12,hf12⟩:=Zkm (hC.getM 0 rfl)
        replace hC:=hC.recast (c:=mat eI 22 2 v12 cs12 s12.1) (fun x_ hx_=>by have e_:=hf12; exact e_ ▸ hx_) (fun _=>ho12)
        obtain ⟨⟨h29,h30⟩,h⟩:=h
        obtain ⟨g15,cap18,hv20⟩:=Zcq (hC.getM 0 rfl) (ZOj (ZEp _) (show s10.2.1.toNat < s12.1.length by omega))
        refine bL 2 (.pointer (some ⟨g15,s10.2.1.toNat * 1,none⟩)) rfl rfl hM13 (fun _ hB_=>by exact Zbj (s10.2.1.toNat * 1) ZXp sc22.size (by exact tr rfl hv20) rfl h29 h30 rfl) (Zc 17 7) (bL 3 ((hd cs12 s10.2.1.toNat)) rfl rfl hM13 (fun _ hB_=>by exact Xp (hd cs12 s10.2.1.toNat) (Zdf ((hC.grow hB_).getM 0 rfl) hv20 (show s10.2.1.toNat < s12.1.length by omega)) sc22 rfl) (Zc 17 15) (bM 4 (vI s12.2) rfl hM12 (Zc 17 31) (bM 5 (v12) rfl hM12 (Zc 17 63) (bM 6 (vI s10.2.1) rfl hM12 (Zc 17 127) ?_))))
        obtain ⟨⟨h31,h32⟩,h⟩:=h
        obtain ⟨g16,cap19,hv21⟩:=Zcq (hC.getM 0 rfl) (ZOj (ZEp _) (show s10.2.1.toNat < s12.1.length by omega))
        refine bL 7 (.pointer (some ⟨g16,s10.2.1.toNat * 1,none⟩)) rfl rfl hM13 (fun _ hB_=>by exact Zbj (s10.2.1.toNat * 1) ZXp sc22.size (by exact tr rfl hv21) rfl h31 h32 rfl) (Zc 17 255) (bL 8 ((hd cs12 s10.2.1.toNat)) rfl rfl hM13 (fun _ hB_=>by exact Xp (hd cs12 s10.2.1.toNat) (Zdf ((hC.grow hB_).getM 0 rfl) hv21 (show s10.2.1.toNat < s12.1.length by omega)) sc22 rfl) (Zc 17 511) (bM 9 (vI s12.2) rfl hM12 (Zc 17 1023) ?_))
        obtain ⟨⟨h33,h34⟩,h⟩:=h
        obtain ⟨g17,cap20,hv22⟩:=Xz (Zaq (hC.getM 0 rfl) (show s10.2.1.toNat < s12.1.length by omega)) (ZOj (ZEp _) (show s12.2.toNat < (s12.1.getD s10.2.1.toNat ZC7).length by omega))
        refine bL 10 (.pointer (some ⟨g17,s12.2.toNat * 1,none⟩)) rfl rfl hM13 (fun _ hB_=>by exact Zbj (s12.2.toNat * 1) ZLf sc2.size (by exact tr rfl hv22) rfl h33 h34 rfl) (Zc 17 2047) (bL 11 (vI ((s12.1.getD s10.2.1.toNat ZC7).getD s12.2.toNat ZC7)) rfl rfl hM13 (fun _ hB_=>by exact Xp (vI ((s12.1.getD s10.2.1.toNat ZC7).getD s12.2.toNat ZC7)) (Zah (Zaq ((hC.grow hB_).getM 0 rfl) (show s10.2.1.toNat < s12.1.length by omega)) hv22 s12.2.toNat (show s12.2.toNat < (s12.1.getD s10.2.1.toNat ZC7).length by omega)) sc2 rfl) (Zc 17 4095) (bM 12 (vI r12) rfl hM12 (Zc 17 8191) (bF 13 (vI (ZFm.wrap (((s12.1.getD s10.2.1.toNat ZC7).getD s12.2.toNat ZC7) * r12))) rfl rfl hM12 (fun _=>by exact Zc1 rfl rfl) (Zc 17 16383) (bF 14 (vI (ZDy (ZFm.wrap (((s12.1.getD s10.2.1.toNat ZC7).getD s12.2.toNat ZC7) * r12)) 10007)) rfl rfl hM12 (fun _=>by exact Zox rfl rfl (by decide)) (Zc 17 32767) (Z7 15 (by decide) (by decide) (by kernel_rfl) (by kernel_rfl) rfl ?_)))))
        obtain ⟨⟨h35,h36⟩,h⟩:=h
        obtain ⟨g23,cap21,hv23⟩:=Xz (Zaq (hC.getM 0 rfl) (show s10.2.1.toNat < s12.1.length by omega)) (ZOj (ZEp _) (show s12.2.toNat < (s12.1.getD s10.2.1.toNat ZC7).length by omega))
        refine X6 (s12.2.toNat * 1) ZLf sc2.size (tr rfl hv23) rfl h35 h36 rfl (Zyc hC 0 (ZDy (ZFm.wrap (((s12.1.getD s10.2.1.toNat ZC7).getD s12.2.toNat ZC7) * r12)) 10007) rfl (show s10.2.1.toNat < s12.1.length by omega) hv23 (show s12.2.toNat < (s12.1.getD s10.2.1.toNat ZC7).length by omega) sc2.size rfl rfl rfl fun w30 hC=>done (Z8 (Zr (Ze (Zh (Zq rfl rfl (Za (v:=vI (ZFm.wrap (s12.2+1))) rfl (done ?_))))))))
        replace hC:=hC.recast (c:=ZLd (ZTe 22 (ZTe 2 (eI.tr))) (s12.1.set s10.2.1.toNat ((s12.1.getD s10.2.1.toNat ZC7).set s12.2.toNat (ZDy (ZFm.wrap (((s12.1.getD s10.2.1.toNat ZC7).getD s12.2.toNat ZC7) * r12)) 10007))) [v12] (Jz v12 cs12)) (fun x_ hx_=>hx_) (fun h_=>Zde h_)
        rw [← hf12] at hC
        exact hK13 (s12.1.set s10.2.1.toNat ((s12.1.getD s10.2.1.toNat ZC7).set s12.2.toNat (ZDy (ZFm.wrap (((s12.1.getD s10.2.1.toNat ZC7).getD s12.2.toNat ZC7) * r12)) 10007)),ZFm.wrap (s12.2+1)) _ _ ⟨v12,f13,(sl ⟨rfl,rfl,rfl,rfl,rfl,rfl,trivial⟩),hC⟩ h
       ·replace h:=Zl h (cf hb14)
        refine ZLa (Zj (Zj (Z0 ?_)))
        refine Ze (ZKw (sr (Za (v:=v12) rfl ?_)))
        obtain ⟨Ad15,c15,hv31⟩:=Zdr (hC.getM 0 rfl)
        refine Zt ZXp (tr rfl hv31) (Za (v:=vI 0) rfl (dn (ZK2 ?_)))
        refine Jh (S:=(List (List Int))×Int) _ (fun s11 e_ w_=>∃ (v11:Value),∃ (f11:List Nat),Zv e_ [(3,v11),(6,vI s10.2.1),(7,vQ b10),(98,v11),(99,vI (s12.1.length:Int)),(100,vI s11.2)]∧Ctx Nox w0 w_ [ZLd (ZTe 22 (ZTe 2 (eI.tr))) s11.1 [v11] f11,blk b10 3 [vI s10.2.2]] [ZKv (ZNz.sl) a0 [u0_0] fp0]) ?_ (s0:=(s12.1,0)) ?_ h
        ·clear hC h
         rintro s11 e_ w31 nx10 K13 ⟨v11,f11,hS_,hC⟩ h hK10
         rw [ue hS_]
         refine sr (Zp rfl rfl (dn (ZKw ?_)))
         refine Zs rfl (fun hb15=>?_) (fun hb15=>?_)
         ·replace h:=ift h (ct hb15)
          refine ZK0 (Ze (ZKw (ZK2 (sr (Za (v:=vI s11.2) rfl ?_)))))
          obtain ⟨cs11,ho13,hf10⟩:=Zkm (hC.getM 0 rfl)
          replace hC:=hC.recast (c:=mat eI 22 2 v11 cs11 s11.1) (fun x_ hx_=>by have e_:=hf10; exact e_ ▸ hx_) (fun _=>ho13)
          obtain ⟨⟨h37,h38⟩,h⟩:=h
          obtain ⟨g24,cap22,hv24⟩:=Zcq (hC.getM 0 rfl) (ZOj (ZEp _) (show s11.2.toNat < s11.1.length by omega))
          refine X6 (s11.2.toNat * 1) ZXp sc22.size (tr rfl hv24) rfl h37 h38 rfl (Yo (hd cs11 s11.2.toNat) (Zdf (hC.getM 0 rfl) hv24 (show s11.2.toNat < s11.1.length by omega)) sc22 rfl (Zd (v:=vI s11.2) rfl (Zd (v:=(hd cs11 s11.2.toNat)) rfl (dn (sr (Za (v:=vI s11.2) rfl (Za (v:=vI s10.2.1) rfl (Y5 rfl rfl (Za (v:=.bool (decide (s11.2≠s10.2.1))) rfl ?_)))))))))
          refine Y8 (decide (s11.2≠s10.2.1)) (fun hb11=>?_) (fun hb11=>?_)
          ·replace h:=ift h (ct hb11)
           refine Zm 3 108 rfl rfl hb11 (Za (v:=(hd cs11 s11.2.toNat)) rfl (Zm 3 108 rfl rfl hb11 (Yb hC 1 (vI s10.2.2) rfl sc3 rfl rfl (Zm 3 108 rfl rfl hb11 ?_))))
           obtain ⟨⟨h39,h40⟩,h⟩:=h
           obtain ⟨g25,cap23,hv25⟩:=Xz (Zaq (hC.getM 0 rfl) (show s11.2.toNat < s11.1.length by omega)) (ZOj (ZEp _) (show s10.2.2.toNat < (s11.1.getD s11.2.toNat ZC7).length by omega))
           refine X6 (s10.2.2.toNat * 1) ZLf sc2.size (tr rfl hv25) rfl h39 h40 rfl (Zm 3 108 rfl rfl hb11 (Yo (vI ((s11.1.getD s11.2.toNat ZC7).getD s10.2.2.toNat ZC7)) (Zah (Zaq (hC.getM 0 rfl) (show s11.2.toNat < s11.1.length by omega)) hv25 s10.2.2.toNat (show s10.2.2.toNat < (s11.1.getD s11.2.toNat ZC7).length by omega)) sc2 rfl (Zm 3 108 rfl rfl hb11 (Y5 rfl rfl (Z3 (v:=.bool (decide ((s11.1.getD s11.2.toNat ZC7).getD s10.2.2.toNat ZC7≠0))) (b:=true) (tr rfl (congrArg _ hb11)) rfl (dn ?_))))))
           refine Zs rfl (fun hb16=>?_) (fun hb16=>?_)
           ·replace h:=ift h (ct hb16)
            refine Yq 9 Yl [0,0,0,6,14,0,0,96,224,511] [3,4,6,7,8] [0,1,2,5] (by kernel_rfl) (by kernel_rfl) (by kernel_rfl) (fun hM16 hM17 w32 hB_=>?_)
            replace hC:=hC.grow hB_
            refine bM 0 ((hd cs11 s11.2.toNat)) rfl hM17 (Zc 10 1) (bM 1 (v11) rfl hM17 (Zc 10 3) (bM 2 (vI s10.2.1) rfl hM17 (Zc 10 7) ?_))
            obtain ⟨⟨h41,h42⟩,h⟩:=h
            obtain ⟨g18,cap24,hv26⟩:=Zcq (hC.getM 0 rfl) (ZOj (ZEp _) (show s10.2.1.toNat < s11.1.length by omega))
            refine bL 3 (.pointer (some ⟨g18,s10.2.1.toNat * 1,none⟩)) rfl rfl hM16 (fun _ hB_=>by exact Zbj (s10.2.1.toNat * 1) ZXp sc22.size (by exact tr rfl hv26) rfl h41 h42 rfl) (Zc 10 15) (bL 4 ((hd cs11 s10.2.1.toNat)) rfl rfl hM16 (fun _ hB_=>by exact Xp (hd cs11 s10.2.1.toNat) (Zdf ((hC.grow hB_).getM 0 rfl) hv26 (show s10.2.1.toNat < s11.1.length by omega)) sc22 rfl) (Zc 10 31) (bM 5 ((hd cs11 s11.2.toNat)) rfl hM17 (Zc 10 63) (bL 6 (vI s10.2.2) rfl rfl hM16 (fun _ hB_=>by exact Yg (hC.grow hB_) 1 (vI s10.2.2) rfl sc3 rfl rfl) (Zc 10 127) ?_)))
            obtain ⟨⟨h43,h44⟩,h⟩:=h
            obtain ⟨g19,cap25,hv27⟩:=Xz (Zaq (hC.getM 0 rfl) (show s11.2.toNat < s11.1.length by omega)) (ZOj (ZEp _) (show s10.2.2.toNat < (s11.1.getD s11.2.toNat ZC7).length by omega))
            refine bL 7 (.pointer (some ⟨g19,s10.2.2.toNat * 1,none⟩)) rfl rfl hM16 (fun _ hB_=>by exact Zbj (s10.2.2.toNat * 1) ZLf sc2.size (by exact tr rfl hv27) rfl h43 h44 rfl) (Zc 10 255) (bL 8 (vI ((s11.1.getD s11.2.toNat ZC7).getD s10.2.2.toNat ZC7)) rfl rfl hM16 (fun _ hB_=>by exact Xp (vI ((s11.1.getD s11.2.toNat ZC7).getD s10.2.2.toNat ZC7)) (Zah (Zaq ((hC.grow hB_).getM 0 rfl) (show s11.2.toNat < s11.1.length by omega)) hv27 s10.2.2.toNat (show s10.2.2.toNat < (s11.1.getD s11.2.toNat ZC7).length by omega)) sc2 rfl) (Zc 10 511) (Z7 9 (by decide) (by decide) (by kernel_rfl) (by kernel_rfl) rfl ?_))
            obtain ⟨hne10,h⟩:=h
            refine Zg [(hd cs11 s11.2.toNat),(hd cs11 s10.2.1.toNat),vI ((s11.1.getD s11.2.toNat ZC7).getD s10.2.2.toNat ZC7)] _ Tryz.func140 rfl rfl rfl (Zz5 (s11.1.getD s11.2.toNat ZC7) (s11.1.getD s10.2.1.toNat ZC7) ((s11.1.getD s11.2.toNat ZC7).getD s10.2.2.toNat ZC7) h _ (Zaq (hC.getM 0 rfl) (show s11.2.toNat < s11.1.length by omega)) (Yv (Zaq (hC.getM 0 rfl) (show s10.2.1.toNat < s11.1.length by omega))) (Zqv (hC.getM 0 rfl).2.2 (Zq2 (hC.getM 0 rfl) (show s10.2.1.toNat < s11.1.length by omega)) (Zq2 (hC.getM 0 rfl) (show s11.2.toNat < s11.1.length by omega)) hne10)) (fun ret13 w33 hR13=>?_)
            obtain ⟨m10,rfl,h,hm11,hB13⟩:=hR13
            refine⟨_,rfl,?_⟩
            replace hC:=hC.turnRow 0 rfl (show s11.2.toNat < s11.1.length by omega) hB13 hm11
            refine done (Z8 (Zr (Ze (Zh (Zq rfl rfl (Za (v:=vI (ZFm.wrap (s11.2+1))) rfl (done ?_)))))))
            replace hC:=hC.recast (c:=ZLd (ZTe 22 (ZTe 2 (eI.tr))) (s11.1.set s11.2.toNat m10) [v11] (Jz v11 cs11)) (fun x_ hx_=>hx_) (fun h_=>Zde h_)
            rw [← hf10] at hC
            exact hK10 (s11.1.set s11.2.toNat m10,ZFm.wrap (s11.2+1)) _ _ ⟨v11,f11,(sl ⟨rfl,rfl,rfl,rfl,rfl,rfl,trivial⟩),hC⟩ h
           ·replace h:=Zl h (cf hb16)
            refine ZK0 (Zr (Ze (Zh (Zq rfl rfl (Za (v:=vI (ZFm.wrap (s11.2+1))) rfl (done ?_))))))
            replace hC:=hC.recast (c:=ZLd (ZTe 22 (ZTe 2 (eI.tr))) s11.1 [v11] (Jz v11 cs11)) (fun x_ hx_=>hx_) (fun h_=>Zde h_)
            rw [← hf10] at hC
            exact hK10 (s11.1,ZFm.wrap (s11.2+1)) _ _ ⟨v11,f11,(sl ⟨rfl,rfl,rfl,rfl,rfl,rfl,trivial⟩),hC⟩ h
          ·replace h:=Zl h (cf hb11)
           refine Zk (b:=false) 3 108 rfl (tr rfl (congrArg _ hb11)) (by decide) (Zk (b:=false) 3 108 rfl (tr rfl (congrArg _ hb11)) (by decide) (Zk (b:=false) 3 108 rfl (tr rfl (congrArg _ hb11)) (by decide) (Zk (b:=false) 3 108 rfl (tr rfl (congrArg _ hb11)) (by decide) (Zk (b:=false) 3 108 rfl (tr rfl (congrArg _ hb11)) (by decide) (Z3 (v:=.bool false) (b:=false) (tr rfl (congrArg _ hb11)) rfl (dn (Z2 rfl rfl (ZK0 (Zr (Ze (Zh ?_)))))))))))
           refine Zq rfl rfl (Za (v:=vI (ZFm.wrap (s11.2+1))) rfl (done ?_))
           replace hC:=hC.recast (c:=ZLd (ZTe 22 (ZTe 2 (eI.tr))) s11.1 [v11] (Jz v11 cs11)) (fun x_ hx_=>hx_) (fun h_=>Zde h_)
           rw [← hf10] at hC
           exact hK10 (s11.1,ZFm.wrap (s11.2+1)) _ _ ⟨v11,f11,(sl ⟨rfl,rfl,rfl,rfl,rfl,rfl,trivial⟩),hC⟩ h
         ·replace h:=Zl h (cf hb15)
          refine ZLa (Zj (Zj (Z0 ?_)))
          refine Ze (Zh (Za (v:=vI s10.2.1) rfl (Zq rfl rfl (Zd (v:=vI (ZFm.wrap (s10.2.1+1))) rfl (done (Zr (Ze (ZKw (sr (Yb hC 1 (vI s10.2.2) rfl sc3 rfl rfl (dn ?_)))))))))))
          refine Zh (Ys hC [vI 0] z3 rfl fun b14 w34 hB_ hC=>Z4 (v:=vI s10.2.2) hC 0 [vI s10.2.2] [vI s10.2.2] rfl sc3.size rfl rfl rfl rfl rfl (ZK5 rfl) rfl fun w35 hC=>dn (Zh (Yb hC 0 (vI s10.2.2) rfl sc3 rfl rfl (Zq rfl rfl (Z4 (v:=vI (ZFm.wrap (s10.2.2+1))) hC 0 [vI (ZFm.wrap (s10.2.2+1))] [vI (ZFm.wrap (s10.2.2+1))] rfl sc3.size rfl rfl rfl rfl rfl (ZK5 rfl) rfl fun w36 hC=>done ?_)))))
          exact hK11 (s11.1,ZFm.wrap (s10.2.1+1),ZFm.wrap (s10.2.2+1)) _ _ ⟨v11,f11,b14,(sl ⟨rfl,rfl,rfl,trivial⟩),(hC.xM [0,1] rfl)⟩ h
        ·skip
         exact⟨v12,f13,(sl ⟨rfl,rfl,rfl,rfl,rfl,rfl,trivial⟩),hC⟩
      ·skip
       exact⟨v10,(Jz v10 (Xo undef cs10 s10.2.1.toNat ((ZFm.wrap (s10.2.1+r10)).toNat))),(sl ⟨rfl,rfl,rfl,rfl,rfl,rfl,trivial⟩),hC⟩
    ·replace h:=Zl h (cf hb12)
     refine ZLa (Zj (Zj (Z0 ?_)))
     refine Ze (sr (Za (v:=v10) rfl (Za (v:=vI s10.2.1) rfl ?_)))
     obtain ⟨h11,h⟩:=h
     refine Zq1 hC 0 rfl ZXp sc22.size rfl rfl h11.1 h11.2 fun v14 hC=>Zd (v:=v14) rfl (dn (ZK4 ?_))
     replace hC:=hC.recast (c:=ZLd (ZTe 22 (ZTe 2 (eI.tr))) (s10.1.take s10.2.1.toNat) [v14] (Jz v14 (cs10.take s10.2.1.toNat))) (fun x_ hx_=>hx_) (fun h_=>Zde h_)
     refine Zi (fn:=Tryz.f86) rfl ?_ ⟨s10.1.take s10.2.1.toNat,v14,(Jz v14 (cs10.take s10.2.1.toNat)),rfl,h,(hC.getM 0 rfl),(Zai hC 0 rfl),hC.below⟩ (.inl rfl)
     exact Zf rfl
   ·replace h:=Zl h (cf hb10)
    refine Zw Zz 5 undef rfl rfl (by kernel_rfl) (hM11 5 rfl) (fun w_=>.inr ⟨Yf (b:=false) 4 30 rfl (tr rfl (congrArg _ hb10)) (by decide),rfl⟩) (l9:=(Zc 12 63)) (by kernel_rfl) (Zw Zz 6 undef rfl rfl (by kernel_rfl) (hM11 6 rfl) (fun w_=>.inr ⟨Yf (b:=false) 4 30 rfl (tr rfl (congrArg _ hb10)) (by decide),rfl⟩) (l9:=(Zc 12 127)) (by kernel_rfl) (Zw Zz 7 undef rfl rfl (by kernel_rfl) (hM11 7 rfl) (fun w_=>.inr ⟨Yf (b:=false) 4 30 rfl (tr rfl (congrArg _ hb10)) (by decide),rfl⟩) (l9:=(Zc 12 255)) (by kernel_rfl) (Zw Zz 8 undef rfl rfl (by kernel_rfl) (hM11 8 rfl) (fun w_=>.inr ⟨Yf (b:=false) 4 30 rfl (tr rfl (congrArg _ hb10)) (by decide),rfl⟩) (l9:=(Zc 12 511)) (by kernel_rfl) (Zw Zz 9 undef rfl rfl (by kernel_rfl) (hM11 9 rfl) (fun w_=>.inr ⟨Yf (b:=false) 4 30 rfl (tr rfl (congrArg _ hb10)) (by decide),rfl⟩) (l9:=(Zc 12 1023)) (by kernel_rfl) (Z7 10 (by decide) (by decide) (by kernel_rfl) (by kernel_rfl) rfl (Zk (b:=false) 4 30 rfl (tr rfl (congrArg _ hb10)) (by decide) (Z3 (v:=.bool false) (b:=false) (tr rfl (congrArg _ hb10)) rfl (done (Z8 (Ze (Z2 rfl rfl ?_)))))))))))
    refine ZLa (Zj (Zj (Z0 ?_)))
    refine Ze (sr (Za (v:=v10) rfl (Za (v:=vI s10.2.1) rfl ?_)))
    replace hC:=hC.sM [1,0] (M':=[ZLd (ZTe 22 (ZTe 2 (eI.tr))) s10.1 [v10] f12,blk b10 3 [vI s10.2.2]]) (by decide) rfl
    obtain ⟨cs13,ho14,hf15⟩:=Zkm (hC.getM 0 rfl)
    replace hC:=hC.recast (c:=mat eI 22 2 v10 cs13 s10.1) (fun x_ hx_=>by have e_:=hf15; exact e_ ▸ hx_) (fun _=>ho14)
    obtain ⟨h12,h⟩:=h
    refine Zq1 hC 0 rfl ZXp sc22.size rfl rfl h12.1 h12.2 fun v15 hC=>Zd (v:=v15) rfl (dn (ZK4 ?_))
    replace hC:=hC.recast (c:=ZLd (ZTe 22 (ZTe 2 (eI.tr))) (s10.1.take s10.2.1.toNat) [v15] (Jz v15 (cs13.take s10.2.1.toNat))) (fun x_ hx_=>hx_) (fun h_=>Zde h_)
    refine Zi (fn:=Tryz.f86) rfl ?_ ⟨s10.1.take s10.2.1.toNat,v15,(Jz v15 (cs13.take s10.2.1.toNat)),rfl,h,(hC.getM 0 rfl),(Zai hC 0 rfl),hC.below⟩ (.inl rfl)
    exact Zf rfl
  ·skip
   exact⟨v13,f10,b13,(sl ⟨rfl,rfl,rfl,trivial⟩),hC⟩
 ·skip
  exact⟨.slice (some ⟨b2,0,none⟩) 0 0,((ZLw (ZD0 (.slice (some ⟨b2,0,none⟩) 0 0)))++([]:List (List Nat)).flatten),(sl ⟨rfl,rfl,rfl,rfl,trivial⟩),hC⟩
def Ze3 (a0:List (List Int)) (K:Int→Prop):Prop :=
 Ze2 a0 (fun r5=>K (r5.length:Int))
theorem Zrk (a0:List (List Int))  {K:Int→Prop} (h:Ze3 a0 K) (w0:World) (q0:(ZNz.sl).rep a0 [u0_0] fp0 w0) :
  Calls ZKz 57 #[u0_0] w0 fun e w'=>∃ (r0:Int),
   e=.returned (vI r0)∧K r0∧Bel w0 w':=by
 unfold Ze3 at h
 refine cof Tryz.func57 rfl 6 Tryz.ntmps57 ?_
 have hC:=ZLh (X:=Nox) w0 [ZKv (ZNz.sl) a0 [u0_0] fp0] (al1 q0)
 refine sr (Zd (v:=vI 0) rfl (dn (sr (Za (v:=u0_0) rfl ?_))))
 refine Zg [u0_0] _ Z0q rfl rfl rfl (Znx a0 h _ (hC.getP 0 rfl)) (fun Y7 w4 hR3=>?_)
 obtain ⟨r5,u6,f7,rfl,h,hr8,hf9,hB10⟩:=hR3
 refine⟨_,rfl,?_⟩
 replace hC:=hC.push hB10 (ZLd (ZTe 22 (ZTe 2 (eI.tr))) r5 [u6] f7) hr8 hf9
 obtain ⟨Ad10,c10,hv10⟩:=Zdr (hC.getM 0 rfl)
 refine Zt ZXp (tr rfl hv10) (Zd (v:=vI (r5.length:Int)) rfl (dn (ZK4 ?_)))
 refine Zi (fn:=Tryz.f57) rfl ?_ ⟨(r5.length:Int),rfl,h,hC.below⟩ (.inl rfl)
 exact Zf rfl
def Ze4 (a0:List Bool) (K:Int→Prop):Prop :=
 Yc (fun i10 (s10:Int) nx10=>(if(a0.getD i10 ZC7)=true then nx10 (ZFm.wrap (s10+1)) else nx10 s10)) (fun (s10:Int)=>K s10) a0.length 0 0
theorem Zrl (a0:List Bool)  {K:Int→Prop} (h:Ze4 a0 K) (w0:World) (q0:EB.ty.sl.rep a0 [u0_0] fp0 w0) :
  Calls ZKz 116 #[u0_0] w0 fun e w'=>∃ (r0:Int),
   e=.returned (vI r0)∧K r0∧Bel w0 w':=by
 unfold Ze4 at h
 refine cof Z0z rfl 17 Tryz.ntmps116 ?_
 have hC:=ZLh (X:=Nox) w0 [ZKv EB.ty.sl a0 [u0_0] fp0] (al1 q0)
 refine sr (Zd (v:=vI 0) rfl (dn (sr (Zd (v:=vI 0) rfl (dn (ZKw (sr (Za (v:=u0_0) rfl ?_))))))))
 obtain ⟨Ad2,c3,hv4⟩:=Zu (hC.getP 0 rfl)
 refine Zt Z0k (tr rfl hv4) (Za (v:=vI 0) rfl (dn (ZK2 ?_)))
 have hN10:a0.length≤9223372036854775807:=Y2 (hC.getP 0 rfl)
 refine Yk (S:=Int) _ _ (fun i10 s10 e_ w_=>Zv e_ [(3,vI s10),(6,u0_0),(7,vI (a0.length:Int)),(8,vI (i10:Int))]∧Ctx Nox w0 w_ [] [ZKv EB.ty.sl a0 [u0_0] fp0]) a0.length ?_ ?_ (s0:=0) ?_ h
 ·clear hC h
  rintro i10 s10 e_ w10 nx10 K10 hi10 ⟨hS_,hC⟩ h hK10
  rw [ue hS_]
  refine sr (Zp rfl rfl (dn (ZKw (Z6 rfl (decide_eq_true (by omega)) (ZK0 (Ze (ZKw (ZK2 (sr ?_)))))))))
  obtain ⟨Ad10,c10,hv10⟩:=Zx (hC.getP 0 rfl) i10 hi10
  refine Yn (len:=a0.length) Z0k sc4.size (tr rfl hv10) rfl (ZLc _) (ZLv.2 hi10) (Yo (.bool (a0.getD i10 ZC7)) (Ye (hC.getP 0 rfl) hv10 i10 hi10) sc4 rfl (Zd (v:=.bool (a0.getD i10 ZC7)) rfl (dn (sr (Za (v:=.bool (a0.getD i10 ZC7)) rfl (dn ?_))))))
  refine Zs rfl (fun hb10=>?_) (fun hb10=>?_)
  ·replace h:=ift h (hb10)
   refine Zh (Za (v:=vI s10) rfl (Zq rfl rfl (Zd (v:=vI (ZFm.wrap (s10+1))) rfl (done (Zr (Ze (Zh (Zq rfl rfl (Za (v:=vI (ZFm.wrap ((i10:Int)+1))) rfl (done ?_))))))))))
   exact hK10 (ZFm.wrap (s10+1)) _ _ ⟨(sl ⟨rfl,rfl,rfl,(tr rfl (congrArg _ (Z5 hi10 hN10))),trivial⟩),hC⟩ h
  ·replace h:=Zl h (Y4 hb10)
   refine ZK0 (Zr (Ze (Zh (Zq rfl rfl (Za (v:=vI (ZFm.wrap ((i10:Int)+1))) rfl (done ?_))))))
   exact hK10 s10 _ _ ⟨(sl ⟨rfl,rfl,rfl,(tr rfl (congrArg _ (Z5 hi10 hN10))),trivial⟩),hC⟩ h
 ·clear hC h
  rintro s10 e_ w11 K10 ⟨hS_,hC⟩ h
  rw [ue hS_]
  refine sr (Zp rfl rfl (dn (ZKw (Z2 rfl (decide_eq_false (by omega)) ?_))))
  refine ZLa (Zj (Zj (Z0 ?_)))
  refine Ze (sr (Za (v:=vI s10) rfl (Zd (v:=vI s10) rfl (dn (ZK4 ?_)))))
  refine Zi (fn:=Tryz.f116) rfl ?_ ⟨s10,rfl,h,hC.below⟩ (.inl rfl)
  exact Zf rfl
 ·skip
  exact⟨(sl ⟨rfl,rfl,rfl,rfl,trivial⟩),hC⟩
def Zf5 (a0:Int) (K:Bool→Prop):Prop :=
 K (decide (a0≠0))
theorem Zz7 (a0:Int)  {K:Bool→Prop} (h:Zf5 a0 K) (w0:World)  :
  Calls ZKz 186 #[vI a0] w0 fun e w'=>∃ (r0:Bool),
   e=.returned (.bool r0)∧K r0∧Bel w0 w':=by
 unfold Zf5 at h
 refine cof Tryz.func186 rfl 5 Tryz.ntmps186 ?_
 have hC:=ZLh (X:=Nox) w0 [] (by simp)
 refine sr (Zd (v:=.bool false) rfl (dn (sr (Za (v:=vI a0) rfl (Y5 rfl rfl (Zd (v:=.bool (decide (a0≠0))) rfl (dn (ZK4 ?_))))))))
 refine Zi (fn:=Tryz.f186) rfl ?_ ⟨decide (a0≠0),rfl,h,hC.below⟩ (.inl rfl)
 exact Zf rfl
def Zk2 (a0:List Int) (K:Int→Prop):Prop :=
 Zek a0 Zf5 (fun r5=>K r5)
theorem Zz8 (a0:List Int)  {K:Int→Prop} (h:Zk2 a0 K) (w0:World) (q0:ZNz.rep a0 [u0_0] fp0 w0) :
  Calls ZKz 138 #[u0_0] w0 fun e w'=>∃ (r0:Int),
   e=.returned (vI r0)∧K r0∧Bel w0 w':=by
 unfold Zk2 at h
 refine cof Tryz.func138 rfl 5 Tryz.ntmps138 ?_
 have hC:=ZLh (X:=Nox) w0 [ZKv TInts a0 [u0_0] fp0] (al1 q0)
 refine sr (Zd (v:=vI 0) rfl (dn (sr (Za (v:=u0_0) rfl ?_))))
 refine Zg [u0_0,.func (.func 186) #[] (ZKu [])] _ Tryz.func185 rfl rfl rfl (Zp0 a0 Zf5 h _ (hC.getP 0 rfl) Tryz.func186 rfl rfl (fun x0_ K_ w_ _ hq_=>Zz7 x0_ hq_ w_)) (fun Y7 w4 hR3=>?_)
 obtain ⟨r5,rfl,h,hB6⟩:=hR3
 refine⟨_,rfl,?_⟩
 replace hC:=hC.grow hB6
 refine Zd (v:=vI r5) rfl (dn (ZK4 ?_))
 refine Zi (fn:=Tryz.f138) rfl ?_ ⟨r5,rfl,h,hC.below⟩ (.inl rfl)
 exact Zf rfl
def Ziq (a0:List Int) (K:Bool→Prop):Prop :=
 Zk2 a0 (fun r5=>K (decide (r5 < 0)))
theorem Zz9 (a0:List Int)  {K:Bool→Prop} (h:Ziq a0 K) (w0:World) (q0:ZNz.rep a0 [u0_0] fp0 w0) :
  Calls ZKz 83 #[u0_0] w0 fun e w'=>∃ (r0:Bool),
   e=.returned (.bool r0)∧K r0∧Bel w0 w':=by
 unfold Ziq at h
 refine cof Tryz.func83 rfl 6 Tryz.ntmps83 ?_
 have hC:=ZLh (X:=Nox) w0 [ZKv TInts a0 [u0_0] fp0] (al1 q0)
 refine sr (Zd (v:=.bool false) rfl (dn (sr (Za (v:=u0_0) rfl ?_))))
 refine Zg [u0_0] _ Tryz.func138 rfl rfl rfl (Zz8 a0 h _ (hC.getP 0 rfl)) (fun Y7 w4 hR3=>?_)
 obtain ⟨r5,rfl,h,hB6⟩:=hR3
 refine⟨_,rfl,?_⟩
 replace hC:=hC.grow hB6
 refine Zp rfl rfl (Zd (v:=.bool (decide (r5 < 0))) rfl (dn (ZK4 ?_)))
 refine Zi (fn:=Tryz.f83) rfl ?_ ⟨decide (r5 < 0),rfl,h,hC.below⟩ (.inl rfl)
 exact Zf rfl
def Zir (a1:Int) (K:List Int→Prop):Prop :=
 (¬ (a1 < 0)∧(if ZFm.wrap (a1 - (ZFm.wrap (0 - 0))) > 0 then((0≤ZFm.wrap (a1 - (ZFm.wrap (0 - 0)))∧Zy (0+((ZFm.wrap (a1 - (ZFm.wrap (0 - 0)))).toNat)) 8)∧(((0:Int)≤0∧0≤((ZC2 ((ZFm.wrap (a1 - (ZFm.wrap (0 - 0)))).toNat) (0:Int)).length:Int))∧K ((ZC2 ((ZFm.wrap (a1 - (ZFm.wrap (0 - 0)))).toNat) (0:Int)).take 0))) else K []))
theorem ZAa (a1:Int)  {K:List Int→Prop} (h:Zir a1 K) (w0:World)  :
  Calls ZKz 198 #[.slice none 0 0,vI a1] w0 fun e w'=>∃ (r0:List Int) (z0_0:Value) (fz0:List Nat),
   e=.returned (z0_0)∧K r0∧(ZLd (ZTe 2 (eI.tr)) r0 [z0_0] fz0).holds w'∧(∀ b,b∈fz0→w0.heap.size≤b)∧Bel w0 w':=by
 unfold Zir at h
 refine cof Tryz.func198 rfl 27 Tryz.ntmps198 ?_
 have hC:=ZLh (X:=Nox) w0 [] (by simp)
 refine sr (Zd (v:=.slice none 0 0) rfl (dn (ZKw (sr (Za (v:=vI a1) rfl (Zp rfl rfl (dn ?_)))))))
 obtain ⟨hb1,h⟩:=h
 refine Z2 rfl (decide_eq_false hb1) (ZK0 (Ze (ZKw (sr (Za (v:=vI a1) rfl (Za (v:=.slice none 0 0) rfl (Zqt ZLf rfl (Za (v:=.slice none 0 0) rfl (Zt ZLf rfl (X0 rfl rfl (X0 rfl rfl ?_)))))))))))
 refine Zd (v:=vI (ZFm.wrap (a1 - (ZFm.wrap (0 - 0))))) rfl (dn (sr (Za (v:=vI (ZFm.wrap (a1 - (ZFm.wrap (0 - 0))))) rfl (Jg rfl rfl (dn ?_)))))
 refine Zs rfl (fun hb2=>?_) (fun hb2=>?_)
 ·replace h:=ift h (ct hb2)
  refine Zh (Za (v:=.slice none 0 0) rfl (Za (v:=.slice none 0 0) rfl (Zqt ZLf rfl (Zx3 ZLf sc2.size rfl rfl (Za (v:=vI (ZFm.wrap (a1 - (ZFm.wrap (0 - 0))))) rfl ?_)))))
  replace hC:=hC.pushNil 2 1
  obtain ⟨hm6,h⟩:=h
  refine Zqr hC 0 ZLf Tryz.underlying3 el2 rfl rfl (by decide) rfl rfl (tr rfl (congrArg (ZN5 .i64) (ZN6 hm6.1).symm)) hm6.2 fun v4 w5 hC=>?_
  replace hC:=Y9 hC 0 ((ZC2 ((ZFm.wrap (a1 - (ZFm.wrap (0 - 0)))).toNat) (0:Int)).length) (eI.encs (ZC2 ((ZFm.wrap (a1 - (ZFm.wrap (0 - 0)))).toNat) (0:Int))) rfl (by simp) (Zqu _ [] _)
  refine Za (v:=.slice none 0 0) rfl (Zt ZLf rfl ?_)
  obtain ⟨h0_7,h⟩:=h
  refine Zx2 hC 0 rfl ZLf sc2.size rfl rfl h0_7.1 h0_7.2 fun v8 hC=>?_
  replace hC:=Y9 hC 0 (((ZC2 ((ZFm.wrap (a1 - (ZFm.wrap (0 - 0)))).toNat) (0:Int)).take 0).length) (eI.encs ((ZC2 ((ZFm.wrap (a1 - (ZFm.wrap (0 - 0)))).toNat) (0:Int)).take 0)) rfl (List.length_take_of_le (by omega)).symm (Enc.encs_take eI _ _)
  refine Zd (v:=v8) rfl (dn (sr (Za (v:=v8) rfl (Zd (v:=v8) rfl (dn (ZK4 ?_))))))
  refine Zi (fn:=Tryz.f198) rfl ?_ ⟨(ZC2 ((ZFm.wrap (a1 - (ZFm.wrap (0 - 0)))).toNat) (0:Int)).take 0,v8,(ZLw (ZD0 v8)),rfl,h,(Xq (hC.getM 0 rfl)),(Xi hC 0 rfl),hC.below⟩ (.inl rfl)
  exact Zf rfl
 ·replace h:=Zl h (cf hb2)
  refine ZK0 (Ze (sr (Za (v:=.slice none 0 0) rfl (Zd (v:=.slice none 0 0) rfl (dn (ZK4 ?_))))))
  refine Zi (fn:=Tryz.f198) rfl ?_ ⟨[],.slice none 0 0,[],rfl,h,(Zfh _ _ _),(fun b hb=>absurd hb (by simp)),hC.below⟩ (.inl rfl)
  exact Zf rfl
def Zis (a0:List (List Int)) (K:List Int→Prop):Prop :=
 Yc (fun i10 (s10:Int) nx10=>(¬ (ZFm.wrap (s10+((a0.getD i10 ZC7).length:Int)) < 0)∧nx10 (ZFm.wrap (s10+((a0.getD i10 ZC7).length:Int))))) (fun (s10:Int)=>Zir s10 (fun r10=>Yc (fun i11 (s11:(List Int)) nx11=>(Zy (s11.length+(a0.getD i11 ZC7).length) 8∧nx11 (s11++(a0.getD i11 ZC7)))) (fun (s11:(List Int))=>K s11) a0.length 0 r10)) a0.length 0 0
theorem ZAb (a0:List (List Int))  {K:List Int→Prop} (h:Zis a0 K) (w0:World) (q0:(ZNz.sl).rep a0 [u0_0] fp0 w0) :
  Calls ZKz 184 #[u0_0] w0 fun e w'=>∃ (r0:List Int) (z0_0:Value) (fz0:List Nat),
   e=.returned (z0_0)∧K r0∧(ZLd (ZTe 2 (eI.tr)) r0 [z0_0] fz0).holds w'∧(∀ b,b∈fz0→w0.heap.size≤b)∧Bel w0 w':=by
 unfold Zis at h
 refine cof Tryz.func184 rfl 36 Tryz.ntmps184 ?_
 have hC:=ZLh (X:=Nox) w0 [ZKv (ZNz.sl) a0 [u0_0] fp0] (al1 q0)
 refine sr (Zd (v:=.slice none 0 0) rfl (dn (sr (Zd (v:=vI 0) rfl (dn (ZKw (sr (Za (v:=u0_0) rfl ?_))))))))
 obtain ⟨Ad2,c3,hv4⟩:=Zu (hC.getP 0 rfl)
 refine Zt ZXp (tr rfl hv4) (Za (v:=vI 0) rfl (dn (ZK2 ?_)))
 have hN10:a0.length≤9223372036854775807:=Y2 (hC.getP 0 rfl)
 refine Yk (S:=Int) _ _ (fun i10 s10 e_ w_=>Zv e_ [(0,u0_0),(3,vI s10),(9,u0_0),(10,vI (a0.length:Int)),(11,vI (i10:Int))]∧Ctx Nox w0 w_ [] [ZKv (ZNz.sl) a0 [u0_0] fp0]) a0.length ?_ ?_ (s0:=0) ?_ h
 ·clear hC h
  rintro i10 s10 e_ w10 nx10 K10 hi10 ⟨hS_,hC⟩ h hK10
  rw [ue hS_]
  refine sr (Zp rfl rfl (dn (ZKw (Z6 rfl (decide_eq_true (by omega)) (ZK0 (Ze (ZKw (ZK2 (sr ?_)))))))))
  obtain ⟨Ad10,c10,hv10⟩:=Zx (hC.getP 0 rfl) i10 hi10
  refine Yn (len:=a0.length) ZXp sc22.size (tr rfl hv10) rfl (ZLc _) (ZLv.2 hi10) ?_
  obtain ⟨cs_,hl10,hc10,hr10⟩:=Xh (hC.getP 0 rfl) hv10 i10 hi10
  obtain ⟨u10,rfl⟩:=ZLt.1 hl10
  clear hl10
  rw [Xg _ _ hi10] at hr10
  replace hC:=hC.derive 0 rfl (ZKv TInts (a0.getD i10 ZC7) [u10] fp0) (fun _=>hr10) (fun _ hb_=>hb_)
  refine Yo (u10) hc10 sc22 rfl (Zd (v:=u10) rfl (dn (sr (Za (v:=vI s10) rfl (Za (v:=u10) rfl ?_)))))
  obtain ⟨Ad11,c11,hv12⟩:=Zu (hC.getP 0 rfl)
  refine Zt ZLf (tr rfl hv12) (Zq rfl rfl (Zd (v:=vI (ZFm.wrap (s10+((a0.getD i10 ZC7).length:Int)))) rfl (dn (sr (Za (v:=vI (ZFm.wrap (s10+((a0.getD i10 ZC7).length:Int)))) rfl (Zp rfl rfl (dn ?_)))))))
  obtain ⟨hb10,h⟩:=h
  refine Z2 rfl (decide_eq_false hb10) (ZK0 (Zr (Ze (Zh (Zq rfl rfl (Za (v:=vI (ZFm.wrap ((i10:Int)+1))) rfl (done ?_)))))))
  exact hK10 (ZFm.wrap (s10+((a0.getD i10 ZC7).length:Int))) _ _ ⟨(sl ⟨rfl,rfl,rfl,rfl,(tr rfl (congrArg _ (Z5 hi10 hN10))),trivial⟩),(hC.sP [1] rfl)⟩ h
 ·clear hC h
  rintro s10 e_ w11 K10 ⟨hS_,hC⟩ h
  rw [ue hS_]
  refine sr (Zp rfl rfl (dn (ZKw (Z2 rfl (decide_eq_false (by omega)) ?_))))
  refine ZLa (Zj (Zj (Z0 ?_)))
  refine Ze (sr (Za (v:=vI s10) rfl ?_))
  refine Zg [.slice none 0 0,vI s10] _ Tryz.func198 rfl rfl rfl (ZAa s10 h _) (fun ret10 w12 hR10=>?_)
  obtain ⟨r10,u11,f10,rfl,h,hr12,hf10,hB10⟩:=hR10
  refine⟨_,rfl,?_⟩
  replace hC:=hC.push hB10 (ZLd (ZTe 2 (eI.tr)) r10 [u11] f10) hr12 hf10
  obtain ⟨ho10,hf11⟩:=Y6 (hC.getM 0 rfl).1
  subst hf11
  replace hC:=hC.recast (c:=own 2 1 u11 r10.length (eI.encs r10)) (fun _ h_=>h_) (fun _=>ho10)
  refine Zd (v:=u11) rfl (dn (ZKw (sr (Za (v:=u0_0) rfl ?_))))
  obtain ⟨Ad12,c12,hv13⟩:=Zu (hC.getP 0 rfl)
  refine Zt ZXp (tr rfl hv13) (Za (v:=vI 0) rfl (dn (ZK2 ?_)))
  have hN11:a0.length≤9223372036854775807:=Y2 (hC.getP 0 rfl)
  refine Yk (S:=(List Int)) _ _ (fun i11 s11 e_ w_=>∃ (v10:Value),Zv e_ [(6,v10),(25,u0_0),(26,vI (a0.length:Int)),(27,vI (i11:Int))]∧Ctx Nox w0 w_ [own 2 1 v10 s11.length (eI.encs s11)] [ZKv (ZNz.sl) a0 [u0_0] fp0]) a0.length ?_ ?_ (s0:=r10) ?_ h
  ·clear hC h
   rintro i11 s11 e_ w13 nx11 K11 hi11 ⟨v10,hS_,hC⟩ h hK11
   rw [ue hS_]
   refine sr (Zp rfl rfl (dn (ZKw (Z6 rfl (decide_eq_true (by omega)) (ZK0 (Ze (ZKw (ZK2 (sr ?_)))))))))
   obtain ⟨Ad13,c13,hv11⟩:=Zx (hC.getP 0 rfl) i11 hi11
   refine Yn (len:=a0.length) ZXp sc22.size (tr rfl hv11) rfl (ZLc _) (ZLv.2 hi11) ?_
   obtain ⟨cs_,hl11,hc11,hr11⟩:=Xh (hC.getP 0 rfl) hv11 i11 hi11
   obtain ⟨u12,rfl⟩:=ZLt.1 hl11
   clear hl11
   rw [Xg _ _ hi11] at hr11
   replace hC:=hC.derive 0 rfl (ZKv TInts (a0.getD i11 ZC7) [u12] fp0) (fun _=>hr11) (fun _ hb_=>hb_)
   refine Yo (u12) hc11 sc22 rfl (Zd (v:=u12) rfl (dn (Zh (Za (v:=v10) rfl (Za (v:=u12) rfl ?_)))))
   obtain ⟨hm10,h⟩:=h
   refine Jf hC 0 ZLf el2 rfl (by decide) (by decide) rfl (Zjq (hC.getP 0 rfl)) (fun q hq=>ZL1 (E:=eI) _ q hq) rfl rfl hm10 fun v11 w14 hC=>?_
   replace hC:=Y9 hC 0 ((s11++(a0.getD i11 ZC7)).length) (eI.encs (s11++(a0.getD i11 ZC7))) rfl (by simp) (by first | (simp [ZLo]; done) | simp [ZLo,ZTn])
   refine Zd (v:=v11) rfl (done (Zr (Ze (Zh (Zq rfl rfl (Za (v:=vI (ZFm.wrap ((i11:Int)+1))) rfl (done ?_)))))))
   exact hK11 (s11++(a0.getD i11 ZC7)) _ _ ⟨v11,(sl ⟨rfl,rfl,rfl,(tr rfl (congrArg _ (Z5 hi11 hN11))),trivial⟩),(hC.sP [1] rfl)⟩ h
  ·clear hC h
   rintro s11 e_ w15 K11 ⟨v10,hS_,hC⟩ h
   rw [ue hS_]
   refine sr (Zp rfl rfl (dn (ZKw (Z2 rfl (decide_eq_false (by omega)) ?_))))
   refine ZLa (Zj (Zj (Z0 ?_)))
   refine Ze (sr (Za (v:=v10) rfl (Zd (v:=v10) rfl (dn (ZK4 ?_)))))
   refine Zi (fn:=Tryz.f184) rfl ?_ ⟨s11,v10,(ZLw (ZD0 v10)),rfl,h,(Xq (hC.getM 0 rfl)),(Xi hC 0 rfl),hC.below⟩ (.inl rfl)
   exact Zf rfl
  ·skip
   exact⟨u11,(sl ⟨rfl,rfl,rfl,rfl,trivial⟩),hC⟩
 ·skip
  exact⟨(sl ⟨rfl,rfl,rfl,rfl,rfl,trivial⟩),hC⟩
def Zit (a0:List (List Int)) (a1:Int) (K:List (List Int)→Prop):Prop :=
 Yc (fun i10 (s11:(List (List Int))) nx11=>((0≤(a0.length:Int)∧(a0.length:Int) * 8≤281474976710656)∧((0≤(i10:Int)∧(i10:Int) < ((ZC2 ((a0.length:Int).toNat) (0:Int)).length:Int))∧Zis [(a0.getD i10 ZC7),(ZC2 ((a0.length:Int).toNat) (0:Int)).set i10 1] (fun r11=>(Zy (s11.length+1) 24∧nx11 (s11++[r11])))))) (fun (s11:(List (List Int)))=>Ze2 s11 (fun r10=>Yc (fun i11 (s10:(List (List Int))) nx10=>((0≤a1∧a1≤((r10.getD i11 ZC7).length:Int))∧Ziq ((r10.getD i11 ZC7).take a1.toNat) (fun r13=>(if r13=true then((0≤a1∧a1≤((r10.getD i11 ZC7).length:Int))∧(Zy (s10.length+1) 24∧nx10 (s10++[(r10.getD i11 ZC7).drop a1.toNat]))) else nx10 s10)))) (fun (s10:(List (List Int)))=>Ze2 s10 (fun r12=>K r12)) r10.length 0 [])) a0.length 0 []
theorem ZAc (a0:List (List Int)) (a1:Int)  {K:List (List Int)→Prop} (h:Zit a0 a1 K) (w0:World) (q0:(ZNz.sl).rep a0 [u0_0] fp0 w0) :
  Calls ZKz 136 #[u0_0,vI a1] w0 fun e w'=>∃ (r0:List (List Int)) (z0_0:Value) (fz0:List Nat),
   e=.returned (z0_0)∧K r0∧(ZLd (ZTe 22 (ZTe 2 (eI.tr))) r0 [z0_0] fz0).holds w'∧(∀ b,b∈fz0→w0.heap.size≤b)∧Bel w0 w':=by
 unfold Zit at h
 refine cof Tryz.func136 rfl 57 Tryz.ntmps136 ?_
 have hC:=ZLh (X:=Nox) w0 [ZKv (ZNz.sl) a0 [u0_0] fp0] (al1 q0)
 refine sr (Zd (v:=.slice none 0 0) rfl (dn (sr (Za (v:=u0_0) rfl ?_))))
 obtain ⟨Ad2,c3,hv4⟩:=Zu (hC.getP 0 rfl)
 refine Zt ZXp (tr rfl hv4) (Yh (sz:=1) hC [] [] rfl (fun _=>Zak _) rfl (by decide) fun b5 w6 hB_ hC=>?_)
 replace hC:=hC.pushE (ZXs TInts [] [] []) (Znj _ _) rfl
 refine Zd (v:=vI (a0.length:Int)) rfl (Zd (v:=.slice (some ⟨b5,0,none⟩) 0 0) rfl (dn (ZKw (sr (Za (v:=u0_0) rfl ?_)))))
 obtain ⟨Ad9,c12,hv15⟩:=Zu (hC.getP 1 rfl)
 refine Zt ZXp (tr rfl hv15) (Za (v:=vI 0) rfl (dn (ZK2 ?_)))
 have hN11:a0.length≤9223372036854775807:=Y2 (hC.getP 1 rfl)
 refine Yk (S:=(List (List Int))) _ _ (fun i10 s11 e_ w_=>∃ (v12:Value),∃ (cs11:List Value),∃ (f12:List Nat),Zv e_ [(1,vI a1),(5,vI (a0.length:Int)),(6,v12),(16,u0_0),(17,vI (a0.length:Int)),(18,vI (i10:Int))]∧(∀ b,b∈f12→w0.heap.size≤b)∧Ctx Nox w0 w_ [own 22 1 v12 s11.length cs11] [ZXs TInts s11 cs11 f12,ZKv (ZNz.sl) a0 [u0_0] fp0]) a0.length ?_ ?_ (s0:=[]) ?_ h
 ·clear hC h
  rintro i10 s11 e_ w10 nx11 K10 hi11 ⟨v12,cs11,f12,hS_,hq11,hC⟩ h hK11
  rw [ue hS_]
  refine sr (Zp rfl rfl (dn (ZKw (Z6 rfl (decide_eq_true (by omega)) (ZK0 (Ze (ZKw (ZK2 (sr (Za (v:=vI (i10:Int)) rfl ?_))))))))))
  obtain ⟨Ad12,c13,hv10⟩:=Zx (hC.getP 1 rfl) i10 hi11
  refine Yn (len:=a0.length) ZXp sc22.size (tr rfl hv10) rfl (ZLc _) (ZLv.2 hi11) ?_
  obtain ⟨cs_,hl10,hc10,hr10⟩:=Xh (hC.getP 1 rfl) hv10 i10 hi11
  obtain ⟨u11,rfl⟩:=ZLt.1 hl10
  clear hl10
  rw [Xg _ _ hi11] at hr10
  replace hC:=hC.derive 1 rfl (ZKv TInts (a0.getD i10 ZC7) [u11] fp0) (fun _=>hr10) (fun _ hb_=>hb_)
  refine Yo (u11) hc10 sc22 rfl (Zd (v:=vI (i10:Int)) rfl (Zd (v:=u11) rfl (dn (sr (Za (v:=vI (a0.length:Int)) rfl ?_)))))
  obtain ⟨hm10,h⟩:=h
  refine Zbz (sz:=1) hC (eI.encs (ZC2 ((a0.length:Int).toNat) (0:Int))) ZLf el2 (tr rfl (congrArg (ZN5 .i64) (ZN6 hm10.1).symm)) (tr rfl (congrArg (ZN5 .i64) (ZN6 hm10.1).symm)) (by omega) (by omega) (Zbh (E:=eI) _ _) fun v10 w11 hB_ hC=>?_
  replace hC:=Y9 hC 0 ((ZC2 ((a0.length:Int).toNat) (0:Int)).length) (eI.encs (ZC2 ((a0.length:Int).toNat) (0:Int))) rfl (by simp) rfl
  refine Zd (v:=v10) rfl (dn (sr (Za (v:=v10) rfl (Za (v:=vI (i10:Int)) rfl ?_))))
  obtain ⟨⟨h12,h13⟩,h⟩:=h
  obtain ⟨Ad13,c14,hv11⟩:=Xz (hC.getM 0 rfl) (ZOj (ZEp _) (show i10 < (ZC2 ((a0.length:Int).toNat) (0:Int)).length by omega))
  refine X6 (i10 * 1) ZLf sc2.size (tr rfl hv11) rfl h12 h13 rfl (Zcc (v:=vI 1) hC 0 [vI 1] (eI.encs ((ZC2 ((a0.length:Int).toNat) (0:Int)).set i10 1)) rfl hv11 sc2.size rfl rfl rfl rfl rfl (by rw [ZYb]; exact Zav (sz:=1) (show i10 < (ZC2 ((a0.length:Int).toNat) (0:Int)).length by omega)) (Zcd _ _ _ (show i10 < (ZC2 ((a0.length:Int).toNat) (0:Int)).length by omega)) fun w12 hC=>?_)
  replace hC:=Y9 hC 0 (((ZC2 ((a0.length:Int).toNat) (0:Int)).set i10 1).length) (eI.encs ((ZC2 ((a0.length:Int).toNat) (0:Int)).set i10 1)) rfl (by simp) rfl
  refine dn (Zh (Za (v:=v12) rfl (Za (v:=u11) rfl (Za (v:=v10) rfl ?_))))
  have hs10:=Xi hC 0 rfl
  replace hC:=hC.thaw 0 rfl (ZKv TInts ((ZC2 ((a0.length:Int).toNat) (0:Int)).set i10 1) [v10] (ZLw (ZD0 v10))) Yv (fun _ hb_=>hb_)
  refine Yh (sz:=1) hC [(0,u11),(1,v10)] [u11,v10] rfl (fun _=>Zzi u11 v10 (Zci (hC.getP 1 rfl)) (Zci (hC.getP 0 rfl)) _) rfl (by decide) fun b12 w13 hB_ hC=>?_
  have hf10:=Xi hC 0 rfl
  replace hC:=hC.joinP 1 0 rfl rfl (ZXs TInts [(a0.getD i10 ZC7),(ZC2 ((a0.length:Int).toNat) (0:Int)).set i10 1] [u11,v10] (fp0++(ZLw (ZD0 v10)))) (fun a_ b_=>Zx1 a_ b_) (fun c_ hc_=>ZDd.1 hc_)
  replace hC:=hC.thaw 0 rfl (own 22 1 (.slice (some ⟨b12,0,none⟩) 2 2) 2 [u11,v10]) id (fun _ hb_=>hb_)
  replace hC:=hC.joinP 0 1 rfl rfl (ZKv (ZNz.sl) [(a0.getD i10 ZC7),(ZC2 ((a0.length:Int).toNat) (0:Int)).set i10 1] [.slice (some ⟨b12,0,none⟩) 2 2] ((ZLw (ZD0 (.slice (some ⟨b12,0,none⟩) 2 2)))++(fp0++(ZLw (ZD0 v10))))) (fun a_ b_=>Za6 a_ b_) (fun c_ hc_=>ZDd.1 hc_)
  have hs17:∀ b,b∈((ZLw (ZD0 (.slice (some ⟨b12,0,none⟩) 2 2)))++(fp0++(ZLw (ZD0 v10))))→w0.heap.size≤b∨b∈(fp0):=(fun b hb=>(ZDd.1 hb).elim (fun hb=>.inl (hf10 b hb)) (fun hb=>(ZDd.1 hb).elim (fun hb=>.inr hb) (fun hb=>.inl (hs10 b hb))))
  refine Zg [.slice (some ⟨b12,0,none⟩) 2 2] _ Tryz.func184 rfl rfl rfl (ZAb [(a0.getD i10 ZC7),(ZC2 ((a0.length:Int).toNat) (0:Int)).set i10 1] h _ (hC.getP 0 rfl)) (fun ret10 w14 hR10=>?_)
  obtain ⟨r11,u10,f14,rfl,h,hr12,hf11,hB10⟩:=hR10
  refine⟨_,rfl,?_⟩
  replace hC:=hC.push hB10 (ZLd (ZTe 2 (eI.tr)) r11 [u10] f14) hr12 hf11
  obtain ⟨ho10,hf12⟩:=Y6 (hC.getM 0 rfl).1
  subst hf12
  replace hC:=hC.recast (c:=own 2 1 u10 r11.length (eI.encs r11)) (fun _ h_=>h_) (fun _=>ho10)
  have hs11:=Xi hC 0 rfl
  replace hC:=hC.thaw 0 rfl (ZKv TInts r11 [u10] (ZLw (ZD0 u10))) Yv (fun _ hb_=>hb_)
  refine Yh (sz:=1) hC [(0,u10)] [u10] rfl (fun _=>Zad u10 (Zci (hC.getP 0 rfl)) _) rfl (by decide) fun b10 w15 hB_ hC=>?_
  have hf13:=Xi hC 0 rfl
  replace hC:=hC.thaw 0 rfl (own 22 1 (.slice (some ⟨b10,0,none⟩) 1 1) 1 [u10]) id (fun _ hb_=>hb_)
  replace hC:=hC.joinP 0 1 rfl rfl (ZKv (ZNz.sl) [r11] [.slice (some ⟨b10,0,none⟩) 1 1] ((ZLw (ZD0 (.slice (some ⟨b10,0,none⟩) 1 1)))++(ZLw (ZD0 u10)))) (fun a_ b_=>Za6 a_ (Zd0 b_)) (fun c_ hc_=>ZDd.1 hc_)
  have hs12:∀ b,b∈((ZLw (ZD0 (.slice (some ⟨b10,0,none⟩) 1 1)))++(ZLw (ZD0 u10)))→w0.heap.size≤b:=(fun b hb=>(ZDd.1 hb).elim (fun hb=>hf13 b hb) (fun hb=>hs11 b hb))
  obtain ⟨cs12,hd10,ha10⟩:=Zes (hC.getP 0 rfl)
  replace hC:=hC.derive 0 rfl (ZXs TInts [r11] cs12 ((ZLw (ZD0 (.slice (some ⟨b10,0,none⟩) 1 1)))++(ZLw (ZD0 u10)))) (fun _=>ha10) (fun _ h_=>h_)
  obtain ⟨hm11,h⟩:=h
  refine Jf hC 0 ZXp J2 rfl (by decide) (by decide) rfl hd10 (fun q_ hq_=>ha10.2.2.1 q_ hq_) rfl rfl hm11 fun v13 w16 hC=>?_
  replace hC:=Y9 hC 0 ((s11++[r11]).length) (cs11++cs12) rfl (by simp) (by simp)
  have hs13:∀ b,b∈(f12++((ZLw (ZD0 (.slice (some ⟨b10,0,none⟩) 1 1)))++(ZLw (ZD0 u10))))→w0.heap.size≤b:=(fun b hb=>(ZDd.1 hb).elim (fun hb=>hq11 b hb) (fun hb=>hs12 b hb))
  replace hC:=hC.joinP 9 0 rfl rfl (ZXs TInts (s11++[r11]) (cs11++cs12) (f12++((ZLw (ZD0 (.slice (some ⟨b10,0,none⟩) 1 1)))++(ZLw (ZD0 u10))))) (fun a_ b_=>Zet a_ b_) (fun c_ hc_=>ZDd.1 hc_)
  refine Zd (v:=v13) rfl (done (Zr (Ze (Zh (Zq rfl rfl (Za (v:=vI (ZFm.wrap ((i10:Int)+1))) rfl (done ?_)))))))
  exact hK11 (s11++[r11]) _ _ ⟨v13,cs11++cs12,(f12++((ZLw (ZD0 (.slice (some ⟨b10,0,none⟩) 1 1)))++(ZLw (ZD0 u10)))),(sl ⟨rfl,rfl,rfl,rfl,rfl,(tr rfl (congrArg _ (Z5 hi11 hN11))),trivial⟩),hs13,(hC.sP [0,11] rfl)⟩ h
 ·clear hC h
  rintro s11 e_ w17 K10 ⟨v12,cs11,f12,hS_,hq11,hC⟩ h
  rw [ue hS_]
  refine sr (Zp rfl rfl (dn (ZKw (Z2 rfl (decide_eq_false (by omega)) ?_))))
  refine ZLa (Zj (Zj (Z0 ?_)))
  refine Ze (sr (Yh (sz:=1) hC [] [] rfl (fun _=>Zak _) rfl (by decide) fun b13 w18 hB_ hC=>?_))
  replace hC:=hC.pushE (ZXs TInts [] [] []) (Znj _ _) rfl
  refine Zd (v:=.slice (some ⟨b13,0,none⟩) 0 0) rfl (dn (ZKw (sr (Za (v:=v12) rfl ?_))))
  refine Zg [v12] _ Z0q rfl rfl rfl (Znx s11 h _ (Za6 (hC.getM 1 rfl) (hC.getP 1 rfl))) (fun ret11 w19 hR11=>?_)
  obtain ⟨r10,u13,f10,rfl,h,hr13,hf14,hB11⟩:=hR11
  refine⟨_,rfl,?_⟩
  replace hC:=hC.push hB11 (ZLd (ZTe 22 (ZTe 2 (eI.tr))) r10 [u13] f10) hr13 hf14
  obtain ⟨Ad14,c15,hv16⟩:=Zdr (hC.getM 0 rfl)
  refine Zt ZXp (tr rfl hv16) (Za (v:=vI 0) rfl (dn (ZK2 ?_)))
  have hs14:=Zai hC 0 rfl
  replace hC:=hC.thaw 0 rfl (ZKv (ZNz.sl) r10 [u13] f10) (fun h_=>ZXr _ h_.1) (fun _ hb_=>hb_)
  have hN10:r10.length≤9223372036854775807:=Y2 (hC.getP 0 rfl)
  refine Yk (S:=(List (List Int))) _ _ (fun i11 s10 e_ w_=>∃ (v11:Value),∃ (cs10:List Value),∃ (f11:List Nat),Zv e_ [(1,vI a1),(10,v11),(38,u13),(39,vI (r10.length:Int)),(40,vI (i11:Int))]∧(∀ b,b∈f11→w0.heap.size≤b)∧Ctx Nox w0 w_ [own 22 1 v11 s10.length cs10] [ZXs TInts s10 cs10 f11,ZKv (ZNz.sl) r10 [u13] f10,ZKv (ZNz.sl) a0 [u0_0] fp0]) r10.length ?_ ?_ (s0:=[]) ?_ h
  ·clear hC h
   rintro i11 s10 e_ w20 nx10 K11 hi10 ⟨v11,cs10,f11,hS_,hq10,hC⟩ h hK10
   rw [ue hS_]
   refine sr (Zp rfl rfl (dn (ZKw (Z6 rfl (decide_eq_true (by omega)) (ZK0 (Ze (ZKw (ZK2 (sr ?_)))))))))
   obtain ⟨Ad15,c16,hv12⟩:=Zx (hC.getP 1 rfl) i11 hi10
   refine Yn (len:=r10.length) ZXp sc22.size (tr rfl hv12) rfl (ZLc _) (ZLv.2 hi10) ?_
   obtain ⟨cs_,hl11,hc11,hr11⟩:=Xh (hC.getP 1 rfl) hv12 i11 hi10
   obtain ⟨u12,rfl⟩:=ZLt.1 hl11
   clear hl11
   rw [Xg _ _ hi10] at hr11
   replace hC:=hC.derive 1 rfl (ZKv TInts (r10.getD i11 ZC7) [u12] f10) (fun _=>hr11) (fun _ hb_=>hb_)
   refine Yo (u12) hc11 sc22 rfl (Zd (v:=u12) rfl (dn (sr (Za (v:=u12) rfl (Za (v:=vI a1) rfl ?_)))))
   obtain ⟨h10,h⟩:=h
   obtain ⟨Ad11,c11,hv13,hcap10⟩:=Zno (hC.getP 0 rfl)
   refine Zyj ZLf sc2.size (tr rfl hv13) rfl h10.1 h10.2 hcap10 ?_
   replace hC:=hC.derive 0 rfl (ZKv TInts ((r10.getD i11 ZC7).take a1.toNat) [(sliced Ad11 0 a1.toNat c11 1)] f10) (fun h_=>Zyh h_ hv13 (show _≤_ by omega) hcap10) (fun _ h_=>h_)
   refine Zg [(sliced Ad11 0 a1.toNat c11 1)] _ Tryz.func83 rfl rfl rfl (Zz9 ((r10.getD i11 ZC7).take a1.toNat) h _ (hC.getP 0 rfl)) (fun ret12 w21 hR12=>?_)
   obtain ⟨r13,rfl,h,hB12⟩:=hR12
   refine⟨_,rfl,?_⟩
   replace hC:=hC.grow hB12
   refine dn ?_
   refine Zs rfl (fun hb10=>?_) (fun hb10=>?_)
   ·replace h:=ift h (hb10)
    refine Zh (Za (v:=v11) rfl (Za (v:=u12) rfl (Za (v:=vI a1) rfl ?_)))
    obtain ⟨h11,h⟩:=h
    obtain ⟨Ad10,c10,hv14,hcap11⟩:=Zno (hC.getP 1 rfl)
    refine Znp ZLf sc2.size (tr rfl hv14) rfl h11.1 h11.2 ?_
    replace hC:=hC.derive 1 rfl (ZKv TInts ((r10.getD i11 ZC7).drop a1.toNat) [(sliced Ad10 a1.toNat ((r10.getD i11 ZC7).length) c10 1)] f10) (fun h_=>Znn h_ hv14 (show _≤_ by omega) hcap11) (fun _ h_=>h_)
    refine Yh (sz:=1) hC [(0,(sliced Ad10 a1.toNat ((r10.getD i11 ZC7).length) c10 1))] [(sliced Ad10 a1.toNat ((r10.getD i11 ZC7).length) c10 1)] rfl (fun _=>Zad (sliced Ad10 a1.toNat ((r10.getD i11 ZC7).length) c10 1) (Zci (hC.getP 0 rfl)) _) rfl (by decide) fun b11 w22 hB_ hC=>?_
    have hf15:=Xi hC 0 rfl
    replace hC:=hC.thaw 0 rfl (own 22 1 (.slice (some ⟨b11,0,none⟩) 1 1) 1 [(sliced Ad10 a1.toNat ((r10.getD i11 ZC7).length) c10 1)]) id (fun _ hb_=>hb_)
    replace hC:=hC.joinP 0 1 rfl rfl (ZKv (ZNz.sl) [(r10.getD i11 ZC7).drop a1.toNat] [.slice (some ⟨b11,0,none⟩) 1 1] ((ZLw (ZD0 (.slice (some ⟨b11,0,none⟩) 1 1)))++f10)) (fun a_ b_=>Za6 a_ (Zd0 b_)) (fun c_ hc_=>ZDd.1 hc_)
    have hs15:∀ b,b∈((ZLw (ZD0 (.slice (some ⟨b11,0,none⟩) 1 1)))++f10)→w0.heap.size≤b:=(fun b hb=>(ZDd.1 hb).elim (fun hb=>hf15 b hb) (fun hb=>hs14 b hb))
    obtain ⟨cs13,hd11,ha11⟩:=Zes (hC.getP 0 rfl)
    replace hC:=hC.derive 0 rfl (ZXs TInts [(r10.getD i11 ZC7).drop a1.toNat] cs13 ((ZLw (ZD0 (.slice (some ⟨b11,0,none⟩) 1 1)))++f10)) (fun _=>ha11) (fun _ h_=>h_)
    obtain ⟨hm12,h⟩:=h
    refine Jf hC 0 ZXp J2 rfl (by decide) (by decide) rfl hd11 (fun q_ hq_=>ha11.2.2.1 q_ hq_) rfl rfl hm12 fun v14 w23 hC=>?_
    replace hC:=Y9 hC 0 ((s10++[(r10.getD i11 ZC7).drop a1.toNat]).length) (cs10++cs13) rfl (by simp) (by simp)
    have hs16:∀ b,b∈(f11++((ZLw (ZD0 (.slice (some ⟨b11,0,none⟩) 1 1)))++f10))→w0.heap.size≤b:=(fun b hb=>(ZDd.1 hb).elim (fun hb=>hq10 b hb) (fun hb=>hs15 b hb))
    replace hC:=hC.joinP 6 0 rfl rfl (ZXs TInts (s10++[(r10.getD i11 ZC7).drop a1.toNat]) (cs10++cs13) (f11++((ZLw (ZD0 (.slice (some ⟨b11,0,none⟩) 1 1)))++f10))) (fun a_ b_=>Zet a_ b_) (fun c_ hc_=>ZDd.1 hc_)
    refine Zd (v:=v14) rfl (done (Zr (Ze (Zh (Zq rfl rfl (Za (v:=vI (ZFm.wrap ((i11:Int)+1))) rfl (done ?_)))))))
    exact hK10 (s10++[(r10.getD i11 ZC7).drop a1.toNat]) _ _ ⟨v14,cs10++cs13,(f11++((ZLw (ZD0 (.slice (some ⟨b11,0,none⟩) 1 1)))++f10)),(sl ⟨rfl,rfl,rfl,rfl,(tr rfl (congrArg _ (Z5 hi10 hN10))),trivial⟩),hs16,(hC.sP [0,8,9] rfl)⟩ h
   ·replace h:=Zl h (Y4 hb10)
    refine ZK0 (Zr (Ze (Zh (Zq rfl rfl (Za (v:=vI (ZFm.wrap ((i11:Int)+1))) rfl (done ?_))))))
    exact hK10 s10 _ _ ⟨v11,cs10,f11,(sl ⟨rfl,rfl,rfl,rfl,(tr rfl (congrArg _ (Z5 hi10 hN10))),trivial⟩),hq10,(hC.sP [2,3,4] rfl)⟩ h
  ·clear hC h
   rintro s10 e_ w24 K11 ⟨v11,cs10,f11,hS_,hq10,hC⟩ h
   rw [ue hS_]
   refine sr (Zp rfl rfl (dn (ZKw (Z2 rfl (decide_eq_false (by omega)) ?_))))
   refine ZLa (Zj (Zj (Z0 ?_)))
   refine Ze (sr (Za (v:=v11) rfl ?_))
   refine Zg [v11] _ Z0q rfl rfl rfl (Znx s10 h _ (Za6 (hC.getM 0 rfl) (hC.getP 0 rfl))) (fun ret13 w25 hR13=>?_)
   obtain ⟨r12,u14,f13,rfl,h,hr14,hf16,hB13⟩:=hR13
   refine⟨_,rfl,?_⟩
   replace hC:=hC.push hB13 (ZLd (ZTe 22 (ZTe 2 (eI.tr))) r12 [u14] f13) hr14 hf16
   refine Zd (v:=u14) rfl (dn (ZK4 ?_))
   have hf17:=Xi hC 1 rfl
   replace hC:=hC.thaw 1 rfl (own 22 1 v11 s10.length cs10) id (fun _ hb_=>hb_)
   replace hC:=hC.joinP 0 1 rfl rfl (ZKv (ZNz.sl) s10 [v11] ((ZLw (ZD0 v11))++f11)) (fun a_ b_=>Za6 a_ b_) (fun c_ hc_=>ZDd.1 hc_)
   have hs18:∀ b,b∈((ZLw (ZD0 v11))++f11)→w0.heap.size≤b:=(fun b hb=>(ZDd.1 hb).elim (fun hb=>hf17 b hb) (fun hb=>hq10 b hb))
   refine Zi (fn:=Tryz.f136) rfl ?_ ⟨r12,u14,f13,rfl,h,(hC.getM 0 rfl),(Zai hC 0 rfl),hC.below⟩ (.inl rfl)
   exact Zf rfl
  ·skip
   exact⟨.slice (some ⟨b13,0,none⟩) 0 0,[],[],(sl ⟨rfl,rfl,rfl,rfl,rfl,trivial⟩),(fun b hb=>absurd hb (by simp)),((hC.xM [0] rfl).sP [1,0,3] rfl)⟩
 ·skip
  exact⟨.slice (some ⟨b5,0,none⟩) 0 0,[],[],(sl ⟨rfl,rfl,rfl,rfl,rfl,rfl,trivial⟩),(fun b hb=>absurd hb (by simp)),hC⟩
def Zdi (C:Cx) (a0:Alg) (a1:Int) (a2:Int) (a3:Int) (K:List (List Int)→Prop):Prop :=
 (if a3 < 0 then K [] else(Zks C a0 a3∧(Zcr C a0.degrees (ZFm.wrap (a3+1))∧Zd1 (⟨C.LV (ZFm.wrap (a3+1)),C.PL (ZFm.wrap (a3+1))⟩:ZZ9) (ZFm.wrap (a2+a1)) (fun r12=>Zd1 (⟨C.LV a3,C.PL a3⟩:ZZ9) a2 (fun r11=>Yc (fun i10 (s10:(List Int)×(List (List Int))×Int) nx10=>(if¬ ((r11.getD i10 ZC7)=true) then nx10 (s10.1,s10.2.1,s10.2.2) else(Zy (s10.1.length+1) 8∧((0≤(i10:Int)∧(i10:Int) < ((C.MX a3).length:Int))∧Yc (fun i12 (s11:(List Int)) nx11=>((0≤(i12:Int)∧(i12:Int) < (r12.length:Int))∧(if¬ ((r12.getD i12 ZC7)=true) then(Zy (s11.length+1) 8∧nx11 (s11++[((C.MX a3).getD i10 ZC7).getD i12 ZC7])) else nx11 s11))) (fun (s11:(List Int))=>(Zy (s10.2.1.length+1) 24∧nx10 (s10.1++[(i10:Int)],s10.2.1++[s11],(s11.length:Int)))) (((C.MX a3).getD i10 ZC7).length) 0 [])))) (fun (s10:(List Int)×(List (List Int))×Int)=>Zit s10.2.1 s10.2.2 (fun r10=>Yc (fun i13 (s13:(List (List Int))) nx12=>((0≤((C.LV a3).length:Int)∧((C.LV a3).length:Int) * 8≤281474976710656)∧Yc (fun i11 (s12:(List Int)) nx13=>((0≤(i11:Int)∧(i11:Int) < (s10.1.length:Int))∧((0≤s10.1.getD i11 ZC7∧s10.1.getD i11 ZC7 < (s12.length:Int))∧nx13 (s12.set ((s10.1.getD i11 ZC7).toNat) ((r10.getD i13 ZC7).getD i11 ZC7))))) (fun (s12:(List Int))=>(Zy (s13.length+1) 24∧nx12 (s13++[s12]))) ((r10.getD i13 ZC7).length) 0 (ZC2 (((C.LV a3).length:Int).toNat) (0:Int)))) (fun (s13:(List (List Int)))=>K s13) r10.length 0 [])) r11.length 0 ([],[],0))))))
theorem Zk3 (C:Cx) (a0:Alg) (a1:Int) (a2:Int) (a3:Int)  {K:List (List Int)→Prop} (h:Zdi C a0 a1 a2 a3 K) (w0:World) (q0:TAlg.rep a0 [u0_0,u0_1] fp0 w0) (qb0:(blk b0 32 [u0_0,u0_1]).holds w0) (qbp0:(blk bp0 198 [vQ b0,.map (some mb0)]).holds w0) (qx0:(cpx C 125 mb0 D0 F0).holds w0) (dq0:∀ b,b∈fp0→b∉(cpx C 125 mb0 D0 F0).fp) (db0:b0∉(cpx C 125 mb0 D0 F0).fp) (dbp0:bp0∉(cpx C 125 mb0 D0 F0).fp) :
  Calls ZKz 117 #[vQ bp0,vI a1,vI a2,vI a3] w0 fun e w'=>∃ (r0:List (List Int)) (z0_0:Value) (fz0:List Nat) (Dz:List Lev) (Fz:List Nat),
   e=.returned (z0_0)∧K r0∧(ZLd (ZTe 22 (ZTe 2 (eI.tr))) r0 [z0_0] fz0).holds w'∧(∀ b,b∈fz0→w0.heap.size≤b∨b∈(cpx C 125 mb0 D0 F0).fp)∧(∀ b,b∈fz0→b∉(cpx C 125 mb0 Dz Fz).fp)∧CpLe D0 Dz F0 Fz∧(cpx C 125 mb0 Dz Fz).holds w'∧(∀ x,x∈(cpx C 125 mb0 Dz Fz).fp→x∈(cpx C 125 mb0 D0 F0).fp∨w0.heap.size≤x)∧BelO ((cpx C 125 mb0 D0 F0).fp) w0 w':=by
 unfold Zdi at h
 refine cof Z0l rfl 124 Tryz.ntmps117 ?_
 have hC:=Z0p w0 ((cpx C 125 mb0 D0 F0).fp) [cpx C 125 mb0 D0 F0] [ZKv TAlg a0 [u0_0,u0_1] fp0,blk b0 32 [u0_0,u0_1],blk bp0 198 [vQ b0,.map (some mb0)]] (al1 qx0) (alc q0 (alc qb0 (al1 qbp0))) (al1 (fun b_ hb_=>hb_)) (ZYi _ _) (alc (fun b_ hb_=>dq0 b_ hb_) (alc (Zdt db0) (al1 (Zdt dbp0))))
 replace hC:=hC.dAlg 0 rfl
 refine sr (Zd (v:=.slice none 0 0) rfl (dn (ZKw (sr (Za (v:=vI a3) rfl (Zp rfl rfl (dn ?_)))))))
 refine Zs rfl (fun hb7=>?_) (fun hb7=>?_)
 ·replace h:=ift h (ct hb7)
  refine sr (Zd (v:=.slice none 0 0) rfl (dn ?_))
  refine ZK4 (Zn ?_)
  refine Zi (fn:=Tryz.f117) rfl ?_ ⟨[],.slice none 0 0,[],D0,F0,rfl,h,(Zfh _ _ _),(fun b hb=>absurd hb (by simp)),(fun x_ hx_=>absurd hx_ (by simp)),(CpLe.refl _ _),(hC.getM 0 rfl),(fun x_ hx_=>(hC.anyX 0 rfl x_ hx_).symm),hC.belO⟩ (.inl rfl)
  exact Zf rfl
 ·replace h:=Zl h (cf hb7)
  refine ZK0 (Ze (sr (Za (v:=vQ bp0) rfl (Za (v:=vI a3) rfl ?_))))
  obtain ⟨ho10,h⟩:=h
  refine Zg [vQ bp0,vI a3] _ Tryz.func135 rfl rfl rfl (Zzf C a0 a3 ho10 _ (Yp (hC.getP 1 rfl) (hC.getP 0 rfl)) (hC.getP 3 rfl) (hC.getP 4 rfl) (hC.getM 0 rfl) (fun b_ hb hb2_=>(ZDd.1 hb).elim (fun hb=>hC.pd _ (List.mem_of_getElem? (i:=1) rfl) b_ hb _ (List.mem_of_getElem? (i:=0) rfl) hb2_) (fun hb=>hC.pd _ (List.mem_of_getElem? (i:=0) rfl) b_ hb _ (List.mem_of_getElem? (i:=0) rfl) hb2_)) (fun hx_=>hC.pd _ (List.mem_of_getElem? (i:=3) rfl) _ (ZTj _) _ (List.mem_of_getElem? (i:=0) rfl) hx_) (fun hx_=>hC.pd _ (List.mem_of_getElem? (i:=4) rfl) _ (ZTj _) _ (List.mem_of_getElem? (i:=0) rfl) hx_)) (fun ret8 w10 hR9=>?_)
  obtain ⟨b10,D11,F12,rfl,hat19,hle13,hx14,hf10,hB10⟩:=hR9
  refine⟨_,rfl,?_⟩
  replace hC:=hC.turnI 0 rfl hB10 hx14 hf10
  refine Za (v:=vQ bp0) rfl (Za (v:=vI a3) rfl (Zq rfl rfl ?_))
  obtain ⟨ho11,h⟩:=h
  refine Zg [vQ bp0,vI (ZFm.wrap (a3+1))] _ Z0r rfl rfl rfl (Zia C a0 (ZFm.wrap (a3+1)) ho11 _ (Yp (hC.getP 1 rfl) (hC.getP 0 rfl)) (hC.getP 3 rfl) (hC.getP 4 rfl) (hC.getM 0 rfl) (fun b_ hb hb2_=>(ZDd.1 hb).elim (fun hb=>hC.pd _ (List.mem_of_getElem? (i:=1) rfl) b_ hb _ (List.mem_of_getElem? (i:=0) rfl) hb2_) (fun hb=>hC.pd _ (List.mem_of_getElem? (i:=0) rfl) b_ hb _ (List.mem_of_getElem? (i:=0) rfl) hb2_)) (fun hx_=>hC.pd _ (List.mem_of_getElem? (i:=3) rfl) _ (ZTj _) _ (List.mem_of_getElem? (i:=0) rfl) hx_) (fun hx_=>hC.pd _ (List.mem_of_getElem? (i:=4) rfl) _ (ZTj _) _ (List.mem_of_getElem? (i:=0) rfl) hx_)) (fun ret10 w11 hR10=>?_)
  obtain ⟨b15,D23,F24,rfl,hat31,hle25,hx26,hf11,hB11⟩:=hR10
  refine⟨_,rfl,?_⟩
  replace hC:=hC.turnI 0 rfl (hB11.belO Zb6) hx26 hf11
  refine Zd (v:=vvP b10) rfl (Zd (v:=vvP b15) rfl (dn (sr (Za (v:=vvP b15) rfl (Za (v:=vI a2) rfl (Za (v:=vI a1) rfl (Zq rfl rfl ?_)))))))
  obtain ⟨u17,u18,u19,u20,u21,u22,hq10,hb12⟩:=Zfx (hC.getM 0 rfl) hat31
  refine Zg [vvP b15,vI (ZFm.wrap (a2+a1))] _ Z0s rfl rfl rfl (Zkq (⟨C.LV (ZFm.wrap (a3+1)),C.PL (ZFm.wrap (a3+1))⟩:ZZ9) (ZFm.wrap (a2+a1)) h _ hq10 hb12) (fun ret11 w12 hR11=>?_)
  obtain ⟨r12,u10,f13,rfl,h,hr12,hf12,hB12⟩:=hR11
  refine⟨_,rfl,?_⟩
  replace hC:=hC.push hB12 (ZLd (ZTe 4 EB.tr) r12 [u10] f13) hr12 hf12
  obtain ⟨ho12,hf13⟩:=Y6 (hC.getM 0 rfl).1
  subst hf13
  replace hC:=hC.recast (c:=own 4 1 u10 r12.length (EB.encs r12)) (fun _ h_=>h_) (fun _=>ho12)
  refine Yh (sz:=1) hC [] (eI.encs []) rfl (fun _=>Zzj  _) rfl (by decide) fun b16 w13 hB_ hC=>Zd (v:=u10) rfl (Zd (v:=.slice (some ⟨b16,0,none⟩) 0 0) rfl (dn (sr (Yh (sz:=1) hC [] [] rfl (fun _=>Zak _) rfl (by decide) fun b13 w14 hB_ hC=>?_))))
  replace hC:=hC.pushM0 (Ya (ZTe 2 (eI.tr)) ([]:List (List Int)) [] []) (Jb _ _) rfl
  replace hC:=hC.gather (c:=ZLd (ZTe 22 (ZTe 2 (eI.tr))) [] [.slice (some ⟨b13,0,none⟩) 0 0] ((ZLw (ZD0 (.slice (some ⟨b13,0,none⟩) 0 0)))++([]:List (List Nat)).flatten)) (fun x_ hx_=>(ZDd.1 hx_).symm) (fun h1_ h2_ hd_=>X3 h2_ h1_ (fun b_ hb_ hb2_=>hd_ b_ hb2_ hb_))
  refine Zd (v:=.slice (some ⟨b13,0,none⟩) 0 0) rfl (Zd (v:=vI 0) rfl (dn (ZKw (sr (Za (v:=vvP b10) rfl (Za (v:=vI a2) rfl ?_))))))
  obtain ⟨u23,u24,u25,u26,u27,u28,hq11,hb13⟩:=Zfx (hC.getM 3 rfl) (hat19.up hle25)
  refine Zg [vvP b10,vI a2] _ Z0s rfl rfl rfl (Zkq (⟨C.LV a3,C.PL a3⟩:ZZ9) a2 h _ hq11 hb13) (fun ret12 w15 hR12=>?_)
  obtain ⟨r11,u11,f14,rfl,h,hr13,hf14,hB13⟩:=hR12
  refine⟨_,rfl,?_⟩
  replace hC:=hC.push hB13 (ZLd (ZTe 4 EB.tr) r11 [u11] f14) hr13 hf14
  obtain ⟨ho13,hf15⟩:=Y6 (hC.getM 0 rfl).1
  subst hf15
  replace hC:=hC.recast (c:=own 4 1 u11 r11.length (EB.encs r11)) (fun _ h_=>h_) (fun _=>ho13)
  obtain ⟨Ad10,c10,hv18⟩:=X1 (hC.getM 0 rfl)
  refine Zt Z0k (tr rfl hv18) (Za (v:=vI 0) rfl (dn (ZK2 ?_)))
  have hz83:=hC.anyX 4 rfl
  replace hC:=hC.thaw 4 rfl (cpx C 125 mb0 D23 F24) id (fun _ hb_=>hb_)
  have hN10:r11.length≤9223372036854775807:=Zdm (hC.getM 0 rfl)
  refine Yk (S:=(List Int)×(List (List Int))×Int) _ _ (fun i10 s10 e_ w_=>∃ (v12:Value),∃ (v13:Value),∃ (f10:List Nat),Zv e_ [(9,vvP b10),(11,u10),(12,v12),(13,v13),(14,vI s10.2.2),(44,u11),(45,vI (r11.length:Int)),(46,vI (i10:Int))]∧Ctx (fun c_=>c_∈(cpx C 125 mb0 D0 F0).fp) w0 w_ [own 4 1 u11 r11.length (EB.encs r11),ZLd (ZTe 22 (ZTe 2 (eI.tr))) s10.2.1 [v13] f10,own 3 1 v12 s10.1.length (eI.encs s10.1),own 4 1 u10 r12.length (EB.encs r12)] [cpx C 125 mb0 D23 F24,ZKv TForm.sl a0.images [u0_1] fp0,ZKv TInts a0.degrees [u0_0] fp0,ZKv TAlg a0 [u0_0,u0_1] fp0,blk b0 32 [u0_0,u0_1],blk bp0 198 [vQ b0,.map (some mb0)]]) r11.length ?_ ?_ (s0:=([],[],0)) ?_ h
  ·clear hC h
   rintro i10 s10 e_ w16 nx10 K10 hi10 ⟨v12,v13,f10,hS_,hC⟩ h hK10
   rw [ue hS_]
   refine sr (Zp rfl rfl (dn (ZKw (Z6 rfl (decide_eq_true (by omega)) (ZK0 (Ze (ZKw (ZK2 (sr (Za (v:=vI (i10:Int)) rfl ?_))))))))))
   obtain ⟨Ad11,c11,hv10⟩:=Xz (hC.getM 0 rfl) (ZOj (ZEp _) hi10)
   refine X6 (i10 * 1) Z0k sc4.size (tr rfl hv10) rfl (ZLc _) (ZLv.2 hi10) rfl (Yo (.bool (r11.getD i10 ZC7)) (Zah (hC.getM 0 rfl) hv10 i10 hi10) sc4 rfl (Zd (v:=vI (i10:Int)) rfl (Zd (v:=.bool (r11.getD i10 ZC7)) rfl (dn (ZKw (sr (Za (v:=.bool (r11.getD i10 ZC7)) rfl (Xe rfl (dn ?_)))))))))
   refine Zs rfl (fun hb10=>?_) (fun hb10=>?_)
   ·replace h:=ift h (Y4 (Xj hb10))
    refine ZLa (Zj (Z0 ?_))
    refine Ze (Zh (Zq rfl rfl (Za (v:=vI (ZFm.wrap ((i10:Int)+1))) rfl (done ?_))))
    exact hK10 (s10.1,s10.2.1,s10.2.2) _ _ ⟨v12,v13,f10,(sl ⟨rfl,rfl,rfl,rfl,rfl,rfl,rfl,(tr rfl (congrArg _ (Z5 hi10 hN10))),trivial⟩),hC⟩ h
   ·replace h:=Zl h (not_not_intro ((Xk hb10)))
    refine ZK0 (Ze (sr (Za (v:=v12) rfl (Za (v:=vI (i10:Int)) rfl (Yh (sz:=1) hC [(0,vI (i10:Int))] (eI.encs [(i10:Int)]) rfl (fun _=>Zzk (i10:Int) _) rfl (by decide) fun b18 w17 hB_ hC=>?_)))))
    obtain ⟨hm11,h⟩:=h
    refine Jf hC 3 Tryz.underlying200 el3 rfl (by decide) (by decide) rfl (Zag (hC.getM 0 rfl)) (fun q hq=>ZL1 (E:=eI) _ q hq) rfl rfl hm11 fun v15 w18 hC=>?_
    replace hC:=Y9 hC 3 ((s10.1++[(i10:Int)]).length) (eI.encs (s10.1++[(i10:Int)])) rfl (by simp) (by first | (simp [ZLo]; done) | simp [ZLo,ZTn])
    refine Zd (v:=v15) rfl (dn (sr (Yh (sz:=1) hC [] (eI.encs []) rfl (fun _=>Zdg  _) rfl (by decide) fun b17 w19 hB_ hC=>Zd (v:=.slice (some ⟨b17,0,none⟩) 0 0) rfl (dn (ZKw (sr (Za (v:=vvP b10) rfl (Xl rfl (Z1 2 Tryz.underlying125 rfl sc85.size rfl rfl ?_)))))))))
    obtain ⟨u29,u30,u15,u31,u32,u33,hb14,hr19,hr14,hr20⟩:=Zq8 (hC.getP 0 rfl) (hat19.up hle25)
    have hr15:=hr14 rfl
    refine Yo (u15) (Za4 (off:=2) (sz:=1) hb14 rfl) sc85 rfl ?_
    replace hC:=hC.derive 0 rfl (ZKv (ZNz.sl) (C.MX a3) [u15] F24) (fun _=>hr15) (fun _ h_=>Zkp h_)
    refine Za (v:=vI (i10:Int)) rfl ?_
    obtain ⟨⟨h10,h11⟩,h⟩:=h
    obtain ⟨Ad12,c12,hv11⟩:=Zx (hC.getP 0 rfl) i10 (show i10 < (C.MX a3).length by omega)
    refine Yn (len:=(C.MX a3).length) ZXp sc22.size (tr rfl hv11) rfl h10 h11 ?_
    obtain ⟨cs_,hl10,hc10,hr10⟩:=Xh (hC.getP 0 rfl) hv11 i10 (show i10 < (C.MX a3).length by omega)
    obtain ⟨u14,rfl⟩:=ZLt.1 hl10
    clear hl10
    rw [Xg _ _ (show i10 < (C.MX a3).length by omega)] at hr10
    replace hC:=hC.derive 0 rfl (ZKv TInts ((C.MX a3).getD i10 ZC7) [u14] F24) (fun _=>hr10) (fun _ hb_=>hb_)
    refine Yo (u14) hc10 sc22 rfl ?_
    obtain ⟨Ad13,c13,hv19⟩:=Zu (hC.getP 0 rfl)
    refine Zt ZLf (tr rfl hv19) (Za (v:=vI 0) rfl (dn (ZK2 ?_)))
    have hN11:((C.MX a3).getD i10 ZC7).length≤9223372036854775807:=Y2 (hC.getP 0 rfl)
    refine Yk (S:=(List Int)) _ _ (fun i12 s11 e_ w_=>∃ (v10:Value),Zv e_ [(9,vvP b10),(11,u10),(12,v15),(13,v13),(17,v10),(44,u11),(45,vI (r11.length:Int)),(46,vI (i10:Int)),(64,u14),(65,vI (((C.MX a3).getD i10 ZC7).length:Int)),(66,vI (i12:Int))]∧Ctx (fun c_=>c_∈(cpx C 125 mb0 D0 F0).fp) w0 w_ [own 2 1 v10 s11.length (eI.encs s11),own 4 1 u11 r11.length (EB.encs r11),ZLd (ZTe 22 (ZTe 2 (eI.tr))) s10.2.1 [v13] f10,own 3 1 v15 ((s10.1++[(i10:Int)]).length) (eI.encs (s10.1++[(i10:Int)])),own 4 1 u10 r12.length (EB.encs r12)] [ZKv TInts ((C.MX a3).getD i10 ZC7) [u14] F24,cpx C 125 mb0 D23 F24,ZKv TForm.sl a0.images [u0_1] fp0,ZKv TInts a0.degrees [u0_0] fp0,ZKv TAlg a0 [u0_0,u0_1] fp0,blk b0 32 [u0_0,u0_1],blk bp0 198 [vQ b0,.map (some mb0)]]) (((C.MX a3).getD i10 ZC7).length) ?_ ?_ (s0:=[]) ?_ h
    ·clear hC h
     rintro i12 s11 e_ w20 nx11 K11 hi11 ⟨v10,hS_,hC⟩ h hK11
     rw [ue hS_]
     refine sr (Zp rfl rfl (dn (ZKw (Z6 rfl (decide_eq_true (by omega)) (ZK0 (Ze (ZKw (ZK2 (sr (Za (v:=vI (i12:Int)) rfl ?_))))))))))
     obtain ⟨Ad14,c14,hv12⟩:=Zx (hC.getP 0 rfl) i12 hi11
     refine Yn (len:=((C.MX a3).getD i10 ZC7).length) ZLf sc2.size (tr rfl hv12) rfl (ZLc _) (ZLv.2 hi11) (Yo (vI (((C.MX a3).getD i10 ZC7).getD i12 ZC7)) (Ye (hC.getP 0 rfl) hv12 i12 hi11) sc2 rfl (Zd (v:=vI (i12:Int)) rfl (Zd (v:=vI (((C.MX a3).getD i10 ZC7).getD i12 ZC7)) rfl (dn (sr (Za (v:=u10) rfl (Za (v:=vI (i12:Int)) rfl ?_)))))))
     obtain ⟨⟨h12,h13⟩,h⟩:=h
     obtain ⟨Ad15,c15,hv13⟩:=Xz (hC.getM 4 rfl) (ZOj (ZEp _) (show i12 < r12.length by omega))
     refine X6 (i12 * 1) Z0k sc4.size (tr rfl hv13) rfl h12 h13 rfl (Yo (.bool (r12.getD i12 ZC7)) (Zah (hC.getM 4 rfl) hv13 i12 (show i12 < r12.length by omega)) sc4 rfl (Xe rfl (dn ?_)))
     refine Zs rfl (fun hb11=>?_) (fun hb11=>?_)
     ·replace h:=ift h (Y4 (Xj hb11))
      refine Zh (Za (v:=v10) rfl (Za (v:=vI (((C.MX a3).getD i10 ZC7).getD i12 ZC7)) rfl (Yh (sz:=1) hC [(0,vI (((C.MX a3).getD i10 ZC7).getD i12 ZC7))] (eI.encs [((C.MX a3).getD i10 ZC7).getD i12 ZC7]) rfl (fun _=>Zib (((C.MX a3).getD i10 ZC7).getD i12 ZC7) _) rfl (by decide) fun b19 w21 hB_ hC=>?_)))
      obtain ⟨hm12,h⟩:=h
      refine Jf hC 1 ZLf el2 rfl (by decide) (by decide) rfl (Zag (hC.getM 0 rfl)) (fun q hq=>ZL1 (E:=eI) _ q hq) rfl rfl hm12 fun v16 w22 hC=>?_
      replace hC:=Y9 hC 1 ((s11++[((C.MX a3).getD i10 ZC7).getD i12 ZC7]).length) (eI.encs (s11++[((C.MX a3).getD i10 ZC7).getD i12 ZC7])) rfl (by simp) (by first | (simp [ZLo]; done) | simp [ZLo,ZTn])
      refine Zd (v:=v16) rfl (done (Zr (Ze (Zh (Zq rfl rfl (Za (v:=vI (ZFm.wrap ((i12:Int)+1))) rfl (done ?_)))))))
      exact hK11 (s11++[((C.MX a3).getD i10 ZC7).getD i12 ZC7]) _ _ ⟨v16,(sl ⟨rfl,rfl,rfl,rfl,rfl,rfl,rfl,rfl,rfl,rfl,(tr rfl (congrArg _ (Z5 hi11 hN11))),trivial⟩),(hC.xM [1,2,3,4,5] rfl)⟩ h
     ·replace h:=Zl h (not_not_intro ((Xk hb11)))
      refine ZK0 (Zr (Ze (Zh (Zq rfl rfl (Za (v:=vI (ZFm.wrap ((i12:Int)+1))) rfl (done ?_))))))
      exact hK11 s11 _ _ ⟨v10,(sl ⟨rfl,rfl,rfl,rfl,rfl,rfl,rfl,rfl,rfl,rfl,(tr rfl (congrArg _ (Z5 hi11 hN11))),trivial⟩),hC⟩ h
    ·clear hC h
     rintro s11 e_ w23 K11 ⟨v10,hS_,hC⟩ h
     rw [ue hS_]
     refine sr (Zp rfl rfl (dn (ZKw (Z2 rfl (decide_eq_false (by omega)) ?_))))
     refine ZLa (Zj (Zj (Z0 ?_)))
     refine Ze (sr (Za (v:=v10) rfl ?_))
     obtain ⟨Ad16,c16,hv20⟩:=X1 (hC.getM 0 rfl)
     refine Zt ZLf (tr rfl hv20) (Zd (v:=vI (s11.length:Int)) rfl (dn (Zh (Za (v:=v13) rfl (Za (v:=v10) rfl (Yh (sz:=1) hC [(0,v10)] [v10] rfl (fun _=>Zad v10 (Zbc (hC.getM 0 rfl)) _) rfl (by decide) fun b11 w24 hB_ hC=>?_))))))
     replace hC:=hC.pushM0 (Ya (ZTe 2 (eI.tr)) [] [] []) (Jb _ _) rfl
     replace hC:=hC.sM [2,0,1,3,4,5,6] (M':=[own 2 1 v10 s11.length (eI.encs s11),Ya (ZTe 2 (eI.tr)) [] [] [],own 22 1 (.slice (some ⟨b11,0,none⟩) 1 1) 1 [v10],own 4 1 u11 r11.length (EB.encs r11),ZLd (ZTe 22 (ZTe 2 (eI.tr))) s10.2.1 [v13] f10,own 3 1 v15 ((s10.1++[(i10:Int)]).length) (eI.encs (s10.1++[(i10:Int)])),own 4 1 u10 r12.length (EB.encs r12)]) (by decide) rfl
     replace hC:=hC.gather (c:=Ya (ZTe 2 (eI.tr)) [s11] [v10] [(ZLw (ZD0 v10))]) (fun x_ hx_=>Zbk hx_) (fun h1_ h2_ hd_=>Zbb (c:=[v10]) (id (Xq h1_)) h2_ hd_)
     replace hC:=hC.sM [1,0,2,3,4,5] (M':=[own 22 1 (.slice (some ⟨b11,0,none⟩) 1 1) 1 [v10],Ya (ZTe 2 (eI.tr)) [s11] [v10] [(ZLw (ZD0 v10))],own 4 1 u11 r11.length (EB.encs r11),ZLd (ZTe 22 (ZTe 2 (eI.tr))) s10.2.1 [v13] f10,own 3 1 v15 ((s10.1++[(i10:Int)]).length) (eI.encs (s10.1++[(i10:Int)])),own 4 1 u10 r12.length (EB.encs r12)]) (by decide) rfl
     replace hC:=hC.gather (c:=ZLd (ZTe 22 (ZTe 2 (eI.tr))) [s11] [.slice (some ⟨b11,0,none⟩) 1 1] ((ZLw (ZD0 (.slice (some ⟨b11,0,none⟩) 1 1)))++([(ZLw (ZD0 v10))]:List (List Nat)).flatten)) (fun x_ hx_=>ZDd.1 hx_) (fun h1_ h2_ hd_=>X3 h1_ h2_ hd_)
     replace hC:=hC.sM [2,0,1,3,4] (M':=[ZLd (ZTe 22 (ZTe 2 (eI.tr))) s10.2.1 [v13] f10,ZLd (ZTe 22 (ZTe 2 (eI.tr))) [s11] [.slice (some ⟨b11,0,none⟩) 1 1] ((ZLw (ZD0 (.slice (some ⟨b11,0,none⟩) 1 1)))++([(ZLw (ZD0 v10))]:List (List Nat)).flatten),own 4 1 u11 r11.length (EB.encs r11),own 3 1 v15 ((s10.1++[(i10:Int)]).length) (eI.encs (s10.1++[(i10:Int)])),own 4 1 u10 r12.length (EB.encs r12)]) (by decide) rfl
     obtain ⟨hm13,h⟩:=h
     refine Za8 hC ZXp J2 rfl (by decide) (by decide) rfl rfl hm13 fun v17 f15 w25 hC=>Zd (v:=v17) rfl (done (Zr (Ze (Zh (Zq rfl rfl (Za (v:=vI (ZFm.wrap ((i10:Int)+1))) rfl (done ?_)))))))
     exact hK10 (s10.1++[(i10:Int)],s10.2.1++[s11],(s11.length:Int)) _ _ ⟨v15,v17,f15,(sl ⟨rfl,rfl,rfl,rfl,rfl,rfl,rfl,(tr rfl (congrArg _ (Z5 hi10 hN10))),trivial⟩),((hC.xM [1,0,2,3] rfl).sP [1,2,3,4,5,6] rfl)⟩ h
    ·skip
     exact⟨.slice (some ⟨b17,0,none⟩) 0 0,(sl ⟨rfl,rfl,rfl,rfl,rfl,rfl,rfl,rfl,rfl,rfl,rfl,trivial⟩),((hC.xM [0,2,3,4,5] rfl).sP [0,2,3,4,5,6,7] rfl)⟩
  ·clear hC h
   rintro s10 e_ w26 K10 ⟨v12,v13,f10,hS_,hC⟩ h
   rw [ue hS_]
   refine sr (Zp rfl rfl (dn (ZKw (Z2 rfl (decide_eq_false (by omega)) ?_))))
   refine ZLa (Zj (Zj (Z0 ?_)))
   refine Ze (sr (Yh (sz:=1) hC [] [] rfl (fun _=>Zak _) rfl (by decide) fun b14 w27 hB_ hC=>?_))
   replace hC:=hC.pushM0 (Ya (ZTe 2 (eI.tr)) ([]:List (List Int)) [] []) (Jb _ _) rfl
   replace hC:=hC.gather (c:=ZLd (ZTe 22 (ZTe 2 (eI.tr))) [] [.slice (some ⟨b14,0,none⟩) 0 0] ((ZLw (ZD0 (.slice (some ⟨b14,0,none⟩) 0 0)))++([]:List (List Nat)).flatten)) (fun x_ hx_=>(ZDd.1 hx_).symm) (fun h1_ h2_ hd_=>X3 h2_ h1_ (fun b_ hb_ hb2_=>hd_ b_ hb2_ hb_))
   refine Zd (v:=.slice (some ⟨b14,0,none⟩) 0 0) rfl (dn (ZKw (sr (Za (v:=v13) rfl (Za (v:=vI s10.2.2) rfl ?_)))))
   refine Zg [v13,vI s10.2.2] _ Tryz.func136 rfl rfl rfl (ZAc s10.2.1 s10.2.2 h _ (ZXr _ (hC.getM 2 rfl).1)) (fun ret13 w28 hR13=>?_)
   obtain ⟨r10,u12,f12,rfl,h,hr16,hf16,hB14⟩:=hR13
   refine⟨_,rfl,?_⟩
   replace hC:=hC.push hB14 (ZLd (ZTe 22 (ZTe 2 (eI.tr))) r10 [u12] f12) hr16 hf16
   obtain ⟨Ad17,c17,hv21⟩:=Zdr (hC.getM 0 rfl)
   refine Zt ZXp (tr rfl hv21) (Za (v:=vI 0) rfl (dn (ZK2 ?_)))
   have hs10:=hC.anyX 0 rfl
   replace hC:=hC.thaw 0 rfl (ZKv (ZNz.sl) r10 [u12] f12) (fun h_=>ZXr _ h_.1) (fun _ hb_=>hb_)
   have hN12:r10.length≤9223372036854775807:=Y2 (hC.getP 0 rfl)
   refine Yk (S:=(List (List Int))) _ _ (fun i13 s13 e_ w_=>∃ (v14:Value),∃ (f11:List Nat),Zv e_ [(9,vvP b10),(12,v12),(20,v14),(91,u12),(92,vI (r10.length:Int)),(93,vI (i13:Int))]∧Ctx (fun c_=>c_∈(cpx C 125 mb0 D0 F0).fp) w0 w_ [ZLd (ZTe 22 (ZTe 2 (eI.tr))) s13 [v14] f11,own 3 1 v12 s10.1.length (eI.encs s10.1)] [ZKv (ZNz.sl) r10 [u12] f12,cpx C 125 mb0 D23 F24,ZKv TForm.sl a0.images [u0_1] fp0,ZKv TInts a0.degrees [u0_0] fp0,ZKv TAlg a0 [u0_0,u0_1] fp0,blk b0 32 [u0_0,u0_1],blk bp0 198 [vQ b0,.map (some mb0)]]) r10.length ?_ ?_ (s0:=[]) ?_ h
   ·clear hC h
    rintro i13 s13 e_ w29 nx12 K12 hi12 ⟨v14,f11,hS_,hC⟩ h hK12
    rw [ue hS_]
    refine sr (Zp rfl rfl (dn (ZKw (Z6 rfl (decide_eq_true (by omega)) (ZK0 (Ze (ZKw (ZK2 (sr ?_)))))))))
    obtain ⟨Ad18,c18,hv14⟩:=Zx (hC.getP 0 rfl) i13 hi12
    refine Yn (len:=r10.length) ZXp sc22.size (tr rfl hv14) rfl (ZLc _) (ZLv.2 hi12) ?_
    obtain ⟨cs_,hl11,hc11,hr11⟩:=Xh (hC.getP 0 rfl) hv14 i13 hi12
    obtain ⟨u13,rfl⟩:=ZLt.1 hl11
    clear hl11
    rw [Xg _ _ hi12] at hr11
    replace hC:=hC.derive 0 rfl (ZKv TInts (r10.getD i13 ZC7) [u13] f12) (fun _=>hr11) (fun _ hb_=>hb_)
    refine Yo (u13) hc11 sc22 rfl (Zd (v:=u13) rfl (dn (sr (Za (v:=vvP b10) rfl (Xl rfl (Z1 0 Tryz.underlying125 rfl sc122.size rfl rfl ?_))))))
    obtain ⟨u16,u34,u35,u36,u37,u38,hb15,hr17,hr21,hr22⟩:=Zq8 (hC.getP 2 rfl) (hat19.up hle25)
    have hr18:=hr17
    refine Yo (u16) (Za4 (off:=0) (sz:=1) hb15 rfl) sc122 rfl ?_
    replace hC:=hC.derive 2 rfl (ZKv ((EA .i64).ty.sl) (C.LV a3) [u16] F24) (fun _=>hr18) (fun _ h_=>Zkp h_)
    obtain ⟨Ad19,c19,hv22⟩:=Zu (hC.getP 0 rfl)
    refine Zt Tryz.underlying122 (tr rfl hv22) ?_
    obtain ⟨hm10,h⟩:=h
    refine Zbz (sz:=1) hC (eI.encs (ZC2 (((C.LV a3).length:Int).toNat) (0:Int))) ZLf el2 (tr rfl (congrArg (ZN5 .i64) (ZN6 hm10.1).symm)) (tr rfl (congrArg (ZN5 .i64) (ZN6 hm10.1).symm)) (by omega) (by omega) (Zbh (E:=eI) _ _) fun v18 w30 hB_ hC=>?_
    replace hC:=Y9 hC 0 ((ZC2 (((C.LV a3).length:Int).toNat) (0:Int)).length) (eI.encs (ZC2 (((C.LV a3).length:Int).toNat) (0:Int))) rfl (by simp) rfl
    refine Zd (v:=v18) rfl (dn (ZKw (sr (Za (v:=u13) rfl ?_))))
    obtain ⟨Ad20,c20,hv23⟩:=Zu (hC.getP 1 rfl)
    refine Zt ZLf (tr rfl hv23) (Za (v:=vI 0) rfl (dn (ZK2 ?_)))
    have hN13:(r10.getD i13 ZC7).length≤9223372036854775807:=Y2 (hC.getP 1 rfl)
    refine Yk (S:=(List Int)) _ _ (fun i11 s12 e_ w_=>∃ (v11:Value),Zv e_ [(9,vvP b10),(12,v12),(20,v14),(23,v11),(91,u12),(92,vI (r10.length:Int)),(93,vI (i13:Int)),(103,u13),(104,vI ((r10.getD i13 ZC7).length:Int)),(105,vI (i11:Int))]∧Ctx (fun c_=>c_∈(cpx C 125 mb0 D0 F0).fp) w0 w_ [own 2 1 v11 s12.length (eI.encs s12),ZLd (ZTe 22 (ZTe 2 (eI.tr))) s13 [v14] f11,own 3 1 v12 s10.1.length (eI.encs s10.1)] [ZKv TInts (r10.getD i13 ZC7) [u13] f12,ZKv (ZNz.sl) r10 [u12] f12,cpx C 125 mb0 D23 F24,ZKv TForm.sl a0.images [u0_1] fp0,ZKv TInts a0.degrees [u0_0] fp0,ZKv TAlg a0 [u0_0,u0_1] fp0,blk b0 32 [u0_0,u0_1],blk bp0 198 [vQ b0,.map (some mb0)]]) ((r10.getD i13 ZC7).length) ?_ ?_ (s0:=(ZC2 (((C.LV a3).length:Int).toNat) (0:Int))) ?_ h
    ·clear hC h
     rintro i11 s12 e_ w31 nx13 K13 hi13 ⟨v11,hS_,hC⟩ h hK13
     rw [ue hS_]
     refine sr (Zp rfl rfl (dn (ZKw (Z6 rfl (decide_eq_true (by omega)) (ZK0 (Ze (ZKw (ZK2 (sr (Za (v:=vI (i11:Int)) rfl ?_))))))))))
     obtain ⟨Ad21,c21,hv15⟩:=Zx (hC.getP 0 rfl) i11 hi13
     refine Yn (len:=(r10.getD i13 ZC7).length) ZLf sc2.size (tr rfl hv15) rfl (ZLc _) (ZLv.2 hi13) (Yo (vI ((r10.getD i13 ZC7).getD i11 ZC7)) (Ye (hC.getP 0 rfl) hv15 i11 hi13) sc2 rfl (Zd (v:=vI (i11:Int)) rfl (Zd (v:=vI ((r10.getD i13 ZC7).getD i11 ZC7)) rfl (dn (Zh (Za (v:=v11) rfl (Za (v:=v12) rfl (Za (v:=vI (i11:Int)) rfl ?_))))))))
     obtain ⟨⟨h14,h15⟩,h⟩:=h
     obtain ⟨Ad22,c22,hv16⟩:=Xz (hC.getM 2 rfl) (ZOj (ZEp _) (show i11 < s10.1.length by omega))
     refine X6 (i11 * 1) Tryz.underlying200 sc3.size (tr rfl hv16) rfl h14 h15 rfl (Yo (vI (s10.1.getD i11 ZC7)) (Zah (hC.getM 2 rfl) hv16 i11 (show i11 < s10.1.length by omega)) sc3 rfl (Za (v:=vI ((r10.getD i13 ZC7).getD i11 ZC7)) rfl ?_))
     obtain ⟨⟨h16,h17⟩,h⟩:=h
     obtain ⟨Ad23,c23,hv17⟩:=Xz (hC.getM 0 rfl) (ZOj (ZEp _) (show (s10.1.getD i11 ZC7).toNat < s12.length by omega))
     refine X6 ((s10.1.getD i11 ZC7).toNat * 1) ZLf sc2.size (tr rfl hv17) rfl h16 h17 rfl (Zcc (v:=vI ((r10.getD i13 ZC7).getD i11 ZC7)) hC 0 [vI ((r10.getD i13 ZC7).getD i11 ZC7)] (eI.encs (s12.set ((s10.1.getD i11 ZC7).toNat) ((r10.getD i13 ZC7).getD i11 ZC7))) rfl hv17 sc2.size rfl rfl rfl rfl rfl (by rw [ZYb]; exact Zav (sz:=1) (show (s10.1.getD i11 ZC7).toNat < s12.length by omega)) (Zcd _ _ _ (show (s10.1.getD i11 ZC7).toNat < s12.length by omega)) fun w32 hC=>?_)
     replace hC:=Y9 hC 0 ((s12.set ((s10.1.getD i11 ZC7).toNat) ((r10.getD i13 ZC7).getD i11 ZC7)).length) (eI.encs (s12.set ((s10.1.getD i11 ZC7).toNat) ((r10.getD i13 ZC7).getD i11 ZC7))) rfl (by simp) rfl
     refine done (Zr (Ze (Zh (Zq rfl rfl (Za (v:=vI (ZFm.wrap ((i11:Int)+1))) rfl (done ?_))))))
     exact hK13 (s12.set ((s10.1.getD i11 ZC7).toNat) ((r10.getD i13 ZC7).getD i11 ZC7)) _ _ ⟨v11,(sl ⟨rfl,rfl,rfl,rfl,rfl,rfl,rfl,rfl,rfl,(tr rfl (congrArg _ (Z5 hi13 hN13))),trivial⟩),hC⟩ h
    ·clear hC h
     rintro s12 e_ w33 K13 ⟨v11,hS_,hC⟩ h
     rw [ue hS_]
     refine sr (Zp rfl rfl (dn (ZKw (Z2 rfl (decide_eq_false (by omega)) ?_))))
     refine ZLa (Zj (Zj (Z0 ?_)))
     refine Ze (Zh (Za (v:=v14) rfl (Za (v:=v11) rfl (Yh (sz:=1) hC [(0,v11)] [v11] rfl (fun _=>Zad v11 (Zbc (hC.getM 0 rfl)) _) rfl (by decide) fun b12 w34 hB_ hC=>?_))))
     replace hC:=hC.pushM0 (Ya (ZTe 2 (eI.tr)) [] [] []) (Jb _ _) rfl
     replace hC:=hC.sM [2,0,1,3,4] (M':=[own 2 1 v11 s12.length (eI.encs s12),Ya (ZTe 2 (eI.tr)) [] [] [],own 22 1 (.slice (some ⟨b12,0,none⟩) 1 1) 1 [v11],ZLd (ZTe 22 (ZTe 2 (eI.tr))) s13 [v14] f11,own 3 1 v12 s10.1.length (eI.encs s10.1)]) (by decide) rfl
     replace hC:=hC.gather (c:=Ya (ZTe 2 (eI.tr)) [s12] [v11] [(ZLw (ZD0 v11))]) (fun x_ hx_=>Zbk hx_) (fun h1_ h2_ hd_=>Zbb (c:=[v11]) (id (Xq h1_)) h2_ hd_)
     replace hC:=hC.sM [1,0,2,3] (M':=[own 22 1 (.slice (some ⟨b12,0,none⟩) 1 1) 1 [v11],Ya (ZTe 2 (eI.tr)) [s12] [v11] [(ZLw (ZD0 v11))],ZLd (ZTe 22 (ZTe 2 (eI.tr))) s13 [v14] f11,own 3 1 v12 s10.1.length (eI.encs s10.1)]) (by decide) rfl
     replace hC:=hC.gather (c:=ZLd (ZTe 22 (ZTe 2 (eI.tr))) [s12] [.slice (some ⟨b12,0,none⟩) 1 1] ((ZLw (ZD0 (.slice (some ⟨b12,0,none⟩) 1 1)))++([(ZLw (ZD0 v11))]:List (List Nat)).flatten)) (fun x_ hx_=>ZDd.1 hx_) (fun h1_ h2_ hd_=>X3 h1_ h2_ hd_)
     replace hC:=hC.sM [1,0,2] (M':=[ZLd (ZTe 22 (ZTe 2 (eI.tr))) s13 [v14] f11,ZLd (ZTe 22 (ZTe 2 (eI.tr))) [s12] [.slice (some ⟨b12,0,none⟩) 1 1] ((ZLw (ZD0 (.slice (some ⟨b12,0,none⟩) 1 1)))++([(ZLw (ZD0 v11))]:List (List Nat)).flatten),own 3 1 v12 s10.1.length (eI.encs s10.1)]) (by decide) rfl
     obtain ⟨hm14,h⟩:=h
     refine Za8 hC ZXp J2 rfl (by decide) (by decide) rfl rfl hm14 fun v19 f16 w35 hC=>Zd (v:=v19) rfl (done (Zr (Ze (Zh (Zq rfl rfl (Za (v:=vI (ZFm.wrap ((i13:Int)+1))) rfl (done ?_)))))))
     exact hK12 (s13++[s12]) _ _ ⟨v19,f16,(sl ⟨rfl,rfl,rfl,rfl,rfl,(tr rfl (congrArg _ (Z5 hi12 hN12))),trivial⟩),(hC.sP [1,2,3,4,5,6,7] rfl)⟩ h
    ·skip
     exact⟨v18,(sl ⟨rfl,rfl,rfl,rfl,rfl,rfl,rfl,rfl,rfl,rfl,trivial⟩),(hC.sP [1,2,3,4,5,6,7,8] rfl)⟩
   ·clear hC h
    rintro s13 e_ w36 K12 ⟨v14,f11,hS_,hC⟩ h
    rw [ue hS_]
    refine sr (Zp rfl rfl (dn (ZKw (Z2 rfl (decide_eq_false (by omega)) ?_))))
    refine ZLa (Zj (Zj (Z0 ?_)))
    refine Ze (sr (Za (v:=v14) rfl (Zd (v:=v14) rfl (dn (ZK4 ?_)))))
    refine Zi (fn:=Tryz.f117) rfl ?_ ⟨s13,v14,f11,D23,F24,rfl,h,(hC.getM 0 rfl),(hC.anyX 0 rfl),(fun x_ hx_ hy_=>hC.pd _ (List.mem_of_getElem? (i:=1) rfl) x_ hy_ _ (List.mem_of_getElem? (i:=0) rfl) hx_),(hle13.trans hle25),(hC.getP 1 rfl),(fun x_ hx_=>(hz83 x_ hx_).symm),hC.belO⟩ (.inl rfl)
    exact Zf rfl
   ·skip
    exact⟨.slice (some ⟨b14,0,none⟩) 0 0,((ZLw (ZD0 (.slice (some ⟨b14,0,none⟩) 0 0)))++([]:List (List Nat)).flatten),(sl ⟨rfl,rfl,rfl,rfl,rfl,rfl,trivial⟩),(hC.xM [0,3] rfl)⟩
  ·skip
   exact⟨.slice (some ⟨b16,0,none⟩) 0 0,.slice (some ⟨b13,0,none⟩) 0 0,((ZLw (ZD0 (.slice (some ⟨b13,0,none⟩) 0 0)))++([]:List (List Nat)).flatten),(sl ⟨rfl,rfl,rfl,rfl,rfl,rfl,rfl,rfl,trivial⟩),hC⟩
def Ziu (C:Cx) (a0:Alg) (a1:Int) (a2:List (List Int)) (K:List (List Int)→Prop):Prop :=
 Yc (fun i10 (s10:(List (List Int))) nx10=>(Zcr C a0.degrees (ZFm.wrap (a1+1))∧(Zcr C a0.degrees a1∧Zh9 (⟨C.LV a1,C.PL a1⟩:ZZ9) (a2.getD i10 ZC7) (fun r11=>Zdz a0 r11 (fun r12=>Zew (⟨C.LV (ZFm.wrap (a1+1)),C.PL (ZFm.wrap (a1+1))⟩:ZZ9) r12 (fun r10=>(Zy (s10.length+1) 24∧nx10 (s10++[r10])))))))) (fun (s10:(List (List Int)))=>K s10) a2.length 0 []
theorem ZAd (C:Cx) (a0:Alg) (a1:Int) (a2:List (List Int))  {K:List (List Int)→Prop} (h:Ziu C a0 a1 a2 K) (w0:World) (q0:TAlg.rep a0 [u0_0,u0_1] fp0 w0) (qb0:(blk b0 32 [u0_0,u0_1]).holds w0) (qbp0:(blk bp0 198 [vQ b0,.map (some mb0)]).holds w0) (qx0:(cpx C 125 mb0 D0 F0).holds w0) (dq0:∀ b,b∈fp0→b∉(cpx C 125 mb0 D0 F0).fp) (db0:b0∉(cpx C 125 mb0 D0 F0).fp) (dbp0:bp0∉(cpx C 125 mb0 D0 F0).fp) (q2:(ZNz.sl).rep a2 [u2_0] fp2 w0) (do2:∀ b,b∈fp2→b∉(cpx C 125 mb0 D0 F0).fp) :
  Calls ZKz 118 #[vQ bp0,vI a1,u2_0] w0 fun e w'=>∃ (r0:List (List Int)) (z0_0:Value) (fz0:List Nat) (Dz:List Lev) (Fz:List Nat),
   e=.returned (z0_0)∧K r0∧(ZLd (ZTe 22 (ZTe 2 (eI.tr))) r0 [z0_0] fz0).holds w'∧(∀ b,b∈fz0→w0.heap.size≤b∨b∈(cpx C 125 mb0 D0 F0).fp)∧(∀ b,b∈fz0→b∉(cpx C 125 mb0 Dz Fz).fp)∧CpLe D0 Dz F0 Fz∧(cpx C 125 mb0 Dz Fz).holds w'∧(∀ x,x∈(cpx C 125 mb0 Dz Fz).fp→x∈(cpx C 125 mb0 D0 F0).fp∨w0.heap.size≤x)∧BelO ((cpx C 125 mb0 D0 F0).fp) w0 w':=by
 unfold Ziu at h
 refine cof Tryz.func118 rfl 37 Tryz.ntmps118 ?_
 have hC:=Z0p w0 ((cpx C 125 mb0 D0 F0).fp) [cpx C 125 mb0 D0 F0] [ZKv TAlg a0 [u0_0,u0_1] fp0,ZKv (ZNz.sl) a2 [u2_0] fp2,blk b0 32 [u0_0,u0_1],blk bp0 198 [vQ b0,.map (some mb0)]] (al1 qx0) (alc q0 (alc q2 (alc qb0 (al1 qbp0)))) (al1 (fun b_ hb_=>hb_)) (ZYi _ _) (alc (fun b_ hb_=>dq0 b_ hb_) (alc (fun b_ hb_=>do2 b_ hb_) (alc (Zdt db0) (al1 (Zdt dbp0)))))
 replace hC:=hC.dAlg 0 rfl
 refine sr (Zd (v:=.slice none 0 0) rfl (dn (sr (Yh (sz:=1) hC [] [] rfl (fun _=>Zak _) rfl (by decide) fun b8 w9 hB_ hC=>?_))))
 replace hC:=hC.pushM0 (Ya (ZTe 2 (eI.tr)) ([]:List (List Int)) [] []) (Jb _ _) rfl
 replace hC:=hC.gather (c:=ZLd (ZTe 22 (ZTe 2 (eI.tr))) [] [.slice (some ⟨b8,0,none⟩) 0 0] ((ZLw (ZD0 (.slice (some ⟨b8,0,none⟩) 0 0)))++([]:List (List Nat)).flatten)) (fun x_ hx_=>(ZDd.1 hx_).symm) (fun h1_ h2_ hd_=>X3 h2_ h1_ (fun b_ hb_ hb2_=>hd_ b_ hb2_ hb_))
 refine Zd (v:=.slice (some ⟨b8,0,none⟩) 0 0) rfl (dn (ZKw (sr (Za (v:=u2_0) rfl ?_))))
 obtain ⟨Ad10,c10,hv11⟩:=Zu (hC.getP 3 rfl)
 refine Zt ZXp (tr rfl hv11) (Za (v:=vI 0) rfl (dn (ZK2 ?_)))
 have hN10:a2.length≤9223372036854775807:=Y2 (hC.getP 3 rfl)
 refine Yk (S:=(List (List Int))) _ _ (fun i10 s10 e_ w_=>∃ (D209:List Lev),∃ (F210:List Nat),∃ (v10:Value),∃ (f10:List Nat),Zv e_ [(0,vQ bp0),(1,vI a1),(7,v10),(11,u2_0),(12,vI (a2.length:Int)),(13,vI (i10:Int))]∧CpLe D0 D209 F0 F210∧Ctx (fun c_=>c_∈(cpx C 125 mb0 D0 F0).fp) w0 w_ [ZLd (ZTe 22 (ZTe 2 (eI.tr))) s10 [v10] f10,cpx C 125 mb0 D209 F210] [ZKv TForm.sl a0.images [u0_1] fp0,ZKv TInts a0.degrees [u0_0] fp0,ZKv TAlg a0 [u0_0,u0_1] fp0,ZKv (ZNz.sl) a2 [u2_0] fp2,blk b0 32 [u0_0,u0_1],blk bp0 198 [vQ b0,.map (some mb0)]]) a2.length ?_ ?_ (s0:=[]) ?_ h
 ·clear hC h
  rintro i10 s10 e_ w10 nx10 K10 hi10 ⟨D209,F210,v10,f10,hS_,hq10,hC⟩ h hK10
  rw [ue hS_]
  refine sr (Zp rfl rfl (dn (ZKw (Z6 rfl (decide_eq_true (by omega)) (ZK0 (Ze (ZKw (ZK2 (sr ?_)))))))))
  obtain ⟨Ad11,c11,hv10⟩:=Zx (hC.getP 3 rfl) i10 hi10
  refine Yn (len:=a2.length) ZXp sc22.size (tr rfl hv10) rfl (ZLc _) (ZLv.2 hi10) ?_
  obtain ⟨cs_,hl10,hc10,hr10⟩:=Xh (hC.getP 3 rfl) hv10 i10 hi10
  obtain ⟨u11,rfl⟩:=ZLt.1 hl10
  clear hl10
  rw [Xg _ _ hi10] at hr10
  replace hC:=hC.derive 3 rfl (ZKv TInts (a2.getD i10 ZC7) [u11] fp2) (fun _=>hr10) (fun _ hb_=>hb_)
  refine Yo (u11) hc10 sc22 rfl (Zd (v:=u11) rfl (dn ?_))
  refine Zy0 mb0 17 Yl [0,0,0,4,14,0,32,96,224,0,0,1566,0,7710,16382,32766,65534,131071,262143] [8] [0,1,2,3,5,6,7,9,10,12] (by kernel_rfl) (by kernel_rfl) (by kernel_rfl) (fun hM11 hM10 w11 hB_=>?_)
  replace hC:=hC.grow hB_
  refine bMR (Zb5 mb0) 0 (v10) rfl hM10 (Zc 19 1) (bMR (Zb5 mb0) 1 (vQ bp0) rfl hM10 (Zc 19 3) (bMR (Zb5 mb0) 2 (vI a1) rfl hM10 (Zc 19 7) (Zw (Zb5 mb0) 3 (vI (ZFm.wrap (a1+1))) rfl rfl (by kernel_rfl) (hM10 3 rfl) (fun w_=>.inl ⟨rfl,by exact Zbx rfl rfl⟩) (l9:=(Zc 19 15)) (by kernel_rfl) (bMR (Zb5 mb0) 5 (vQ bp0) rfl hM10 (Zc 19 47) (Zw (Zb5 mb0) 6 (vQ bp0) rfl rfl (by kernel_rfl) (hM10 6 rfl) (fun w_=>.inl ⟨rfl,by exact Zau rfl⟩) (l9:=(Zc 19 111)) (by kernel_rfl) (Zw (Zb5 mb0) 7 (vQ bp0) rfl rfl (by kernel_rfl) (hM10 7 rfl) (fun w_=>.inl ⟨rfl,by exact Yr 0 ZUl rfl sc66.size rfl rfl⟩) (l9:=(Zc 19 239)) (by kernel_rfl) (Za7 (Zb5 mb0) 8 (vQ b0) rfl rfl (by kernel_rfl) (hM11 8 rfl) (fun w_ hB_=>.inl ⟨rfl,by exact Zc3 (vQ b0) ((hC.growC 1 rfl Zb6 hB_).getP 6 rfl) sc66 rfl rfl⟩) (l9:=(Zc 19 495)) (by kernel_rfl) (bMR (Zb5 mb0) 9 (vQ bp0) rfl hM10 (Zc 19 1007) (bMR (Zb5 mb0) 10 (vI a1) rfl hM10 (Zc 19 2031) (bMR (Zb5 mb0) 12 (u11) rfl hM10 (Zc 19 6127) (aO 4 rfl ?_)))))))))))
  obtain ⟨ho10,h⟩:=h
  refine Zg [vQ bp0,vI (ZFm.wrap (a1+1))] _ Z0r rfl rfl rfl (Zia C a0 (ZFm.wrap (a1+1)) ho10 _ (Yp (hC.getP 2 rfl) (hC.getP 1 rfl)) (hC.getP 5 rfl) (hC.getP 6 rfl) (hC.getM 1 rfl) (fun b_ hb hb2_=>(ZDd.1 hb).elim (fun hb=>hC.pd _ (List.mem_of_getElem? (i:=2) rfl) b_ hb _ (List.mem_of_getElem? (i:=1) rfl) hb2_) (fun hb=>hC.pd _ (List.mem_of_getElem? (i:=1) rfl) b_ hb _ (List.mem_of_getElem? (i:=1) rfl) hb2_)) (fun hx_=>hC.pd _ (List.mem_of_getElem? (i:=5) rfl) _ (ZTj _) _ (List.mem_of_getElem? (i:=1) rfl) hx_) (fun hx_=>hC.pd _ (List.mem_of_getElem? (i:=6) rfl) _ (ZTj _) _ (List.mem_of_getElem? (i:=1) rfl) hx_)) (fun ret10 w12 hR10=>?_)
  obtain ⟨b13,D234,F235,rfl,hat242,hle236,hx237,hf10,hB10⟩:=hR10
  refine⟨_,rfl,?_⟩
  replace hC:=hC.turnI 1 rfl (hB10.belO Zb6) hx237 hf10
  refine done (aK (by first | assumption | exact Zfy (by assumption)) (Zc 19 6143) (aO 11 rfl ?_))
  obtain ⟨ho11,h⟩:=h
  refine Zg [vQ bp0,vI a1] _ Z0r rfl rfl rfl (Zia C a0 a1 ho11 _ (Yp (hC.getP 2 rfl) (hC.getP 1 rfl)) (hC.getP 5 rfl) (hC.getP 6 rfl) (hC.getM 1 rfl) (fun b_ hb hb2_=>(ZDd.1 hb).elim (fun hb=>hC.pd _ (List.mem_of_getElem? (i:=2) rfl) b_ hb _ (List.mem_of_getElem? (i:=1) rfl) hb2_) (fun hb=>hC.pd _ (List.mem_of_getElem? (i:=1) rfl) b_ hb _ (List.mem_of_getElem? (i:=1) rfl) hb2_)) (fun hx_=>hC.pd _ (List.mem_of_getElem? (i:=5) rfl) _ (ZTj _) _ (List.mem_of_getElem? (i:=1) rfl) hx_) (fun hx_=>hC.pd _ (List.mem_of_getElem? (i:=6) rfl) _ (ZTj _) _ (List.mem_of_getElem? (i:=1) rfl) hx_)) (fun ret11 w13 hR11=>?_)
  obtain ⟨b14,D246,F247,rfl,hat254,hle248,hx249,hf11,hB11⟩:=hR11
  refine⟨_,rfl,?_⟩
  replace hC:=hC.turnI 1 rfl (hB11.belO Zb6) hx249 hf11
  refine done (aK (by first | assumption | exact Zfy (by assumption)) (Zc 19 8191) (aO 13 rfl ?_))
  obtain ⟨u12,u13,u14,u15,u16,u17,hq11,hb10⟩:=Zfx (hC.getM 1 rfl) hat254
  refine Zg [vvP b14,u11] _ Tryz.func172 rfl rfl rfl (Zy6 (⟨C.LV a1,C.PL a1⟩:ZZ9) (a2.getD i10 ZC7) h _ hq11 hb10 (hC.getP 0 rfl)) (fun ret12 w14 hR12=>?_)
  obtain ⟨r11,b11,rfl,h,hr11,hf12,hB12⟩:=hR12
  refine⟨_,rfl,?_⟩
  replace hC:=hC.push hB12 (mapS b11 r11) hr11 (fun b_ hb_=>by obtain rfl:=ZEf.1 hb_; exact hf12)
  refine done (aK (by first | assumption | exact Zfy (by assumption)) (Zc 19 16383) (aO 14 rfl ?_))
  refine Zg [vQ b0,.map (some b11)] _ Tryz.func154 rfl rfl rfl (Zmu a0 r11 h _ (Yp (hC.getP 2 rfl) (hC.getP 1 rfl)) (hC.getP 5 rfl) (hC.getM 0 rfl)) (fun ret13 w15 hR13=>?_)
  obtain ⟨r12,b12,rfl,h,hr12,hf13,hB13⟩:=hR13
  refine⟨_,rfl,?_⟩
  replace hC:=hC.push hB13 (mapS b12 r12) hr12 (fun b_ hb_=>by obtain rfl:=ZEf.1 hb_; exact hf13)
  refine done (aK (by first | assumption | exact Zfy (by assumption)) (Zc 19 32767) (aO 15 rfl ?_))
  obtain ⟨u18,u19,u20,u21,u22,u23,hq12,hb11⟩:=Zfx (hC.getM 3 rfl) (hat242.up hle248)
  refine Zg [vvP b13,.map (some b12)] _ Tryz.func85 rfl rfl rfl (Zq9 (⟨C.LV (ZFm.wrap (a1+1)),C.PL (ZFm.wrap (a1+1))⟩:ZZ9) r12 h _ hq12 hb11 (hC.getM 0 rfl)) (fun ret14 w16 hR14=>?_)
  obtain ⟨r10,u10,f11,rfl,h,hr13,hf14,hB14⟩:=hR14
  refine⟨_,rfl,?_⟩
  replace hC:=hC.push hB14 (ZLd (ZTe 2 (eI.tr)) r10 [u10] f11) hr13 hf14
  obtain ⟨ho12,hf15⟩:=Y6 (hC.getM 0 rfl).1
  subst hf15
  replace hC:=hC.recast (c:=own 2 1 u10 r10.length (eI.encs r10)) (fun _ h_=>h_) (fun _=>ho12)
  refine done (aK (by first | assumption | exact Zfy (by assumption)) (Zc 19 65535) (aO 16 rfl (Yh (sz:=1) hC [(0,u10)] [u10] rfl (fun _=>Zad u10 (Zbc (hC.getM 0 rfl)) _) rfl (by decide) fun b10 w17 hB_ hC=>?_)))
  replace hC:=hC.pushM0 (Ya (ZTe 2 (eI.tr)) [] [] []) (Jb _ _) rfl
  replace hC:=hC.sM [2,0,1,3,4,5,6] (M':=[own 2 1 u10 r10.length (eI.encs r10),Ya (ZTe 2 (eI.tr)) [] [] [],own 22 1 (.slice (some ⟨b10,0,none⟩) 1 1) 1 [u10],mapS b12 r12,mapS b11 r11,ZLd (ZTe 22 (ZTe 2 (eI.tr))) s10 [v10] f10,cpx C 125 mb0 D246 F247]) (by decide) rfl
  replace hC:=hC.gather (c:=Ya (ZTe 2 (eI.tr)) [r10] [u10] [(ZLw (ZD0 u10))]) (fun x_ hx_=>Zbk hx_) (fun h1_ h2_ hd_=>Zbb (c:=[u10]) (id (Xq h1_)) h2_ hd_)
  replace hC:=hC.sM [1,0,2,3,4,5] (M':=[own 22 1 (.slice (some ⟨b10,0,none⟩) 1 1) 1 [u10],Ya (ZTe 2 (eI.tr)) [r10] [u10] [(ZLw (ZD0 u10))],mapS b12 r12,mapS b11 r11,ZLd (ZTe 22 (ZTe 2 (eI.tr))) s10 [v10] f10,cpx C 125 mb0 D246 F247]) (by decide) rfl
  replace hC:=hC.gather (c:=ZLd (ZTe 22 (ZTe 2 (eI.tr))) [r10] [.slice (some ⟨b10,0,none⟩) 1 1] ((ZLw (ZD0 (.slice (some ⟨b10,0,none⟩) 1 1)))++([(ZLw (ZD0 u10))]:List (List Nat)).flatten)) (fun x_ hx_=>ZDd.1 hx_) (fun h1_ h2_ hd_=>X3 h1_ h2_ hd_)
  refine done (aK (by first | assumption | exact Zfy (by assumption)) (Zc 19 131071) (Z7 17 (by decide) (by decide) (by kernel_rfl) (by kernel_rfl) rfl ?_))
  replace hC:=hC.sM [3,0,1,2,4] (M':=[ZLd (ZTe 22 (ZTe 2 (eI.tr))) s10 [v10] f10,ZLd (ZTe 22 (ZTe 2 (eI.tr))) [r10] [.slice (some ⟨b10,0,none⟩) 1 1] ((ZLw (ZD0 (.slice (some ⟨b10,0,none⟩) 1 1)))++([(ZLw (ZD0 u10))]:List (List Nat)).flatten),mapS b12 r12,mapS b11 r11,cpx C 125 mb0 D246 F247]) (by decide) rfl
  obtain ⟨hm10,h⟩:=h
  refine Za8 hC ZXp J2 rfl (by decide) (by decide) rfl rfl hm10 fun v11 f12 w18 hC=>Zd (v:=v11) rfl (done (Z8 (Zr (Ze (Zh (Zq rfl rfl (Za (v:=vI (ZFm.wrap ((i10:Int)+1))) rfl (done ?_))))))))
  exact hK10 (s10++[r10]) _ _ ⟨D246,F247,v11,f12,(sl ⟨rfl,rfl,rfl,rfl,rfl,(tr rfl (congrArg _ (Z5 hi10 hN10))),trivial⟩),((hq10.trans hle236).trans hle248),((hC.xM [0,3] rfl).sP [1,2,3,4,5,6] rfl)⟩ h
 ·clear hC h
  rintro s10 e_ w19 K10 ⟨D209,F210,v10,f10,hS_,hq10,hC⟩ h
  rw [ue hS_]
  refine sr (Zp rfl rfl (dn (ZKw (Z2 rfl (decide_eq_false (by omega)) ?_))))
  refine ZLa (Zj (Zj (Z0 ?_)))
  refine Ze (sr (Za (v:=v10) rfl (Zd (v:=v10) rfl (dn (ZK4 ?_)))))
  refine Zi (fn:=Tryz.f118) rfl ?_ ⟨s10,v10,f10,D209,F210,rfl,h,(hC.getM 0 rfl),(hC.anyX 0 rfl),(hC.mm 0 1 rfl rfl (by decide)),hq10,(hC.getM 1 rfl),(fun x_ hx_=>(hC.anyX 1 rfl x_ hx_).symm),hC.belO⟩ (.inl rfl)
  exact Zf rfl
 ·skip
  exact⟨D0,F0,.slice (some ⟨b8,0,none⟩) 0 0,((ZLw (ZD0 (.slice (some ⟨b8,0,none⟩) 0 0)))++([]:List (List Nat)).flatten),(sl ⟨rfl,rfl,rfl,rfl,rfl,rfl,trivial⟩),(CpLe.refl _ _),hC⟩
def Zd3 (C:Cx) (a0:Alg) (a1:Int) (a2:Int) (a3:Int) (K:Int→Prop):Prop :=
 (if a1=0 then(Zcr C a0.degrees a3∧Zd1 (⟨C.LV a3,C.PL a3⟩:ZZ9) a2 (fun r11=>Ze4 r11 (fun r14=>Zd1 (⟨C.LV a3,C.PL a3⟩:ZZ9) (ZFm.wrap (a2+1)) (fun r12=>Ze4 r12 (fun r15=>K (ZFm.wrap (r14 - r15))))))) else Zdi C a0 (ZFm.wrap (a1 - 1)) (ZFm.wrap (a2+1)) a3 (fun r10=>(if a3 > 0 then Zdi C a0 (ZFm.wrap (a1 - 1)) (ZFm.wrap ((ZFm.wrap (a2 - a1))+1)) (ZFm.wrap (a3 - 1)) (fun r16=>Ziu C a0 (ZFm.wrap (a3 - 1)) r16 (fun r13=>(Zy (r10.length+r13.length) 24∧Zdi C a0 a1 a2 a3 (fun r17=>Ze3 (r10++r13) (fun r18=>K (ZFm.wrap ((r17.length:Int) - r18))))))) else Zdi C a0 a1 a2 a3 (fun r19=>Ze3 r10 (fun r20=>K (ZFm.wrap ((r19.length:Int) - r20)))))))
theorem Zk4 (C:Cx) (a0:Alg) (a1:Int) (a2:Int) (a3:Int)  {K:Int→Prop} (h:Zd3 C a0 a1 a2 a3 K) (w0:World) (q0:TAlg.rep a0 [u0_0,u0_1] fp0 w0) (qb0:(blk b0 32 [u0_0,u0_1]).holds w0) (qbp0:(blk bp0 198 [vQ b0,.map (some mb0)]).holds w0) (qx0:(cpx C 125 mb0 D0 F0).holds w0) (dq0:∀ b,b∈fp0→b∉(cpx C 125 mb0 D0 F0).fp) (db0:b0∉(cpx C 125 mb0 D0 F0).fp) (dbp0:bp0∉(cpx C 125 mb0 D0 F0).fp) :
  Calls ZKz 64 #[vQ bp0,vI a1,vI a2,vI a3] w0 fun e w'=>∃ (r0:Int) (Dz:List Lev) (Fz:List Nat),
   e=.returned (vI r0)∧K r0∧CpLe D0 Dz F0 Fz∧(cpx C 125 mb0 Dz Fz).holds w'∧(∀ x,x∈(cpx C 125 mb0 Dz Fz).fp→x∈(cpx C 125 mb0 D0 F0).fp∨w0.heap.size≤x)∧BelO ((cpx C 125 mb0 D0 F0).fp) w0 w':=by
 unfold Zd3 at h
 refine cof Z0m rfl 60 Tryz.ntmps64 ?_
 have hC:=Z0p w0 ((cpx C 125 mb0 D0 F0).fp) [cpx C 125 mb0 D0 F0] [ZKv TAlg a0 [u0_0,u0_1] fp0,blk b0 32 [u0_0,u0_1],blk bp0 198 [vQ b0,.map (some mb0)]] (al1 qx0) (alc q0 (alc qb0 (al1 qbp0))) (al1 (fun b_ hb_=>hb_)) (ZYi _ _) (alc (fun b_ hb_=>dq0 b_ hb_) (alc (Zdt db0) (al1 (Zdt dbp0))))
 replace hC:=hC.dAlg 0 rfl
 refine sr (Zd (v:=vI 0) rfl (dn (ZKw (sr (Za (v:=vI a1) rfl (Xu rfl rfl (dn ?_)))))))
 refine Zs rfl (fun hb7=>?_) (fun hb7=>?_)
 ·replace h:=ift h (ct hb7)
  refine sr (Za (v:=vQ bp0) rfl (Za (v:=vI a3) rfl ?_))
  obtain ⟨ho10,h⟩:=h
  refine Zg [vQ bp0,vI a3] _ Z0r rfl rfl rfl (Zia C a0 a3 ho10 _ (Yp (hC.getP 1 rfl) (hC.getP 0 rfl)) (hC.getP 3 rfl) (hC.getP 4 rfl) (hC.getM 0 rfl) (fun b_ hb hb2_=>(ZDd.1 hb).elim (fun hb=>hC.pd _ (List.mem_of_getElem? (i:=1) rfl) b_ hb _ (List.mem_of_getElem? (i:=0) rfl) hb2_) (fun hb=>hC.pd _ (List.mem_of_getElem? (i:=0) rfl) b_ hb _ (List.mem_of_getElem? (i:=0) rfl) hb2_)) (fun hx_=>hC.pd _ (List.mem_of_getElem? (i:=3) rfl) _ (ZTj _) _ (List.mem_of_getElem? (i:=0) rfl) hx_) (fun hx_=>hC.pd _ (List.mem_of_getElem? (i:=4) rfl) _ (ZTj _) _ (List.mem_of_getElem? (i:=0) rfl) hx_)) (fun ret8 w10 hR9=>?_)
  obtain ⟨b10,D11,F12,rfl,hat19,hle13,hx14,hf10,hB10⟩:=hR9
  refine⟨_,rfl,?_⟩
  replace hC:=hC.turnI 0 rfl (hB10.belO Zb6) hx14 hf10
  refine Zd (v:=vvP b10) rfl (dn (sr (Za (v:=vvP b10) rfl (Za (v:=vI a2) rfl ?_))))
  obtain ⟨u15,u16,u17,u18,u19,u20,hq10,hb11⟩:=Zfx (hC.getM 0 rfl) hat19
  refine Zg [vvP b10,vI a2] _ Z0s rfl rfl rfl (Zkq (⟨C.LV a3,C.PL a3⟩:ZZ9) a2 h _ hq10 hb11) (fun ret10 w11 hR10=>?_)
  obtain ⟨r11,u11,f10,rfl,h,hr10,hf11,hB11⟩:=hR10
  refine⟨_,rfl,?_⟩
  replace hC:=hC.push hB11 (ZLd (ZTe 4 EB.tr) r11 [u11] f10) hr10 hf11
  obtain ⟨ho11,hf12⟩:=Y6 (hC.getM 0 rfl).1
  subst hf12
  replace hC:=hC.recast (c:=own 4 1 u11 r11.length (EB.encs r11)) (fun _ h_=>h_) (fun _=>ho11)
  refine Zg [u11] _ Z0z rfl rfl rfl (Zrl r11 h _ (Yv (hC.getM 0 rfl))) (fun ret11 w12 hR11=>?_)
  obtain ⟨r14,rfl,h,hB12⟩:=hR11
  refine⟨_,rfl,?_⟩
  replace hC:=hC.grow hB12
  refine Za (v:=vvP b10) rfl (Za (v:=vI a2) rfl (Zq rfl rfl ?_))
  obtain ⟨u21,u22,u23,u24,u25,u26,hq11,hb12⟩:=Zfx (hC.getM 1 rfl) hat19
  refine Zg [vvP b10,vI (ZFm.wrap (a2+1))] _ Z0s rfl rfl rfl (Zkq (⟨C.LV a3,C.PL a3⟩:ZZ9) (ZFm.wrap (a2+1)) h _ hq11 hb12) (fun ret12 w13 hR12=>?_)
  obtain ⟨r12,u12,f11,rfl,h,hr11,hf13,hB13⟩:=hR12
  refine⟨_,rfl,?_⟩
  replace hC:=hC.push hB13 (ZLd (ZTe 4 EB.tr) r12 [u12] f11) hr11 hf13
  obtain ⟨ho12,hf14⟩:=Y6 (hC.getM 0 rfl).1
  subst hf14
  replace hC:=hC.recast (c:=own 4 1 u12 r12.length (EB.encs r12)) (fun _ h_=>h_) (fun _=>ho12)
  refine Zg [u12] _ Z0z rfl rfl rfl (Zrl r12 h _ (Yv (hC.getM 0 rfl))) (fun ret13 w14 hR13=>?_)
  obtain ⟨r15,rfl,h,hB14⟩:=hR13
  refine⟨_,rfl,?_⟩
  replace hC:=hC.grow hB14
  refine X0 rfl rfl (Zd (v:=vI (ZFm.wrap (r14 - r15))) rfl (dn ?_))
  refine ZK4 (Zn ?_)
  refine Zi (fn:=Tryz.f64) rfl ?_ ⟨ZFm.wrap (r14 - r15),D11,F12,rfl,h,hle13,(hC.getM 2 rfl),(fun x_ hx_=>(hC.anyX 2 rfl x_ hx_).symm),hC.belO⟩ (.inl rfl)
  exact Zf rfl
 ·replace h:=Zl h (cf hb7)
  refine ZK0 (Ze (sr (Za (v:=vQ bp0) rfl (Za (v:=vI a1) rfl (X0 rfl rfl (Za (v:=vI a2) rfl (Zq rfl rfl (Za (v:=vI a3) rfl ?_))))))))
  refine Zg [vQ bp0,vI (ZFm.wrap (a1 - 1)),vI (ZFm.wrap (a2+1)),vI a3] _ Z0l rfl rfl rfl (Zk3 C a0 (ZFm.wrap (a1 - 1)) (ZFm.wrap (a2+1)) a3 h _ (Yp (hC.getP 1 rfl) (hC.getP 0 rfl)) (hC.getP 3 rfl) (hC.getP 4 rfl) (hC.getM 0 rfl) (fun b_ hb hb2_=>(ZDd.1 hb).elim (fun hb=>hC.pd _ (List.mem_of_getElem? (i:=1) rfl) b_ hb _ (List.mem_of_getElem? (i:=0) rfl) hb2_) (fun hb=>hC.pd _ (List.mem_of_getElem? (i:=0) rfl) b_ hb _ (List.mem_of_getElem? (i:=0) rfl) hb2_)) (fun hx_=>hC.pd _ (List.mem_of_getElem? (i:=3) rfl) _ (ZTj _) _ (List.mem_of_getElem? (i:=0) rfl) hx_) (fun hx_=>hC.pd _ (List.mem_of_getElem? (i:=4) rfl) _ (ZTj _) _ (List.mem_of_getElem? (i:=0) rfl) hx_)) (fun ret14 w15 hR14=>?_)
  obtain ⟨r10,u10,f12,D75,F76,rfl,h,hr12,hfr85,hd10,hle77,hx78,hf15,hB15⟩:=hR14
  refine⟨_,rfl,?_⟩
  replace hC:=hC.turnPush 0 rfl hB15 hx78 hf15 hr12 (fun b_ hb_=>(hfr85 b_ hb_).symm) hd10
  refine Zd (v:=u10) rfl (dn (ZKw (sr (Za (v:=vI a3) rfl (Jg rfl rfl (dn ?_))))))
  refine Zs rfl (fun hb10=>?_) (fun hb10=>?_)
  ·replace h:=ift h (ct hb10)
   refine Zh (Za (v:=u10) rfl (Za (v:=vQ bp0) rfl (Za (v:=vI a3) rfl (X0 rfl rfl (Za (v:=vQ bp0) rfl (Za (v:=vI a1) rfl (X0 rfl rfl (Za (v:=vI a2) rfl (Za (v:=vI a1) rfl (X0 rfl rfl (Zq rfl rfl ?_)))))))))))
   refine Za (v:=vI a3) rfl (X0 rfl rfl ?_)
   refine Zg [vQ bp0,vI (ZFm.wrap (a1 - 1)),vI (ZFm.wrap ((ZFm.wrap (a2 - a1))+1)),vI (ZFm.wrap (a3 - 1))] _ Z0l rfl rfl rfl (Zk3 C a0 (ZFm.wrap (a1 - 1)) (ZFm.wrap ((ZFm.wrap (a2 - a1))+1)) (ZFm.wrap (a3 - 1)) h _ (Yp (hC.getP 1 rfl) (hC.getP 0 rfl)) (hC.getP 3 rfl) (hC.getP 4 rfl) (hC.getM 1 rfl) (fun b_ hb hb2_=>(ZDd.1 hb).elim (fun hb=>hC.pd _ (List.mem_of_getElem? (i:=1) rfl) b_ hb _ (List.mem_of_getElem? (i:=1) rfl) hb2_) (fun hb=>hC.pd _ (List.mem_of_getElem? (i:=0) rfl) b_ hb _ (List.mem_of_getElem? (i:=1) rfl) hb2_)) (fun hx_=>hC.pd _ (List.mem_of_getElem? (i:=3) rfl) _ (ZTj _) _ (List.mem_of_getElem? (i:=1) rfl) hx_) (fun hx_=>hC.pd _ (List.mem_of_getElem? (i:=4) rfl) _ (ZTj _) _ (List.mem_of_getElem? (i:=1) rfl) hx_)) (fun ret15 w16 hR15=>?_)
   obtain ⟨r16,u13,f13,D92,F93,rfl,h,hr13,hfr102,hd11,hle94,hx95,hf16,hB16⟩:=hR15
   refine⟨_,rfl,?_⟩
   replace hC:=hC.turnPush 1 rfl hB16 hx95 hf16 hr13 (fun b_ hb_=>(hfr102 b_ hb_).symm) hd11
   refine Zg [vQ bp0,vI (ZFm.wrap (a3 - 1)),u13] _ Tryz.func118 rfl rfl rfl (ZAd C a0 (ZFm.wrap (a3 - 1)) r16 h _ (Yp (hC.getP 1 rfl) (hC.getP 0 rfl)) (hC.getP 3 rfl) (hC.getP 4 rfl) (hC.getM 2 rfl) (fun b_ hb hb2_=>(ZDd.1 hb).elim (fun hb=>hC.pd _ (List.mem_of_getElem? (i:=1) rfl) b_ hb _ (List.mem_of_getElem? (i:=2) rfl) hb2_) (fun hb=>hC.pd _ (List.mem_of_getElem? (i:=0) rfl) b_ hb _ (List.mem_of_getElem? (i:=2) rfl) hb2_)) (fun hx_=>hC.pd _ (List.mem_of_getElem? (i:=3) rfl) _ (ZTj _) _ (List.mem_of_getElem? (i:=2) rfl) hx_) (fun hx_=>hC.pd _ (List.mem_of_getElem? (i:=4) rfl) _ (ZTj _) _ (List.mem_of_getElem? (i:=2) rfl) hx_) (ZXr _ (hC.getM 0 rfl).1) (fun b_ hb hb2_=>hC.mm 0 2 rfl rfl (by decide) b_ hb hb2_)) (fun ret16 w17 hR16=>?_)
   obtain ⟨r13,u14,f14,D108,F109,rfl,h,hr14,hfr118,hd12,hle110,hx111,hf17,hB17⟩:=hR16
   refine⟨_,rfl,?_⟩
   replace hC:=hC.turnPush 2 rfl hB17 hx111 hf17 hr14 (fun b_ hb_=>(hfr118 b_ hb_).symm) hd12
   replace hC:=hC.sM [2,0,1,3] (M':=[ZLd (ZTe 22 (ZTe 2 (eI.tr))) r10 [u10] f12,ZLd (ZTe 22 (ZTe 2 (eI.tr))) r13 [u14] f14,ZLd (ZTe 22 (ZTe 2 (eI.tr))) r16 [u13] f13,cpx C 125 mb0 D108 F109]) (by decide) rfl
   obtain ⟨hm10,h⟩:=h
   refine Za8 hC ZXp J2 rfl (by decide) (by decide) rfl rfl hm10 fun v10 f15 w18 hC=>Zd (v:=v10) rfl (dn (sr (Za (v:=vQ bp0) rfl (Za (v:=vI a1) rfl (Za (v:=vI a2) rfl (Za (v:=vI a3) rfl ?_))))))
   refine Zg [vQ bp0,vI a1,vI a2,vI a3] _ Z0l rfl rfl rfl (Zk3 C a0 a1 a2 a3 h _ (Yp (hC.getP 1 rfl) (hC.getP 0 rfl)) (hC.getP 3 rfl) (hC.getP 4 rfl) (hC.getM 2 rfl) (fun b_ hb hb2_=>(ZDd.1 hb).elim (fun hb=>hC.pd _ (List.mem_of_getElem? (i:=1) rfl) b_ hb _ (List.mem_of_getElem? (i:=2) rfl) hb2_) (fun hb=>hC.pd _ (List.mem_of_getElem? (i:=0) rfl) b_ hb _ (List.mem_of_getElem? (i:=2) rfl) hb2_)) (fun hx_=>hC.pd _ (List.mem_of_getElem? (i:=3) rfl) _ (ZTj _) _ (List.mem_of_getElem? (i:=2) rfl) hx_) (fun hx_=>hC.pd _ (List.mem_of_getElem? (i:=4) rfl) _ (ZTj _) _ (List.mem_of_getElem? (i:=2) rfl) hx_)) (fun ret17 w19 hR17=>?_)
   obtain ⟨r17,u27,f16,D128,F129,rfl,h,hr15,hfr138,hd13,hle130,hx131,hf18,hB18⟩:=hR17
   refine⟨_,rfl,?_⟩
   replace hC:=hC.turnPush 2 rfl hB18 hx131 hf18 hr15 (fun b_ hb_=>(hfr138 b_ hb_).symm) hd13
   obtain ⟨Ad10,c10,hv10⟩:=Zdr (hC.getM 0 rfl)
   refine Zt ZXp (tr rfl hv10) (Za (v:=v10) rfl ?_)
   refine Zg [v10] _ Tryz.func57 rfl rfl rfl (Zrk (r10++r13) h _ (ZXr _ (hC.getM 1 rfl).1)) (fun ret18 w20 hR18=>?_)
   obtain ⟨r18,rfl,h,hB19⟩:=hR18
   refine⟨_,rfl,?_⟩
   replace hC:=hC.grow hB19
   refine X0 rfl rfl (Zd (v:=vI (ZFm.wrap ((r17.length:Int) - r18))) rfl (dn (ZK4 ?_)))
   refine Zi (fn:=Tryz.f64) rfl ?_ ⟨ZFm.wrap ((r17.length:Int) - r18),D128,F129,rfl,h,(((hle77.trans hle94).trans hle110).trans hle130),(hC.getM 3 rfl),(fun x_ hx_=>(hC.anyX 3 rfl x_ hx_).symm),hC.belO⟩ (.inl rfl)
   exact Zf rfl
  ·replace h:=Zl h (cf hb10)
   refine ZK0 (Ze (sr (Za (v:=vQ bp0) rfl (Za (v:=vI a1) rfl (Za (v:=vI a2) rfl (Za (v:=vI a3) rfl ?_))))))
   refine Zg [vQ bp0,vI a1,vI a2,vI a3] _ Z0l rfl rfl rfl (Zk3 C a0 a1 a2 a3 h _ (Yp (hC.getP 1 rfl) (hC.getP 0 rfl)) (hC.getP 3 rfl) (hC.getP 4 rfl) (hC.getM 1 rfl) (fun b_ hb hb2_=>(ZDd.1 hb).elim (fun hb=>hC.pd _ (List.mem_of_getElem? (i:=1) rfl) b_ hb _ (List.mem_of_getElem? (i:=1) rfl) hb2_) (fun hb=>hC.pd _ (List.mem_of_getElem? (i:=0) rfl) b_ hb _ (List.mem_of_getElem? (i:=1) rfl) hb2_)) (fun hx_=>hC.pd _ (List.mem_of_getElem? (i:=3) rfl) _ (ZTj _) _ (List.mem_of_getElem? (i:=1) rfl) hx_) (fun hx_=>hC.pd _ (List.mem_of_getElem? (i:=4) rfl) _ (ZTj _) _ (List.mem_of_getElem? (i:=1) rfl) hx_)) (fun ret19 w21 hR19=>?_)
   obtain ⟨r19,u28,f17,D152,F153,rfl,h,hr16,hfr162,hd14,hle154,hx155,hf19,hB20⟩:=hR19
   refine⟨_,rfl,?_⟩
   replace hC:=hC.turnPush 1 rfl hB20 hx155 hf19 hr16 (fun b_ hb_=>(hfr162 b_ hb_).symm) hd14
   obtain ⟨Ad11,c11,hv11⟩:=Zdr (hC.getM 0 rfl)
   refine Zt ZXp (tr rfl hv11) (Za (v:=u10) rfl ?_)
   refine Zg [u10] _ Tryz.func57 rfl rfl rfl (Zrk r10 h _ (ZXr _ (hC.getM 1 rfl).1)) (fun ret20 w22 hR20=>?_)
   obtain ⟨r20,rfl,h,hB21⟩:=hR20
   refine⟨_,rfl,?_⟩
   replace hC:=hC.grow hB21
   refine X0 rfl rfl (Zd (v:=vI (ZFm.wrap ((r19.length:Int) - r20))) rfl (dn (ZK4 ?_)))
   refine Zi (fn:=Tryz.f64) rfl ?_ ⟨ZFm.wrap ((r19.length:Int) - r20),D152,F153,rfl,h,(hle77.trans hle154),(hC.getM 2 rfl),(fun x_ hx_=>(hC.anyX 2 rfl x_ hx_).symm),hC.belO⟩ (.inl rfl)
   exact Zf rfl
def Ziv (a0:Alg) (a1:Int) (a2:Int) (a3:Int) (K:Int→Int→Prop):Prop :=
 Zin a1 (fun r19=>(if r19=true then Zin a2 (fun r17=>joinP (fun (jn10:Int→Prop)=>(if r17=true then Zk0 a3 (fun r18=>Ze1 a0 r18 (fun r20=>jn10 r20)) else Ze1 a0 false (fun r21=>jn10 r21))) (fun (x10:Int)=>(if x10=0 then Yc (fun i10 (s10:Unit) nx10=>Zar a0.degrees (ZFm.wrap (([a3].getD i10 ZC7) - 1)) 120 (fun r22 r13=>(if¬ (r13=true) then K 0 3 else Zar a0.degrees ([a3].getD i10 ZC7) 120 (fun r23 r11=>(if¬ (r11=true) then K 0 3 else Zar a0.degrees (ZFm.wrap (([a3].getD i10 ZC7)+1)) 120 (fun r24 r15=>(if¬ (r15=true) then K 0 3 else nx10 ()))))))) (fun (s10:Unit)=>(∃ (C:Cx),Zd3 C a0 a1 a2 a3 (fun r25=>K r25 0))) ([a3].length) 0 () else(if x10≠0 then K 0 x10 else(∃ (C:Cx),Zd3 C a0 a1 a2 a3 (fun r26=>K r26 0)))))) else Ze1 a0 false (fun r10=>(if r10=0 then Yc (fun i11 (s11:Unit) nx11=>Zar a0.degrees (ZFm.wrap (([a3].getD i11 ZC7) - 1)) 120 (fun r27 r14=>(if¬ (r14=true) then K 0 3 else Zar a0.degrees ([a3].getD i11 ZC7) 120 (fun r28 r12=>(if¬ (r12=true) then K 0 3 else Zar a0.degrees (ZFm.wrap (([a3].getD i11 ZC7)+1)) 120 (fun r29 r16=>(if¬ (r16=true) then K 0 3 else nx11 ()))))))) (fun (s11:Unit)=>(∃ (C:Cx),Zd3 C a0 a1 a2 a3 (fun r30=>K r30 0))) ([a3].length) 0 () else(if r10≠0 then K 0 r10 else(∃ (C:Cx),Zd3 C a0 a1 a2 a3 (fun r31=>K r31 0)))))))
theorem ZAe (a0 : Alg) (a1 : Int) (a2 : Int) (a3 : Int)  {K : Int → Int → Prop} (h : Ziv a0 a1 a2 a3 K) (w0 : World) (q0 : TAlg.rep a0 [u0_0, u0_1] fp0 w0) :
  Calls ZKz 22 #[.agg #[u0_0,u0_1],vI a1,vI a2,vI a3] w0 fun e w'=>∃ (r0:Int) (r1:Int),
   e=.returned (.tuple #[vI r0,vI r1])∧K r0 r1∧Bel w0 w':=by
 unfold Ziv at h
 refine cof Tryz.func22 rfl 31 Tryz.ntmps22 ?_
 have hC:=ZLh (X:=Nox) w0 [ZKv TAlg a0 [u0_0,u0_1] fp0] (al1 q0)
 replace hC:=hC.dAlg 0 rfl
 refine sr (Yi (v:=.agg #[u0_0,u0_1]) hC [u0_0,u0_1] rfl rfl fun b4 w6 hB_ hC=>Zd (v:=vI 0) rfl (Zd (v:=vI 0) rfl (dn (sr (Za (v:=vI a3) rfl (Za (v:=vI a1) rfl ?_))))))
 refine Zg [vI a1] _ Tryz.func63 rfl rfl rfl (Zrj a1 h _) (fun ret7 w9 hR8=>?_)
 obtain ⟨r19,rfl,h,hB10⟩:=hR8
 refine⟨_,rfl,?_⟩
 replace hC:=hC.grow hB10
 refine Za (v:=.bool r19) rfl ?_
 refine Y8 r19 (fun hb14=>?_) (fun hb14=>?_)
 ·replace h:=ift h (hb14)
  refine Zm 3 16 rfl rfl hb14 (Za (v:=vI a2) rfl (Zm 3 16 rfl rfl hb14 ?_))
  refine Zg [vI a2] _ Tryz.func63 rfl rfl rfl (Zrj a2 h _) (fun ret10 w10 hR10=>?_)
  obtain ⟨r17,rfl,h,hB11⟩:=hR10
  refine⟨_,rfl,?_⟩
  replace hC:=hC.grow hB11
  refine Z3 (v:=.bool r17) (b:=true) (tr rfl (congrArg _ hb14)) rfl (Zbp [vQ b4,vI a3,.bool r17] Tryz.func62 rfl rfl 27 Tryz.ntmps62 (ZK5 rfl) rfl (sr (Zd (v:=.pointer none) rfl (Zd (v:=vI 0) rfl (dn (ZKw ?_))))))
  obtain ⟨jn10,hj10,h⟩:=Zjf h
  refine Zjp (fun e_ w_=>∃ (x10:Int),Zv e_ [(0,vQ b4),(1,vI a3),(8,vI x10)]∧Ctx Nox w0 w_ [blk b4 32 [u0_0,u0_1]] [ZKv TForm.sl a0.images [u0_1] fp0,ZKv TInts a0.degrees [u0_0] fp0,ZKv TAlg a0 [u0_0,u0_1] fp0]∧jn10 x10) ?_ ?_
  ·skip
   refine Zh (Za (v:=vQ b4) rfl (Za (v:=.bool r17) rfl (Za (v:=.bool r17) rfl ?_)))
   refine Y8 r17 (fun hb15=>?_) (fun hb15=>?_)
   ·replace h:=ift h (hb15)
    refine Zm 2 12 rfl rfl hb15 (Za (v:=vI a3) rfl (Zm 2 12 rfl rfl hb15 ?_))
    refine Zg [vI a3] _ Tryz.func112 rfl rfl rfl (Zz3 a3 h _) (fun ret11 w11 hR11=>?_)
    obtain ⟨r18,rfl,h,hB12⟩:=hR11
    refine⟨_,rfl,?_⟩
    replace hC:=hC.grow hB12
    refine Z3 (v:=.bool r18) (b:=true) (tr rfl (congrArg _ hb15)) rfl ?_
    refine Zg [vQ b4,.bool r18] _ Z0o rfl rfl rfl (Znw a0 r18 h _ (Yp (hC.getP 1 rfl) (hC.getP 0 rfl)) (hC.getM 0 rfl)) (fun ret12 w12 hR12=>?_)
    obtain ⟨r20,rfl,h,hB13⟩:=hR12
    refine⟨_,rfl,?_⟩
    replace hC:=hC.grow hB13
    refine Zd (v:=vI r20) rfl (done ?_)
    exact⟨rfl,_,rfl,r20,(sl ⟨rfl,rfl,rfl,trivial⟩),hC,h⟩
   ·replace h:=Zl h (Y4 hb15)
    refine Zk (b:=false) 2 12 rfl (tr rfl (congrArg _ hb15)) (by decide) (Zk (b:=false) 2 12 rfl (tr rfl (congrArg _ hb15)) (by decide) (Z3 (v:=.bool false) (b:=false) (tr rfl (congrArg _ hb15)) rfl ?_))
    refine Zg [vQ b4,.bool false] _ Z0o rfl rfl rfl (Znw a0 false h _ (Yp (hC.getP 1 rfl) (hC.getP 0 rfl)) (hC.getM 0 rfl)) (fun ret13 w13 hR13=>?_)
    obtain ⟨r21,rfl,h,hB14⟩:=hR13
    refine⟨_,rfl,?_⟩
    replace hC:=hC.grow hB14
    refine Zd (v:=vI r21) rfl (done ?_)
    exact⟨rfl,_,rfl,r21,(sl ⟨rfl,rfl,rfl,trivial⟩),hC,h⟩
  ·clear hC h
   rintro e_ w14 ⟨x10,hS_,hC,h⟩
   replace h:=hj10 _ h
   rw [ue hS_]
   refine Ze (sr (Za (v:=vQ b4) rfl (Zbp [vQ b4] Tryz.func113 rfl rfl 7 Tryz.ntmps113 (ZK5 rfl) rfl (sr (Zd (v:=.pointer none) rfl (dn (sr (Za (v:=vQ b4) rfl (Zee hC (vvI .i64) vvP fun b12 w15 hB_ hC=>J0 [(0,vQ b4),(1,.map (some b12))] rfl (Zrd b4 b12  _) (Yi (v:=.agg #[vQ b4,.map (some b12)]) hC [vQ b4,.map (some b12)] rfl rfl fun b10 w16 hB_ hC=>?_))))))))))
   refine Zd (v:=vQ b10) rfl (dn (ZK4 ?_))
   refine Zi (fn:=Tryz.f113) (v:=vQ b10) rfl (Zf rfl) ⟨_,rfl,?_⟩ (.inl rfl)
   refine Zd (v:=vQ b10) rfl (dn (ZKw (sr (Za (v:=vI x10) rfl (Xu rfl rfl (dn ?_))))))
   refine Zs rfl (fun hb16=>?_) (fun hb16=>?_)
   ·replace h:=ift h (ct hb16)
    refine Zh (Za (v:=vQ b10) rfl (Za (v:=vI a3) rfl (Yh (sz:=1) hC [(0,vI a3)] (eI.encs [a3]) rfl (fun _=>Zib a3 _) rfl (by decide) fun b14 w17 hB_ hC=>Zbp [vQ b10,.slice (some ⟨b14,0,none⟩) 1 1] Tryz.func114 rfl rfl 32 Tryz.ntmps114 (ZK5 rfl) rfl (sr (Zd (v:=vI 0) rfl (dn (ZKw (sr (Za (v:=.slice (some ⟨b14,0,none⟩) 1 1) rfl ?_)))))))))
    obtain ⟨Ad10,c10,hv12⟩:=X1 (hC.getM 0 rfl)
    refine Zt ZLf (tr rfl hv12) (Za (v:=vI 0) rfl (dn (ZK2 ?_)))
    have hN10:[a3].length≤9223372036854775807:=Zdm (hC.getM 0 rfl)
    refine Yk (S:=Unit) _ _ (fun i10 s10 e_ w_=>Zv e_ [(0,vQ b10),(7,.slice (some ⟨b14,0,none⟩) 1 1),(8,vI ([a3].length:Int)),(9,vI (i10:Int))]∧Ctx Nox w0 w_ [own 2 1 (.slice (some ⟨b14,0,none⟩) 1 1) ([a3].length) (eI.encs [a3]),blk b10 198 [vQ b4,.map (some b12)],Yd (vvI .i64) vvP b12 ([]:List (Int×Nat)),blk b4 32 [u0_0,u0_1]] [ZKv TForm.sl a0.images [u0_1] fp0,ZKv TInts a0.degrees [u0_0] fp0,ZKv TAlg a0 [u0_0,u0_1] fp0]) ([a3].length) ?_ ?_ (s0:=()) ?_ h
    ·clear hC h
     rintro i10 s10 e_ w18 nx10 K10 hi10 ⟨hS_,hC⟩ h hK10
     rw [ue hS_]
     refine sr (Zp rfl rfl (dn (ZKw (Z6 rfl (decide_eq_true (by omega)) (ZK0 (Ze (ZKw (ZK2 (sr ?_)))))))))
     obtain ⟨Ad11,c11,hv10⟩:=Xz (hC.getM 0 rfl) (ZOj (ZEp _) hi10)
     refine X6 (i10 * 1) ZLf sc2.size (tr rfl hv10) rfl (ZLc _) (ZLv.2 hi10) rfl (Yo (vI ([a3].getD i10 ZC7)) (Zah (hC.getM 0 rfl) hv10 i10 hi10) sc2 rfl (Zd (v:=vI ([a3].getD i10 ZC7)) rfl (dn (sr (Za (v:=vQ b10) rfl (Za (v:=vI ([a3].getD i10 ZC7)) rfl (X0 rfl rfl (Zbp [vQ b10,vI (ZFm.wrap (([a3].getD i10 ZC7) - 1))] Z0g rfl rfl 20 Z0h (ZK5 rfl) rfl (sr (Zd (v:=.bool false) rfl (dn ?_)))))))))))
     refine sr (Za (v:=vQ b10) rfl (Xl rfl (Z1 0 ZUl rfl sc66.size rfl rfl (Yb hC 1 (vQ b4) rfl sc66 rfl rfl (Xl rfl (Z1 0 ZLg rfl sc22.size rfl rfl (Yb hC 3 (u0_0) rfl sc22 rfl rfl (Za (v:=vI (ZFm.wrap (([a3].getD i10 ZC7) - 1))) rfl ?_))))))))
     refine Zg [u0_0,vI (ZFm.wrap (([a3].getD i10 ZC7) - 1)),vI 120] _ Z0i rfl rfl rfl (Zev a0.degrees (ZFm.wrap (([a3].getD i10 ZC7) - 1)) 120 h _ (hC.getP 1 rfl)) (fun ret14 w19 hR14=>?_)
     obtain ⟨r22,u10,f10,r13,rfl,h,hr10,hf10,hB15⟩:=hR14
     refine⟨_,rfl,?_⟩
     replace hC:=hC.push hB15 (ZLd (ZTe 73 ((EA .i64).tr)) r22 [u10] f10) hr10 hf10
     obtain ⟨ho10,hf11⟩:=Y6 (hC.getM 0 rfl).1
     subst hf11
     replace hC:=hC.recast (c:=own 73 8 u10 r22.length ((EA .i64).encs r22)) (fun _ h_=>h_) (fun _=>ho10)
     refine Za (v:=.tuple #[u10,.bool r13]) rfl (Ym (v:=u10) rfl rfl (Ym (v:=.bool r13) rfl rfl (Zd (v:=u10) rfl (Zd (v:=.bool r13) rfl (dn (sr (Za (v:=.bool r13) rfl (Zd (v:=.bool r13) rfl (dn (ZK4 ?_))))))))))
     refine Zi (fn:=Z0j) (v:=.bool r13) rfl (Zf rfl) ⟨_,rfl,?_⟩ (.inl rfl)
     refine Xe rfl (Za (v:=.bool (!r13)) rfl ?_)
     refine Y8 (!r13) (fun hb12=>?_) (fun hb12=>?_)
     ·replace h:=ift h (Y4 (Xj hb12))
      refine Zk (b:=true) 5 18 rfl (tr rfl (congrArg _ hb12)) (by decide) (Zk (b:=true) 5 18 rfl (tr rfl (congrArg _ hb12)) (by decide) (Zk (b:=true) 5 18 rfl (tr rfl (congrArg _ hb12)) (by decide) (Zk (b:=true) 5 18 rfl (tr rfl (congrArg _ hb12)) (by decide) (Z3 (v:=.bool true) (b:=true) (tr rfl (congrArg _ hb12)) rfl (Za (v:=.bool true) rfl (Zk (b:=true) 11 24 rfl (tr rfl (congrArg _ rfl)) (by decide) (Zk (b:=true) 11 24 rfl (tr rfl (congrArg _ rfl)) (by decide) (Zk (b:=true) 11 24 rfl (tr rfl (congrArg _ rfl)) (by decide) (Zk (b:=true) 11 24 rfl (tr rfl (congrArg _ rfl)) (by decide) (Zk (b:=true) 11 24 rfl (tr rfl (congrArg _ rfl)) (by decide) (Z3 (v:=.bool true) (b:=true) rfl rfl ?_)))))))))))
      refine dn (Z6 rfl rfl (sr (Zd (v:=vI 3) rfl (dn ?_))))
      refine ZK4 (Z9 (Zn (Zn (Z9 (Zn ?_)))))
      refine Zi (fn:=Z0d) (v:=vI 3) rfl (Zf rfl) ⟨_,rfl,?_⟩ (.inl rfl)
      refine Zd (v:=vI 3) rfl (dn (sr (Za (v:=vQ b10) rfl (Za (v:=vI 3) rfl (Zd (v:=vQ b10) rfl (Zd (v:=vI 3) rfl (dn (ZK4 ?_))))))))
      refine Y7 (fn:=Z0b) (v:=vQ b10) (u:=vI 3) rfl (Zf rfl) (Zf rfl) ⟨_,rfl,?_⟩ (.inl rfl)
      refine Za (v:=.tuple #[vQ b10,vI 3]) rfl (Ym (v:=vQ b10) rfl rfl (Ym (v:=vI 3) rfl rfl (Zd (v:=vQ b10) rfl (Zd (v:=vI 3) rfl (dn (ZKw (sr (Za (v:=vI 3) rfl (Y5 rfl rfl (dn (Z6 rfl rfl ?_)))))))))))
      refine sr (Za (v:=vI 3) rfl (Zd (v:=vI 0) rfl (Zd (v:=vI 3) rfl (dn ?_))))
      refine ZK4 (Zn ?_)
      refine Y7 (fn:=Z0a) rfl ?_ ?_ ⟨0,3,rfl,h,hC.below⟩ (.inl rfl)
      ·exact Zf rfl
      ·exact Zf rfl
     ·replace h:=Zl h (not_not_intro ((Xk hb12)))
      refine Zm 5 18 rfl rfl hb12 (Za (v:=vQ b10) rfl (Zm 5 18 rfl rfl hb12 (Za (v:=vI ([a3].getD i10 ZC7)) rfl (Zm 5 18 rfl rfl hb12 (Zbp [vQ b10,vI ([a3].getD i10 ZC7)] Z0g rfl rfl 20 Z0h (ZK5 rfl) rfl (sr (Zd (v:=.bool false) rfl (dn (sr (Za (v:=vQ b10) rfl (Xl rfl ?_)))))))))))
      refine Z1 0 ZUl rfl sc66.size rfl rfl (Yb hC 2 (vQ b4) rfl sc66 rfl rfl (Xl rfl (Z1 0 ZLg rfl sc22.size rfl rfl (Yb hC 4 (u0_0) rfl sc22 rfl rfl (Za (v:=vI ([a3].getD i10 ZC7)) rfl ?_)))))
      refine Zg [u0_0,vI ([a3].getD i10 ZC7),vI 120] _ Z0i rfl rfl rfl (Zev a0.degrees ([a3].getD i10 ZC7) 120 h _ (hC.getP 1 rfl)) (fun ret15 w20 hR15=>?_)
      obtain ⟨r23,u11,f11,r11,rfl,h,hr11,hf12,hB16⟩:=hR15
      refine⟨_,rfl,?_⟩
      replace hC:=hC.push hB16 (ZLd (ZTe 73 ((EA .i64).tr)) r23 [u11] f11) hr11 hf12
      obtain ⟨ho11,hf13⟩:=Y6 (hC.getM 0 rfl).1
      subst hf13
      replace hC:=hC.recast (c:=own 73 8 u11 r23.length ((EA .i64).encs r23)) (fun _ h_=>h_) (fun _=>ho11)
      refine Za (v:=.tuple #[u11,.bool r11]) rfl (Ym (v:=u11) rfl rfl (Ym (v:=.bool r11) rfl rfl (Zd (v:=u11) rfl (Zd (v:=.bool r11) rfl (dn (sr (Za (v:=.bool r11) rfl (Zd (v:=.bool r11) rfl (dn (ZK4 ?_))))))))))
      refine Zi (fn:=Z0j) (v:=.bool r11) rfl (Zf rfl) ⟨_,rfl,?_⟩ (.inl rfl)
      refine Zm 5 18 rfl rfl hb12 (Xe rfl (Z3 (v:=.bool (!r11)) (b:=false) (tr rfl (congrArg _ hb12)) rfl (Za (v:=.bool (!r11)) rfl ?_)))
      refine Y8 (!r11) (fun hb10=>?_) (fun hb10=>?_)
      ·replace h:=ift h (Y4 (Xj hb10))
       refine Zk (b:=true) 11 24 rfl (tr rfl (congrArg _ hb10)) (by decide) (Zk (b:=true) 11 24 rfl (tr rfl (congrArg _ hb10)) (by decide) (Zk (b:=true) 11 24 rfl (tr rfl (congrArg _ hb10)) (by decide) (Zk (b:=true) 11 24 rfl (tr rfl (congrArg _ hb10)) (by decide) (Zk (b:=true) 11 24 rfl (tr rfl (congrArg _ hb10)) (by decide) (Z3 (v:=.bool true) (b:=true) (tr rfl (congrArg _ hb10)) rfl (dn (Z6 rfl rfl (sr (Zd (v:=vI 3) rfl (dn ?_))))))))))
       refine ZK4 (Z9 (Zn (Zn (Z9 (Zn ?_)))))
       refine Zi (fn:=Z0d) (v:=vI 3) rfl (Zf rfl) ⟨_,rfl,?_⟩ (.inl rfl)
       refine Zd (v:=vI 3) rfl (dn (sr (Za (v:=vQ b10) rfl (Za (v:=vI 3) rfl (Zd (v:=vQ b10) rfl (Zd (v:=vI 3) rfl (dn (ZK4 ?_))))))))
       refine Y7 (fn:=Z0b) (v:=vQ b10) (u:=vI 3) rfl (Zf rfl) (Zf rfl) ⟨_,rfl,?_⟩ (.inl rfl)
       refine Za (v:=.tuple #[vQ b10,vI 3]) rfl (Ym (v:=vQ b10) rfl rfl (Ym (v:=vI 3) rfl rfl (Zd (v:=vQ b10) rfl (Zd (v:=vI 3) rfl (dn (ZKw (sr (Za (v:=vI 3) rfl (Y5 rfl rfl (dn (Z6 rfl rfl ?_)))))))))))
       refine sr (Za (v:=vI 3) rfl (Zd (v:=vI 0) rfl (Zd (v:=vI 3) rfl (dn ?_))))
       refine ZK4 (Zn ?_)
       refine Y7 (fn:=Z0a) rfl ?_ ?_ ⟨0,3,rfl,h,hC.below⟩ (.inl rfl)
       ·exact Zf rfl
       ·exact Zf rfl
      ·replace h:=Zl h (not_not_intro ((Xk hb10)))
       refine Zm 11 24 rfl rfl hb10 (Za (v:=vQ b10) rfl (Zm 11 24 rfl rfl hb10 (Za (v:=vI ([a3].getD i10 ZC7)) rfl (Zm 11 24 rfl rfl hb10 (Zq rfl rfl (Zm 11 24 rfl rfl hb10 (Zbp [vQ b10,vI (ZFm.wrap (([a3].getD i10 ZC7)+1))] Z0g rfl rfl 20 Z0h (ZK5 rfl) rfl (sr (Zd (v:=.bool false) rfl (dn (sr ?_)))))))))))
       refine Za (v:=vQ b10) rfl (Xl rfl (Z1 0 ZUl rfl sc66.size rfl rfl (Yb hC 3 (vQ b4) rfl sc66 rfl rfl (Xl rfl (Z1 0 ZLg rfl sc22.size rfl rfl (Yb hC 5 (u0_0) rfl sc22 rfl rfl (Za (v:=vI (ZFm.wrap (([a3].getD i10 ZC7)+1))) rfl ?_)))))))
       refine Zg [u0_0,vI (ZFm.wrap (([a3].getD i10 ZC7)+1)),vI 120] _ Z0i rfl rfl rfl (Zev a0.degrees (ZFm.wrap (([a3].getD i10 ZC7)+1)) 120 h _ (hC.getP 1 rfl)) (fun ret16 w21 hR16=>?_)
       obtain ⟨r24,u12,f12,r15,rfl,h,hr12,hf14,hB17⟩:=hR16
       refine⟨_,rfl,?_⟩
       replace hC:=hC.push hB17 (ZLd (ZTe 73 ((EA .i64).tr)) r24 [u12] f12) hr12 hf14
       obtain ⟨ho12,hf15⟩:=Y6 (hC.getM 0 rfl).1
       subst hf15
       replace hC:=hC.recast (c:=own 73 8 u12 r24.length ((EA .i64).encs r24)) (fun _ h_=>h_) (fun _=>ho12)
       refine Za (v:=.tuple #[u12,.bool r15]) rfl (Ym (v:=u12) rfl rfl (Ym (v:=.bool r15) rfl rfl (Zd (v:=u12) rfl (Zd (v:=.bool r15) rfl (dn (sr (Za (v:=.bool r15) rfl (Zd (v:=.bool r15) rfl (dn (ZK4 ?_))))))))))
       refine Zi (fn:=Z0j) (v:=.bool r15) rfl (Zf rfl) ⟨_,rfl,?_⟩ (.inl rfl)
       refine Zm 11 24 rfl rfl hb10 (Xe rfl (Z3 (v:=.bool (!r15)) (b:=false) (tr rfl (congrArg _ hb10)) rfl (dn ?_)))
       refine Zs rfl (fun hb17=>?_) (fun hb17=>?_)
       ·replace h:=ift h (Y4 (Xj hb17))
        refine sr (Zd (v:=vI 3) rfl (dn ?_))
        refine ZK4 (Z9 (Zn (Zn (Z9 (Zn ?_)))))
        refine Zi (fn:=Z0d) (v:=vI 3) rfl (Zf rfl) ⟨_,rfl,?_⟩ (.inl rfl)
        refine Zd (v:=vI 3) rfl (dn (sr (Za (v:=vQ b10) rfl (Za (v:=vI 3) rfl (Zd (v:=vQ b10) rfl (Zd (v:=vI 3) rfl (dn (ZK4 ?_))))))))
        refine Y7 (fn:=Z0b) (v:=vQ b10) (u:=vI 3) rfl (Zf rfl) (Zf rfl) ⟨_,rfl,?_⟩ (.inl rfl)
        refine Za (v:=.tuple #[vQ b10,vI 3]) rfl (Ym (v:=vQ b10) rfl rfl (Ym (v:=vI 3) rfl rfl (Zd (v:=vQ b10) rfl (Zd (v:=vI 3) rfl (dn (ZKw (sr (Za (v:=vI 3) rfl (Y5 rfl rfl (dn (Z6 rfl rfl ?_)))))))))))
        refine sr (Za (v:=vI 3) rfl (Zd (v:=vI 0) rfl (Zd (v:=vI 3) rfl (dn ?_))))
        refine ZK4 (Zn ?_)
        refine Y7 (fn:=Z0a) rfl ?_ ?_ ⟨0,3,rfl,h,hC.below⟩ (.inl rfl)
        ·exact Zf rfl
        ·exact Zf rfl
       ·replace h:=Zl h (not_not_intro ((Xk hb17)))
        refine ZK0 (Zr (Ze (Zh (Zq rfl rfl (Za (v:=vI (ZFm.wrap ((i10:Int)+1))) rfl (done ?_))))))
        exact hK10 () _ _ ⟨(sl ⟨rfl,rfl,rfl,(tr rfl (congrArg _ (Z5 hi10 hN10))),trivial⟩),(hC.xM [3,4,5,6] rfl)⟩ h
    ·clear hC h
     rintro s10 e_ w22 K10 ⟨hS_,hC⟩ h
     rw [ue hS_]
     refine sr (Zp rfl rfl (dn (ZKw (Z2 rfl (decide_eq_false (by omega)) ?_))))
     refine ZLa (Zj (Zj (Z0 ?_)))
     refine Ze (sr (Zd (v:=vI 0) rfl (dn (ZK4 ?_))))
     refine Zi (fn:=Z0d) (v:=vI 0) rfl (Zf rfl) ⟨_,rfl,?_⟩ (.inl rfl)
     refine Zd (v:=vI 0) rfl (dn (sr (Za (v:=vQ b10) rfl (Za (v:=vI 0) rfl (Zd (v:=vQ b10) rfl (Zd (v:=vI 0) rfl (dn (ZK4 ?_))))))))
     refine Y7 (fn:=Z0b) (v:=vQ b10) (u:=vI 0) rfl (Zf rfl) (Zf rfl) ⟨_,rfl,?_⟩ (.inl rfl)
     refine Za (v:=.tuple #[vQ b10,vI 0]) rfl (Ym (v:=vQ b10) rfl rfl (Ym (v:=vI 0) rfl rfl (Zd (v:=vQ b10) rfl (Zd (v:=vI 0) rfl (dn (ZKw (sr (Za (v:=vI 0) rfl (Y5 rfl rfl (dn (Z2 rfl rfl ?_)))))))))))
     refine ZK0 (Ze (sr (Za (v:=vQ b10) rfl (Za (v:=vI a1) rfl (Za (v:=vI a2) rfl (Za (v:=vI a3) rfl ?_))))))
     replace hC:=hC.thaw 1 rfl (blk b10 198 [vQ b4,.map (some b12)]) id (fun _ hb_=>hb_)
     replace hC:=hC.sM [1,0,2] (M':=[Yd (vvI .i64) vvP b12 ([]:List (Int×Nat)),own 2 1 (.slice (some ⟨b14,0,none⟩) 1 1) ([a3].length) (eI.encs [a3]),blk b4 32 [u0_0,u0_1]]) (by decide) rfl
     obtain ⟨C,h⟩:=h
     replace hC:=hC.recast (c:=cpx C 125 b12 [] []) (fun x_ hx_=>by simpa [cpx,Yd] using hx_) (fun h_=>Zko h_)
     refine Zg [vQ b10,vI a1,vI a2,vI a3] _ Z0m rfl rfl rfl (Zk4 C a0 a1 a2 a3 h _ (Yp (hC.getP 2 rfl) (hC.getP 1 rfl)) (hC.getM 2 rfl) (hC.getP 0 rfl) (hC.getM 0 rfl) (fun b_ hb hb2_=>(ZDd.1 hb).elim (fun hb=>hC.pd _ (List.mem_of_getElem? (i:=2) rfl) b_ hb _ (List.mem_of_getElem? (i:=0) rfl) hb2_) (fun hb=>hC.pd _ (List.mem_of_getElem? (i:=1) rfl) b_ hb _ (List.mem_of_getElem? (i:=0) rfl) hb2_)) (hC.mm 2 0 rfl rfl (by decide) _ (ZTj _)) (fun hx_=>hC.pd _ (List.mem_of_getElem? (i:=0) rfl) _ (ZTj _) _ (List.mem_of_getElem? (i:=0) rfl) hx_)) (fun ret17 w23 hR17=>?_)
     obtain ⟨r25,D188,F189,rfl,h,hle190,hx191,hf16,hB18⟩:=hR17
     refine⟨_,rfl,?_⟩
     replace hC:=hC.turnI 0 rfl hB18 hx191 hf16
     refine Zd (v:=vI r25) rfl (Zd (v:=vI 0) rfl (dn (ZK4 ?_)))
     refine Y7 (fn:=Z0a) rfl ?_ ?_ ⟨r25,0,rfl,h,hC.below⟩ (.inl rfl)
     ·exact Zf rfl
     ·exact Zf rfl
    ·skip
     exact⟨(sl ⟨rfl,rfl,rfl,rfl,trivial⟩),hC⟩
   ·replace h:=Zl h (cf hb16)
    refine ZK0 (Ze (sr (Za (v:=vQ b10) rfl (Za (v:=vI x10) rfl (Zd (v:=vQ b10) rfl (Zd (v:=vI x10) rfl (dn (ZK4 ?_))))))))
    refine Y7 (fn:=Z0b) (v:=vQ b10) (u:=vI x10) rfl (Zf rfl) (Zf rfl) ⟨_,rfl,?_⟩ (.inl rfl)
    refine Za (v:=.tuple #[vQ b10,vI x10]) rfl (Ym (v:=vQ b10) rfl rfl (Ym (v:=vI x10) rfl rfl (Zd (v:=vQ b10) rfl (Zd (v:=vI x10) rfl (dn (ZKw (sr (Za (v:=vI x10) rfl (Y5 rfl rfl (dn ?_))))))))))
    refine Zs rfl (fun hb18=>?_) (fun hb18=>?_)
    ·replace h:=ift h (ct hb18)
     refine sr (Za (v:=vI x10) rfl (Zd (v:=vI 0) rfl (Zd (v:=vI x10) rfl (dn ?_))))
     refine ZK4 (Zn ?_)
     refine Y7 (fn:=Z0a) rfl ?_ ?_ ⟨0,x10,rfl,h,hC.below⟩ (.inl rfl)
     ·exact Zf rfl
     ·exact Zf rfl
    ·replace h:=Zl h (cf hb18)
     refine ZK0 (Ze (sr (Za (v:=vQ b10) rfl (Za (v:=vI a1) rfl (Za (v:=vI a2) rfl (Za (v:=vI a3) rfl ?_))))))
     replace hC:=hC.thaw 0 rfl (blk b10 198 [vQ b4,.map (some b12)]) id (fun _ hb_=>hb_)
     obtain ⟨C,h⟩:=h
     replace hC:=hC.recast (c:=cpx C 125 b12 [] []) (fun x_ hx_=>by simpa [cpx,Yd] using hx_) (fun h_=>Zko h_)
     refine Zg [vQ b10,vI a1,vI a2,vI a3] _ Z0m rfl rfl rfl (Zk4 C a0 a1 a2 a3 h _ (Yp (hC.getP 2 rfl) (hC.getP 1 rfl)) (hC.getM 1 rfl) (hC.getP 0 rfl) (hC.getM 0 rfl) (fun b_ hb hb2_=>(ZDd.1 hb).elim (fun hb=>hC.pd _ (List.mem_of_getElem? (i:=2) rfl) b_ hb _ (List.mem_of_getElem? (i:=0) rfl) hb2_) (fun hb=>hC.pd _ (List.mem_of_getElem? (i:=1) rfl) b_ hb _ (List.mem_of_getElem? (i:=0) rfl) hb2_)) (hC.mm 1 0 rfl rfl (by decide) _ (ZTj _)) (fun hx_=>hC.pd _ (List.mem_of_getElem? (i:=0) rfl) _ (ZTj _) _ (List.mem_of_getElem? (i:=0) rfl) hx_)) (fun ret18 w24 hR18=>?_)
     obtain ⟨r26,D199,F200,rfl,h,hle201,hx202,hf17,hB19⟩:=hR18
     refine⟨_,rfl,?_⟩
     replace hC:=hC.turnI 0 rfl hB19 hx202 hf17
     refine Zd (v:=vI r26) rfl (Zd (v:=vI 0) rfl (dn (ZK4 ?_)))
     refine Y7 (fn:=Z0a) rfl ?_ ?_ ⟨r26,0,rfl,h,hC.below⟩ (.inl rfl)
     ·exact Zf rfl
     ·exact Zf rfl
 ·replace h:=Zl h (Y4 hb14)
  refine Zk (b:=false) 3 16 rfl (tr rfl (congrArg _ hb14)) (by decide) (Zk (b:=false) 3 16 rfl (tr rfl (congrArg _ hb14)) (by decide) (Z3 (v:=.bool false) (b:=false) (tr rfl (congrArg _ hb14)) rfl (Zbp [vQ b4,vI a3,.bool false] Tryz.func62 rfl rfl 27 Tryz.ntmps62 (ZK5 rfl) rfl (sr (Zd (v:=.pointer none) rfl (Zd (v:=vI 0) rfl (dn (sr (Za (v:=vQ b4) rfl (Za (v:=.bool false) rfl (Za (v:=.bool false) rfl ?_)))))))))))
  refine Zk (b:=false) 2 12 rfl (tr rfl (congrArg _ rfl)) (by decide) (Zk (b:=false) 2 12 rfl (tr rfl (congrArg _ rfl)) (by decide) (Z3 (v:=.bool false) (b:=false) rfl rfl ?_))
  refine Zg [vQ b4,.bool false] _ Z0o rfl rfl rfl (Znw a0 false h _ (Yp (hC.getP 1 rfl) (hC.getP 0 rfl)) (hC.getM 0 rfl)) (fun ret19 w25 hR19=>?_)
  obtain ⟨r10,rfl,h,hB20⟩:=hR19
  refine⟨_,rfl,?_⟩
  replace hC:=hC.grow hB20
  refine Zd (v:=vI r10) rfl (dn (sr (Za (v:=vQ b4) rfl (Zbp [vQ b4] Tryz.func113 rfl rfl 7 Tryz.ntmps113 (ZK5 rfl) rfl (sr (Zd (v:=.pointer none) rfl (dn (sr (Za (v:=vQ b4) rfl (Zee hC (vvI .i64) vvP fun b13 w26 hB_ hC=>J0 [(0,vQ b4),(1,.map (some b13))] rfl (Zrd b4 b13  _) ?_))))))))))
  refine Yi (v:=.agg #[vQ b4,.map (some b13)]) hC [vQ b4,.map (some b13)] rfl rfl fun b11 w27 hB_ hC=>Zd (v:=vQ b11) rfl (dn (ZK4 ?_))
  refine Zi (fn:=Tryz.f113) (v:=vQ b11) rfl (Zf rfl) ⟨_,rfl,?_⟩ (.inl rfl)
  refine Zd (v:=vQ b11) rfl (dn (ZKw (sr (Za (v:=vI r10) rfl (Xu rfl rfl (dn ?_))))))
  refine Zs rfl (fun hb19=>?_) (fun hb19=>?_)
  ·replace h:=ift h (ct hb19)
   refine Zh (Za (v:=vQ b11) rfl (Za (v:=vI a3) rfl (Yh (sz:=1) hC [(0,vI a3)] (eI.encs [a3]) rfl (fun _=>Zib a3 _) rfl (by decide) fun b15 w28 hB_ hC=>Zbp [vQ b11,.slice (some ⟨b15,0,none⟩) 1 1] Tryz.func114 rfl rfl 32 Tryz.ntmps114 (ZK5 rfl) rfl (sr (Zd (v:=vI 0) rfl (dn (ZKw (sr (Za (v:=.slice (some ⟨b15,0,none⟩) 1 1) rfl ?_)))))))))
   obtain ⟨Ad12,c12,hv13⟩:=X1 (hC.getM 0 rfl)
   refine Zt ZLf (tr rfl hv13) (Za (v:=vI 0) rfl (dn (ZK2 ?_)))
   have hN11:[a3].length≤9223372036854775807:=Zdm (hC.getM 0 rfl)
   refine Yk (S:=Unit) _ _ (fun i11 s11 e_ w_=>Zv e_ [(0,vQ b11),(7,.slice (some ⟨b15,0,none⟩) 1 1),(8,vI ([a3].length:Int)),(9,vI (i11:Int))]∧Ctx Nox w0 w_ [own 2 1 (.slice (some ⟨b15,0,none⟩) 1 1) ([a3].length) (eI.encs [a3]),blk b11 198 [vQ b4,.map (some b13)],Yd (vvI .i64) vvP b13 ([]:List (Int×Nat)),blk b4 32 [u0_0,u0_1]] [ZKv TForm.sl a0.images [u0_1] fp0,ZKv TInts a0.degrees [u0_0] fp0,ZKv TAlg a0 [u0_0,u0_1] fp0]) ([a3].length) ?_ ?_ (s0:=()) ?_ h
   ·clear hC h
    rintro i11 s11 e_ w29 nx11 K11 hi11 ⟨hS_,hC⟩ h hK11
    rw [ue hS_]
    refine sr (Zp rfl rfl (dn (ZKw (Z6 rfl (decide_eq_true (by omega)) (ZK0 (Ze (ZKw (ZK2 (sr ?_)))))))))
    obtain ⟨Ad13,c13,hv11⟩:=Xz (hC.getM 0 rfl) (ZOj (ZEp _) hi11)
    refine X6 (i11 * 1) ZLf sc2.size (tr rfl hv11) rfl (ZLc _) (ZLv.2 hi11) rfl (Yo (vI ([a3].getD i11 ZC7)) (Zah (hC.getM 0 rfl) hv11 i11 hi11) sc2 rfl (Zd (v:=vI ([a3].getD i11 ZC7)) rfl (dn (sr (Za (v:=vQ b11) rfl (Za (v:=vI ([a3].getD i11 ZC7)) rfl (X0 rfl rfl (Zbp [vQ b11,vI (ZFm.wrap (([a3].getD i11 ZC7) - 1))] Z0g rfl rfl 20 Z0h (ZK5 rfl) rfl (sr (Zd (v:=.bool false) rfl (dn ?_)))))))))))
    refine sr (Za (v:=vQ b11) rfl (Xl rfl (Z1 0 ZUl rfl sc66.size rfl rfl (Yb hC 1 (vQ b4) rfl sc66 rfl rfl (Xl rfl (Z1 0 ZLg rfl sc22.size rfl rfl (Yb hC 3 (u0_0) rfl sc22 rfl rfl (Za (v:=vI (ZFm.wrap (([a3].getD i11 ZC7) - 1))) rfl ?_))))))))
    refine Zg [u0_0,vI (ZFm.wrap (([a3].getD i11 ZC7) - 1)),vI 120] _ Z0i rfl rfl rfl (Zev a0.degrees (ZFm.wrap (([a3].getD i11 ZC7) - 1)) 120 h _ (hC.getP 1 rfl)) (fun ret20 w30 hR20=>?_)
    obtain ⟨r27,u13,f13,r14,rfl,h,hr13,hf18,hB21⟩:=hR20
    refine⟨_,rfl,?_⟩
    replace hC:=hC.push hB21 (ZLd (ZTe 73 ((EA .i64).tr)) r27 [u13] f13) hr13 hf18
    obtain ⟨ho13,hf19⟩:=Y6 (hC.getM 0 rfl).1
    subst hf19
    replace hC:=hC.recast (c:=own 73 8 u13 r27.length ((EA .i64).encs r27)) (fun _ h_=>h_) (fun _=>ho13)
    refine Za (v:=.tuple #[u13,.bool r14]) rfl (Ym (v:=u13) rfl rfl (Ym (v:=.bool r14) rfl rfl (Zd (v:=u13) rfl (Zd (v:=.bool r14) rfl (dn (sr (Za (v:=.bool r14) rfl (Zd (v:=.bool r14) rfl (dn (ZK4 ?_))))))))))
    refine Zi (fn:=Z0j) (v:=.bool r14) rfl (Zf rfl) ⟨_,rfl,?_⟩ (.inl rfl)
    refine Xe rfl (Za (v:=.bool (!r14)) rfl ?_)
    refine Y8 (!r14) (fun hb13=>?_) (fun hb13=>?_)
    ·replace h:=ift h (Y4 (Xj hb13))
     refine Zk (b:=true) 5 18 rfl (tr rfl (congrArg _ hb13)) (by decide) (Zk (b:=true) 5 18 rfl (tr rfl (congrArg _ hb13)) (by decide) (Zk (b:=true) 5 18 rfl (tr rfl (congrArg _ hb13)) (by decide) (Zk (b:=true) 5 18 rfl (tr rfl (congrArg _ hb13)) (by decide) (Z3 (v:=.bool true) (b:=true) (tr rfl (congrArg _ hb13)) rfl (Za (v:=.bool true) rfl (Zk (b:=true) 11 24 rfl (tr rfl (congrArg _ rfl)) (by decide) (Zk (b:=true) 11 24 rfl (tr rfl (congrArg _ rfl)) (by decide) (Zk (b:=true) 11 24 rfl (tr rfl (congrArg _ rfl)) (by decide) (Zk (b:=true) 11 24 rfl (tr rfl (congrArg _ rfl)) (by decide) (Zk (b:=true) 11 24 rfl (tr rfl (congrArg _ rfl)) (by decide) (Z3 (v:=.bool true) (b:=true) rfl rfl ?_)))))))))))
     refine dn (Z6 rfl rfl (sr (Zd (v:=vI 3) rfl (dn ?_))))
     refine ZK4 (Z9 (Zn (Zn (Z9 (Zn ?_)))))
     refine Zi (fn:=Z0d) (v:=vI 3) rfl (Zf rfl) ⟨_,rfl,?_⟩ (.inl rfl)
     refine Zd (v:=vI 3) rfl (dn (sr (Za (v:=vQ b11) rfl (Za (v:=vI 3) rfl (Zd (v:=vQ b11) rfl (Zd (v:=vI 3) rfl (dn (ZK4 ?_))))))))
     refine Y7 (fn:=Z0b) (v:=vQ b11) (u:=vI 3) rfl (Zf rfl) (Zf rfl) ⟨_,rfl,?_⟩ (.inl rfl)
     refine Za (v:=.tuple #[vQ b11,vI 3]) rfl (Ym (v:=vQ b11) rfl rfl (Ym (v:=vI 3) rfl rfl (Zd (v:=vQ b11) rfl (Zd (v:=vI 3) rfl (dn (ZKw (sr (Za (v:=vI 3) rfl (Y5 rfl rfl (dn (Z6 rfl rfl ?_)))))))))))
     refine sr (Za (v:=vI 3) rfl (Zd (v:=vI 0) rfl (Zd (v:=vI 3) rfl (dn ?_))))
     refine ZK4 (Zn ?_)
     refine Y7 (fn:=Z0a) rfl ?_ ?_ ⟨0,3,rfl,h,hC.below⟩ (.inl rfl)
     ·exact Zf rfl
     ·exact Zf rfl
    ·replace h:=Zl h (not_not_intro ((Xk hb13)))
     refine Zm 5 18 rfl rfl hb13 (Za (v:=vQ b11) rfl (Zm 5 18 rfl rfl hb13 (Za (v:=vI ([a3].getD i11 ZC7)) rfl (Zm 5 18 rfl rfl hb13 (Zbp [vQ b11,vI ([a3].getD i11 ZC7)] Z0g rfl rfl 20 Z0h (ZK5 rfl) rfl (sr (Zd (v:=.bool false) rfl (dn (sr (Za (v:=vQ b11) rfl (Xl rfl ?_)))))))))))
     refine Z1 0 ZUl rfl sc66.size rfl rfl (Yb hC 2 (vQ b4) rfl sc66 rfl rfl (Xl rfl (Z1 0 ZLg rfl sc22.size rfl rfl (Yb hC 4 (u0_0) rfl sc22 rfl rfl (Za (v:=vI ([a3].getD i11 ZC7)) rfl ?_)))))
     refine Zg [u0_0,vI ([a3].getD i11 ZC7),vI 120] _ Z0i rfl rfl rfl (Zev a0.degrees ([a3].getD i11 ZC7) 120 h _ (hC.getP 1 rfl)) (fun ret21 w31 hR21=>?_)
     obtain ⟨r28,u14,f14,r12,rfl,h,hr14,hf20,hB22⟩:=hR21
     refine⟨_,rfl,?_⟩
     replace hC:=hC.push hB22 (ZLd (ZTe 73 ((EA .i64).tr)) r28 [u14] f14) hr14 hf20
     obtain ⟨ho14,hf21⟩:=Y6 (hC.getM 0 rfl).1
     subst hf21
     replace hC:=hC.recast (c:=own 73 8 u14 r28.length ((EA .i64).encs r28)) (fun _ h_=>h_) (fun _=>ho14)
     refine Za (v:=.tuple #[u14,.bool r12]) rfl (Ym (v:=u14) rfl rfl (Ym (v:=.bool r12) rfl rfl (Zd (v:=u14) rfl (Zd (v:=.bool r12) rfl (dn (sr (Za (v:=.bool r12) rfl (Zd (v:=.bool r12) rfl (dn (ZK4 ?_))))))))))
     refine Zi (fn:=Z0j) (v:=.bool r12) rfl (Zf rfl) ⟨_,rfl,?_⟩ (.inl rfl)
     refine Zm 5 18 rfl rfl hb13 (Xe rfl (Z3 (v:=.bool (!r12)) (b:=false) (tr rfl (congrArg _ hb13)) rfl (Za (v:=.bool (!r12)) rfl ?_)))
     refine Y8 (!r12) (fun hb11=>?_) (fun hb11=>?_)
     ·replace h:=ift h (Y4 (Xj hb11))
      refine Zk (b:=true) 11 24 rfl (tr rfl (congrArg _ hb11)) (by decide) (Zk (b:=true) 11 24 rfl (tr rfl (congrArg _ hb11)) (by decide) (Zk (b:=true) 11 24 rfl (tr rfl (congrArg _ hb11)) (by decide) (Zk (b:=true) 11 24 rfl (tr rfl (congrArg _ hb11)) (by decide) (Zk (b:=true) 11 24 rfl (tr rfl (congrArg _ hb11)) (by decide) (Z3 (v:=.bool true) (b:=true) (tr rfl (congrArg _ hb11)) rfl (dn (Z6 rfl rfl (sr (Zd (v:=vI 3) rfl (dn ?_))))))))))
      refine ZK4 (Z9 (Zn (Zn (Z9 (Zn ?_)))))
      refine Zi (fn:=Z0d) (v:=vI 3) rfl (Zf rfl) ⟨_,rfl,?_⟩ (.inl rfl)
      refine Zd (v:=vI 3) rfl (dn (sr (Za (v:=vQ b11) rfl (Za (v:=vI 3) rfl (Zd (v:=vQ b11) rfl (Zd (v:=vI 3) rfl (dn (ZK4 ?_))))))))
      refine Y7 (fn:=Z0b) (v:=vQ b11) (u:=vI 3) rfl (Zf rfl) (Zf rfl) ⟨_,rfl,?_⟩ (.inl rfl)
      refine Za (v:=.tuple #[vQ b11,vI 3]) rfl (Ym (v:=vQ b11) rfl rfl (Ym (v:=vI 3) rfl rfl (Zd (v:=vQ b11) rfl (Zd (v:=vI 3) rfl (dn (ZKw (sr (Za (v:=vI 3) rfl (Y5 rfl rfl (dn (Z6 rfl rfl ?_)))))))))))
      refine sr (Za (v:=vI 3) rfl (Zd (v:=vI 0) rfl (Zd (v:=vI 3) rfl (dn ?_))))
      refine ZK4 (Zn ?_)
      refine Y7 (fn:=Z0a) rfl ?_ ?_ ⟨0,3,rfl,h,hC.below⟩ (.inl rfl)
      ·exact Zf rfl
      ·exact Zf rfl
     ·replace h:=Zl h (not_not_intro ((Xk hb11)))
      refine Zm 11 24 rfl rfl hb11 (Za (v:=vQ b11) rfl (Zm 11 24 rfl rfl hb11 (Za (v:=vI ([a3].getD i11 ZC7)) rfl (Zm 11 24 rfl rfl hb11 (Zq rfl rfl (Zm 11 24 rfl rfl hb11 (Zbp [vQ b11,vI (ZFm.wrap (([a3].getD i11 ZC7)+1))] Z0g rfl rfl 20 Z0h (ZK5 rfl) rfl (sr (Zd (v:=.bool false) rfl (dn (sr ?_)))))))))))
      refine Za (v:=vQ b11) rfl (Xl rfl (Z1 0 ZUl rfl sc66.size rfl rfl (Yb hC 3 (vQ b4) rfl sc66 rfl rfl (Xl rfl (Z1 0 ZLg rfl sc22.size rfl rfl (Yb hC 5 (u0_0) rfl sc22 rfl rfl (Za (v:=vI (ZFm.wrap (([a3].getD i11 ZC7)+1))) rfl ?_)))))))
      refine Zg [u0_0,vI (ZFm.wrap (([a3].getD i11 ZC7)+1)),vI 120] _ Z0i rfl rfl rfl (Zev a0.degrees (ZFm.wrap (([a3].getD i11 ZC7)+1)) 120 h _ (hC.getP 1 rfl)) (fun ret22 w32 hR22=>?_)
      obtain ⟨r29,u15,f15,r16,rfl,h,hr15,hf22,hB23⟩:=hR22
      refine⟨_,rfl,?_⟩
      replace hC:=hC.push hB23 (ZLd (ZTe 73 ((EA .i64).tr)) r29 [u15] f15) hr15 hf22
      obtain ⟨ho15,hf23⟩:=Y6 (hC.getM 0 rfl).1
      subst hf23
      replace hC:=hC.recast (c:=own 73 8 u15 r29.length ((EA .i64).encs r29)) (fun _ h_=>h_) (fun _=>ho15)
      refine Za (v:=.tuple #[u15,.bool r16]) rfl (Ym (v:=u15) rfl rfl (Ym (v:=.bool r16) rfl rfl (Zd (v:=u15) rfl (Zd (v:=.bool r16) rfl (dn (sr (Za (v:=.bool r16) rfl (Zd (v:=.bool r16) rfl (dn (ZK4 ?_))))))))))
      refine Zi (fn:=Z0j) (v:=.bool r16) rfl (Zf rfl) ⟨_,rfl,?_⟩ (.inl rfl)
      refine Zm 11 24 rfl rfl hb11 (Xe rfl (Z3 (v:=.bool (!r16)) (b:=false) (tr rfl (congrArg _ hb11)) rfl (dn ?_)))
      refine Zs rfl (fun hb20=>?_) (fun hb20=>?_)
      ·replace h:=ift h (Y4 (Xj hb20))
       refine sr (Zd (v:=vI 3) rfl (dn ?_))
       refine ZK4 (Z9 (Zn (Zn (Z9 (Zn ?_)))))
       refine Zi (fn:=Z0d) (v:=vI 3) rfl (Zf rfl) ⟨_,rfl,?_⟩ (.inl rfl)
       refine Zd (v:=vI 3) rfl (dn (sr (Za (v:=vQ b11) rfl (Za (v:=vI 3) rfl (Zd (v:=vQ b11) rfl (Zd (v:=vI 3) rfl (dn (ZK4 ?_))))))))
       refine Y7 (fn:=Z0b) (v:=vQ b11) (u:=vI 3) rfl (Zf rfl) (Zf rfl) ⟨_,rfl,?_⟩ (.inl rfl)
       refine Za (v:=.tuple #[vQ b11,vI 3]) rfl (Ym (v:=vQ b11) rfl rfl (Ym (v:=vI 3) rfl rfl (Zd (v:=vQ b11) rfl (Zd (v:=vI 3) rfl (dn (ZKw (sr (Za (v:=vI 3) rfl (Y5 rfl rfl (dn (Z6 rfl rfl ?_)))))))))))
       refine sr (Za (v:=vI 3) rfl (Zd (v:=vI 0) rfl (Zd (v:=vI 3) rfl (dn ?_))))
       refine ZK4 (Zn ?_)
       refine Y7 (fn:=Z0a) rfl ?_ ?_ ⟨0,3,rfl,h,hC.below⟩ (.inl rfl)
       ·exact Zf rfl
       ·exact Zf rfl
      ·replace h:=Zl h (not_not_intro ((Xk hb20)))
       refine ZK0 (Zr (Ze (Zh (Zq rfl rfl (Za (v:=vI (ZFm.wrap ((i11:Int)+1))) rfl (done ?_))))))
       exact hK11 () _ _ ⟨(sl ⟨rfl,rfl,rfl,(tr rfl (congrArg _ (Z5 hi11 hN11))),trivial⟩),(hC.xM [3,4,5,6] rfl)⟩ h
   ·clear hC h
    rintro s11 e_ w33 K11 ⟨hS_,hC⟩ h
    rw [ue hS_]
    refine sr (Zp rfl rfl (dn (ZKw (Z2 rfl (decide_eq_false (by omega)) ?_))))
    refine ZLa (Zj (Zj (Z0 ?_)))
    refine Ze (sr (Zd (v:=vI 0) rfl (dn (ZK4 ?_))))
    refine Zi (fn:=Z0d) (v:=vI 0) rfl (Zf rfl) ⟨_,rfl,?_⟩ (.inl rfl)
    refine Zd (v:=vI 0) rfl (dn (sr (Za (v:=vQ b11) rfl (Za (v:=vI 0) rfl (Zd (v:=vQ b11) rfl (Zd (v:=vI 0) rfl (dn (ZK4 ?_))))))))
    refine Y7 (fn:=Z0b) (v:=vQ b11) (u:=vI 0) rfl (Zf rfl) (Zf rfl) ⟨_,rfl,?_⟩ (.inl rfl)
    refine Za (v:=.tuple #[vQ b11,vI 0]) rfl (Ym (v:=vQ b11) rfl rfl (Ym (v:=vI 0) rfl rfl (Zd (v:=vQ b11) rfl (Zd (v:=vI 0) rfl (dn (ZKw (sr (Za (v:=vI 0) rfl (Y5 rfl rfl (dn (Z2 rfl rfl ?_)))))))))))
    refine ZK0 (Ze (sr (Za (v:=vQ b11) rfl (Za (v:=vI a1) rfl (Za (v:=vI a2) rfl (Za (v:=vI a3) rfl ?_))))))
    replace hC:=hC.thaw 1 rfl (blk b11 198 [vQ b4,.map (some b13)]) id (fun _ hb_=>hb_)
    replace hC:=hC.sM [1,0,2] (M':=[Yd (vvI .i64) vvP b13 ([]:List (Int×Nat)),own 2 1 (.slice (some ⟨b15,0,none⟩) 1 1) ([a3].length) (eI.encs [a3]),blk b4 32 [u0_0,u0_1]]) (by decide) rfl
    obtain ⟨C,h⟩:=h
    replace hC:=hC.recast (c:=cpx C 125 b13 [] []) (fun x_ hx_=>by simpa [cpx,Yd] using hx_) (fun h_=>Zko h_)
    refine Zg [vQ b11,vI a1,vI a2,vI a3] _ Z0m rfl rfl rfl (Zk4 C a0 a1 a2 a3 h _ (Yp (hC.getP 2 rfl) (hC.getP 1 rfl)) (hC.getM 2 rfl) (hC.getP 0 rfl) (hC.getM 0 rfl) (fun b_ hb hb2_=>(ZDd.1 hb).elim (fun hb=>hC.pd _ (List.mem_of_getElem? (i:=2) rfl) b_ hb _ (List.mem_of_getElem? (i:=0) rfl) hb2_) (fun hb=>hC.pd _ (List.mem_of_getElem? (i:=1) rfl) b_ hb _ (List.mem_of_getElem? (i:=0) rfl) hb2_)) (hC.mm 2 0 rfl rfl (by decide) _ (ZTj _)) (fun hx_=>hC.pd _ (List.mem_of_getElem? (i:=0) rfl) _ (ZTj _) _ (List.mem_of_getElem? (i:=0) rfl) hx_)) (fun ret23 w34 hR23=>?_)
    obtain ⟨r30,D350,F351,rfl,h,hle352,hx353,hf24,hB24⟩:=hR23
    refine⟨_,rfl,?_⟩
    replace hC:=hC.turnI 0 rfl hB24 hx353 hf24
    refine Zd (v:=vI r30) rfl (Zd (v:=vI 0) rfl (dn (ZK4 ?_)))
    refine Y7 (fn:=Z0a) rfl ?_ ?_ ⟨r30,0,rfl,h,hC.below⟩ (.inl rfl)
    ·exact Zf rfl
    ·exact Zf rfl
   ·skip
    exact⟨(sl ⟨rfl,rfl,rfl,rfl,trivial⟩),hC⟩
  ·replace h:=Zl h (cf hb19)
   refine ZK0 (Ze (sr (Za (v:=vQ b11) rfl (Za (v:=vI r10) rfl (Zd (v:=vQ b11) rfl (Zd (v:=vI r10) rfl (dn (ZK4 ?_))))))))
   refine Y7 (fn:=Z0b) (v:=vQ b11) (u:=vI r10) rfl (Zf rfl) (Zf rfl) ⟨_,rfl,?_⟩ (.inl rfl)
   refine Za (v:=.tuple #[vQ b11,vI r10]) rfl (Ym (v:=vQ b11) rfl rfl (Ym (v:=vI r10) rfl rfl (Zd (v:=vQ b11) rfl (Zd (v:=vI r10) rfl (dn (ZKw (sr (Za (v:=vI r10) rfl (Y5 rfl rfl (dn ?_))))))))))
   refine Zs rfl (fun hb21=>?_) (fun hb21=>?_)
   ·replace h:=ift h (ct hb21)
    refine sr (Za (v:=vI r10) rfl (Zd (v:=vI 0) rfl (Zd (v:=vI r10) rfl (dn ?_))))
    refine ZK4 (Zn ?_)
    refine Y7 (fn:=Z0a) rfl ?_ ?_ ⟨0,r10,rfl,h,hC.below⟩ (.inl rfl)
    ·exact Zf rfl
    ·exact Zf rfl
   ·replace h:=Zl h (cf hb21)
    refine ZK0 (Ze (sr (Za (v:=vQ b11) rfl (Za (v:=vI a1) rfl (Za (v:=vI a2) rfl (Za (v:=vI a3) rfl ?_))))))
    replace hC:=hC.thaw 0 rfl (blk b11 198 [vQ b4,.map (some b13)]) id (fun _ hb_=>hb_)
    obtain ⟨C,h⟩:=h
    replace hC:=hC.recast (c:=cpx C 125 b13 [] []) (fun x_ hx_=>by simpa [cpx,Yd] using hx_) (fun h_=>Zko h_)
    refine Zg [vQ b11,vI a1,vI a2,vI a3] _ Z0m rfl rfl rfl (Zk4 C a0 a1 a2 a3 h _ (Yp (hC.getP 2 rfl) (hC.getP 1 rfl)) (hC.getM 1 rfl) (hC.getP 0 rfl) (hC.getM 0 rfl) (fun b_ hb hb2_=>(ZDd.1 hb).elim (fun hb=>hC.pd _ (List.mem_of_getElem? (i:=2) rfl) b_ hb _ (List.mem_of_getElem? (i:=0) rfl) hb2_) (fun hb=>hC.pd _ (List.mem_of_getElem? (i:=1) rfl) b_ hb _ (List.mem_of_getElem? (i:=0) rfl) hb2_)) (hC.mm 1 0 rfl rfl (by decide) _ (ZTj _)) (fun hx_=>hC.pd _ (List.mem_of_getElem? (i:=0) rfl) _ (ZTj _) _ (List.mem_of_getElem? (i:=0) rfl) hx_)) (fun ret24 w35 hR24=>?_)
    obtain ⟨r31,D361,F362,rfl,h,hle363,hx364,hf25,hB25⟩:=hR24
    refine⟨_,rfl,?_⟩
    replace hC:=hC.turnI 0 rfl hB25 hx364 hf25
    refine Zd (v:=vI r31) rfl (Zd (v:=vI 0) rfl (dn (ZK4 ?_)))
    refine Y7 (fn:=Z0a) rfl ?_ ?_ ⟨r31,0,rfl,h,hC.below⟩ (.inl rfl)
    ·exact Zf rfl
    ·exact Zf rfl
def Zk5 (a0:Alg) (a1:Int) (a2:Int) (a3:Int) (K:Bool→Prop):Prop :=
 Zhz a0 1048576 (fun r17=>(if r17 < 0 then K true else Zeo a0 (fun r13=>Zik r13 a1 a2 a3 (fun r11 r14=>Zeo a0 (fun r10=>Ziv r10 a1 a2 a3 (fun r12 r15=>(if r12≠r11 then K false else(if r15≠r14 then K false else Zeo a0 (fun r16=>Zft r10 r16 (fun r18=>(if¬ (r18=true) then K false else K true)))))))))))
theorem ZAf (a0:Alg) (a1:Int) (a2:Int) (a3:Int)  {K:Bool→Prop} (h:Zk5 a0 a1 a2 a3 K) (w0:World) (q0:TAlg.rep a0 [u0_0,u0_1] fp0 w0) :
  Calls ZKz 5 #[.agg #[u0_0,u0_1],vI a1,vI a2,vI a3] w0 fun e w'=>∃ (r0:Bool),
   e=.returned (.bool r0)∧K r0∧Bel w0 w':=by
 unfold Zk5 at h
 refine cof Tryz.func5 rfl 52 Tryz.ntmps5 ?_
 have hC:=ZLh (X:=Nox) w0 [ZKv TAlg a0 [u0_0,u0_1] fp0] (al1 q0)
 replace hC:=hC.dAlg 0 rfl
 refine sr (Yi (v:=.agg #[u0_0,u0_1]) hC [u0_0,u0_1] rfl rfl fun b4 w6 hB_ hC=>Zd (v:=.bool false) rfl (dn (sr (Zd (v:=vI 1048576) rfl (dn (sr (Yw hC 0 [u0_0,u0_1] rfl Zkt rfl rfl rfl (Za (v:=vI 1048576) rfl ?_))))))))
 refine Zg [.agg #[u0_0,u0_1],vI 1048576] _ Tryz.func10 rfl rfl rfl (Zwl a0 1048576 h _ (Yp (hC.getP 1 rfl) (hC.getP 0 rfl))) (fun ret7 w9 hR8=>?_)
 obtain ⟨r17,rfl,h,hB10⟩:=hR8
 refine⟨_,rfl,?_⟩
 replace hC:=hC.grow hB10
 refine Zd (v:=vI r17) rfl (dn (ZKw (sr (Za (v:=vI r17) rfl (Zp rfl rfl (dn ?_))))))
 refine Zs rfl (fun hb11=>?_) (fun hb11=>?_)
 ·replace h:=ift h (ct hb11)
  refine sr (Zd (v:=.bool true) rfl (dn ?_))
  refine ZK4 (Zn ?_)
  refine Zi (fn:=Tryz.f5) rfl ?_ ⟨true,rfl,h,hC.below⟩ (.inl rfl)
  exact Zf rfl
 ·replace h:=Zl h (cf hb11)
  refine ZK0 (Ze (sr (Yw hC 0 [u0_0,u0_1] rfl Zkt rfl rfl rfl ?_)))
  refine Zg [.agg #[u0_0,u0_1]] _ Tryz.func12 rfl rfl rfl (Zmy a0 h _ (Yp (hC.getP 1 rfl) (hC.getP 0 rfl))) (fun ret10 w10 hR10=>?_)
  obtain ⟨r13,u12,u13,f10,rfl,h,hr10,hf10,hB11⟩:=hR10
  refine⟨_,rfl,?_⟩
  replace hC:=hC.push hB11 (ZLd (Zfg 2 162 55) r13 [u12,u13] f10) hr10 hf10
  obtain ⟨f11,ho10,ho11,hs10,hs11,hd10⟩:=Zmi (hC.getM 0 rfl)
  replace hC:=hC.split (a:=own 2 1 u12 r13.degrees.length (eI.encs r13.degrees)) (b:=ZLd (ZTe 55 (Yy 162)) r13.images [u13] f11) hs10 hs11 ⟨ho10,ho11,hd10⟩
  refine Za (v:=vI a1) rfl (Za (v:=vI a2) rfl (Za (v:=vI a3) rfl ?_))
  refine Zg [.agg #[u12,u13],vI a1,vI a2,vI a3] _ Tryz.func21 rfl rfl rfl (Zzv r13 a1 a2 a3 h _ (Yp (Yv (hC.getM 0 rfl)) (ZXr _ (hC.getM 1 rfl).1))) (fun ret11 w11 hR11=>?_)
  obtain ⟨r11,r14,rfl,h,hB12⟩:=hR11
  refine⟨_,rfl,?_⟩
  replace hC:=hC.grow hB12
  refine Za (v:=.tuple #[vI r11,vI r14]) rfl (Ym (v:=vI r11) rfl rfl (Ym (v:=vI r14) rfl rfl (Zd (v:=vI r11) rfl (Zd (v:=vI r14) rfl (dn (sr (Yw hC 2 [u0_0,u0_1] rfl Zkt rfl rfl rfl ?_)))))))
  refine Zg [.agg #[u0_0,u0_1]] _ Tryz.func12 rfl rfl rfl (Zmy a0 h _ (Yp (hC.getP 1 rfl) (hC.getP 0 rfl))) (fun ret12 w12 hR12=>?_)
  obtain ⟨r10,u10,u11,f12,rfl,h,hr11,hf11,hB13⟩:=hR12
  refine⟨_,rfl,?_⟩
  replace hC:=hC.push hB13 (ZLd (Zfg 2 162 55) r10 [u10,u11] f12) hr11 hf11
  obtain ⟨f13,ho12,ho13,hs12,hs13,hd11⟩:=Zmi (hC.getM 0 rfl)
  replace hC:=hC.split (a:=own 2 1 u10 r10.degrees.length (eI.encs r10.degrees)) (b:=ZLd (ZTe 55 (Yy 162)) r10.images [u11] f13) hs12 hs13 ⟨ho12,ho13,hd11⟩
  refine Ys hC [.slice none 0 0,.slice none 0 0] z32 rfl fun b10 w13 hB_ hC=>Z4 (v:=.agg #[u10,u11]) hC 0 [u10,u11] [u10,u11] rfl ag32.size rfl rfl rfl rfl (Xr (X7 (hC.getM 1 rfl)) (Xr (Zdq (ZXr _ (hC.getM 2 rfl).1)) rfl)) (ZK5 rfl) rfl fun w14 hC=>dn (sr (Yw hC 0 [u10,u11] rfl ag32 rfl rfl rfl (Za (v:=vI a1) rfl (Za (v:=vI a2) rfl (Za (v:=vI a3) rfl ?_)))))
  refine Zg [.agg #[u10,u11],vI a1,vI a2,vI a3] _ Tryz.func22 rfl rfl rfl (ZAe r10 a1 a2 a3 h _ (Yp (Yv (hC.getM 1 rfl)) (ZXr _ (hC.getM 2 rfl).1))) (fun ret13 w15 hR13=>?_)
  obtain ⟨r12,r15,rfl,h,hB14⟩:=hR13
  refine⟨_,rfl,?_⟩
  replace hC:=hC.grow hB14
  refine Za (v:=.tuple #[vI r12,vI r15]) rfl (Ym (v:=vI r12) rfl rfl (Ym (v:=vI r15) rfl rfl (Zd (v:=vI r12) rfl (Zd (v:=vI r15) rfl (dn (ZKw (sr (Za (v:=vI r12) rfl (Za (v:=vI r11) rfl (Y5 rfl rfl (Za (v:=.bool (decide (r12≠r11))) rfl ?_)))))))))))
  refine Y8 (decide (r12≠r11)) (fun hb10=>?_) (fun hb10=>?_)
  ·replace h:=ift h (ct hb10)
   refine Zk (b:=true) 3 42 rfl (tr rfl (congrArg _ hb10)) (by decide) (Zk (b:=true) 3 42 rfl (tr rfl (congrArg _ hb10)) (by decide) (Zk (b:=true) 3 42 rfl (tr rfl (congrArg _ hb10)) (by decide) (Z3 (v:=.bool true) (b:=true) (tr rfl (congrArg _ hb10)) rfl (dn (Z6 rfl rfl (sr (Zd (v:=.bool false) rfl (dn ?_))))))))
   refine ZK4 (Zn ?_)
   refine Zi (fn:=Tryz.f5) rfl ?_ ⟨false,rfl,h,hC.below⟩ (.inl rfl)
   exact Zf rfl
  ·replace h:=Zl h (cf hb10)
   refine Zm 3 42 rfl rfl hb10 (Za (v:=vI r15) rfl (Zm 3 42 rfl rfl hb10 (Za (v:=vI r14) rfl (Zm 3 42 rfl rfl hb10 (Y5 rfl rfl (Z3 (v:=.bool (decide (r15≠r14))) (b:=false) (tr rfl (congrArg _ hb10)) rfl (dn ?_)))))))
   refine Zs rfl (fun hb12=>?_) (fun hb12=>?_)
   ·replace h:=ift h (ct hb12)
    refine sr (Zd (v:=.bool false) rfl (dn ?_))
    refine ZK4 (Zn ?_)
    refine Zi (fn:=Tryz.f5) rfl ?_ ⟨false,rfl,h,hC.below⟩ (.inl rfl)
    exact Zf rfl
   ·replace h:=Zl h (cf hb12)
    refine ZK0 (Ze (ZKw (ZKw ?_)))
    refine Yq 3 Yl [0,0,2,7,15] [0,1] [] (by kernel_rfl) (by kernel_rfl) (by kernel_rfl) (fun hM10 hM11 w16 hB_=>?_)
    replace hC:=hC.grow hB_
    refine bL 0 (.agg #[u10,u11]) rfl rfl hM10 (fun _ hB_=>by exact Xc (hC.grow hB_) 0 [u10,u11] rfl ag32 rfl rfl rfl) (Zc 5 1) (bL 1 (.agg #[u0_0,u0_1]) rfl rfl hM10 (fun _ hB_=>by exact Xc (hC.grow hB_) 5 [u0_0,u0_1] rfl Zkt rfl rfl rfl) (Zc 5 3) (aO 2 rfl ?_))
    refine Zg [.agg #[u0_0,u0_1]] _ Tryz.func12 rfl rfl rfl (Zmy a0 h _ (Yp (hC.getP 1 rfl) (hC.getP 0 rfl))) (fun ret14 w17 hR14=>?_)
    obtain ⟨r16,u14,u15,f14,rfl,h,hr12,hf12,hB15⟩:=hR14
    refine⟨_,rfl,?_⟩
    replace hC:=hC.push hB15 (ZLd (Zfg 2 162 55) r16 [u14,u15] f14) hr12 hf12
    obtain ⟨f15,ho14,ho15,hs14,hs15,hd12⟩:=Zmi (hC.getM 0 rfl)
    replace hC:=hC.split (a:=own 2 1 u14 r16.degrees.length (eI.encs r16.degrees)) (b:=ZLd (ZTe 55 (Yy 162)) r16.images [u15] f15) hs14 hs15 ⟨ho14,ho15,hd12⟩
    refine done (aK (by assumption) (Zc 5 7) (Z7 3 (by decide) (by decide) (by kernel_rfl) (by kernel_rfl) rfl ?_))
    refine Zg [.agg #[u10,u11],.agg #[u14,u15]] _ Tryz.func15 rfl rfl rfl (Zwn r10 r16 h _ (Yp (Yv (hC.getM 3 rfl)) (ZXr _ (hC.getM 4 rfl).1)) (Yp (Yv (hC.getM 0 rfl)) (ZXr _ (hC.getM 1 rfl).1))) (fun ret15 w18 hR15=>?_)
    obtain ⟨r18,rfl,h,hB16⟩:=hR15
    refine⟨_,rfl,?_⟩
    replace hC:=hC.grow hB16
    refine Xe rfl (done (Z8 (Ze ?_)))
    refine Zs rfl (fun hb13=>?_) (fun hb13=>?_)
    ·replace h:=ift h (Y4 (Xj hb13))
     refine sr (Zd (v:=.bool false) rfl (dn ?_))
     refine ZK4 (Zn ?_)
     refine Zi (fn:=Tryz.f5) rfl ?_ ⟨false,rfl,h,hC.below⟩ (.inl rfl)
     exact Zf rfl
    ·replace h:=Zl h (not_not_intro ((Xk hb13)))
     refine ZK0 (Ze (sr (Zd (v:=.bool true) rfl (dn (ZK4 ?_)))))
     refine Zi (fn:=Tryz.f5) rfl ?_ ⟨true,rfl,h,hC.below⟩ (.inl rfl)
     exact Zf rfl
end Go.Proofs.YtaagfepgbofmlaaGreat
namespace Go.Proofs.YtaagfepgbofmlaaGreat
open Go Vc
def wdU (m:A8):Nat→Int
  | 0=>0
  | i+1=>wdU m i+m.get i
theorem Zk6 {m:A8} (pm:∀ i,i < 8→0≤m.get i∧m.get i≤255):∀ k:Nat,k≤8→0≤wdU m k∧wdU m k≤255 * k:=by
  intro k
  induction k with
  | zero=>intro _; simp [wdU]
  | succ k ih=>intro hk; have h1:=ih (by omega); have h2:=pm k (by omega); simp only [wdU]; omega
theorem ZAg {m:A8} (pm:∀ i,i < 8→0≤m.get i∧m.get i≤255) {q:Nat}:∀ k:Nat,k≤8→q < k→m.get q≤wdU m k:=by
  intro k
  induction k with
  | zero=>intro _ h; omega
  | succ k ih =>
    intro hk hq
    have h2:=pm k (by omega)
    have h3:=Zk6 pm k (by omega)
    simp only [wdU]
    by_cases e:q=k
    · subst e; omega
    · have:=ih (by omega) (by omega); omega
theorem ZAh {m : A8} (p : ∀ i, i < 8 → 0 ≤ m.get i) (h : wdU m 8 = 1) : ∃ q, q < 8 ∧ m = ZK1.set q 1 := by
  have p0:=p 0 (by omega)
  have p1:=p 1 (by omega)
  have p2:=p 2 (by omega)
  have p3:=p 3 (by omega)
  have p4:=p 4 (by omega)
  have p5:=p 5 (by omega)
  have p6:=p 6 (by omega)
  have p7:=p 7 (by omega)
  clear p
  obtain ⟨x0,x1,x2,x3,x4,x5,x6,x7⟩:=m
  simp only [wdU,A8.get] at *
  by_cases h0:x0=0
  · skip
    by_cases h1:x1=0
    · skip
      by_cases h2:x2=0
      · skip
        by_cases h3:x3=0
        · skip
          by_cases h4:x4=0
          · skip
            by_cases h5:x5=0
            · skip
              by_cases h6:x6=0
              · skip
                by_cases h7:x7=0
                · skip
                  omega
                · refine⟨7,by omega,?_⟩
                  have e:ZZ8 x0 x1 x2 x3 x4 x5 x6 x7=ZZ8 0 0 0 0 0 0 0 1:=by rw [Z0e]; omega
                  exact e
              · refine⟨6,by omega,?_⟩
                have e:ZZ8 x0 x1 x2 x3 x4 x5 x6 x7=ZZ8 0 0 0 0 0 0 1 0:=by rw [Z0e]; omega
                exact e
            · refine⟨5,by omega,?_⟩
              have e:ZZ8 x0 x1 x2 x3 x4 x5 x6 x7=ZZ8 0 0 0 0 0 1 0 0:=by rw [Z0e]; omega
              exact e
          · refine⟨4,by omega,?_⟩
            have e:ZZ8 x0 x1 x2 x3 x4 x5 x6 x7=ZZ8 0 0 0 0 1 0 0 0:=by rw [Z0e]; omega
            exact e
        · refine⟨3,by omega,?_⟩
          have e:ZZ8 x0 x1 x2 x3 x4 x5 x6 x7=ZZ8 0 0 0 1 0 0 0 0:=by rw [Z0e]; omega
          exact e
      · refine⟨2,by omega,?_⟩
        have e:ZZ8 x0 x1 x2 x3 x4 x5 x6 x7=ZZ8 0 0 1 0 0 0 0 0:=by rw [Z0e]; omega
        exact e
    · refine⟨1,by omega,?_⟩
      have e:ZZ8 x0 x1 x2 x3 x4 x5 x6 x7=ZZ8 0 1 0 0 0 0 0 0:=by rw [Z0e]; omega
      exact e
  · refine⟨0,by omega,?_⟩
    have e:ZZ8 x0 x1 x2 x3 x4 x5 x6 x7=ZZ8 1 0 0 0 0 0 0 0:=by rw [Z0e]; omega
    exact e
theorem ZAi {q:Nat} (hq:q < 8):wdU (ZK1.set q 1) 8=1:=by
  match q,hq with
  | 0,_ | 1,_ | 2,_ | 3,_ | 4,_ | 5,_ | 6,_ | 7,_=>rfl
theorem ZAj {ds:List Int} {m:A8} (h8:ds.length≤8) (pm:∀ i,i < 8→0≤m.get i∧m.get i≤255) (h:1≤wtU ds m ds.length):1≤wdU m 8:=by
  rcases Int.lt_or_le (wdU m 8) 1 with q | q
  · exfalso
    have hz:∀ i,i < 8→m.get i=0:=fun i hi=>by have:=ZAg pm 8 (Nat.le_refl _) hi; have:=pm i hi; omega
    have:∀ k,k≤ds.length→wtU ds m k=0:=by
      intro k
      induction k with
      | zero=>intro _; rfl
      | succ k ih=>intro hk; simp only [wtU]; rw [ih (by omega),hz k (by omega),Int.mul_zero]; rfl
    have:=this ds.length (Nat.le_refl _)
    omega
  · exact q
theorem Zny {m:A8} {K:Int→Prop} (pm:∀ i,i < 8→0≤m.get i∧m.get i≤255) (h:K (wdU m 8)):Zcs m K:=by
  unfold Zcs
  refine Yu (fun i (s:Int)=>s=wdU m i) 8 ?_ ?_ _ _ _ (by omega) rfl
  · intro i s next hi hs hn
    have h1:=Zk6 pm i (by omega)
    have h2:=pm i hi
    rw [i64_in (m.get i) (by omega),i64_in _ (by omega)]
    exact hn _ (by simp only [wdU]; rw [hs])
  · intro s hs; rw [hs]; exact h
theorem ZAk {m:A8} {K:Int→Prop} (pm:∀ i,i < 8→0≤m.get i∧m.get i≤255) (h:K (wdU m 8)):Zh8 m K:=by
  unfold Zh8
  refine Yu (fun i (s:Int)=>s=wdU m i) 8 ?_ ?_ _ _ _ (by omega) rfl
  · intro i s next hi hs hn
    have h1:=Zk6 pm i (by omega)
    have h2:=pm i hi
    rw [i64_in _ (by omega)]
    exact hn _ (by simp only [wdU]; rw [hs])
  · intro s hs; rw [hs]; exact h
theorem Zrm {l : List Term} (hc : Canon l) {m : A8} : coT l m ≠ 0 ↔ ∃ t, t ∈ l ∧ t.mono = m := by
  constructor
  · intro h
    exact Classical.byContradiction fun hno=>h (Zcl fun t ht e=>hno ⟨t,ht,e⟩)
  · rintro ⟨t,ht,rfl⟩
    have:coT l t.mono=t.factor:=by
      induction l with
      | nil=>cases ht
      | cons q l ih =>
        rcases ZC3.1 ht with rfl | ht
        · exact hc.at_head
        · rw [Zbo,if_neg (Zbn (hc.head t ht)),Int.zero_add]; exact ih hc.tail ht
    have:=hc.2 t ht
    omega
end Go.Proofs.YtaagfepgbofmlaaGreat
namespace Go.Proofs.YtaagfepgbofmlaaGreat
open Go Vc
theorem Znz {a b:Int} {K:Int→Prop} (h:K (if a≠0 then a else b)):Zep [a,b] K:=by
  simp only [Zep,Yc,List.length_cons,List.length_nil,List.getD_cons_zero,List.getD_cons_succ]
  split
  · rename_i q; rwa [if_pos q] at h
  · rename_i q
    rw [if_neg q] at h
    split
    · exact h
    · rename_i q2
      have q2:b=0:=Decidable.not_not.1 q2
      rwa [q2] at h
theorem ZAl {l : List Term} {K : Int → Prop} (hp : Zeq l) (hl : l.length ≤ 1048576) (h0 : l.length = 0 → K 0) (h1 : ∀ r, 0 < l.length → (∃ j, j < l.length ∧ wdU (l.getD j ZC7).mono 8 = r) → (∀ j, j < l.length → r ≤ wdU (l.getD j ZC7).mono 8) → K r) : Zic ⟨l⟩ K := by
  unfold Zic
  dsimp only
  refine Js (fun (s:Int×Int)=>0≤s.2∧s.2≤l.length∧((s.2=0∧s.1=0)∨(0 < s.2∧(∃ j:Nat,(j:Int) < s.2∧wdU (l.getD j ZC7).mono 8=s.1)∧∀ j:Nat,(j:Int) < s.2→s.1≤wdU (l.getD j ZC7).mono 8))) (fun s=>l.length - s.2.toNat) ?_ ⟨Int.le_refl _,by dsimp only; omega,.inl ⟨rfl,rfl⟩⟩
  rintro ⟨s,i⟩ next ⟨g1,g2,g3⟩ hn
  dsimp only at g1 g2 g3 hn ⊢
  split
  · rename_i hi
    have a:i.toNat < l.length:=by omega
    rw [i64_in (i+1) (by omega)]
    refine⟨by omega,Zny (hp _ (Xa a)) ?_⟩
    have take:(0 < i→wdU (l.getD i.toNat ZC7).mono 8 < s)→next (wdU (l.getD i.toNat ZC7).mono 8,i+1):=fun hlt=>hn _ ⟨by dsimp only; omega,by dsimp only; omega,.inr ⟨by dsimp only; omega,⟨i.toNat,by dsimp only; omega,rfl⟩,fun j hj=>by
      dsimp only at hj ⊢
      by_cases e:j=i.toNat
      · subst e; exact Int.le_refl _
      · rcases g3 with ⟨e0,_⟩ | ⟨e0,_,hall⟩
        · omega
        · have:=hall j (by omega); have:=hlt e0; omega⟩⟩ (by dsimp only; omega)
    split
    · rename_i q; exact take fun z=>by omega
    · rename_i q
      split
      · rename_i q2; exact take fun _=>q2
      · rename_i q2
        rcases g3 with ⟨e0,_⟩ | ⟨e0,⟨j0,hj0,ej0⟩,hall⟩
        · omega
        · refine hn _ ⟨by dsimp only; omega,by dsimp only; omega,.inr ⟨by dsimp only; omega,⟨j0,by dsimp only; omega,ej0⟩,fun j hj=>?_⟩⟩ (by dsimp only; omega)
          dsimp only at hj ⊢
          by_cases e:j=i.toNat
          · subst e; omega
          · exact hall j (by omega)
  · rename_i hi
    rcases g3 with ⟨e0,e1⟩ | ⟨e0,⟨j0,hj0,ej0⟩,hall⟩
    · rw [e1]; exact h0 (by omega)
    · exact h1 s (by omega) ⟨j0,by omega,ej0⟩ fun j hj=>hall j (by omega)
def Zaw (a:Alg):Prop:=∀ i,i < a.images.length→∀ j,j < (a.images.getD i ZC7).terms.length→wdU ((a.images.getD i ZC7).terms.getD j ZC7).mono 8≠1
theorem ZAm {a:Alg} (ok:OkAlg a) (hf:Ju a) {i:Nat} (hi:i < a.images.length) {j:Nat} (hj:j < (a.images.getD i ZC7).terms.length):1≤wdU ((a.images.getD i ZC7).terms.getD j ZC7).mono 8:=by
  refine ZAj ok.deg.1 ((hf i hi).1.pos _ (Xa hj)) ?_
  have:=ok.hom i hi j hj
  have:=ok.deg.2 i (by have:=ok.len; omega)
  omega
theorem ZAn {a : Alg} {K : Bool → Prop} (ok : OkAlg a) (hf : Ju a) (h1 : Zaw a → K true) (h2 : ¬ Zaw a → K false) : Zid a K := by
  unfold Zid
  have h8:=ok.deg.1
  have hlen:=ok.len
  refine Js (fun (s:Int)=>0≤s∧s≤a.images.length∧∀ i:Nat,(i:Int) < s→∀ j,j < (a.images.getD i ZC7).terms.length→wdU ((a.images.getD i ZC7).terms.getD j ZC7).mono 8≠1) (fun s=>a.images.length - s.toNat) ?_ ⟨Int.le_refl _,by omega,fun i hi=>by omega⟩
  rintro i next ⟨g1,g2,g3⟩ hn
  split
  · rename_i hi
    have a':i.toNat < a.images.length:=by omega
    obtain ⟨hft,hfl⟩:=hf _ a'
    have hL:(⟨(a.images.getD i.toNat ZC7).terms⟩:Vc.Form)=a.images.getD i.toNat ZC7:=rfl
    rw [i64_in (i+1) (by omega),← hL]
    have good:(∀ j,j < (a.images.getD i.toNat ZC7).terms.length→wdU ((a.images.getD i.toNat ZC7).terms.getD j ZC7).mono 8≠1)→next (i+1):=fun hh=>hn _ ⟨by omega,by omega,fun k hk=>by
      by_cases e:k=i.toNat
      · subst e; exact hh
      · exact g3 k (by omega)⟩ (by omega)
    refine⟨by omega,ZAl hft.pos hfl (fun e=>?_) (fun r hpos hex hall=>?_)⟩
    · rw [if_neg (by omega)]
      exact good fun j hj=>by omega
    · split
      · rename_i q
        subst q
        obtain ⟨j,hj,ej⟩:=hex
        exact h2 fun z=>z _ a' j hj ej
      · rename_i q
        refine good fun j hj e=>q ?_
        obtain ⟨j0,hj0,ej0⟩:=hex
        have:=hall j hj
        have:=ZAm ok hf a' hj0
        omega
  · exact h1 fun i hi=>g3 i (by omega)
theorem ZAo {ds:List Int} {l:List Term} {K:List Int→Prop} (h8:ds.length≤8) (hc:Canon l) (hp:FitT l) (h:K ((ZDp ds.length).map fun k=>coT l (ZK1.set k 1))):Zil ds ⟨l⟩ K:=by
  unfold Zil
  refine Zm3 hc hp fun m hm=>?_
  refine Yu (fun i (s:List Int)=>s=(ZDp i).map fun k=>coT l (ZK1.set k 1)) ds.length ?_ ?_ _ _ _ (by omega) rfl
  · intro i s next hi hs hn
    unfold Zky
    refine⟨by omega,by rw [hs]; simp; unfold Zy; omega,hn _ ?_⟩
    rw [Zcn hm.ok.1,hm.cf,hs,List.range_succ,List.map_append]
    simp
  · intro s hs; rw [hs]; exact h
theorem Zrn {α:Type} [Inhabited α] {l:List α} {p:α→(Bool→Prop)→Prop} {K:Bool→Prop} {Q:α→Prop} (hp:∀ i,i < l.length→∀ K':Bool→Prop,(Q (l.getD i ZC7)→K' true)→(¬ Q (l.getD i ZC7)→K' false)→p (l.getD i ZC7) K')
    (h1:(∃ i,i < l.length∧Q (l.getD i ZC7))→K true) (h2:(∀ i,i < l.length→¬ Q (l.getD i ZC7))→K false) :
    Yc (fun i (s:Unit) next=>p (l.getD i ZC7) (fun r=>(if r=true then K (decide ((i:Int)≥0)) else next ()))) (fun (s:Unit)=>K (decide ((-1:Int)≥0))) l.length 0 ():=by
  refine Yu (fun i (_:Unit)=>∀ j,j < i→¬ Q (l.getD j ZC7)) l.length ?_ ?_ _ _ _ (by omega) (by intro j hj; omega)
  · intro i s next hi hI hn
    refine hp i hi _ (fun q=>?_) (fun q=>?_)
    · rw [if_pos rfl,decide_eq_true (show (i:Int)≥0 by omega)]
      exact h1 ⟨i,hi,q⟩
    · rw [if_neg (by simp)]
      refine hn _ fun j hj=>?_
      by_cases e:j=i
      · subst e; exact q
      · exact hI j (by omega)
  · intro s hI
    rw [decide_eq_false (show ¬ (-1:Int)≥0 by omega)]
    exact h2 hI
theorem ZAp {a : Alg} {K : Bool → Prop} (ok : OkAlg a) (hf : Ju a) (h1 : Zaw a → K true) (h2 : ¬ Zaw a → K false) : Zim a K := by
  unfold Zim Zkz
  have h8:=ok.deg.1
  have hlen:=ok.len
  let row (i:Nat):List Int:=(ZDp a.degrees.length).map fun k=>coT (a.images.getD i ZC7).terms (ZK1.set k 1)
  refine Yu (fun i (s:List (List Int))=>s=(ZDp i).map row) a.images.length ?_ ?_ _ _ _ (by omega) rfl
  · intro i s next hi hs hn
    have hL:(⟨(a.images.getD i ZC7).terms⟩:Vc.Form)=a.images.getD i ZC7:=rfl
    rw [← hL]
    refine ZAo h8 (ok.frm i hi).canon (hf i hi).1 ⟨by rw [hs]; simp; unfold Zy; omega,hn _ ?_⟩
    rw [hs,List.range_succ,List.map_append]
    rfl
  · intro s hs
    subst hs
    have hget:∀ i,i < a.images.length→((ZDp a.images.length).map row).getD i ZC7=row i:=fun i hi=>by simp [List.getD,hi]
    have hrow:∀ i k,k < a.degrees.length→(row i).getD k ZC7=coT (a.images.getD i ZC7).terms (ZK1.set k 1):=fun i k hk=>by simp [row,List.getD,hk]
    have key:∀ i,i < a.images.length→((∃ k,k < a.degrees.length∧coT (a.images.getD i ZC7).terms (ZK1.set k 1)≠0)↔∃ j,j < (a.images.getD i ZC7).terms.length∧wdU ((a.images.getD i ZC7).terms.getD j ZC7).mono 8=1):=fun i hi=>by
      have hc:=(ok.frm i hi).canon
      constructor
      · rintro ⟨k,hk,hnz⟩
        obtain ⟨t,ht,e⟩:=(Zrm hc).1 hnz
        obtain ⟨j,hj,rfl⟩:=List.getElem_of_mem ht
        refine⟨j,hj,?_⟩
        rw [← Xg _ _ hj,e]
        exact ZAi (by omega)
      · rintro ⟨j,hj,ej⟩
        have hm:=(ok.frm i hi).mono (Xa hj)
        have pm:=(hf i hi).1.pos _ (Xa hj)
        obtain ⟨q,hq,e⟩:=ZAh (fun i hi=>(pm i hi).1) ej
        have hqn:q < a.degrees.length:=by
          rcases Nat.lt_or_ge q a.degrees.length with z | z
          · exact z
          · have:=(hm q hq).2 z
            rw [e,A8.get_set hq,if_pos rfl] at this
            omega
        exact⟨q,hqn,(Zrm hc).2 ⟨_,Xa hj,e⟩⟩
    unfold Zkx Ze0
    refine Zrn (l:=(ZDp a.images.length).map row) (p:=fun y0_ K_=>Zf4 y0_ K_) (K:=fun r=>K (!r)) (Q:=fun r=>∃ k,k < a.degrees.length∧r.getD k ZC7≠0) (fun i hi K' c1 c2=>?_) (fun hex=>?_) (fun hall=>?_)
    · have hi':i < a.images.length:=by simpa using hi
      unfold Zf4 Zfn Zek
      rw [hget i hi'] at c1 c2 ⊢
      refine Zrn (l:=row i) (p:=Zf3) (K:=K') (Q:=fun x=>x≠0) (fun k hk K2 d1 d2=>?_) (fun hex=>?_) (fun hall=>?_)
      · unfold Zf3
        by_cases z:(row i).getD k ZC7=0
        · rw [decide_eq_false (fun n=>n z)]; exact d2 fun n=>n z
        · rw [decide_eq_true z]; exact d1 z
      · obtain ⟨k,hk,hz⟩:=hex
        exact c1 ⟨k,by simpa [row] using hk,hz⟩
      · exact c2 fun ⟨k,hk,hz⟩=>hall k (by simpa [row] using hk) hz
    · obtain ⟨i,hi,k,hk,hz⟩:=hex
      have hi':i < a.images.length:=by simpa using hi
      rw [hget i hi',hrow i k hk] at hz
      obtain ⟨j,hj,ej⟩:=(key i hi').1 ⟨k,hk,hz⟩
      exact h2 fun z=>z i hi' j hj ej
    · refine h1 fun i hi j hj ej=>?_
      obtain ⟨k,hk,hz⟩:=(key i hi).2 ⟨j,hj,ej⟩
      exact hall i (by simpa using hi) ⟨k,hk,by rw [hget i hi,hrow i k hk]; exact hz⟩
theorem Zn0 {a:Alg} {b:Bool} {K:Int→Prop} (hf:Ju a) (h1:¬ OkAlg a→K 1) (h2:OkAlg a→¬ Zaw a→K 5) (h3:OkAlg a→Zaw a→K (if b=true then 0 else 2)):Ze1 a b K:=by
  unfold Ze1
  refine Zxp hf (fun ok=>?_) (fun no=>?_)
  · rw [if_pos rfl]
    refine ZAp ok hf (fun m=>?_) (fun m=>?_)
    · rw [if_neg (by simp)]
      refine Zh2 (Znz ?_)
      rw [if_neg (by simp)]
      have:=h3 ok m
      cases b <;> simpa using this
    · rw [if_pos (by simp)]
      refine Zh2 (Znz ?_)
      rw [if_pos (by decide)]
      exact h2 ok m
  · rw [if_neg (by decide)]
    refine Zh2 (Znz ?_)
    rw [if_pos (by decide)]
    exact h1 no
theorem ZAq {a:Alg} {K:Int→Prop} (hf:Ju a) (h1:¬ OkAlg a→K 1) (h2:OkAlg a→¬ Zaw a→K 5) (h3:OkAlg a→Zaw a→K 0):Zie a K:=by
  unfold Zie
  refine Zqp hf (fun ok=>?_) (fun no=>?_)
  · rw [if_neg (by simp)]
    refine ZAn ok hf (fun m=>?_) (fun m=>?_)
    · rw [if_neg (by simp)]; exact h3 ok m
    · rw [if_pos (by simp)]; exact h2 ok m
  · rw [if_pos (by simp)]; exact h1 no
end Go.Proofs.YtaagfepgbofmlaaGreat
