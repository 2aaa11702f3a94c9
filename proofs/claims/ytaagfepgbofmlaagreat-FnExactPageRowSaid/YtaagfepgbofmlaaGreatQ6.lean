import Derived.Test.YtaagfepgbofmlaaGreatQ5
set_option linter.unusedSectionVars false
set_option linter.unusedSimpArgs false
set_option linter.unusedVariables false
open Go renaming wp_seq→ZMh,wp_ret→ZMp,wp_skip→ZMl,wp_block→ZMn,wp_exit→ZMv
open Go.IntKind renaming i64→ZG5,u8→ZMt
open Go.Proofs.Tryz renaming underlying85→ZXe,underlying22→ZM0,prog→ZMk,underlying32→ZM1,underlying120→ZZ3,func117→ZZ4,func115→ZXi,f62→ZZ5,func86→ZZ6,func81→ZZ7,underlying198→ZXc,f114→ZZ8,func12→ZZ9,func141→Z0c,func116→Z0h,underlying125→ZW4,underlying122→ZW3,func171→Z0k,ntmps171→Z0l,func100→Z0m
open Go.Value renaming ownBlock→ZFi,int→ZO5
open Inhabited renaming default→ZEo
open Int renaming tmod→ZFf,natCast_nonneg→ZMx,ofNat_lt→ZNf,tdiv→ZW1,toNat_of_nonneg→ZO6,le_trans→Z0a,mul_le_mul_of_nonneg_right→Z0b,ediv_nonneg→Z0p,tmod_eq_emod_of_nonneg→ZO4
open List renaming mem_append→ZEv,mem_singleton_self→ZSl,replicate→ZEj,toArray→ZMf,length_eq_one_iff→ZNd,mem_cons→ZEk,length_take→ZGs,not_mem_nil→ZGu,pairwise_singleton→ZS2,range→ZE8,mem_singleton→ZFz,map_append→ZSi,length_append→ZEz,take_of_length_le→ZFo
open Nat renaming lt_of_le_of_lt→ZO7,zero_le→ZGa,le_of_ble_eq_true→ZMq
open Option renaming toList→ZNg
open Vc renaming TInts→ZOz,Lvl→ZW6,Form→ZMj
open Vc.A8 renaming zero→ZMm,enc→ZMe,mk→ZZz,get_set→ZO2
open Vc.A8.mk renaming injEq→ZZ1
open Vc.Ctx renaming start→ZM2,startL→ZZ2
open Vc.Enc renaming encs_append→ZM9,encs_one'→ZNk,encs→ZSs,encs_len→ZO8
open Vc.Tr renaming sl→ZR9,item→ZMy,trep→ZYd
open Vc.Ty renaming item→ZMg,allItem→ZYa
set_option maxRecDepth 4000
set_option maxHeartbeats 4000000
namespace Go.Proofs.YtaagfepgbofmlaaGreat
open Go Go.RowKit Vc
variable {b0 bp0 b1 bp1 b2 bp2 b3 bp3 b4 bp4 b5 bp5 b6 bp6 b7 bp7 mb0:Nat} {u0_0 u0_1 u0_2 u0_3 u0_4 u0_5 u1_0 u1_1 u1_2 u1_3 u1_4 u1_5 u2_0 u2_1 u2_2 u2_3 u2_4 u2_5 u3_0 u3_1 u3_2 u3_3 u3_4 u3_5 u4_0 u4_1 u4_2 u4_3 u4_4 u4_5 u5_0 u5_1 u5_2 u5_3 u5_4 u5_5 u6_0 u6_1 u6_2 u6_3 u6_4 u6_5 u7_0 u7_1 u7_2 u7_3 u7_4 u7_5:Value} {fp0 fp1 fp2 fp3 fp4 fp5 fp6 fp7 fp0_0 fp0_1 fp0_2 fp0_3 fp0_4 fp0_5 fp1_0 fp1_1 fp1_2 fp1_3 fp1_4 fp1_5 F0:List Nat} {D0:List Lev}
def Ze2 (a0:List (List Int)) (p1:(List Int)→(Bool→Prop)→Prop) (K:Int→Prop):Prop :=
 Z8 (fun i10 (s10:Unit) nx10=>p1 (a0.getD i10 ZEo) (fun r10=>(if r10=true then K (i10:Int) else nx10 ()))) (fun (s10:Unit)=>K (-1)) a0.length 0 ()
theorem Zr6 (a0:List (List Int)) (p1:(List Int)→(Bool→Prop)→Prop)  {K:Int→Prop} (h:Ze2 a0 p1 K) (w0:World) (q0:(ZOz.sl).rep a0 [u0_0] fp0 w0) {g1:Nat} {cp1:List Value} {fn1:Func} (hf1:ZMk.funcs[g1]? = some fn1) (hb1:fn1.body.isNone=false) (hn1:(fn1.name == "runtime.NumGoroutine")=false) (hp1:∀ (y0:List Int) (yu0_0:Value) (yf0:List Nat) (K_:Bool→Prop) (w_:World),Bel w0 w_→ZOz.rep y0 [yu0_0] yf0 w_→p1 y0 K_→Calls ZMk g1 (ZMf ([yu0_0]++cp1)) w_ fun e w'=>∃ (z0:Bool),e=.returned (.bool z0)∧K_ z0∧Bel w_ w') :
  Calls ZMk 141 #[u0_0,.func (.func g1) #[] (ZMf cp1)] w0 fun e w'=>∃ (r0:Int),
   e=.returned (vI r0)∧K r0∧Bel w0 w':=by
 unfold Ze2 at h
 refine cof Z0c rfl 19 Tryz.ntmps141 ?_
 have hC:=ZM2 (X:=Nox) w0 [ZMg (ZOz.sl) a0 [u0_0] fp0] (al1 q0)
 refine sr (Zd (v:=vI 0) rfl (dn (ZMh (sr (Za (v:=u0_0) rfl (Zu hC 0 rfl ZXe rfl (Za (v:=vI 0) rfl (dn (ZMn ?_)))))))))
 have hN10:a0.length≤9223372036854775807:=Yw (hC.getP 0 rfl)
 refine Yi (S:=Unit) _ _ (fun i10 s10 e_ w_=>Zt e_ [(0,u0_0),(1,.func (.func g1) #[] (ZMf cp1)),(7,vI (a0.length:Int)),(8,vI (i10:Int))]∧Ctx Nox w0 w_ [] [ZMg (ZOz.sl) a0 [u0_0] fp0]) a0.length ?_ ?_ (s0:=()) ?_ h
 ·clear hC h
  rintro i10 s10 e_ w10 nx10 K10 hi10 ⟨hS_,hC⟩ h hK10
  rw [ue hS_]
  refine sr (Zn rfl rfl (dn (ZMh (Z5 rfl (decide_eq_true (by omega)) (ZMl (Ze (ZMh (ZMn (sr (Za (v:=vI (i10:Int)) rfl (Zd (v:=vI (i10:Int)) rfl (dn (sr (Za (v:=.func (.func g1) #[] (ZMf cp1)) rfl (Za (v:=u0_0) rfl (Za (v:=vI (i10:Int)) rfl ?_))))))))))))))))
  obtain ⟨Ad10,c10,hv10⟩:=Zw (hC.getP 0 rfl) i10 hi10
  refine Yn (len:=a0.length) ZXe sc22.size (tr rfl hv10) rfl (ZMx _) (ZNf.2 hi10) ?_
  obtain ⟨cs_,hl10,hc10,hr10⟩:=Xg (hC.getP 0 rfl) hv10 i10 hi10
  obtain ⟨u10,rfl⟩:=ZNd.1 hl10
  clear hl10
  rw [Xd _ _ hi10] at hr10
  replace hC:=hC.derive 0 rfl (ZMg TInts (a0.getD i10 ZEo) [u10] fp0) (fun _=>hr10) (fun _ hb_=>hb_)
  refine Yp (u10) hc10 sc22 rfl ?_
  refine Zmj [u10] _ rfl hf1 hb1 hn1 rfl (hp1 _ _ _ _ _ hC.below (hC.getP 0 rfl) h) (fun ret10 w11 hR10=>?_)
  obtain ⟨r10,rfl,h,hB10⟩:=hR10
  refine⟨_,rfl,?_⟩
  replace hC:=hC.grow hB10
  refine dn ?_
  refine Zs rfl (fun hb10=>?_) (fun hb10=>?_)
  ·replace h:=ift h (hb10)
   refine sr (Za (v:=vI (i10:Int)) rfl (Zd (v:=vI (i10:Int)) rfl (dn ?_)))
   refine ZMp (Ya (Zm (Zm (Ya (Zm ?_)))))
   exact Zi rfl (Zg rfl) ⟨(i10:Int),rfl,h,hC.below⟩ (.inl rfl)
  ·replace h:=Zk h (Y4 hb10)
   refine ZMl (Zr (Ze (Zh (Zq rfl rfl (Za (v:=vI (ZG5.wrap ((i10:Int)+1))) rfl (done ?_))))))
   exact hK10 () _ _ ⟨(sl ⟨rfl,rfl,rfl,(tr rfl (congrArg _ (Z2 hi10 hN10))),trivial⟩),(hC.sP [1] rfl)⟩ h
 ·clear hC h
  rintro s10 e_ w12 K10 ⟨hS_,hC⟩ h
  rw [ue hS_]
  refine sr (Zn rfl rfl (dn (ZMh (Z1 rfl (decide_eq_false (by omega)) ?_))))
  refine ZMv (Zj (Zj (Zx ?_)))
  refine Ze (sr (Zd (v:=vI (-1)) rfl (dn (ZMp ?_))))
  exact Zi rfl (Zg rfl) ⟨(-1),rfl,h,hC.below⟩ (.inl rfl)
 ·skip
  exact⟨(slq rfl),hC⟩
def Zlc (a0:List (List Int)) (p1:(List Int)→(Bool→Prop)→Prop) (K:Bool→Prop):Prop :=
 Ze2 a0 p1 (fun r5=>K (decide (r5≥0)))
theorem ZA1 (a0:List (List Int)) (p1:(List Int)→(Bool→Prop)→Prop)  {K:Bool→Prop} (h:Zlc a0 p1 K) (w0:World) (q0:(ZOz.sl).rep a0 [u0_0] fp0 w0) {g1:Nat} {cp1:List Value} {fn1:Func} (hf1:ZMk.funcs[g1]? = some fn1) (hb1:fn1.body.isNone=false) (hn1:(fn1.name == "runtime.NumGoroutine")=false) (hp1:∀ (y0:List Int) (yu0_0:Value) (yf0:List Nat) (K_:Bool→Prop) (w_:World),Bel w0 w_→ZOz.rep y0 [yu0_0] yf0 w_→p1 y0 K_→Calls ZMk g1 (ZMf ([yu0_0]++cp1)) w_ fun e w'=>∃ (z0:Bool),e=.returned (.bool z0)∧K_ z0∧Bel w_ w') :
  Calls ZMk 178 #[u0_0,.func (.func g1) #[] (ZMf cp1)] w0 fun e w'=>∃ (r0:Bool),
   e=.returned (.bool r0)∧K r0∧Bel w0 w':=by
 unfold Zlc at h
 refine cof Tryz.func178 rfl 9 Tryz.ntmps178 ?_
 have hC:=ZM2 (X:=Nox) w0 [ZMg (ZOz.sl) a0 [u0_0] fp0] (al1 q0)
 refine sr (Zd (v:=.bool false) rfl (dn (sr (Za (v:=u0_0) rfl (Za (v:=.func (.func g1) #[] (ZMf cp1)) rfl (Zf [u0_0,.func (.func g1) #[] (ZMf cp1)] _ Z0c rfl rfl rfl (Zr6 a0 p1 h _ (hC.getP 0 rfl) hf1 hb1 hn1 (fun x0_ x1_ x2_ K_ w_ hb_=>hp1 x0_ x1_ x2_ K_ w_ (Zmm hC.below hb_))) ?_))))))
 rintro _ w4 ⟨r5,rfl,h,hB6⟩
 refine rt ?_
 replace hC:=hC.grow hB6
 refine J7 rfl rfl (Zd (v:=.bool (decide (r5≥0))) rfl (dn (ZMp ?_)))
 exact Zi rfl (Zg rfl) ⟨decide (r5≥0),rfl,h,hC.below⟩ (.inl rfl)
def Zld (a0:Int) (K:A8→Prop):Prop :=
 ((0≤a0∧a0 < 8)∧K (ZMm.set a0.toNat 1))
theorem ZA2 (a0:Int)  {K:A8→Prop} (h:Zld a0 K) (w0:World)  :
  Calls ZMk 202 #[vI a0] w0 fun e w'=>∃ (r0:A8),
   e=.returned (.agg (ZMf (ZMe .i64 r0)))∧K r0∧Bel w0 w':=by
 unfold Zld at h
 refine cof Tryz.func202 rfl 8 Tryz.ntmps202 ?_
 have hC:=ZM2 (X:=Nox) w0 [] (by simp)
 refine sr (Ys hC (ZMe .i64 ZMm) z73 rfl fun b1 w3 hB_ hC=>dn (sr (J2 [] rfl (Zg4   _) (Ys hC (ZMe .i64 ZMm) z73 rfl fun b4 w6 hB_ hC=>Z3 (v:=.agg (ZMf (ZMe .i64 ZMm))) hC 0 (ZMe .i64 ZMm) (ZMe .i64 ZMm) rfl ag73.size rfl rfl rfl rfl rfl (ZMq rfl) rfl fun w7 hC=>dn (sr (Za (v:=vI a0) rfl ?_))))))
 obtain ⟨⟨h0_8,h1_9⟩,h⟩:=h
 refine Xs a0.toNat Tryz.underlying73 sc3.size rfl rfl h0_8 h1_9 (by omega) (Z3 (v:=vI 1) hC 0 [vI 1] (ZMe .i64 (ZMm.set a0.toNat 1)) rfl sc3.size rfl rfl rfl rfl rfl (show a0.toNat < 8 by omega) (A8.enc_set _ _ _ (show a0.toNat < 8 by omega)) fun w10 hC=>dn (sr (Yq hC 0 (ZMe .i64 (ZMm.set a0.toNat 1)) rfl ag73 rfl rfl rfl (Z3 (v:=.agg (ZMf (ZMe .i64 (ZMm.set a0.toNat 1)))) hC 1 (ZMe .i64 (ZMm.set a0.toNat 1)) (ZMe .i64 (ZMm.set a0.toNat 1)) rfl ag73.size rfl rfl rfl rfl rfl (ZMq rfl) rfl fun w11 hC=>dn (ZMp ?_)))))
 exact Zi rfl (J8 hC 1 rfl ag73 rfl rfl) ⟨ZMm.set a0.toNat 1,rfl,h,hC.below⟩ (.inl rfl)
def Zis (a0:List Int) (a1:ZMj) (K:List Int→Prop):Prop :=
 Zel a1 (fun r10=>Z8 (fun i10 (s10:(List Int)) nx10=>Zld (i10:Int) (fun r11=>(Zy (s10.length+1) 8∧nx10 (s10++[(Y9 r10 r11).getD 0])))) (fun (s10:(List Int))=>K s10) a0.length 0 [])
theorem ZA3 (a0:List Int) (a1:ZMj)  {K:List Int→Prop} (h:Zis a0 a1 K) (w0:World) (q0:ZOz.rep a0 [u0_0] fp0 w0) (q1:TForm.rep a1 [u1_0] fp1 w0) :
  Calls ZMk 197 #[u0_0,.agg #[u1_0]] w0 fun e w'=>∃ (r0:List Int) (z0_0:Value) (fz0:List Nat),
   e=.returned (z0_0)∧K r0∧(ZMy (ZR9 2 (eI.tr)) r0 [z0_0] fz0).holds w'∧(∀ b,b∈fz0→w0.heap.size≤b)∧Bel w0 w':=by
 unfold Zis at h
 refine cof Tryz.func197 rfl 25 Tryz.ntmps197 ?_
 have hC:=ZM2 (X:=Nox) w0 [ZMg TInts a0 [u0_0] fp0,ZMg TForm a1 [u1_0] fp1] (alc q0 (al1 q1))
 have hp3:=(hC.getP 1 rfl)
 replace hC:=hC.derive 1 rfl (ZMg ETerm.ty.sl a1.terms [u1_0] fp1) (fun _=>(Xk hp3)) (fun _ hb_=>hb_)
 refine sr (Yg (v:=.agg #[u1_0]) hC [u1_0] rfl rfl fun b5 w7 hB_ hC=>Zd (v:=.slice none 0 0) rfl (dn (sr (Yq hC 0 [u1_0] rfl ag55 rfl rfl rfl (Zf [.agg #[u1_0]] _ Tryz.func78 rfl rfl rfl (Zna a1 h _ (Y3 (hC.getP 0 rfl))) ?_)))))
 rintro _ w10 ⟨r10,b10,rfl,h,hr10,hf10,hB10⟩
 refine rt ?_
 replace hC:=hC.push hB10 (mapS b10 r10) hr10 (fun b_ hb_=>by obtain rfl:=ZFz.1 hb_; exact hf10)
 refine Ye (sz:=1) hC [] (eI.encs []) rfl (fun _=>Zcf  _) rfl (by decide) fun b11 w11 hB_ hC=>Zd (v:=.map (some b10)) rfl (Zd (v:=.slice (some ⟨b11,0,none⟩) 0 0) rfl (dn (ZMh (sr (Za (v:=u0_0) rfl (Zu hC 1 rfl ZM0 rfl (Za (v:=vI 0) rfl (dn (ZMn ?_)))))))))
 have hN10:a0.length≤9223372036854775807:=Yw (hC.getP 1 rfl)
 refine Yi (S:=(List Int)) _ _ (fun i10 s10 e_ w_=>∃ (v10:Value),Zt e_ [(5,.map (some b10)),(6,v10),(12,vI (a0.length:Int)),(13,vI (i10:Int))]∧Ctx Nox w0 w_ [own 2 1 v10 s10.length (eI.encs s10),mapS b10 r10] [ZMg ETerm.ty.sl a1.terms [u1_0] fp1,ZMg TInts a0 [u0_0] fp0,ZMg TForm a1 [u1_0] fp1]) a0.length ?_ ?_ (s0:=[]) ?_ h
 ·clear hC h
  rintro i10 s10 e_ w12 nx10 K10 hi10 ⟨v10,hS_,hC⟩ h hK10
  rw [ue hS_]
  refine sr (Zn rfl rfl (dn (ZMh (Z5 rfl (decide_eq_true (by omega)) (ZMl (Ze (ZMh (ZMn (sr (Za (v:=vI (i10:Int)) rfl (Zd (v:=vI (i10:Int)) rfl (dn (Zh (Za (v:=v10) rfl (Za (v:=.map (some b10)) rfl (Za (v:=vI (i10:Int)) rfl (Zf [vI (i10:Int)] _ Tryz.func202 rfl rfl rfl (ZA2 (i10:Int) h _) ?_)))))))))))))))))
  rintro _ w13 ⟨r11,rfl,h,hB11⟩
  refine rt ?_
  replace hC:=hC.grow hB11
  refine Zp3 r11 0 (hC.getM 1 rfl) Js Tryz.underlying115 z2 rfl rfl (Ye (sz:=1) hC [(0,vI ((Y9 r10 r11).getD 0))] (eI.encs [(Y9 r10 r11).getD 0]) rfl (fun _=>Zf3 ((Y9 r10 r11).getD 0) _) rfl (by decide) fun b12 w14 hB_ hC=>?_)
  obtain ⟨hm10,h⟩:=h
  refine Ja hC 1 ZM0 el2 rfl (by decide) (by decide) rfl (Jx (hC.getM 0 rfl)) (fun q hq=>ZNk (E:=eI) _ q hq) rfl rfl hm10 fun v11 w15 hC=>?_
  replace hC:=Yy hC 1 ((s10++[(Y9 r10 r11).getD 0]).length) (eI.encs (s10++[(Y9 r10 r11).getD 0])) rfl (by simp) (by first | (simp [ZM9]; done) | simp [ZM9,ZSs])
  refine Zd (v:=v11) rfl (done (Zr (Ze (Zh (Zq rfl rfl (Za (v:=vI (ZG5.wrap ((i10:Int)+1))) rfl (done ?_)))))))
  exact hK10 (s10++[(Y9 r10 r11).getD 0]) _ _ ⟨v11,(sl ⟨rfl,rfl,rfl,(tr rfl (congrArg _ (Z2 hi10 hN10))),trivial⟩),(hC.xM [1,2] rfl)⟩ h
 ·clear hC h
  rintro s10 e_ w16 K10 ⟨v10,hS_,hC⟩ h
  rw [ue hS_]
  refine sr (Zn rfl rfl (dn (ZMh (Z1 rfl (decide_eq_false (by omega)) ?_))))
  refine ZMv (Zj (Zj (Zx ?_)))
  refine Ze (sr (Za (v:=v10) rfl (Zd (v:=v10) rfl (dn (ZMp ?_)))))
  exact Zi rfl (Zg rfl) ⟨s10,v10,(ZNg (ZFi v10)),rfl,h,(Xf (hC.getM 0 rfl)),(Y8 hC 0 rfl),hC.below⟩ (.inl rfl)
 ·skip
  exact⟨.slice (some ⟨b11,0,none⟩) 0 0,(slq rfl),(hC.xM [0,1] rfl)⟩
def Zle (a0:Alg) (K:List (List Int)→Prop):Prop :=
 Z8 (fun i10 (s10:(List (List Int))) nx10=>Zis a0.degrees (a0.images.getD i10 ZEo) (fun r10=>(Zy (s10.length+1) 24∧nx10 (s10++[r10])))) (fun (s10:(List (List Int)))=>K s10) a0.images.length 0 []
theorem ZA4 (a0:Alg)  {K:List (List Int)→Prop} (h:Zle a0 K) (w0:World) (q0:TAlg.rep a0 [u0_0,u0_1] fp0 w0) (qb0:(blk b0 32 [u0_0,u0_1]).holds w0) :
  Calls ZMk 179 #[vQ b0] w0 fun e w'=>∃ (r0:List (List Int)) (z0_0:Value) (fz0:List Nat),
   e=.returned (z0_0)∧K r0∧(ZMy (ZR9 22 (ZR9 2 (eI.tr))) r0 [z0_0] fz0).holds w'∧(∀ b,b∈fz0→w0.heap.size≤b)∧Bel w0 w':=by
 unfold Zle at h
 refine cof Tryz.func179 rfl 27 Tryz.ntmps179 ?_
 have hC:=ZM2 (X:=Nox) w0 [ZMg TAlg a0 [u0_0,u0_1] fp0,blk b0 32 [u0_0,u0_1]] (alc q0 (al1 qb0))
 replace hC:=hC.dAlg 0 rfl
 refine sr (Zd (v:=.slice none 0 0) rfl (dn (sr (Ye (sz:=1) hC [] [] rfl (fun _=>Zak _) rfl (by decide) fun b5 w6 hB_ hC=>?_))))
 replace hC:=hC.pushM0 (Z9 (ZR9 2 (eI.tr)) ([]:List (List Int)) [] []) (Jb _ _) rfl
 replace hC:=hC.gather (c:=ZMy (ZR9 22 (ZR9 2 (eI.tr))) [] [.slice (some ⟨b5,0,none⟩) 0 0] ((ZNg (ZFi (.slice (some ⟨b5,0,none⟩) 0 0)))++([]:List (List Nat)).flatten)) (fun x_ hx_=>(ZEv.1 hx_).symm) (fun h1_ h2_ hd_=>X1 h2_ h1_ (fun b_ hb_ hb2_=>hd_ b_ hb2_ hb_))
 refine Zd (v:=.slice (some ⟨b5,0,none⟩) 0 0) rfl (dn (ZMh (sr (Za (v:=vQ b0) rfl (Xy rfl (Z0 1 ZM1 rfl sc30.size rfl rfl (Zck (u0_1) (hC.getP 3 rfl) sc30 rfl rfl (Zu hC 0 rfl Tryz.underlying30 rfl (Za (v:=vI 0) rfl (dn (ZMn ?_)))))))))))
 have hN10:a0.images.length≤9223372036854775807:=Yw (hC.getP 0 rfl)
 refine Yi (S:=(List (List Int))) _ _ (fun i10 s10 e_ w_=>∃ (v10:Value),∃ (f10:List Nat),Zt e_ [(0,vQ b0),(3,v10),(10,u0_1),(11,vI (a0.images.length:Int)),(12,vI (i10:Int))]∧Ctx Nox w0 w_ [ZMy (ZR9 22 (ZR9 2 (eI.tr))) s10 [v10] f10] [ZMg TForm.sl a0.images [u0_1] fp0,ZMg TInts a0.degrees [u0_0] fp0,ZMg TAlg a0 [u0_0,u0_1] fp0,blk b0 32 [u0_0,u0_1]]) a0.images.length ?_ ?_ (s0:=[]) ?_ h
 ·clear hC h
  rintro i10 s10 e_ w10 nx10 K10 hi10 ⟨v10,f10,hS_,hC⟩ h hK10
  rw [ue hS_]
  refine sr (Zn rfl rfl (dn (ZMh (Z5 rfl (decide_eq_true (by omega)) (ZMl (Ze (ZMh (ZMn (sr ?_)))))))))
  obtain ⟨Ad10,c10,hv10⟩:=Zw (hC.getP 0 rfl) i10 hi10
  refine Yn (len:=a0.images.length) Tryz.underlying30 ag55.size (tr rfl hv10) rfl (ZMx _) (ZNf.2 hi10) ?_
  obtain ⟨cs_,hl10,hc10,hr10⟩:=Xg (hC.getP 0 rfl) hv10 i10 hi10
  obtain ⟨u11,rfl⟩:=ZNd.1 hl10
  clear hl10
  rw [Xd _ _ hi10] at hr10
  have hp10:=hr10
  replace hC:=hC.derive 0 rfl (ZMg ETerm.ty.sl ((a0.images.getD i10 ZEo).terms) [u11] fp0) (fun _=>(Xk hp10)) (fun _ hb_=>hb_)
  refine Jd [u11] hc10 ag55 rfl rfl (Ys hC [.slice none 0 0] z55 rfl fun b11 w11 hB_ hC=>Z3 (v:=.agg #[u11]) hC 0 [u11] [u11] rfl ag55.size rfl rfl rfl rfl (Xp (Zdo (hC.getP 0 rfl)) rfl) (ZMq rfl) rfl fun w12 hC=>dn ?_)
  refine cwd 8 Yo [0,0,2,6,14,0,62,126,255,511] [4,5] [0,1,2,3] (fun hM11 hM10 w13 hB_=>?_)
  replace hC:=hC.grow hB_
  refine bM 0 (v10) rfl hM10 (Zc 10 1) (bM 1 (vQ b0) rfl hM10 (Zc 10 3) (bF 2 (vQ b0) rfl rfl hM10 (fun _=>by exact Zas rfl) (Zc 10 7) (bF 3 (vQ b0) rfl rfl hM10 (fun _=>by exact Yt 0 ZM1 rfl sc22.size rfl rfl) (Zc 10 15) (bL 4 (u0_0) rfl rfl hM11 (fun _ hB_=>by exact Zc3 (u0_0) ((hC.grow hB_).getP 4 rfl) sc22 rfl rfl) (Zc 10 31) (bL 5 (.agg #[u11]) rfl rfl hM11 (fun _ hB_=>by exact Xa (hC.grow hB_) 0 [u11] rfl ag55 rfl rfl rfl) (Zc 10 63) (aO 6 rfl (Zf [u0_0,.agg #[u11]] _ Tryz.func197 rfl rfl rfl (ZA3 a0.degrees (a0.images.getD i10 ZEo) h _ (hC.getP 2 rfl) (Y3 (hC.getP 0 rfl))) ?_)))))))
  rintro _ w14 ⟨r10,u10,f11,rfl,h,hr11,hf10,hB10⟩
  refine rt ?_
  replace hC:=hC.push hB10 (ZMy (ZR9 2 (eI.tr)) r10 [u10] f11) hr11 hf10
  obtain ⟨ho10,hf11⟩:=Yv (hC.getM 0 rfl).1
  subst hf11
  replace hC:=hC.recast (c:=own 2 1 u10 r10.length (eI.encs r10)) (fun _ h_=>h_) (fun _=>ho10)
  refine done (aK (by assumption) (Zc 10 127) (aO 7 rfl (Ye (sz:=1) hC [(0,u10)] [u10] rfl (fun _=>Zae u10 (Zbc (hC.getM 0 rfl)) _) rfl (by decide) fun b10 w15 hB_ hC=>?_)))
  replace hC:=hC.pushM0 (Z9 (ZR9 2 (eI.tr)) [] [] []) (Jb _ _) rfl
  replace hC:=hC.sM [2,0,1,3,4] (M':=[own 2 1 u10 r10.length (eI.encs r10),Z9 (ZR9 2 (eI.tr)) [] [] [],own 22 1 (.slice (some ⟨b10,0,none⟩) 1 1) 1 [u10],blk b11 55 [u11],ZMy (ZR9 22 (ZR9 2 (eI.tr))) s10 [v10] f10]) (by decide) rfl
  replace hC:=hC.gather (c:=Z9 (ZR9 2 (eI.tr)) [r10] [u10] [(ZNg (ZFi u10))]) (fun x_ hx_=>Zbo hx_) (fun h1_ h2_ hd_=>Zbb (c:=[u10]) (id (Xf h1_)) h2_ hd_)
  replace hC:=hC.sM [1,0,2,3] (M':=[own 22 1 (.slice (some ⟨b10,0,none⟩) 1 1) 1 [u10],Z9 (ZR9 2 (eI.tr)) [r10] [u10] [(ZNg (ZFi u10))],blk b11 55 [u11],ZMy (ZR9 22 (ZR9 2 (eI.tr))) s10 [v10] f10]) (by decide) rfl
  replace hC:=hC.gather (c:=ZMy (ZR9 22 (ZR9 2 (eI.tr))) [r10] [.slice (some ⟨b10,0,none⟩) 1 1] ((ZNg (ZFi (.slice (some ⟨b10,0,none⟩) 1 1)))++([(ZNg (ZFi u10))]:List (List Nat)).flatten)) (fun x_ hx_=>ZEv.1 hx_) (fun h1_ h2_ hd_=>X1 h1_ h2_ hd_)
  refine done (aK (by assumption) (Zc 10 255) (Z6 8 (by decide) (by decide) (by kernel_rfl) (by kernel_rfl) rfl ?_))
  replace hC:=hC.sM [2,0,1] (M':=[ZMy (ZR9 22 (ZR9 2 (eI.tr))) s10 [v10] f10,ZMy (ZR9 22 (ZR9 2 (eI.tr))) [r10] [.slice (some ⟨b10,0,none⟩) 1 1] ((ZNg (ZFi (.slice (some ⟨b10,0,none⟩) 1 1)))++([(ZNg (ZFi u10))]:List (List Nat)).flatten),blk b11 55 [u11]]) (by decide) rfl
  obtain ⟨hm10,h⟩:=h
  refine Za4 hC ZXe Jz rfl (by decide) (by decide) rfl rfl hm10 fun v11 f12 w16 hC=>Zd (v:=v11) rfl (done (Z7 (Zr (Ze (Zh (Zq rfl rfl (Za (v:=vI (ZG5.wrap ((i10:Int)+1))) rfl (done ?_))))))))
  exact hK10 (s10++[r10]) _ _ ⟨v11,f12,(sl ⟨rfl,rfl,rfl,rfl,(tr rfl (congrArg _ (Z2 hi10 hN10))),trivial⟩),((hC.xM [0] rfl).sP [1,2,3,4] rfl)⟩ h
 ·clear hC h
  rintro s10 e_ w17 K10 ⟨v10,f10,hS_,hC⟩ h
  rw [ue hS_]
  refine sr (Zn rfl rfl (dn (ZMh (Z1 rfl (decide_eq_false (by omega)) ?_))))
  refine ZMv (Zj (Zj (Zx ?_)))
  refine Ze (sr (Za (v:=v10) rfl (Zd (v:=v10) rfl (dn (ZMp ?_)))))
  exact Zi rfl (Zg rfl) ⟨s10,v10,f10,rfl,h,(hC.getM 0 rfl),(Zai hC 0 rfl),hC.below⟩ (.inl rfl)
 ·skip
  exact⟨.slice (some ⟨b5,0,none⟩) 0 0,((ZNg (ZFi (.slice (some ⟨b5,0,none⟩) 0 0)))++([]:List (List Nat)).flatten),(slq rfl),hC⟩
def Zf8 (a0:Int) (K:Bool→Prop):Prop :=
 K (decide (a0≠0))
theorem ZA5 (a0:Int)  {K:Bool→Prop} (h:Zf8 a0 K) (w0:World)  :
  Calls ZMk 182 #[vI a0] w0 fun e w'=>∃ (r0:Bool),
   e=.returned (.bool r0)∧K r0∧Bel w0 w':=by
 unfold Zf8 at h
 refine cof Tryz.func182 rfl 5 Tryz.ntmps182 ?_
 have hC:=ZM2 (X:=Nox) w0 [] (by simp)
 refine sr (Zd (v:=.bool false) rfl (dn (sr (Za (v:=vI a0) rfl (Y6 rfl rfl (Zd (v:=.bool (decide (a0≠0))) rfl (dn (ZMp ?_))))))))
 exact Zi rfl (Zg rfl) ⟨decide (a0≠0),rfl,h,hC.below⟩ (.inl rfl)
def Zf9 (a0:List Int) (K:Bool→Prop):Prop :=
 Zfo a0 Zf8 (fun r5=>K r5)
theorem ZA6 (a0:List Int)  {K:Bool→Prop} (h:Zf9 a0 K) (w0:World) (q0:ZOz.rep a0 [u0_0] fp0 w0) :
  Calls ZMk 180 #[u0_0] w0 fun e w'=>∃ (r0:Bool),
   e=.returned (.bool r0)∧K r0∧Bel w0 w':=by
 unfold Zf9 at h
 refine cof Tryz.func180 rfl 5 Tryz.ntmps180 ?_
 have hC:=ZM2 (X:=Nox) w0 [ZMg TInts a0 [u0_0] fp0] (al1 q0)
 refine sr (Zd (v:=.bool false) rfl (dn (sr (Za (v:=u0_0) rfl (Zf [u0_0,.func (.func 182) #[] (ZMf [])] _ Tryz.func181 rfl rfl rfl (Zqm a0 Zf8 h _ (hC.getP 0 rfl) Tryz.func182 rfl rfl (fun x0_ K_ w_ _ hq_=>ZA5 x0_ hq_ w_)) ?_)))))
 rintro _ w4 ⟨r5,rfl,h,hB6⟩
 refine rt ?_
 replace hC:=hC.grow hB6
 refine Zd (v:=.bool r5) rfl (dn (ZMp ?_))
 exact Zi rfl (Zg rfl) ⟨r5,rfl,h,hC.below⟩ (.inl rfl)
def Zit (a0:Alg) (K:Bool→Prop):Prop :=
 Zle a0 (fun r8=>Zlc r8 (fun y0_ K_=>Zf9 y0_ K_) (fun r10=>K (!r10)))
theorem ZA7 (a0:Alg)  {K:Bool→Prop} (h:Zit a0 K) (w0:World) (q0:TAlg.rep a0 [u0_0,u0_1] fp0 w0) (qb0:(blk b0 32 [u0_0,u0_1]).holds w0) :
  Calls ZMk 131 #[vQ b0] w0 fun e w'=>∃ (r0:Bool),
   e=.returned (.bool r0)∧K r0∧Bel w0 w':=by
 unfold Zit at h
 refine cof Tryz.func131 rfl 7 Tryz.ntmps131 ?_
 have hC:=ZM2 (X:=Nox) w0 [ZMg TAlg a0 [u0_0,u0_1] fp0,blk b0 32 [u0_0,u0_1]] (alc q0 (al1 qb0))
 replace hC:=hC.dAlg 0 rfl
 refine sr (Zd (v:=.bool false) rfl (dn (sr (Za (v:=vQ b0) rfl (Zf [vQ b0] _ Tryz.func179 rfl rfl rfl (ZA4 a0 h _ (Yk (hC.getP 1 rfl) (hC.getP 0 rfl)) (hC.getP 3 rfl)) ?_)))))
 rintro _ w7 ⟨r8,u9,f10,rfl,h,hr10,hf10,hB10⟩
 refine rt ?_
 replace hC:=hC.push hB10 (ZMy (ZR9 22 (ZR9 2 (eI.tr))) r8 [u9] f10) hr10 hf10
 refine Zf [u9,.func (.func 180) #[] (ZMf [])] _ Tryz.func178 rfl rfl rfl (ZA1 r8 (fun y0_ K_=>Zf9 y0_ K_) h _ (ZYd _ (hC.getM 0 rfl).1) Tryz.func180 rfl rfl (fun y0_ yu0_0_ yf0_ K_ w_ hb_ rq0_ hq_=>ZA6 y0_ hq_ w_ rq0_)) ?_
 rintro _ w10 ⟨r10,rfl,h,hB11⟩
 refine rt ?_
 replace hC:=hC.grow hB11
 refine Xe rfl (Zd (v:=.bool (!r10)) rfl (dn (ZMp ?_)))
 exact Zi rfl (Zg rfl) ⟨!r10,rfl,h,hC.below⟩ (.inl rfl)
def Zga (a0:Alg) (a1:Bool) (K:Int→Prop):Prop :=
 Zh2 a0 [] (fun r8=>(if r8=0 then Zit a0 (fun r16=>(if¬ (r16=true) then Zda (!a1) 2 (fun r10=>Zer [5,r10] (fun r13=>K r13)) else Zda (!a1) 2 (fun r11=>Zer [r8,r11] (fun r14=>K r14)))) else Zda (!a1) 2 (fun r12=>Zer [r8,r12] (fun r15=>K r15))))
theorem Zr7 (a0:Alg) (a1:Bool)  {K:Int→Prop} (h:Zga a0 a1 K) (w0:World) (q0:TAlg.rep a0 [u0_0,u0_1] fp0 w0) (qb0:(blk b0 32 [u0_0,u0_1]).holds w0) :
  Calls ZMk 75 #[vQ b0,.bool a1] w0 fun e w'=>∃ (r0:Int),
   e=.returned (vI r0)∧K r0∧Bel w0 w':=by
 unfold Zga at h
 refine cof Tryz.func75 rfl 21 Tryz.ntmps75 ?_
 have hC:=ZM2 (X:=Nox) w0 [ZMg TAlg a0 [u0_0,u0_1] fp0,blk b0 32 [u0_0,u0_1]] (alc q0 (al1 qb0))
 replace hC:=hC.dAlg 0 rfl
 refine sr (Zd (v:=vI 0) rfl (dn (sr (Za (v:=vQ b0) rfl (Zf [vQ b0,.slice none 0 0] _ Tryz.func44 rfl rfl rfl (Zxg a0 [] h _ (Yk (hC.getP 1 rfl) (hC.getP 0 rfl)) (hC.getP 3 rfl) (Zpr _ _)) ?_)))))
 rintro _ w7 ⟨r8,rfl,h,hB9⟩
 refine rt ?_
 replace hC:=hC.grow hB9
 refine Zd (v:=vI r8) rfl (dn (ZMh (sr (Za (v:=vI r8) rfl (Xx rfl rfl (Za (v:=.bool (decide (r8=0))) rfl ?_))))))
 refine Y7 (decide (r8=0)) (fun hb10=>?_) (fun hb10=>?_)
 ·replace h:=ift h (ct hb10)
  refine Zp 2 10 rfl rfl hb10 (Za (v:=vQ b0) rfl (Zp 2 10 rfl rfl hb10 (Zf [vQ b0] _ Tryz.func131 rfl rfl rfl (ZA7 a0 h _ (Yk (hC.getP 1 rfl) (hC.getP 0 rfl)) (hC.getP 3 rfl)) ?_)))
  rintro _ w10 ⟨r16,rfl,h,hB10⟩
  refine rt ?_
  replace hC:=hC.grow hB10
  refine Zp 2 10 rfl rfl hb10 (Xe rfl (Z4 (v:=.bool (!r16)) (b:=true) (tr rfl (congrArg _ hb10)) rfl (dn ?_)))
  refine Zs rfl (fun hb11=>?_) (fun hb11=>?_)
  ·replace h:=ift h (Y4 (Xi hb11))
   refine Zh (Zd (v:=vI 5) rfl (dn (sr (Za (v:=vI 5) rfl (Za (v:=.bool a1) rfl (Xe rfl (Zf [.bool (!a1),vI 2] _ Tryz.func45 rfl rfl rfl (Zht (!a1) 2 h _) ?_)))))))
   rintro _ w11 ⟨r10,rfl,h,hB11⟩
   refine rt ?_
   replace hC:=hC.grow hB11
   refine Ye (sz:=1) hC [(0,vI 5),(1,vI r10)] (eI.encs [5,r10]) rfl (fun _=>Zod 5 r10 _) rfl (by decide) fun b10 w12 hB_ hC=>Zf [.slice (some ⟨b10,0,none⟩) 2 2] _ Tryz.func43 rfl rfl rfl (Znf [5,r10] h _ (Ym (hC.getM 0 rfl))) ?_
   rintro _ w13 ⟨r13,rfl,h,hB12⟩
   refine rt ?_
   replace hC:=hC.grow hB12
   refine Zd (v:=vI r13) rfl (dn (ZMp ?_))
   exact Zi rfl (Zg rfl) ⟨r13,rfl,h,hC.below⟩ (.inl rfl)
  ·replace h:=Zk h (not_not_intro ((Xj hb11)))
   refine ZMl (Ze (sr (Za (v:=vI r8) rfl (Za (v:=.bool a1) rfl (Xe rfl (Zf [.bool (!a1),vI 2] _ Tryz.func45 rfl rfl rfl (Zht (!a1) 2 h _) ?_))))))
   rintro _ w14 ⟨r11,rfl,h,hB13⟩
   refine rt ?_
   replace hC:=hC.grow hB13
   refine Ye (sz:=1) hC [(0,vI r8),(1,vI r11)] (eI.encs [r8,r11]) rfl (fun _=>Zod r8 r11 _) rfl (by decide) fun b11 w15 hB_ hC=>Zf [.slice (some ⟨b11,0,none⟩) 2 2] _ Tryz.func43 rfl rfl rfl (Znf [r8,r11] h _ (Ym (hC.getM 0 rfl))) ?_
   rintro _ w16 ⟨r14,rfl,h,hB14⟩
   refine rt ?_
   replace hC:=hC.grow hB14
   refine Zd (v:=vI r14) rfl (dn (ZMp ?_))
   exact Zi rfl (Zg rfl) ⟨r14,rfl,h,hC.below⟩ (.inl rfl)
 ·replace h:=Zk h (cf hb10)
  refine Zl (b:=false) 2 10 rfl (tr rfl (congrArg _ hb10)) (by decide) (Zl (b:=false) 2 10 rfl (tr rfl (congrArg _ hb10)) (by decide) (Zl (b:=false) 2 10 rfl (tr rfl (congrArg _ hb10)) (by decide) (Z4 (v:=.bool false) (b:=false) (tr rfl (congrArg _ hb10)) rfl (dn (Z1 rfl rfl (ZMl (Ze (sr (Za (v:=vI r8) rfl (Za (v:=.bool a1) rfl (Xe rfl (Zf [.bool (!a1),vI 2] _ Tryz.func45 rfl rfl rfl (Zht (!a1) 2 h _) ?_))))))))))))
  rintro _ w17 ⟨r12,rfl,h,hB15⟩
  refine rt ?_
  replace hC:=hC.grow hB15
  refine Ye (sz:=1) hC [(0,vI r8),(1,vI r12)] (eI.encs [r8,r12]) rfl (fun _=>Zod r8 r12 _) rfl (by decide) fun b12 w18 hB_ hC=>Zf [.slice (some ⟨b12,0,none⟩) 2 2] _ Tryz.func43 rfl rfl rfl (Znf [r8,r12] h _ (Ym (hC.getM 0 rfl))) ?_
  rintro _ w19 ⟨r15,rfl,h,hB16⟩
  refine rt ?_
  replace hC:=hC.grow hB16
  refine Zd (v:=vI r15) rfl (dn (ZMp ?_))
  exact Zi rfl (Zg rfl) ⟨r15,rfl,h,hC.below⟩ (.inl rfl)
def Zlf (a0:Int) (K:Bool→Prop):Prop :=
 Zdw a0 0 20 (fun r4=>K r4)
theorem ZA8 (a0:Int)  {K:Bool→Prop} (h:Zlf a0 K) (w0:World)  :
  Calls ZMk 112 #[vI a0] w0 fun e w'=>∃ (r0:Bool),
   e=.returned (.bool r0)∧K r0∧Bel w0 w':=by
 unfold Zlf at h
 refine cof Tryz.func112 rfl 5 Tryz.ntmps112 ?_
 have hC:=ZM2 (X:=Nox) w0 [] (by simp)
 refine sr (Zd (v:=.bool false) rfl (dn (sr (Za (v:=vI a0) rfl (Zf [vI a0,vI 0,vI 20] _ Tryz.func46 rfl rfl rfl (Zkc a0 0 20 h _) ?_)))))
 rintro _ w3 ⟨r4,rfl,h,hB5⟩
 refine rt ?_
 replace hC:=hC.grow hB5
 refine Zd (v:=.bool r4) rfl (dn (ZMp ?_))
 exact Zi rfl (Zg rfl) ⟨r4,rfl,h,hC.below⟩ (.inl rfl)
def Zlg (a0:Int) (K:Bool→Prop):Prop :=
 Zdw a0 0 20 (fun r4=>K r4)
theorem ZA9 (a0:Int)  {K:Bool→Prop} (h:Zlg a0 K) (w0:World)  :
  Calls ZMk 63 #[vI a0] w0 fun e w'=>∃ (r0:Bool),
   e=.returned (.bool r0)∧K r0∧Bel w0 w':=by
 unfold Zlg at h
 refine cof Tryz.func63 rfl 5 Tryz.ntmps63 ?_
 have hC:=ZM2 (X:=Nox) w0 [] (by simp)
 refine sr (Zd (v:=.bool false) rfl (dn (sr (Za (v:=vI a0) rfl (Zf [vI a0,vI 0,vI 20] _ Tryz.func46 rfl rfl rfl (Zkc a0 0 20 h _) ?_)))))
 rintro _ w3 ⟨r4,rfl,h,hB5⟩
 refine rt ?_
 replace hC:=hC.grow hB5
 refine Zd (v:=.bool r4) rfl (dn (ZMp ?_))
 exact Zi rfl (Zg rfl) ⟨r4,rfl,h,hC.below⟩ (.inl rfl)
def Zlh (a0:List Int) (K:List Int→Prop):Prop :=
 ((a0=[]→K [])∧(Zy (0+a0.length) 8∧K a0))
theorem ZBa (a0:List Int)  {K:List Int→Prop} (h:Zlh a0 K) (w0:World) (q0:ZOz.rep a0 [u0_0] fp0 w0) :
  Calls ZMk 139 #[u0_0] w0 fun e w'=>∃ (r0:List Int) (z0_0:Value) (fz0:List Nat),
   e=.returned (z0_0)∧K r0∧(ZMy (ZR9 2 (eI.tr)) r0 [z0_0] fz0).holds w'∧(∀ b,b∈fz0→w0.heap.size≤b)∧Bel w0 w':=by
 unfold Zlh at h
 refine cof Tryz.func139 rfl 8 Tryz.ntmps139 ?_
 have hC:=ZM2 (X:=Nox) w0 [ZMg TInts a0 [u0_0] fp0] (al1 q0)
 refine sr (Zd (v:=.slice none 0 0) rfl (dn (ZMh (sr (Za (v:=u0_0) rfl ?_)))))
 rcases Zy3 (hC.getP 0 rfl) with ⟨z4,z5,he2,ha3⟩ | ⟨z6,z7,z8,he2⟩
 ·replace h:=h.1 ha3
  refine Zk2 true ZM0 (tr rfl he2) rfl rfl (dn (Z5 rfl rfl (sr (Zd (v:=.slice none 0 0) rfl (dn ?_)))))
  refine ZMp (Zm ?_)
  exact Zi rfl (Zg rfl) ⟨[],.slice none 0 0,[],rfl,h,(Zba _ _ _),(fun b hb=>absurd hb (by simp)),hC.below⟩ (.inl rfl)
 ·replace h:=h.2
  refine Zk2 false ZM0 (tr rfl he2) rfl rfl (dn (Z1 rfl rfl (ZMl (Ze (sr (Ye (sz:=1) hC [] (eI.encs []) rfl (fun _=>Zcf  _) rfl (by decide) fun b9 w10 hB_ hC=>Za (v:=u0_0) rfl ?_))))))
  obtain ⟨hm10,h⟩:=h
  refine Ja hC 0 ZM0 el2 rfl (by decide) (by decide) rfl (Zjy (hC.getP 0 rfl)) (fun q hq=>ZNk (E:=eI) _ q hq) rfl rfl hm10 fun v10 w11 hC=>?_
  replace hC:=Yy hC 0 (a0.length) (eI.encs a0) rfl (by simp) (by first | (simp [ZM9]; done) | simp [ZM9,ZSs])
  refine Zd (v:=v10) rfl (dn (ZMp ?_))
  exact Zi rfl (Zg rfl) ⟨a0,v10,(ZNg (ZFi v10)),rfl,h,(Xf (hC.getM 0 rfl)),(Y8 hC 0 rfl),hC.below⟩ (.inl rfl)
def Ziu (a0:List Int) (a1:List Int) (a2:Int) (K:List Int→Prop):Prop :=
 Z8 (fun i10 (s10:(List Int)) nx10=>((0≤(i10:Int)∧(i10:Int) < (s10.length:Int))∧Zc8 (ZG5.wrap ((s10.getD i10 ZEo) - (ZFf (ZG5.wrap (a2 * (a1.getD i10 ZEo))) 10007))) (fun r10=>((0≤(i10:Int)∧(i10:Int) < (s10.length:Int))∧nx10 (s10.set i10 r10))))) (fun (s10:(List Int))=>K s10) a1.length 0 a0
theorem ZBb (a0:List Int) (a1:List Int) (a2:Int)  {K:List Int→Prop} (h:Ziu a0 a1 a2 K) (w0:World) (qw0:(own 2 1 u0_0 a0.length (eI.encs a0)).holds w0) (q1:ZOz.rep a1 [u1_0] fp1 w0) (do1:∀ b,b∈fp1→b∉(ZNg (ZFi u0_0))) :
  Calls ZMk 140 #[u0_0,u1_0,vI a2] w0 fun e w'=>∃ (mw:List Int),
   e=.returned (.tuple #[])∧K mw∧(own 2 1 u0_0 mw.length (eI.encs mw)).holds w'∧BelO ((ZNg (ZFi u0_0))) w0 w':=by
 unfold Ziu at h
 refine cof Tryz.func140 rfl 29 Tryz.ntmps140 ?_
 have hC:=ZZ2 w0 ((ZNg (ZFi u0_0))) [own 2 1 u0_0 a0.length (eI.encs a0)] [ZMg TInts a1 [u1_0] fp1] (by simp only [ZEk,ZGu,or_false,forall_eq_or_imp,forall_eq]; exact qw0) (by simp only [ZEk,ZGu,or_false,forall_eq_or_imp,forall_eq]; exact q1) (by simp only [ZEk,ZGu,or_false,forall_eq_or_imp,forall_eq]; exact fun b hb=>hb) (ZS2 _ _) (by simp only [ZEk,ZGu,or_false,forall_eq_or_imp,forall_eq]; exact do1)
 refine sr (Za (v:=u1_0) rfl (Zu hC 0 rfl ZM0 rfl (Za (v:=vI 0) rfl (dn (ZMn ?_)))))
 have hN10:a1.length≤9223372036854775807:=Yw (hC.getP 0 rfl)
 refine Yi (S:=(List Int)) _ _ (fun i10 s10 e_ w_=>Zt e_ [(0,u0_0),(2,vI a2),(8,u1_0),(9,vI (a1.length:Int)),(10,vI (i10:Int))]∧Ctx (fun c_=>c_∈(ZNg (ZFi u0_0))) w0 w_ [own 2 1 u0_0 s10.length (eI.encs s10)] [ZMg TInts a1 [u1_0] fp1]) a1.length ?_ ?_ (s0:=a0) ?_ h
 ·clear hC h
  rintro i10 s10 e_ w10 nx10 K10 hi10 ⟨hS_,hC⟩ h hK10
  rw [ue hS_]
  refine sr (Zn rfl rfl (dn (ZMh (Z5 rfl (decide_eq_true (by omega)) (ZMl (Ze (ZMh (ZMn (sr (Za (v:=vI (i10:Int)) rfl ?_))))))))))
  obtain ⟨Ad10,c10,hv10⟩:=Zw (hC.getP 0 rfl) i10 hi10
  refine Yn (len:=a1.length) ZM0 sc2.size (tr rfl hv10) rfl (ZMx _) (ZNf.2 hi10) (Yp (vI (a1.getD i10 ZEo)) (Yd (hC.getP 0 rfl) hv10 i10 hi10) sc2 rfl (Zd (v:=vI (i10:Int)) rfl (Zd (v:=vI (a1.getD i10 ZEo)) rfl (dn (Zh (Za (v:=u0_0) rfl (Za (v:=vI (i10:Int)) rfl (Za (v:=u0_0) rfl (Za (v:=vI (i10:Int)) rfl ?_)))))))))
  obtain ⟨⟨h10,h11⟩,h⟩:=h
  obtain ⟨Ad11,c11,hv11⟩:=Xo (hC.getM 0 rfl) (ZO7 (ZGa _) (show i10 < s10.length by omega))
  refine Xv (i10 * 1) ZM0 sc2.size (tr rfl hv11) rfl h10 h11 rfl (Yp (vI (s10.getD i10 ZEo)) (Zah (hC.getM 0 rfl) hv11 i10 (show i10 < s10.length by omega)) sc2 rfl (Za (v:=vI a2) rfl (Za (v:=vI (a1.getD i10 ZEo)) rfl (Zan rfl rfl (X8 rfl rfl (by decide) (X3 rfl rfl (Zf [vI (ZG5.wrap ((s10.getD i10 ZEo) - (ZFf (ZG5.wrap (a2 * (a1.getD i10 ZEo))) 10007)))] _ Tryz.func187 rfl rfl rfl (Zm8 (ZG5.wrap ((s10.getD i10 ZEo) - (ZFf (ZG5.wrap (a2 * (a1.getD i10 ZEo))) 10007))) h _) ?_)))))))
  rintro _ w11 ⟨r10,rfl,h,hB10⟩
  refine rt ?_
  replace hC:=hC.grow hB10
  obtain ⟨⟨h12,h13⟩,h⟩:=h
  obtain ⟨Ad12,c12,hv12⟩:=Xo (hC.getM 0 rfl) (ZO7 (ZGa _) (show i10 < s10.length by omega))
  refine Xv (i10 * 1) ZM0 sc2.size (tr rfl hv12) rfl h12 h13 rfl (Za8 (v:=vI r10) hC 0 [vI r10] (eI.encs (s10.set i10 r10)) rfl hv12 sc2.size rfl rfl rfl rfl rfl (by rw [ZO8]; exact J4 (sz:=1) (show i10 < s10.length by omega)) (Zbj _ _ _ (show i10 < s10.length by omega)) fun w12 hC=>?_)
  replace hC:=Yy hC 0 ((s10.set i10 r10).length) (eI.encs (s10.set i10 r10)) rfl (by simp) rfl
  refine done (Zr (Ze (Zh (Zq rfl rfl (Za (v:=vI (ZG5.wrap ((i10:Int)+1))) rfl (done ?_))))))
  exact hK10 (s10.set i10 r10) _ _ ⟨(sl ⟨rfl,rfl,rfl,rfl,(tr rfl (congrArg _ (Z2 hi10 hN10))),trivial⟩),hC⟩ h
 ·clear hC h
  rintro s10 e_ w13 K10 ⟨hS_,hC⟩ h
  rw [ue hS_]
  refine sr (Zn rfl rfl (dn (ZMh (Z1 rfl (decide_eq_false (by omega)) ?_))))
  refine ZMv (Zj (Zj (Zx ?_)))
  exact Zc2 rfl  ⟨s10,rfl,h,(hC.getM 0 rfl),hC.belO⟩ (.inr rfl)
 ·skip
  exact⟨(slq rfl),hC⟩
def Ziv (a0:Int) (K:Int→Prop):Prop :=
 Xt (fun (s6:Int×Int×Int) next7=>(if s6.2.2 > 0 then(if ZFf s6.2.2 2=1 then next7 (ZFf (ZG5.wrap (s6.1 * s6.1)) 10007,ZFf (ZG5.wrap (s6.2.1 * s6.1)) 10007,ZG5.wrap (ZW1 s6.2.2 2)) else next7 (ZFf (ZG5.wrap (s6.1 * s6.1)) 10007,s6.2.1,ZG5.wrap (ZW1 s6.2.2 2))) else K s6.2.1)) (a0,1,10005)
theorem ZBc (a0:Int)  {K:Int→Prop} (h:Ziv a0 K) (w0:World)  :
  Calls ZMk 143 #[vI a0] w0 fun e w'=>∃ (r0:Int),
   e=.returned (vI r0)∧K r0∧Bel w0 w':=by
 unfold Ziv at h
 refine cof Tryz.func143 rfl 21 Tryz.ntmps143 ?_
 have hC:=ZM2 (X:=Nox) w0 [] (by simp)
 refine sr (Zd (v:=vI 0) rfl (dn (sr (Zd (v:=vI 1) rfl (dn (ZMh (sr (Zd (v:=vI 10005) rfl (dn (ZMn ?_))))))))))
 refine Xz (S:=Int×Int×Int) _ (fun s6 e_ w_=>Zt e_ [(0,vI s6.1),(3,vI s6.2.1),(4,vI s6.2.2)]∧Ctx Nox w0 w_ [] []) ?_ (s0:=(a0,1,10005)) ?_ h
 ·clear hC h
  rintro s6 e_ w10 next7 K8 ⟨hS_,hC⟩ h hK9
  rw [ue hS_]
  refine ZMh (sr (Za (v:=vI s6.2.2) rfl (Jh rfl rfl (dn ?_))))
  refine Zs rfl (fun hb10=>?_) (fun hb10=>?_)
  ·replace h:=ift h (ct hb10)
   refine ZMl (Ze (ZMh (ZMn (ZMh (sr (Za (v:=vI s6.2.2) rfl (X8 rfl rfl (by decide) (Xx rfl rfl (dn ?_)))))))))
   refine Zs rfl (fun hb11=>?_) (fun hb11=>?_)
   ·replace h:=ift h (ct hb11)
    refine Zh (Za (v:=vI s6.2.1) rfl (Za (v:=vI s6.1) rfl (Zan rfl rfl (X8 rfl rfl (by decide) (Zd (v:=vI (ZFf (ZG5.wrap (s6.2.1 * s6.1)) 10007)) rfl (dn (Zh (Za (v:=vI s6.1) rfl (Za (v:=vI s6.1) rfl (Zan rfl rfl (X8 rfl rfl (by decide) (Zd (v:=vI (ZFf (ZG5.wrap (s6.1 * s6.1)) 10007)) rfl (done (Zr (Ze (Zh (Za (v:=vI s6.2.2) rfl (Ze8 rfl rfl (by decide) (Zd (v:=vI (ZG5.wrap (ZW1 s6.2.2 2))) rfl (done ?_))))))))))))))))))))
    exact hK9 (ZFf (ZG5.wrap (s6.1 * s6.1)) 10007,ZFf (ZG5.wrap (s6.2.1 * s6.1)) 10007,ZG5.wrap (ZW1 s6.2.2 2)) _ _ ⟨(slq rfl),hC⟩ h
   ·replace h:=Zk h (cf hb11)
    refine ZMl (Ze (Zh (Za (v:=vI s6.1) rfl (Za (v:=vI s6.1) rfl (Zan rfl rfl (X8 rfl rfl (by decide) (Zd (v:=vI (ZFf (ZG5.wrap (s6.1 * s6.1)) 10007)) rfl (done (Zr (Ze (Zh (Za (v:=vI s6.2.2) rfl (Ze8 rfl rfl (by decide) (Zd (v:=vI (ZG5.wrap (ZW1 s6.2.2 2))) rfl (done ?_)))))))))))))))
    exact hK9 (ZFf (ZG5.wrap (s6.1 * s6.1)) 10007,s6.2.1,ZG5.wrap (ZW1 s6.2.2 2)) _ _ ⟨(slq rfl),hC⟩ h
  ·replace h:=Zk h (cf hb10)
   refine ZMv (Zj (Zj (Zx ?_)))
   refine Ze (sr (Za (v:=vI s6.2.1) rfl (Zd (v:=vI s6.2.1) rfl (dn (ZMp ?_)))))
   exact Zi rfl (Zg rfl) ⟨s6.2.1,rfl,h,hC.below⟩ (.inl rfl)
 ·skip
  exact⟨(slq rfl),hC⟩
def Ze3 (a0:List (List Int)) (K:List (List Int)→Prop):Prop :=
 Z8 (fun i10 (s13:(List (List Int))) nx12=>Zlh (a0.getD i10 ZEo) (fun r11=>(Zy (s13.length+1) 24∧nx12 (s13++[r11])))) (fun (s13:(List (List Int)))=>Xt (fun (s10:(List (List Int))×Int×Int) nx11=>(if s10.2.1 < (s10.1.length:Int) then((0≤(0:Int)∧(0:Int) < (s10.1.length:Int))∧(if s10.2.2 < ((s10.1.getD 0 ZEo).length:Int) then((0≤s10.2.1∧s10.2.1≤(s10.1.length:Int))∧Ze2 (s10.1.drop s10.2.1.toNat) (fun y0_ K_=>Zd3 y0_ s10.2.2 K_) (fun r10=>(if r10 < 0 then nx11 (s10.1,s10.2.1,ZG5.wrap (s10.2.2+1)) else((0≤ZG5.wrap (s10.2.1+r10)∧ZG5.wrap (s10.2.1+r10) < (s10.1.length:Int))∧((0≤s10.2.1∧s10.2.1 < (s10.1.length:Int))∧((0≤s10.2.1∧s10.2.1 < (s10.1.length:Int))∧((0≤ZG5.wrap (s10.2.1+r10)∧ZG5.wrap (s10.2.1+r10) < (s10.1.length:Int))∧((0≤s10.2.1∧s10.2.1 < ((Xm ZEo s10.1 s10.2.1.toNat ((ZG5.wrap (s10.2.1+r10)).toNat)).length:Int))∧((0≤s10.2.2∧s10.2.2 < (((Xm ZEo s10.1 s10.2.1.toNat ((ZG5.wrap (s10.2.1+r10)).toNat)).getD s10.2.1.toNat ZEo).length:Int))∧Ziv (((Xm ZEo s10.1 s10.2.1.toNat ((ZG5.wrap (s10.2.1+r10)).toNat)).getD s10.2.1.toNat ZEo).getD s10.2.2.toNat ZEo) (fun r12=>((0≤s10.2.1∧s10.2.1 < ((Xm ZEo s10.1 s10.2.1.toNat ((ZG5.wrap (s10.2.1+r10)).toNat)).length:Int))∧Xt (fun (s12:(List (List Int))×Int) nx13=>(if s12.2 < (((Xm ZEo s10.1 s10.2.1.toNat ((ZG5.wrap (s10.2.1+r10)).toNat)).getD s10.2.1.toNat ZEo).length:Int) then((0≤s10.2.1∧s10.2.1 < (s12.1.length:Int))∧((0≤s10.2.1∧s10.2.1 < (s12.1.length:Int))∧((0≤s12.2∧s12.2 < ((s12.1.getD s10.2.1.toNat ZEo).length:Int))∧((0≤s12.2∧s12.2 < ((s12.1.getD s10.2.1.toNat ZEo).length:Int))∧nx13 (s12.1.set s10.2.1.toNat ((s12.1.getD s10.2.1.toNat ZEo).set s12.2.toNat (ZFf (ZG5.wrap (((s12.1.getD s10.2.1.toNat ZEo).getD s12.2.toNat ZEo) * r12)) 10007)),ZG5.wrap (s12.2+1)))))) else Xt (fun (s11:(List (List Int))×Int) nx10=>(if s11.2 < (s12.1.length:Int) then((0≤s11.2∧s11.2 < (s11.1.length:Int))∧(if s11.2≠s10.2.1 then((0≤s10.2.2∧s10.2.2 < ((s11.1.getD s11.2.toNat ZEo).length:Int))∧(if(s11.1.getD s11.2.toNat ZEo).getD s10.2.2.toNat ZEo≠0 then((0≤s10.2.1∧s10.2.1 < (s11.1.length:Int))∧((0≤s10.2.2∧s10.2.2 < ((s11.1.getD s11.2.toNat ZEo).length:Int))∧((s10.2.1.toNat≠s11.2.toNat)∧Ziu (s11.1.getD s11.2.toNat ZEo) (s11.1.getD s10.2.1.toNat ZEo) ((s11.1.getD s11.2.toNat ZEo).getD s10.2.2.toNat ZEo) (fun m10=>nx10 (s11.1.set s11.2.toNat m10,ZG5.wrap (s11.2+1)))))) else nx10 (s11.1,ZG5.wrap (s11.2+1)))) else nx10 (s11.1,ZG5.wrap (s11.2+1)))) else nx11 (s11.1,ZG5.wrap (s10.2.1+1),ZG5.wrap (s10.2.2+1)))) (s12.1,0))) (Xm ZEo s10.1 s10.2.1.toNat ((ZG5.wrap (s10.2.1+r10)).toNat),0)))))))))))) else((0≤s10.2.1∧s10.2.1≤(s10.1.length:Int))∧K (s10.1.take s10.2.1.toNat)))) else((0≤s10.2.1∧s10.2.1≤(s10.1.length:Int))∧K (s10.1.take s10.2.1.toNat)))) (s13,0,0)) a0.length 0 []
theorem Zof (a0 : List (List Int))  {K : List (List Int) → Prop} (h : Ze3 a0 K) (w0 : World) (q0 : (ZOz.sl).rep a0 [u0_0] fp0 w0) :
  Calls ZMk 86 #[u0_0] w0 fun e w'=>∃ (r0:List (List Int)) (z0_0:Value) (fz0:List Nat),
   e=.returned (z0_0)∧K r0∧(ZMy (ZR9 22 (ZR9 2 (eI.tr))) r0 [z0_0] fz0).holds w'∧(∀ b,b∈fz0→w0.heap.size≤b)∧Bel w0 w':=by
 unfold Ze3 at h
 refine cof ZZ6 rfl 132 Tryz.ntmps86 ?_
 have hC:=ZM2 (X:=Nox) w0 [ZMg (ZOz.sl) a0 [u0_0] fp0] (al1 q0)
 refine sr (Zd (v:=.slice none 0 0) rfl (dn (sr (Ye (sz:=1) hC [] [] rfl (fun _=>Zak _) rfl (by decide) fun b2 w3 hB_ hC=>?_))))
 replace hC:=hC.pushM0 (Z9 (ZR9 2 (eI.tr)) ([]:List (List Int)) [] []) (Jb _ _) rfl
 replace hC:=hC.gather (c:=ZMy (ZR9 22 (ZR9 2 (eI.tr))) [] [.slice (some ⟨b2,0,none⟩) 0 0] ((ZNg (ZFi (.slice (some ⟨b2,0,none⟩) 0 0)))++([]:List (List Nat)).flatten)) (fun x_ hx_=>(ZEv.1 hx_).symm) (fun h1_ h2_ hd_=>X1 h2_ h1_ (fun b_ hb_ hb2_=>hd_ b_ hb2_ hb_))
 refine Zd (v:=.slice (some ⟨b2,0,none⟩) 0 0) rfl (dn (ZMh (sr (Za (v:=u0_0) rfl (Zu hC 0 rfl ZXe rfl (Za (v:=vI 0) rfl (dn (ZMn ?_))))))))
 have hN10:a0.length≤9223372036854775807:=Yw (hC.getP 0 rfl)
 refine Yi (S:=(List (List Int))) _ _ (fun i10 s13 e_ w_=>∃ (v13:Value),∃ (f10:List Nat),Zt e_ [(3,v13),(14,u0_0),(15,vI (a0.length:Int)),(16,vI (i10:Int))]∧Ctx Nox w0 w_ [ZMy (ZR9 22 (ZR9 2 (eI.tr))) s13 [v13] f10] [ZMg (ZOz.sl) a0 [u0_0] fp0]) a0.length ?_ ?_ (s0:=[]) ?_ h
 ·clear hC h
  rintro i10 s13 e_ w10 nx12 K10 hi10 ⟨v13,f10,hS_,hC⟩ h hK12
  rw [ue hS_]
  refine sr (Zn rfl rfl (dn (ZMh (Z5 rfl (decide_eq_true (by omega)) (ZMl (Ze (ZMh (ZMn (sr ?_)))))))))
  obtain ⟨Ad11,c11,hv10⟩:=Zw (hC.getP 0 rfl) i10 hi10
  refine Yn (len:=a0.length) ZXe sc22.size (tr rfl hv10) rfl (ZMx _) (ZNf.2 hi10) ?_
  obtain ⟨cs_,hl10,hc10,hr10⟩:=Xg (hC.getP 0 rfl) hv10 i10 hi10
  obtain ⟨u11,rfl⟩:=ZNd.1 hl10
  clear hl10
  rw [Xd _ _ hi10] at hr10
  replace hC:=hC.derive 0 rfl (ZMg TInts (a0.getD i10 ZEo) [u11] fp0) (fun _=>hr10) (fun _ hb_=>hb_)
  refine Yp (u11) hc10 sc22 rfl (Zd (v:=u11) rfl (dn (Zh (Za (v:=v13) rfl (Za (v:=u11) rfl (Zf [u11] _ Tryz.func139 rfl rfl rfl (ZBa (a0.getD i10 ZEo) h _ (hC.getP 0 rfl)) ?_))))))
  rintro _ w11 ⟨r11,u10,f14,rfl,h,hr11,hf13,hB10⟩
  refine rt ?_
  replace hC:=hC.push hB10 (ZMy (ZR9 2 (eI.tr)) r11 [u10] f14) hr11 hf13
  obtain ⟨ho10,hf14⟩:=Yv (hC.getM 0 rfl).1
  subst hf14
  replace hC:=hC.recast (c:=own 2 1 u10 r11.length (eI.encs r11)) (fun _ h_=>h_) (fun _=>ho10)
  refine Ye (sz:=1) hC [(0,u10)] [u10] rfl (fun _=>Zae u10 (Zbc (hC.getM 0 rfl)) _) rfl (by decide) fun b11 w12 hB_ hC=>?_
  replace hC:=hC.pushM0 (Z9 (ZR9 2 (eI.tr)) [] [] []) (Jb _ _) rfl
  replace hC:=hC.sM [2,0,1,3] (M':=[own 2 1 u10 r11.length (eI.encs r11),Z9 (ZR9 2 (eI.tr)) [] [] [],own 22 1 (.slice (some ⟨b11,0,none⟩) 1 1) 1 [u10],ZMy (ZR9 22 (ZR9 2 (eI.tr))) s13 [v13] f10]) (by decide) rfl
  replace hC:=hC.gather (c:=Z9 (ZR9 2 (eI.tr)) [r11] [u10] [(ZNg (ZFi u10))]) (fun x_ hx_=>Zbo hx_) (fun h1_ h2_ hd_=>Zbb (c:=[u10]) (id (Xf h1_)) h2_ hd_)
  replace hC:=hC.sM [1,0,2] (M':=[own 22 1 (.slice (some ⟨b11,0,none⟩) 1 1) 1 [u10],Z9 (ZR9 2 (eI.tr)) [r11] [u10] [(ZNg (ZFi u10))],ZMy (ZR9 22 (ZR9 2 (eI.tr))) s13 [v13] f10]) (by decide) rfl
  replace hC:=hC.gather (c:=ZMy (ZR9 22 (ZR9 2 (eI.tr))) [r11] [.slice (some ⟨b11,0,none⟩) 1 1] ((ZNg (ZFi (.slice (some ⟨b11,0,none⟩) 1 1)))++([(ZNg (ZFi u10))]:List (List Nat)).flatten)) (fun x_ hx_=>ZEv.1 hx_) (fun h1_ h2_ hd_=>X1 h1_ h2_ hd_)
  replace hC:=hC.sM [1,0] (M':=[ZMy (ZR9 22 (ZR9 2 (eI.tr))) s13 [v13] f10,ZMy (ZR9 22 (ZR9 2 (eI.tr))) [r11] [.slice (some ⟨b11,0,none⟩) 1 1] ((ZNg (ZFi (.slice (some ⟨b11,0,none⟩) 1 1)))++([(ZNg (ZFi u10))]:List (List Nat)).flatten)]) (by decide) rfl
  obtain ⟨hm10,h⟩:=h
  refine Za4 hC ZXe Jz rfl (by decide) (by decide) rfl rfl hm10 fun v16 f15 w13 hC=>Zd (v:=v16) rfl (done (Zr (Ze (Zh (Zq rfl rfl (Za (v:=vI (ZG5.wrap ((i10:Int)+1))) rfl (done ?_)))))))
  exact hK12 (s13++[r11]) _ _ ⟨v16,f15,(sl ⟨rfl,rfl,rfl,(tr rfl (congrArg _ (Z2 hi10 hN10))),trivial⟩),(hC.sP [1] rfl)⟩ h
 ·clear hC h
  rintro s13 e_ w14 K10 ⟨v13,f10,hS_,hC⟩ h
  rw [ue hS_]
  refine sr (Zn rfl rfl (dn (ZMh (Z1 rfl (decide_eq_false (by omega)) ?_))))
  refine ZMv (Zj (Zj (Zx ?_)))
  refine Ze (sr (Zd (v:=vI 0) rfl (dn (ZMh (sr (Ys hC [vI 0] z3 rfl fun b13 w15 hB_ hC=>Z3 (v:=vI 0) hC 0 [vI 0] [vI 0] rfl sc3.size rfl rfl rfl rfl rfl (ZMq rfl) rfl fun w16 hC=>dn (ZMn ?_)))))))
  refine Xz (S:=(List (List Int))×Int×Int) _ (fun s10 e_ w_=>∃ (v10:Value),∃ (f12:List Nat),∃ (b10:Nat),Zt e_ [(3,v10),(6,vI s10.2.1),(7,vQ b10)]∧Ctx Nox w0 w_ [blk b10 3 [vI s10.2.2],ZMy (ZR9 22 (ZR9 2 (eI.tr))) s10.1 [v10] f12] [ZMg (ZOz.sl) a0 [u0_0] fp0]) ?_ (s0:=(s13,0,0)) ?_ h
  ·clear hC h
   rintro s10 e_ w17 nx11 K11 ⟨v10,f12,b10,hS_,hC⟩ h hK11
   rw [ue hS_]
   refine ZMh (ZMh ?_)
   refine cwd 10 Yo [0,0,2,7,15,31,31,95,223,479,1023,2047] [2,5,7,8,9] [0,1,3,4,5,6,7,8,9] (fun hM14 hM11 w18 hB_=>?_)
   replace hC:=hC.grow hB_
   refine bM 0 (vI s10.2.1) rfl hM11 (Zc 12 1) (bM 1 (v10) rfl hM11 (Zc 12 3) (bL 2 (vI (s10.1.length:Int)) rfl rfl hM14 (fun _ hB_=>by exact Zvq (hC.grow hB_) 1 rfl ZXe rfl) (Zc 12 7) (bF 3 (.bool (decide (s10.2.1 < (s10.1.length:Int)))) rfl rfl hM11 (fun _=>by exact Zph rfl rfl) (Zc 12 15) (bM 4 (.bool (decide (s10.2.1 < (s10.1.length:Int)))) rfl hM11 (Zc 12 31) ?_))))
   refine Y7 (decide (s10.2.1 < (s10.1.length:Int))) (fun hb10=>?_) (fun hb10=>?_)
   ·replace h := ift h (ct hb10)
    refine aL 5 (vI s10.2.2) rfl rfl (hM14 5 rfl) (Yl 4 30 rfl rfl hb10) (fun _ hB_=>by exact Yh (hC.grow hB_) 0 (vI s10.2.2) rfl sc3 rfl rfl) (Zc 12 63) (aF 6 (v10) rfl rfl (hM11 6 rfl) (Yl 4 30 rfl rfl hb10) (fun _=>by exact Zax (v:=v10) rfl) (Zc 12 127) ?_)
    replace hC:=hC.sM [1,0] (M':=[ZMy (ZR9 22 (ZR9 2 (eI.tr))) s10.1 [v10] f12,blk b10 3 [vI s10.2.2]]) (by decide) rfl
    obtain ⟨cs10,ho11,hf11⟩:=Zk4 (hC.getM 0 rfl)
    replace hC:=hC.recast (c:=mat eI 22 2 v10 cs10 s10.1) (fun x_ hx_=>by have e_:=hf11; exact e_ ▸ hx_) (fun _=>ho11)
    obtain ⟨⟨h13,h14⟩,h⟩:=h
    obtain ⟨g10,cap10,hv11⟩:=Zcv (hC.getM 0 rfl) (ZO7 (ZGa _) (show 0 < s10.1.length by omega))
    refine aL 7 (.pointer (some ⟨g10,0 * 1,none⟩)) rfl rfl (hM14 7 rfl) (Yl 4 30 rfl rfl hb10) (fun _ hB_=>by exact Zbn (0 * 1) ZXe sc22.size (by exact tr rfl hv11) rfl h13 h14 rfl) (Zc 12 255) (aL 8 ((hd cs10 0)) rfl rfl (hM14 8 rfl) (Yl 4 30 rfl rfl hb10) (fun _ hB_=>by exact Xn (hd cs10 0) (Zdf ((hC.grow hB_).getM 0 rfl) hv11 (show 0 < s10.1.length by omega)) sc22 rfl) (Zc 12 511) ?_)
    obtain ⟨Ad12,c12,hv28⟩:=Zbi (Zap (hC.getM 0 rfl) (show 0 < s10.1.length by omega))
    refine aL 9 (vI ((s10.1.getD 0 ZEo).length:Int)) rfl rfl (hM14 9 rfl) (Yl 4 30 rfl rfl hb10) (fun _ hB_=>by exact Zgr ZM0 (by exact tr rfl hv28)) (Zc 12 1023) (Z6 10 (by decide) (by decide) (by kernel_rfl) (by kernel_rfl) rfl (Zp 4 30 rfl rfl hb10 (Zn rfl rfl (Z4 (v:=.bool (decide (s10.2.2 < ((s10.1.getD 0 ZEo).length:Int)))) (b:=true) (tr rfl (congrArg _ hb10)) rfl (done (Z7 (Ze ?_)))))))
    refine Zs rfl (fun hb12=>?_) (fun hb12=>?_)
    ·replace h:=ift h (ct hb12)
     refine ZMl (Ze (ZMh (ZMn (sr (Za (v:=v10) rfl (Za (v:=vI s10.2.1) rfl ?_))))))
     obtain ⟨h10,h⟩:=h
     obtain ⟨Ad10,c10,hv12,hcap10⟩:=Zzl (hC.getM 0 rfl)
     refine Zn7 ZXe sc22.size (tr rfl hv12) rfl h10.1 h10.2 (Zml (g:=142) [vQ b10] (Zmk rfl rfl) (Zf [sliced Ad10 s10.2.1.toNat s10.1.length c10 1,.func (.func 142) #[] (ZMf [vQ b10])] _ Z0c rfl rfl rfl (Zr6 (s10.1.drop s10.2.1.toNat) (fun y0_ K_=>Zd3 y0_ s10.2.2 K_) h _ (Zn5 (Zzd (hC.getM 0 rfl)) hv12 (show _≤_ by omega) hcap10) Tryz.func142 rfl rfl (fun y0_ yu0_0_ yf0_ K_ w_ hb_ rq0_ hq_=>ZAo y0_ s10.2.2 hq_ w_ rq0_ ((hC.grow hb_).getM 1 rfl))) ?_))
     rintro _ w19 ⟨r10,rfl,h,hB11⟩
     refine rt ?_
     replace hC:=hC.grow hB11
     refine Zd (v:=vI r10) rfl (dn (ZMh (sr (Za (v:=vI r10) rfl (Zn rfl rfl (dn ?_))))))
     refine Zs rfl (fun hb13=>?_) (fun hb13=>?_)
     ·replace h:=ift h (ct hb13)
      refine ZMv (Zj (Zx ?_))
      refine Ze (ZMh (sr (Yb hC 1 (vI s10.2.2) rfl sc3 rfl rfl (dn (Zh (Ys hC [vI 0] z3 rfl fun b12 w20 hB_ hC=>Z3 (v:=vI s10.2.2) hC 0 [vI s10.2.2] [vI s10.2.2] rfl sc3.size rfl rfl rfl rfl rfl (ZMq rfl) rfl fun w21 hC=>dn (Zh (Yb hC 0 (vI s10.2.2) rfl sc3 rfl rfl (Zq rfl rfl (Z3 (v:=vI (ZG5.wrap (s10.2.2+1))) hC 0 [vI (ZG5.wrap (s10.2.2+1))] [vI (ZG5.wrap (s10.2.2+1))] rfl sc3.size rfl rfl rfl rfl rfl (ZMq rfl) rfl fun w22 hC=>done ?_))))))))))
      replace hC:=hC.sM [1,0,2] (M':=[mat eI 22 2 v10 cs10 s10.1,blk b12 3 [vI (ZG5.wrap (s10.2.2+1))],blk b10 3 [vI s10.2.2]]) (by decide) rfl
      replace hC:=hC.recast (c:=ZMy (ZR9 22 (ZR9 2 (eI.tr))) s10.1 [v10] (Jw v10 cs10)) (fun x_ hx_=>hx_) (fun h_=>Zde h_)
      rw [← hf11] at hC
      exact hK11 (s10.1,s10.2.1,ZG5.wrap (s10.2.2+1)) _ _ ⟨v10,f12,b12,(slq rfl),(hC.xM [1,0] rfl)⟩ h
     ·replace h:=Zk h (cf hb13)
      refine ZMl (Ze (ZMh ?_))
      refine cwd 17 Yo [0,0,0,0,0,24,0,0,0,384,960,1984,0,0,12288,28672,65475,131011,262143,524287] [10,11,14,15,16] [0,1,2,3,4,5,6,7,8,9,12,13] (fun hM15 hM10 w23 hB_=>?_)
      replace hC:=hC.grow hB_
      refine bM 0 (v10) rfl hM10 (Zc 20 1) (bM 1 (vI s10.2.1) rfl hM10 (Zc 20 3) (bM 2 (v10) rfl hM10 (Zc 20 7) (bM 3 (vI s10.2.1) rfl hM10 (Zc 20 15) (bM 4 (vI r10) rfl hM10 (Zc 20 31) (bF 5 (vI (ZG5.wrap (s10.2.1+r10))) rfl rfl hM10 (fun _=>by exact Zb6 rfl rfl) (Zc 20 63) (bM 6 (v10) rfl hM10 (Zc 20 127) (bM 7 (vI s10.2.1) rfl hM10 (Zc 20 255) (bM 8 (vI r10) rfl hM10 (Zc 20 511) (bF 9 (vI (ZG5.wrap (s10.2.1+r10))) rfl rfl hM10 (fun _=>by exact Zb6 rfl rfl) (Zc 20 1023) ?_)))))))))
      obtain ⟨⟨h15,h16⟩,h⟩:=h
      obtain ⟨g11,cap11,hv13⟩:=Zcv (hC.getM 0 rfl) (ZO7 (ZGa _) (show (ZG5.wrap (s10.2.1+r10)).toNat < s10.1.length by omega))
      refine bL 10 (.pointer (some ⟨g11,(ZG5.wrap (s10.2.1+r10)).toNat * 1,none⟩)) rfl rfl hM15 (fun _ hB_=>by exact Zbn ((ZG5.wrap (s10.2.1+r10)).toNat * 1) ZXe sc22.size (by exact tr rfl hv13) rfl h15 h16 rfl) (Zc 20 2047) (bL 11 ((hd cs10 ((ZG5.wrap (s10.2.1+r10)).toNat))) rfl rfl hM15 (fun _ hB_=>by exact Xn (hd cs10 ((ZG5.wrap (s10.2.1+r10)).toNat)) (Zdf ((hC.grow hB_).getM 0 rfl) hv13 (show (ZG5.wrap (s10.2.1+r10)).toNat < s10.1.length by omega)) sc22 rfl) (Zc 20 4095) (bM 12 (v10) rfl hM10 (Zc 20 8191) (bM 13 (vI s10.2.1) rfl hM10 (Zc 20 16383) ?_)))
      obtain ⟨⟨h17,h18⟩,h⟩:=h
      obtain ⟨g12,cap12,hv14⟩:=Zcv (hC.getM 0 rfl) (ZO7 (ZGa _) (show s10.2.1.toNat < s10.1.length by omega))
      refine bL 14 (.pointer (some ⟨g12,s10.2.1.toNat * 1,none⟩)) rfl rfl hM15 (fun _ hB_=>by exact Zbn (s10.2.1.toNat * 1) ZXe sc22.size (by exact tr rfl hv14) rfl h17 h18 rfl) (Zc 20 32767) (bL 15 ((hd cs10 s10.2.1.toNat)) rfl rfl hM15 (fun _ hB_=>by exact Xn (hd cs10 s10.2.1.toNat) (Zdf ((hC.grow hB_).getM 0 rfl) hv14 (show s10.2.1.toNat < s10.1.length by omega)) sc22 rfl) (Zc 20 65535) ?_)
      obtain ⟨⟨h19,h20⟩,h⟩:=h
      obtain ⟨g13,cap13,hv15⟩:=Zcv (hC.getM 0 rfl) (ZO7 (ZGa _) (show s10.2.1.toNat < s10.1.length by omega))
      refine bL 16 (.pointer (some ⟨g13,s10.2.1.toNat * 1,none⟩)) rfl rfl hM15 (fun _ hB_=>by exact Zbn (s10.2.1.toNat * 1) ZXe sc22.size (by exact tr rfl hv15) rfl h19 h20 rfl) (Zc 20 131071) (aO 17 rfl (Zzi hC 0 rfl (show s10.2.1.toNat < s10.1.length by omega) (show (ZG5.wrap (s10.2.1+r10)).toNat < s10.1.length by omega) hv15 sc22.size rfl rfl fun w24 hC=>done (Zgs (by decide) (l9:=(Zc 20 262143)) (by kernel_rfl) (Z6 18 (by decide) (by decide) (by kernel_rfl) (by kernel_rfl) rfl ?_))))
      obtain ⟨⟨h21,h22⟩,h⟩:=h
      obtain ⟨g20,cap14,hv16⟩:=Zzh (hC.getM 0 rfl) (ZO7 (ZGa _) (show (ZG5.wrap (s10.2.1+r10)).toNat < s10.1.length by omega))
      refine Xv ((ZG5.wrap (s10.2.1+r10)).toNat * 1) ZXe sc22.size (tr rfl hv16) rfl h21 h22 rfl (Zzj hC 0 rfl (show s10.2.1.toNat < s10.1.length by omega) (show (ZG5.wrap (s10.2.1+r10)).toNat < s10.1.length by omega) hv16 sc22.size rfl rfl fun w25 hC=>done (Z7 (Ze (ZMh ?_))))
      refine cwd 5 Yo [0,0,3,7,0,31,63,127,255] [2,3,4] [0,1] (fun hM18 hM19 w26 hB_=>?_)
      replace hC:=hC.grow hB_
      refine bM 0 (v10) rfl hM19 (Zc 9 1) (bM 1 (vI s10.2.1) rfl hM19 (Zc 9 3) ?_)
      obtain ⟨⟨h23,h24⟩,h⟩:=h
      obtain ⟨g14,cap15,hv17⟩:=Zcv (hC.getM 0 rfl) (ZO7 (ZGa _) (show s10.2.1.toNat < (Xm ZEo s10.1 s10.2.1.toNat ((ZG5.wrap (s10.2.1+r10)).toNat)).length by omega))
      refine bL 2 (.pointer (some ⟨g14,s10.2.1.toNat * 1,none⟩)) rfl rfl hM18 (fun _ hB_=>by exact Zbn (s10.2.1.toNat * 1) ZXe sc22.size (by exact tr rfl hv17) rfl h23 h24 rfl) (Zc 9 7) (bL 3 ((hd (Xm undef cs10 s10.2.1.toNat ((ZG5.wrap (s10.2.1+r10)).toNat)) s10.2.1.toNat)) rfl rfl hM18 (fun _ hB_=>by exact Xn (hd (Xm undef cs10 s10.2.1.toNat ((ZG5.wrap (s10.2.1+r10)).toNat)) s10.2.1.toNat) (Zdf ((hC.grow hB_).getM 0 rfl) hv17 (show s10.2.1.toNat < (Xm ZEo s10.1 s10.2.1.toNat ((ZG5.wrap (s10.2.1+r10)).toNat)).length by omega)) sc22 rfl) (Zc 9 15) (bL 4 (vI s10.2.2) rfl rfl hM18 (fun _ hB_=>by exact Yh (hC.grow hB_) 1 (vI s10.2.2) rfl sc3 rfl rfl) (Zc 9 31) (Z6 5 (by decide) (by decide) (by kernel_rfl) (by kernel_rfl) rfl ?_)))
      obtain ⟨⟨h25,h26⟩,h⟩:=h
      obtain ⟨g21,cap16,hv18⟩:=Xo (Zap (hC.getM 0 rfl) (show s10.2.1.toNat < (Xm ZEo s10.1 s10.2.1.toNat ((ZG5.wrap (s10.2.1+r10)).toNat)).length by omega)) (ZO7 (ZGa _) (show s10.2.2.toNat < ((Xm ZEo s10.1 s10.2.1.toNat ((ZG5.wrap (s10.2.1+r10)).toNat)).getD s10.2.1.toNat ZEo).length by omega))
      refine Xv (s10.2.2.toNat * 1) ZM0 sc2.size (tr rfl hv18) rfl h25 h26 rfl (Yp (vI (((Xm ZEo s10.1 s10.2.1.toNat ((ZG5.wrap (s10.2.1+r10)).toNat)).getD s10.2.1.toNat ZEo).getD s10.2.2.toNat ZEo)) (Zah (Zap (hC.getM 0 rfl) (show s10.2.1.toNat < (Xm ZEo s10.1 s10.2.1.toNat ((ZG5.wrap (s10.2.1+r10)).toNat)).length by omega)) hv18 s10.2.2.toNat (show s10.2.2.toNat < ((Xm ZEo s10.1 s10.2.1.toNat ((ZG5.wrap (s10.2.1+r10)).toNat)).getD s10.2.1.toNat ZEo).length by omega)) sc2 rfl (Zf [vI (((Xm ZEo s10.1 s10.2.1.toNat ((ZG5.wrap (s10.2.1+r10)).toNat)).getD s10.2.1.toNat ZEo).getD s10.2.2.toNat ZEo)] _ Tryz.func143 rfl rfl rfl (ZBc (((Xm ZEo s10.1 s10.2.1.toNat ((ZG5.wrap (s10.2.1+r10)).toNat)).getD s10.2.1.toNat ZEo).getD s10.2.2.toNat ZEo) h _) ?_))
      rintro _ w27 ⟨r12,rfl,h,hB12⟩
      refine rt ?_
      replace hC:=hC.grow hB12
      refine Zd (v:=vI r12) rfl (done (Z7 (Ze (ZMh (sr (Za (v:=v10) rfl (Za (v:=vI s10.2.1) rfl ?_)))))))
      obtain ⟨⟨h27,h28⟩,h⟩:=h
      obtain ⟨g22,cap17,hv19⟩:=Zcv (hC.getM 0 rfl) (ZO7 (ZGa _) (show s10.2.1.toNat < (Xm ZEo s10.1 s10.2.1.toNat ((ZG5.wrap (s10.2.1+r10)).toNat)).length by omega))
      refine Xv (s10.2.1.toNat * 1) ZXe sc22.size (tr rfl hv19) rfl h27 h28 rfl (Yp (hd (Xm undef cs10 s10.2.1.toNat ((ZG5.wrap (s10.2.1+r10)).toNat)) s10.2.1.toNat) (Zdf (hC.getM 0 rfl) hv19 (show s10.2.1.toNat < (Xm ZEo s10.1 s10.2.1.toNat ((ZG5.wrap (s10.2.1+r10)).toNat)).length by omega)) sc22 rfl ?_)
      obtain ⟨Ad13,c13,hv29⟩:=Zbi (Zap (hC.getM 0 rfl) (show s10.2.1.toNat < (Xm ZEo s10.1 s10.2.1.toNat ((ZG5.wrap (s10.2.1+r10)).toNat)).length by omega))
      refine Zec ZM0 (tr rfl hv29) (Za (v:=vI 0) rfl (dn (ZMn ?_)))
      replace hC:=hC.recast (c:=ZMy (ZR9 22 (ZR9 2 (eI.tr))) (Xm ZEo s10.1 s10.2.1.toNat ((ZG5.wrap (s10.2.1+r10)).toNat)) [v10] (Jw v10 (Xm undef cs10 s10.2.1.toNat ((ZG5.wrap (s10.2.1+r10)).toNat)))) (fun x_ hx_=>hx_) (fun h_=>Zde h_)
      refine Xz (S:=(List (List Int))×Int) _ (fun s12 e_ w_=>∃ (v12:Value),∃ (f13:List Nat),Zt e_ [(3,v12),(6,vI s10.2.1),(7,vQ b10),(9,vI r12),(77,vI (((Xm ZEo s10.1 s10.2.1.toNat ((ZG5.wrap (s10.2.1+r10)).toNat)).getD s10.2.1.toNat ZEo).length:Int)),(78,vI s12.2)]∧Ctx Nox w0 w_ [ZMy (ZR9 22 (ZR9 2 (eI.tr))) s12.1 [v12] f13,blk b10 3 [vI s10.2.2]] [ZMg (ZOz.sl) a0 [u0_0] fp0]) ?_ (s0:=(Xm ZEo s10.1 s10.2.1.toNat ((ZG5.wrap (s10.2.1+r10)).toNat),0)) ?_ h
      ·clear hC h
       rintro s12 e_ w28 nx13 K12 ⟨v12,f13,hS_,hC⟩ h hK13
       rw [ue hS_]
       refine sr (Zn rfl rfl (dn (ZMh ?_)))
       refine Zs rfl (fun hb14=>?_) (fun hb14=>?_)
       ·replace h:=ift h (ct hb14)
        refine ZMl (Ze (ZMh (ZMn (sr (Za (v:=vI s12.2) rfl (Zd (v:=vI s12.2) rfl (dn ?_)))))))
        refine cwd 15 Yo [0,0,3,7,0,0,0,96,224,0,992,2016,0,8160,16352,32767,65535] [2,3,7,8,10,11] [0,1,4,5,6,9,12,13,14] (fun hM13 hM12 w29 hB_=>?_)
        replace hC:=hC.grow hB_
        refine bM 0 (v12) rfl hM12 (Zc 17 1) (bM 1 (vI s10.2.1) rfl hM12 (Zc 17 3) ?_)
        obtain ⟨cs12,ho12,hf12⟩:=Zk4 (hC.getM 0 rfl)
        replace hC:=hC.recast (c:=mat eI 22 2 v12 cs12 s12.1) (fun x_ hx_=>by have e_:=hf12; exact e_ ▸ hx_) (fun _=>ho12)
        obtain ⟨⟨h29,h30⟩,h⟩:=h
        obtain ⟨g15,cap18,hv20⟩:=Zcv (hC.getM 0 rfl) (ZO7 (ZGa _) (show s10.2.1.toNat < s12.1.length by omega))
        refine bL 2 (.pointer (some ⟨g15,s10.2.1.toNat * 1,none⟩)) rfl rfl hM13 (fun _ hB_=>by exact Zbn (s10.2.1.toNat * 1) ZXe sc22.size (by exact tr rfl hv20) rfl h29 h30 rfl) (Zc 17 7) (bL 3 ((hd cs12 s10.2.1.toNat)) rfl rfl hM13 (fun _ hB_=>by exact Xn (hd cs12 s10.2.1.toNat) (Zdf ((hC.grow hB_).getM 0 rfl) hv20 (show s10.2.1.toNat < s12.1.length by omega)) sc22 rfl) (Zc 17 15) (bM 4 (vI s12.2) rfl hM12 (Zc 17 31) (bM 5 (v12) rfl hM12 (Zc 17 63) (bM 6 (vI s10.2.1) rfl hM12 (Zc 17 127) ?_))))
        obtain ⟨⟨h31,h32⟩,h⟩:=h
        obtain ⟨g16,cap19,hv21⟩:=Zcv (hC.getM 0 rfl) (ZO7 (ZGa _) (show s10.2.1.toNat < s12.1.length by omega))
        refine bL 7 (.pointer (some ⟨g16,s10.2.1.toNat * 1,none⟩)) rfl rfl hM13 (fun _ hB_=>by exact Zbn (s10.2.1.toNat * 1) ZXe sc22.size (by exact tr rfl hv21) rfl h31 h32 rfl) (Zc 17 255) (bL 8 ((hd cs12 s10.2.1.toNat)) rfl rfl hM13 (fun _ hB_=>by exact Xn (hd cs12 s10.2.1.toNat) (Zdf ((hC.grow hB_).getM 0 rfl) hv21 (show s10.2.1.toNat < s12.1.length by omega)) sc22 rfl) (Zc 17 511) (bM 9 (vI s12.2) rfl hM12 (Zc 17 1023) ?_))
        obtain ⟨⟨h33,h34⟩,h⟩:=h
        obtain ⟨g17,cap20,hv22⟩:=Xo (Zap (hC.getM 0 rfl) (show s10.2.1.toNat < s12.1.length by omega)) (ZO7 (ZGa _) (show s12.2.toNat < (s12.1.getD s10.2.1.toNat ZEo).length by omega))
        refine bL 10 (.pointer (some ⟨g17,s12.2.toNat * 1,none⟩)) rfl rfl hM13 (fun _ hB_=>by exact Zbn (s12.2.toNat * 1) ZM0 sc2.size (by exact tr rfl hv22) rfl h33 h34 rfl) (Zc 17 2047) (bL 11 (vI ((s12.1.getD s10.2.1.toNat ZEo).getD s12.2.toNat ZEo)) rfl rfl hM13 (fun _ hB_=>by exact Xn (vI ((s12.1.getD s10.2.1.toNat ZEo).getD s12.2.toNat ZEo)) (Zah (Zap ((hC.grow hB_).getM 0 rfl) (show s10.2.1.toNat < s12.1.length by omega)) hv22 s12.2.toNat (show s12.2.toNat < (s12.1.getD s10.2.1.toNat ZEo).length by omega)) sc2 rfl) (Zc 17 4095) (bM 12 (vI r12) rfl hM12 (Zc 17 8191) (bF 13 (vI (ZG5.wrap (((s12.1.getD s10.2.1.toNat ZEo).getD s12.2.toNat ZEo) * r12))) rfl rfl hM12 (fun _=>by exact Zc1 rfl rfl) (Zc 17 16383) (bF 14 (vI (ZFf (ZG5.wrap (((s12.1.getD s10.2.1.toNat ZEo).getD s12.2.toNat ZEo) * r12)) 10007)) rfl rfl hM12 (fun _=>by exact Zpf rfl rfl (by decide)) (Zc 17 32767) (Z6 15 (by decide) (by decide) (by kernel_rfl) (by kernel_rfl) rfl ?_)))))
        obtain ⟨⟨h35,h36⟩,h⟩:=h
        obtain ⟨g23,cap21,hv23⟩:=Xo (Zap (hC.getM 0 rfl) (show s10.2.1.toNat < s12.1.length by omega)) (ZO7 (ZGa _) (show s12.2.toNat < (s12.1.getD s10.2.1.toNat ZEo).length by omega))
        refine Xv (s12.2.toNat * 1) ZM0 sc2.size (tr rfl hv23) rfl h35 h36 rfl (Zzf hC 0 (ZFf (ZG5.wrap (((s12.1.getD s10.2.1.toNat ZEo).getD s12.2.toNat ZEo) * r12)) 10007) rfl (show s10.2.1.toNat < s12.1.length by omega) hv23 (show s12.2.toNat < (s12.1.getD s10.2.1.toNat ZEo).length by omega) sc2.size rfl rfl rfl fun w30 hC=>done (Z7 (Zr (Ze (Zh (Zq rfl rfl (Za (v:=vI (ZG5.wrap (s12.2+1))) rfl (done ?_))))))))
        replace hC:=hC.recast (c:=ZMy (ZR9 22 (ZR9 2 (eI.tr))) (s12.1.set s10.2.1.toNat ((s12.1.getD s10.2.1.toNat ZEo).set s12.2.toNat (ZFf (ZG5.wrap (((s12.1.getD s10.2.1.toNat ZEo).getD s12.2.toNat ZEo) * r12)) 10007))) [v12] (Jw v12 cs12)) (fun x_ hx_=>hx_) (fun h_=>Zde h_)
        rw [← hf12] at hC
        exact hK13 (s12.1.set s10.2.1.toNat ((s12.1.getD s10.2.1.toNat ZEo).set s12.2.toNat (ZFf (ZG5.wrap (((s12.1.getD s10.2.1.toNat ZEo).getD s12.2.toNat ZEo) * r12)) 10007)),ZG5.wrap (s12.2+1)) _ _ ⟨v12,f13,(slq rfl),hC⟩ h
       ·replace h:=Zk h (cf hb14)
        refine ZMv (Zj (Zj (Zx ?_)))
        refine Ze (ZMh (sr (Za (v:=v12) rfl (Zdq hC 0 rfl ZXe rfl (Za (v:=vI 0) rfl (dn (ZMn ?_)))))))
        refine Xz (S:=(List (List Int))×Int) _ (fun s11 e_ w_=>∃ (v11:Value),∃ (f11:List Nat),Zt e_ [(3,v11),(6,vI s10.2.1),(7,vQ b10),(98,v11),(99,vI (s12.1.length:Int)),(100,vI s11.2)]∧Ctx Nox w0 w_ [ZMy (ZR9 22 (ZR9 2 (eI.tr))) s11.1 [v11] f11,blk b10 3 [vI s10.2.2]] [ZMg (ZOz.sl) a0 [u0_0] fp0]) ?_ (s0:=(s12.1,0)) ?_ h
        ·clear hC h
         rintro s11 e_ w31 nx10 K13 ⟨v11,f11,hS_,hC⟩ h hK10
         rw [ue hS_]
         refine sr (Zn rfl rfl (dn (ZMh ?_)))
         refine Zs rfl (fun hb15=>?_) (fun hb15=>?_)
         ·replace h:=ift h (ct hb15)
          refine ZMl (Ze (ZMh (ZMn (sr (Za (v:=vI s11.2) rfl ?_)))))
          obtain ⟨cs11,ho13,hf10⟩:=Zk4 (hC.getM 0 rfl)
          replace hC:=hC.recast (c:=mat eI 22 2 v11 cs11 s11.1) (fun x_ hx_=>by have e_:=hf10; exact e_ ▸ hx_) (fun _=>ho13)
          obtain ⟨⟨h37,h38⟩,h⟩:=h
          obtain ⟨g24,cap22,hv24⟩:=Zcv (hC.getM 0 rfl) (ZO7 (ZGa _) (show s11.2.toNat < s11.1.length by omega))
          refine Xv (s11.2.toNat * 1) ZXe sc22.size (tr rfl hv24) rfl h37 h38 rfl (Yp (hd cs11 s11.2.toNat) (Zdf (hC.getM 0 rfl) hv24 (show s11.2.toNat < s11.1.length by omega)) sc22 rfl (Zd (v:=vI s11.2) rfl (Zd (v:=(hd cs11 s11.2.toNat)) rfl (dn (sr (Za (v:=vI s11.2) rfl (Za (v:=vI s10.2.1) rfl (Y6 rfl rfl (Za (v:=.bool (decide (s11.2≠s10.2.1))) rfl ?_)))))))))
          refine Y7 (decide (s11.2≠s10.2.1)) (fun hb11=>?_) (fun hb11=>?_)
          ·replace h:=ift h (ct hb11)
           refine Zp 3 108 rfl rfl hb11 (Za (v:=(hd cs11 s11.2.toNat)) rfl (Zp 3 108 rfl rfl hb11 (Yb hC 1 (vI s10.2.2) rfl sc3 rfl rfl (Zp 3 108 rfl rfl hb11 ?_))))
           obtain ⟨⟨h39,h40⟩,h⟩:=h
           obtain ⟨g25,cap23,hv25⟩:=Xo (Zap (hC.getM 0 rfl) (show s11.2.toNat < s11.1.length by omega)) (ZO7 (ZGa _) (show s10.2.2.toNat < (s11.1.getD s11.2.toNat ZEo).length by omega))
           refine Xv (s10.2.2.toNat * 1) ZM0 sc2.size (tr rfl hv25) rfl h39 h40 rfl (Zp 3 108 rfl rfl hb11 (Yp (vI ((s11.1.getD s11.2.toNat ZEo).getD s10.2.2.toNat ZEo)) (Zah (Zap (hC.getM 0 rfl) (show s11.2.toNat < s11.1.length by omega)) hv25 s10.2.2.toNat (show s10.2.2.toNat < (s11.1.getD s11.2.toNat ZEo).length by omega)) sc2 rfl (Zp 3 108 rfl rfl hb11 (Y6 rfl rfl (Z4 (v:=.bool (decide ((s11.1.getD s11.2.toNat ZEo).getD s10.2.2.toNat ZEo≠0))) (b:=true) (tr rfl (congrArg _ hb11)) rfl (dn ?_))))))
           refine Zs rfl (fun hb16=>?_) (fun hb16=>?_)
           ·replace h:=ift h (ct hb16)
            refine cwd 9 Yo [0,0,0,6,14,0,0,96,224,511] [3,4,6,7,8] [0,1,2,5] (fun hM16 hM17 w32 hB_=>?_)
            replace hC:=hC.grow hB_
            refine bM 0 ((hd cs11 s11.2.toNat)) rfl hM17 (Zc 10 1) (bM 1 (v11) rfl hM17 (Zc 10 3) (bM 2 (vI s10.2.1) rfl hM17 (Zc 10 7) ?_))
            obtain ⟨⟨h41,h42⟩,h⟩:=h
            obtain ⟨g18,cap24,hv26⟩:=Zcv (hC.getM 0 rfl) (ZO7 (ZGa _) (show s10.2.1.toNat < s11.1.length by omega))
            refine bL 3 (.pointer (some ⟨g18,s10.2.1.toNat * 1,none⟩)) rfl rfl hM16 (fun _ hB_=>by exact Zbn (s10.2.1.toNat * 1) ZXe sc22.size (by exact tr rfl hv26) rfl h41 h42 rfl) (Zc 10 15) (bL 4 ((hd cs11 s10.2.1.toNat)) rfl rfl hM16 (fun _ hB_=>by exact Xn (hd cs11 s10.2.1.toNat) (Zdf ((hC.grow hB_).getM 0 rfl) hv26 (show s10.2.1.toNat < s11.1.length by omega)) sc22 rfl) (Zc 10 31) (bM 5 ((hd cs11 s11.2.toNat)) rfl hM17 (Zc 10 63) (bL 6 (vI s10.2.2) rfl rfl hM16 (fun _ hB_=>by exact Yh (hC.grow hB_) 1 (vI s10.2.2) rfl sc3 rfl rfl) (Zc 10 127) ?_)))
            obtain ⟨⟨h43,h44⟩,h⟩:=h
            obtain ⟨g19,cap25,hv27⟩:=Xo (Zap (hC.getM 0 rfl) (show s11.2.toNat < s11.1.length by omega)) (ZO7 (ZGa _) (show s10.2.2.toNat < (s11.1.getD s11.2.toNat ZEo).length by omega))
            refine bL 7 (.pointer (some ⟨g19,s10.2.2.toNat * 1,none⟩)) rfl rfl hM16 (fun _ hB_=>by exact Zbn (s10.2.2.toNat * 1) ZM0 sc2.size (by exact tr rfl hv27) rfl h43 h44 rfl) (Zc 10 255) (bL 8 (vI ((s11.1.getD s11.2.toNat ZEo).getD s10.2.2.toNat ZEo)) rfl rfl hM16 (fun _ hB_=>by exact Xn (vI ((s11.1.getD s11.2.toNat ZEo).getD s10.2.2.toNat ZEo)) (Zah (Zap ((hC.grow hB_).getM 0 rfl) (show s11.2.toNat < s11.1.length by omega)) hv27 s10.2.2.toNat (show s10.2.2.toNat < (s11.1.getD s11.2.toNat ZEo).length by omega)) sc2 rfl) (Zc 10 511) (Z6 9 (by decide) (by decide) (by kernel_rfl) (by kernel_rfl) rfl ?_))
            obtain ⟨hne10,h⟩:=h
            refine Zf [(hd cs11 s11.2.toNat),(hd cs11 s10.2.1.toNat),vI ((s11.1.getD s11.2.toNat ZEo).getD s10.2.2.toNat ZEo)] _ Tryz.func140 rfl rfl rfl (ZBb (s11.1.getD s11.2.toNat ZEo) (s11.1.getD s10.2.1.toNat ZEo) ((s11.1.getD s11.2.toNat ZEo).getD s10.2.2.toNat ZEo) h _ (Zap (hC.getM 0 rfl) (show s11.2.toNat < s11.1.length by omega)) (Ym (Zap (hC.getM 0 rfl) (show s10.2.1.toNat < s11.1.length by omega))) (Zrj (hC.getM 0 rfl).2.2 (Zrq (hC.getM 0 rfl) (show s10.2.1.toNat < s11.1.length by omega)) (Zrq (hC.getM 0 rfl) (show s11.2.toNat < s11.1.length by omega)) hne10)) ?_
            rintro _ w33 ⟨m10,rfl,h,hm11,hB13⟩
            refine rt ?_
            replace hC:=hC.turnRow 0 rfl (show s11.2.toNat < s11.1.length by omega) hB13 hm11
            refine done (Z7 (Zr (Ze (Zh (Zq rfl rfl (Za (v:=vI (ZG5.wrap (s11.2+1))) rfl (done ?_)))))))
            replace hC:=hC.recast (c:=ZMy (ZR9 22 (ZR9 2 (eI.tr))) (s11.1.set s11.2.toNat m10) [v11] (Jw v11 cs11)) (fun x_ hx_=>hx_) (fun h_=>Zde h_)
            rw [← hf10] at hC
            exact hK10 (s11.1.set s11.2.toNat m10,ZG5.wrap (s11.2+1)) _ _ ⟨v11,f11,(slq rfl),hC⟩ h
           ·replace h:=Zk h (cf hb16)
            refine ZMl (Zr (Ze (Zh (Zq rfl rfl (Za (v:=vI (ZG5.wrap (s11.2+1))) rfl (done ?_))))))
            replace hC:=hC.recast (c:=ZMy (ZR9 22 (ZR9 2 (eI.tr))) s11.1 [v11] (Jw v11 cs11)) (fun x_ hx_=>hx_) (fun h_=>Zde h_)
            rw [← hf10] at hC
            exact hK10 (s11.1,ZG5.wrap (s11.2+1)) _ _ ⟨v11,f11,(slq rfl),hC⟩ h
          ·replace h:=Zk h (cf hb11)
           refine Zl (b:=false) 3 108 rfl (tr rfl (congrArg _ hb11)) (by decide) (Zl (b:=false) 3 108 rfl (tr rfl (congrArg _ hb11)) (by decide) (Zl (b:=false) 3 108 rfl (tr rfl (congrArg _ hb11)) (by decide) (Zl (b:=false) 3 108 rfl (tr rfl (congrArg _ hb11)) (by decide) (Zl (b:=false) 3 108 rfl (tr rfl (congrArg _ hb11)) (by decide) (Z4 (v:=.bool false) (b:=false) (tr rfl (congrArg _ hb11)) rfl (dn (Z1 rfl rfl (ZMl (Zr (Ze (Zh (Zq rfl rfl (Za (v:=vI (ZG5.wrap (s11.2+1))) rfl (done ?_))))))))))))))
           replace hC:=hC.recast (c:=ZMy (ZR9 22 (ZR9 2 (eI.tr))) s11.1 [v11] (Jw v11 cs11)) (fun x_ hx_=>hx_) (fun h_=>Zde h_)
           rw [← hf10] at hC
           exact hK10 (s11.1,ZG5.wrap (s11.2+1)) _ _ ⟨v11,f11,(slq rfl),hC⟩ h
         ·replace h:=Zk h (cf hb15)
          refine ZMv (Zj (Zj (Zx ?_)))
          refine Ze (Zh (Za (v:=vI s10.2.1) rfl (Zq rfl rfl (Zd (v:=vI (ZG5.wrap (s10.2.1+1))) rfl (done (Zr (Ze (ZMh (sr (Yb hC 1 (vI s10.2.2) rfl sc3 rfl rfl (dn (Zh (Ys hC [vI 0] z3 rfl fun b14 w34 hB_ hC=>Z3 (v:=vI s10.2.2) hC 0 [vI s10.2.2] [vI s10.2.2] rfl sc3.size rfl rfl rfl rfl rfl (ZMq rfl) rfl fun w35 hC=>dn (Zh (Yb hC 0 (vI s10.2.2) rfl sc3 rfl rfl (Zq rfl rfl (Z3 (v:=vI (ZG5.wrap (s10.2.2+1))) hC 0 [vI (ZG5.wrap (s10.2.2+1))] [vI (ZG5.wrap (s10.2.2+1))] rfl sc3.size rfl rfl rfl rfl rfl (ZMq rfl) rfl fun w36 hC=>done ?_)))))))))))))))))
          exact hK11 (s11.1,ZG5.wrap (s10.2.1+1),ZG5.wrap (s10.2.2+1)) _ _ ⟨v11,f11,b14,(slq rfl),(hC.xM [0,1] rfl)⟩ h
        ·skip
         exact⟨v12,f13,(slq rfl),hC⟩
      ·skip
       exact⟨v10,(Jw v10 (Xm undef cs10 s10.2.1.toNat ((ZG5.wrap (s10.2.1+r10)).toNat))),(slq rfl),hC⟩
    ·replace h:=Zk h (cf hb12)
     refine ZMv (Zj (Zj (Zx ?_)))
     refine Ze (sr (Za (v:=v10) rfl (Za (v:=vI s10.2.1) rfl ?_)))
     obtain ⟨h11,h⟩:=h
     refine Zrp hC 0 rfl ZXe sc22.size rfl rfl h11.1 h11.2 fun v14 hC=>Zd (v:=v14) rfl (dn (ZMp ?_))
     replace hC:=hC.recast (c:=ZMy (ZR9 22 (ZR9 2 (eI.tr))) (s10.1.take s10.2.1.toNat) [v14] (Jw v14 (cs10.take s10.2.1.toNat))) (fun x_ hx_=>hx_) (fun h_=>Zde h_)
     exact Zi rfl (Zg rfl) ⟨s10.1.take s10.2.1.toNat,v14,(Jw v14 (cs10.take s10.2.1.toNat)),rfl,h,(hC.getM 0 rfl),(Zai hC 0 rfl),hC.below⟩ (.inl rfl)
   ·replace h:=Zk h (cf hb10)
    refine Zv Zz 5 undef rfl rfl (by kernel_rfl) (hM11 5 rfl) (fun w_=>.inr ⟨Yf (b:=false) 4 30 rfl (tr rfl (congrArg _ hb10)) (by decide),rfl⟩) (l9:=(Zc 12 63)) (by kernel_rfl) (Zv Zz 6 undef rfl rfl (by kernel_rfl) (hM11 6 rfl) (fun w_=>.inr ⟨Yf (b:=false) 4 30 rfl (tr rfl (congrArg _ hb10)) (by decide),rfl⟩) (l9:=(Zc 12 127)) (by kernel_rfl) (Zv Zz 7 undef rfl rfl (by kernel_rfl) (hM11 7 rfl) (fun w_=>.inr ⟨Yf (b:=false) 4 30 rfl (tr rfl (congrArg _ hb10)) (by decide),rfl⟩) (l9:=(Zc 12 255)) (by kernel_rfl) (Zv Zz 8 undef rfl rfl (by kernel_rfl) (hM11 8 rfl) (fun w_=>.inr ⟨Yf (b:=false) 4 30 rfl (tr rfl (congrArg _ hb10)) (by decide),rfl⟩) (l9:=(Zc 12 511)) (by kernel_rfl) (Zv Zz 9 undef rfl rfl (by kernel_rfl) (hM11 9 rfl) (fun w_=>.inr ⟨Yf (b:=false) 4 30 rfl (tr rfl (congrArg _ hb10)) (by decide),rfl⟩) (l9:=(Zc 12 1023)) (by kernel_rfl) (Z6 10 (by decide) (by decide) (by kernel_rfl) (by kernel_rfl) rfl (Zl (b:=false) 4 30 rfl (tr rfl (congrArg _ hb10)) (by decide) (Z4 (v:=.bool false) (b:=false) (tr rfl (congrArg _ hb10)) rfl (done (Z7 (Ze (Z1 rfl rfl ?_)))))))))))
    refine ZMv (Zj (Zj (Zx ?_)))
    refine Ze (sr (Za (v:=v10) rfl (Za (v:=vI s10.2.1) rfl ?_)))
    replace hC:=hC.sM [1,0] (M':=[ZMy (ZR9 22 (ZR9 2 (eI.tr))) s10.1 [v10] f12,blk b10 3 [vI s10.2.2]]) (by decide) rfl
    obtain ⟨cs13,ho14,hf15⟩:=Zk4 (hC.getM 0 rfl)
    replace hC:=hC.recast (c:=mat eI 22 2 v10 cs13 s10.1) (fun x_ hx_=>by have e_:=hf15; exact e_ ▸ hx_) (fun _=>ho14)
    obtain ⟨h12,h⟩:=h
    refine Zrp hC 0 rfl ZXe sc22.size rfl rfl h12.1 h12.2 fun v15 hC=>Zd (v:=v15) rfl (dn (ZMp ?_))
    replace hC:=hC.recast (c:=ZMy (ZR9 22 (ZR9 2 (eI.tr))) (s10.1.take s10.2.1.toNat) [v15] (Jw v15 (cs13.take s10.2.1.toNat))) (fun x_ hx_=>hx_) (fun h_=>Zde h_)
    exact Zi rfl (Zg rfl) ⟨s10.1.take s10.2.1.toNat,v15,(Jw v15 (cs13.take s10.2.1.toNat)),rfl,h,(hC.getM 0 rfl),(Zai hC 0 rfl),hC.below⟩ (.inl rfl)
  ·skip
   exact⟨v13,f10,b13,(slq rfl),hC⟩
 ·skip
  exact⟨.slice (some ⟨b2,0,none⟩) 0 0,((ZNg (ZFi (.slice (some ⟨b2,0,none⟩) 0 0)))++([]:List (List Nat)).flatten),(slq rfl),hC⟩
def Ze4 (a0:List (List Int)) (K:Int→Prop):Prop :=
 Ze3 a0 (fun r5=>K (r5.length:Int))
theorem Zr8 (a0:List (List Int))  {K:Int→Prop} (h:Ze4 a0 K) (w0:World) (q0:(ZOz.sl).rep a0 [u0_0] fp0 w0) :
  Calls ZMk 57 #[u0_0] w0 fun e w'=>∃ (r0:Int),
   e=.returned (vI r0)∧K r0∧Bel w0 w':=by
 unfold Ze4 at h
 refine cof Tryz.func57 rfl 6 Tryz.ntmps57 ?_
 have hC:=ZM2 (X:=Nox) w0 [ZMg (ZOz.sl) a0 [u0_0] fp0] (al1 q0)
 refine sr (Zd (v:=vI 0) rfl (dn (sr (Za (v:=u0_0) rfl (Zf [u0_0] _ ZZ6 rfl rfl rfl (Zof a0 h _ (hC.getP 0 rfl)) ?_)))))
 rintro _ w4 ⟨r5,u6,f7,rfl,h,hr8,hf9,hB10⟩
 refine rt ?_
 replace hC:=hC.push hB10 (ZMy (ZR9 22 (ZR9 2 (eI.tr))) r5 [u6] f7) hr8 hf9
 refine Zdq hC 0 rfl ZXe rfl (Zd (v:=vI (r5.length:Int)) rfl (dn (ZMp ?_)))
 exact Zi rfl (Zg rfl) ⟨(r5.length:Int),rfl,h,hC.below⟩ (.inl rfl)
def Ze5 (a0:List Bool) (K:Int→Prop):Prop :=
 Z8 (fun i10 (s10:Int) nx10=>(if(a0.getD i10 ZEo)=true then nx10 (ZG5.wrap (s10+1)) else nx10 s10)) (fun (s10:Int)=>K s10) a0.length 0 0
theorem Zr9 (a0:List Bool)  {K:Int→Prop} (h:Ze5 a0 K) (w0:World) (q0:EB.ty.sl.rep a0 [u0_0] fp0 w0) :
  Calls ZMk 116 #[u0_0] w0 fun e w'=>∃ (r0:Int),
   e=.returned (vI r0)∧K r0∧Bel w0 w':=by
 unfold Ze5 at h
 refine cof Z0h rfl 17 Tryz.ntmps116 ?_
 have hC:=ZM2 (X:=Nox) w0 [ZMg EB.ty.sl a0 [u0_0] fp0] (al1 q0)
 refine sr (Zd (v:=vI 0) rfl (dn (sr (Zd (v:=vI 0) rfl (dn (ZMh (sr (Za (v:=u0_0) rfl (Zu hC 0 rfl ZZ3 rfl (Za (v:=vI 0) rfl (dn (ZMn ?_))))))))))))
 have hN10:a0.length≤9223372036854775807:=Yw (hC.getP 0 rfl)
 refine Yi (S:=Int) _ _ (fun i10 s10 e_ w_=>Zt e_ [(3,vI s10),(6,u0_0),(7,vI (a0.length:Int)),(8,vI (i10:Int))]∧Ctx Nox w0 w_ [] [ZMg EB.ty.sl a0 [u0_0] fp0]) a0.length ?_ ?_ (s0:=0) ?_ h
 ·clear hC h
  rintro i10 s10 e_ w10 nx10 K10 hi10 ⟨hS_,hC⟩ h hK10
  rw [ue hS_]
  refine sr (Zn rfl rfl (dn (ZMh (Z5 rfl (decide_eq_true (by omega)) (ZMl (Ze (ZMh (ZMn (sr ?_)))))))))
  obtain ⟨Ad10,c10,hv10⟩:=Zw (hC.getP 0 rfl) i10 hi10
  refine Yn (len:=a0.length) ZZ3 sc4.size (tr rfl hv10) rfl (ZMx _) (ZNf.2 hi10) (Yp (.bool (a0.getD i10 ZEo)) (Yd (hC.getP 0 rfl) hv10 i10 hi10) sc4 rfl (Zd (v:=.bool (a0.getD i10 ZEo)) rfl (dn (sr (Za (v:=.bool (a0.getD i10 ZEo)) rfl (dn ?_))))))
  refine Zs rfl (fun hb10=>?_) (fun hb10=>?_)
  ·replace h:=ift h (hb10)
   refine Zh (Za (v:=vI s10) rfl (Zq rfl rfl (Zd (v:=vI (ZG5.wrap (s10+1))) rfl (done (Zr (Ze (Zh (Zq rfl rfl (Za (v:=vI (ZG5.wrap ((i10:Int)+1))) rfl (done ?_))))))))))
   exact hK10 (ZG5.wrap (s10+1)) _ _ ⟨(sl ⟨rfl,rfl,rfl,(tr rfl (congrArg _ (Z2 hi10 hN10))),trivial⟩),hC⟩ h
  ·replace h:=Zk h (Y4 hb10)
   refine ZMl (Zr (Ze (Zh (Zq rfl rfl (Za (v:=vI (ZG5.wrap ((i10:Int)+1))) rfl (done ?_))))))
   exact hK10 s10 _ _ ⟨(sl ⟨rfl,rfl,rfl,(tr rfl (congrArg _ (Z2 hi10 hN10))),trivial⟩),hC⟩ h
 ·clear hC h
  rintro s10 e_ w11 K10 ⟨hS_,hC⟩ h
  rw [ue hS_]
  refine sr (Zn rfl rfl (dn (ZMh (Z1 rfl (decide_eq_false (by omega)) ?_))))
  refine ZMv (Zj (Zj (Zx ?_)))
  refine Ze (sr (Za (v:=vI s10) rfl (Zd (v:=vI s10) rfl (dn (ZMp ?_)))))
  exact Zi rfl (Zg rfl) ⟨s10,rfl,h,hC.below⟩ (.inl rfl)
 ·skip
  exact⟨(slq rfl),hC⟩
def Zgb (a0:Int) (K:Bool→Prop):Prop :=
 K (decide (a0≠0))
theorem ZBd (a0:Int)  {K:Bool→Prop} (h:Zgb a0 K) (w0:World)  :
  Calls ZMk 186 #[vI a0] w0 fun e w'=>∃ (r0:Bool),
   e=.returned (.bool r0)∧K r0∧Bel w0 w':=by
 unfold Zgb at h
 refine cof Tryz.func186 rfl 5 Tryz.ntmps186 ?_
 have hC:=ZM2 (X:=Nox) w0 [] (by simp)
 refine sr (Zd (v:=.bool false) rfl (dn (sr (Za (v:=vI a0) rfl (Y6 rfl rfl (Zd (v:=.bool (decide (a0≠0))) rfl (dn (ZMp ?_))))))))
 exact Zi rfl (Zg rfl) ⟨decide (a0≠0),rfl,h,hC.below⟩ (.inl rfl)
def Zli (a0:List Int) (K:Int→Prop):Prop :=
 Zen a0 Zgb (fun r5=>K r5)
theorem ZBe (a0:List Int)  {K:Int→Prop} (h:Zli a0 K) (w0:World) (q0:ZOz.rep a0 [u0_0] fp0 w0) :
  Calls ZMk 138 #[u0_0] w0 fun e w'=>∃ (r0:Int),
   e=.returned (vI r0)∧K r0∧Bel w0 w':=by
 unfold Zli at h
 refine cof Tryz.func138 rfl 5 Tryz.ntmps138 ?_
 have hC:=ZM2 (X:=Nox) w0 [ZMg TInts a0 [u0_0] fp0] (al1 q0)
 refine sr (Zd (v:=vI 0) rfl (dn (sr (Za (v:=u0_0) rfl (Zf [u0_0,.func (.func 186) #[] (ZMf [])] _ Tryz.func185 rfl rfl rfl (Zql a0 Zgb h _ (hC.getP 0 rfl) Tryz.func186 rfl rfl (fun x0_ K_ w_ _ hq_=>ZBd x0_ hq_ w_)) ?_)))))
 rintro _ w4 ⟨r5,rfl,h,hB6⟩
 refine rt ?_
 replace hC:=hC.grow hB6
 refine Zd (v:=vI r5) rfl (dn (ZMp ?_))
 exact Zi rfl (Zg rfl) ⟨r5,rfl,h,hC.below⟩ (.inl rfl)
def Ziw (a0:List Int) (K:Bool→Prop):Prop :=
 Zli a0 (fun r5=>K (decide (r5 < 0)))
theorem ZBf (a0:List Int)  {K:Bool→Prop} (h:Ziw a0 K) (w0:World) (q0:ZOz.rep a0 [u0_0] fp0 w0) :
  Calls ZMk 83 #[u0_0] w0 fun e w'=>∃ (r0:Bool),
   e=.returned (.bool r0)∧K r0∧Bel w0 w':=by
 unfold Ziw at h
 refine cof Tryz.func83 rfl 6 Tryz.ntmps83 ?_
 have hC:=ZM2 (X:=Nox) w0 [ZMg TInts a0 [u0_0] fp0] (al1 q0)
 refine sr (Zd (v:=.bool false) rfl (dn (sr (Za (v:=u0_0) rfl (Zf [u0_0] _ Tryz.func138 rfl rfl rfl (ZBe a0 h _ (hC.getP 0 rfl)) ?_)))))
 rintro _ w4 ⟨r5,rfl,h,hB6⟩
 refine rt ?_
 replace hC:=hC.grow hB6
 refine Zn rfl rfl (Zd (v:=.bool (decide (r5 < 0))) rfl (dn (ZMp ?_)))
 exact Zi rfl (Zg rfl) ⟨decide (r5 < 0),rfl,h,hC.below⟩ (.inl rfl)
def Zix (a1:Int) (K:List Int→Prop):Prop :=
 (¬ (a1 < 0)∧(if ZG5.wrap (a1 - (ZG5.wrap (0 - 0))) > 0 then((0≤ZG5.wrap (a1 - (ZG5.wrap (0 - 0)))∧Zy (0+((ZG5.wrap (a1 - (ZG5.wrap (0 - 0)))).toNat)) 8)∧(((0:Int)≤0∧0≤((ZEj ((ZG5.wrap (a1 - (ZG5.wrap (0 - 0)))).toNat) (0:Int)).length:Int))∧K ((ZEj ((ZG5.wrap (a1 - (ZG5.wrap (0 - 0)))).toNat) (0:Int)).take 0))) else K []))
theorem ZBg (a1:Int)  {K:List Int→Prop} (h:Zix a1 K) (w0:World)  :
  Calls ZMk 198 #[.slice none 0 0,vI a1] w0 fun e w'=>∃ (r0:List Int) (z0_0:Value) (fz0:List Nat),
   e=.returned (z0_0)∧K r0∧(ZMy (ZR9 2 (eI.tr)) r0 [z0_0] fz0).holds w'∧(∀ b,b∈fz0→w0.heap.size≤b)∧Bel w0 w':=by
 unfold Zix at h
 refine cof Tryz.func198 rfl 27 Tryz.ntmps198 ?_
 have hC:=ZM2 (X:=Nox) w0 [] (by simp)
 refine sr (Zd (v:=.slice none 0 0) rfl (dn (ZMh (sr (Za (v:=vI a1) rfl (Zn rfl rfl (dn ?_)))))))
 obtain ⟨hb1,h⟩:=h
 refine Z1 rfl (decide_eq_false hb1) (ZMl (Ze (ZMh (sr (Za (v:=vI a1) rfl (Za (v:=.slice none 0 0) rfl (Zrh ZM0 rfl (Za (v:=.slice none 0 0) rfl (Zec ZM0 rfl (X3 rfl rfl (X3 rfl rfl (Zd (v:=vI (ZG5.wrap (a1 - (ZG5.wrap (0 - 0))))) rfl (dn (sr (Za (v:=vI (ZG5.wrap (a1 - (ZG5.wrap (0 - 0))))) rfl (Jh rfl rfl (dn ?_)))))))))))))))))
 refine Zs rfl (fun hb2=>?_) (fun hb2=>?_)
 ·replace h:=ift h (ct hb2)
  refine Zh (Za (v:=.slice none 0 0) rfl (Za (v:=.slice none 0 0) rfl (Zrh ZM0 rfl (Zy7 ZM0 sc2.size rfl rfl (Za (v:=vI (ZG5.wrap (a1 - (ZG5.wrap (0 - 0))))) rfl ?_)))))
  replace hC:=hC.pushNil 2 1
  obtain ⟨hm6,h⟩:=h
  refine Zrf hC 0 ZM0 Tryz.underlying3 el2 rfl rfl (by decide) rfl rfl (tr rfl (congrArg (ZO5 .i64) (ZO6 hm6.1).symm)) hm6.2 fun v4 w5 hC=>?_
  replace hC:=Yy hC 0 ((ZEj ((ZG5.wrap (a1 - (ZG5.wrap (0 - 0)))).toNat) (0:Int)).length) (eI.encs (ZEj ((ZG5.wrap (a1 - (ZG5.wrap (0 - 0)))).toNat) (0:Int))) rfl (by simp) (Zri _ [] _)
  refine Za (v:=.slice none 0 0) rfl (Zec ZM0 rfl ?_)
  obtain ⟨h0_7,h⟩:=h
  refine Zy6 hC 0 rfl ZM0 sc2.size rfl rfl h0_7.1 h0_7.2 fun v8 hC=>?_
  replace hC:=Yy hC 0 (((ZEj ((ZG5.wrap (a1 - (ZG5.wrap (0 - 0)))).toNat) (0:Int)).take 0).length) (eI.encs ((ZEj ((ZG5.wrap (a1 - (ZG5.wrap (0 - 0)))).toNat) (0:Int)).take 0)) rfl (List.length_take_of_le (by omega)).symm (Enc.encs_take eI _ _)
  refine Zd (v:=v8) rfl (dn (sr (Za (v:=v8) rfl (Zd (v:=v8) rfl (dn (ZMp ?_))))))
  exact Zi rfl (Zg rfl) ⟨(ZEj ((ZG5.wrap (a1 - (ZG5.wrap (0 - 0)))).toNat) (0:Int)).take 0,v8,(ZNg (ZFi v8)),rfl,h,(Xf (hC.getM 0 rfl)),(Y8 hC 0 rfl),hC.below⟩ (.inl rfl)
 ·replace h:=Zk h (cf hb2)
  refine ZMl (Ze (sr (Za (v:=.slice none 0 0) rfl (Zd (v:=.slice none 0 0) rfl (dn (ZMp ?_))))))
  exact Zi rfl (Zg rfl) ⟨[],.slice none 0 0,[],rfl,h,(Zba _ _ _),(fun b hb=>absurd hb (by simp)),hC.below⟩ (.inl rfl)
def Ziy (a0:List (List Int)) (K:List Int→Prop):Prop :=
 Z8 (fun i10 (s10:Int) nx10=>(¬ (ZG5.wrap (s10+((a0.getD i10 ZEo).length:Int)) < 0)∧nx10 (ZG5.wrap (s10+((a0.getD i10 ZEo).length:Int))))) (fun (s10:Int)=>Zix s10 (fun r10=>Z8 (fun i11 (s11:(List Int)) nx11=>(Zy (s11.length+(a0.getD i11 ZEo).length) 8∧nx11 (s11++(a0.getD i11 ZEo)))) (fun (s11:(List Int))=>K s11) a0.length 0 r10)) a0.length 0 0
theorem ZBh (a0:List (List Int))  {K:List Int→Prop} (h:Ziy a0 K) (w0:World) (q0:(ZOz.sl).rep a0 [u0_0] fp0 w0) :
  Calls ZMk 184 #[u0_0] w0 fun e w'=>∃ (r0:List Int) (z0_0:Value) (fz0:List Nat),
   e=.returned (z0_0)∧K r0∧(ZMy (ZR9 2 (eI.tr)) r0 [z0_0] fz0).holds w'∧(∀ b,b∈fz0→w0.heap.size≤b)∧Bel w0 w':=by
 unfold Ziy at h
 refine cof Tryz.func184 rfl 36 Tryz.ntmps184 ?_
 have hC:=ZM2 (X:=Nox) w0 [ZMg (ZOz.sl) a0 [u0_0] fp0] (al1 q0)
 refine sr (Zd (v:=.slice none 0 0) rfl (dn (sr (Zd (v:=vI 0) rfl (dn (ZMh (sr (Za (v:=u0_0) rfl (Zu hC 0 rfl ZXe rfl (Za (v:=vI 0) rfl (dn (ZMn ?_))))))))))))
 have hN10:a0.length≤9223372036854775807:=Yw (hC.getP 0 rfl)
 refine Yi (S:=Int) _ _ (fun i10 s10 e_ w_=>Zt e_ [(0,u0_0),(3,vI s10),(9,u0_0),(10,vI (a0.length:Int)),(11,vI (i10:Int))]∧Ctx Nox w0 w_ [] [ZMg (ZOz.sl) a0 [u0_0] fp0]) a0.length ?_ ?_ (s0:=0) ?_ h
 ·clear hC h
  rintro i10 s10 e_ w10 nx10 K10 hi10 ⟨hS_,hC⟩ h hK10
  rw [ue hS_]
  refine sr (Zn rfl rfl (dn (ZMh (Z5 rfl (decide_eq_true (by omega)) (ZMl (Ze (ZMh (ZMn (sr ?_)))))))))
  obtain ⟨Ad10,c10,hv10⟩:=Zw (hC.getP 0 rfl) i10 hi10
  refine Yn (len:=a0.length) ZXe sc22.size (tr rfl hv10) rfl (ZMx _) (ZNf.2 hi10) ?_
  obtain ⟨cs_,hl10,hc10,hr10⟩:=Xg (hC.getP 0 rfl) hv10 i10 hi10
  obtain ⟨u10,rfl⟩:=ZNd.1 hl10
  clear hl10
  rw [Xd _ _ hi10] at hr10
  replace hC:=hC.derive 0 rfl (ZMg TInts (a0.getD i10 ZEo) [u10] fp0) (fun _=>hr10) (fun _ hb_=>hb_)
  refine Yp (u10) hc10 sc22 rfl (Zd (v:=u10) rfl (dn (sr (Za (v:=vI s10) rfl (Za (v:=u10) rfl (Zu hC 0 rfl ZM0 rfl (Zq rfl rfl (Zd (v:=vI (ZG5.wrap (s10+((a0.getD i10 ZEo).length:Int)))) rfl (dn (sr (Za (v:=vI (ZG5.wrap (s10+((a0.getD i10 ZEo).length:Int)))) rfl (Zn rfl rfl (dn ?_)))))))))))))
  obtain ⟨hb10,h⟩:=h
  refine Z1 rfl (decide_eq_false hb10) (ZMl (Zr (Ze (Zh (Zq rfl rfl (Za (v:=vI (ZG5.wrap ((i10:Int)+1))) rfl (done ?_)))))))
  exact hK10 (ZG5.wrap (s10+((a0.getD i10 ZEo).length:Int))) _ _ ⟨(sl ⟨rfl,rfl,rfl,rfl,(tr rfl (congrArg _ (Z2 hi10 hN10))),trivial⟩),(hC.sP [1] rfl)⟩ h
 ·clear hC h
  rintro s10 e_ w11 K10 ⟨hS_,hC⟩ h
  rw [ue hS_]
  refine sr (Zn rfl rfl (dn (ZMh (Z1 rfl (decide_eq_false (by omega)) ?_))))
  refine ZMv (Zj (Zj (Zx ?_)))
  refine Ze (sr (Za (v:=vI s10) rfl (Zf [.slice none 0 0,vI s10] _ Tryz.func198 rfl rfl rfl (ZBg s10 h _) ?_)))
  rintro _ w12 ⟨r10,u11,f10,rfl,h,hr12,hf10,hB10⟩
  refine rt ?_
  replace hC:=hC.push hB10 (ZMy (ZR9 2 (eI.tr)) r10 [u11] f10) hr12 hf10
  obtain ⟨ho10,hf11⟩:=Yv (hC.getM 0 rfl).1
  subst hf11
  replace hC:=hC.recast (c:=own 2 1 u11 r10.length (eI.encs r10)) (fun _ h_=>h_) (fun _=>ho10)
  refine Zd (v:=u11) rfl (dn (ZMh (sr (Za (v:=u0_0) rfl (Zu hC 0 rfl ZXe rfl (Za (v:=vI 0) rfl (dn (ZMn ?_))))))))
  have hN11:a0.length≤9223372036854775807:=Yw (hC.getP 0 rfl)
  refine Yi (S:=(List Int)) _ _ (fun i11 s11 e_ w_=>∃ (v10:Value),Zt e_ [(6,v10),(25,u0_0),(26,vI (a0.length:Int)),(27,vI (i11:Int))]∧Ctx Nox w0 w_ [own 2 1 v10 s11.length (eI.encs s11)] [ZMg (ZOz.sl) a0 [u0_0] fp0]) a0.length ?_ ?_ (s0:=r10) ?_ h
  ·clear hC h
   rintro i11 s11 e_ w13 nx11 K11 hi11 ⟨v10,hS_,hC⟩ h hK11
   rw [ue hS_]
   refine sr (Zn rfl rfl (dn (ZMh (Z5 rfl (decide_eq_true (by omega)) (ZMl (Ze (ZMh (ZMn (sr ?_)))))))))
   obtain ⟨Ad11,c11,hv11⟩:=Zw (hC.getP 0 rfl) i11 hi11
   refine Yn (len:=a0.length) ZXe sc22.size (tr rfl hv11) rfl (ZMx _) (ZNf.2 hi11) ?_
   obtain ⟨cs_,hl11,hc11,hr11⟩:=Xg (hC.getP 0 rfl) hv11 i11 hi11
   obtain ⟨u12,rfl⟩:=ZNd.1 hl11
   clear hl11
   rw [Xd _ _ hi11] at hr11
   replace hC:=hC.derive 0 rfl (ZMg TInts (a0.getD i11 ZEo) [u12] fp0) (fun _=>hr11) (fun _ hb_=>hb_)
   refine Yp (u12) hc11 sc22 rfl (Zd (v:=u12) rfl (dn (Zh (Za (v:=v10) rfl (Za (v:=u12) rfl ?_)))))
   obtain ⟨hm10,h⟩:=h
   refine Ja hC 0 ZM0 el2 rfl (by decide) (by decide) rfl (Zjy (hC.getP 0 rfl)) (fun q hq=>ZNk (E:=eI) _ q hq) rfl rfl hm10 fun v11 w14 hC=>?_
   replace hC:=Yy hC 0 ((s11++(a0.getD i11 ZEo)).length) (eI.encs (s11++(a0.getD i11 ZEo))) rfl (by simp) (by first | (simp [ZM9]; done) | simp [ZM9,ZSs])
   refine Zd (v:=v11) rfl (done (Zr (Ze (Zh (Zq rfl rfl (Za (v:=vI (ZG5.wrap ((i11:Int)+1))) rfl (done ?_)))))))
   exact hK11 (s11++(a0.getD i11 ZEo)) _ _ ⟨v11,(sl ⟨rfl,rfl,rfl,(tr rfl (congrArg _ (Z2 hi11 hN11))),trivial⟩),(hC.sP [1] rfl)⟩ h
  ·clear hC h
   rintro s11 e_ w15 K11 ⟨v10,hS_,hC⟩ h
   rw [ue hS_]
   refine sr (Zn rfl rfl (dn (ZMh (Z1 rfl (decide_eq_false (by omega)) ?_))))
   refine ZMv (Zj (Zj (Zx ?_)))
   refine Ze (sr (Za (v:=v10) rfl (Zd (v:=v10) rfl (dn (ZMp ?_)))))
   exact Zi rfl (Zg rfl) ⟨s11,v10,(ZNg (ZFi v10)),rfl,h,(Xf (hC.getM 0 rfl)),(Y8 hC 0 rfl),hC.below⟩ (.inl rfl)
  ·skip
   exact⟨u11,(slq rfl),hC⟩
 ·skip
  exact⟨(slq rfl),hC⟩
def Ziz (a0:List (List Int)) (a1:Int) (K:List (List Int)→Prop):Prop :=
 Z8 (fun i10 (s11:(List (List Int))) nx11=>((0≤(a0.length:Int)∧(a0.length:Int) * 8≤281474976710656)∧((0≤(i10:Int)∧(i10:Int) < ((ZEj ((a0.length:Int).toNat) (0:Int)).length:Int))∧Ziy [(a0.getD i10 ZEo),(ZEj ((a0.length:Int).toNat) (0:Int)).set i10 1] (fun r11=>(Zy (s11.length+1) 24∧nx11 (s11++[r11])))))) (fun (s11:(List (List Int)))=>Ze3 s11 (fun r10=>Z8 (fun i11 (s10:(List (List Int))) nx10=>((0≤a1∧a1≤((r10.getD i11 ZEo).length:Int))∧Ziw ((r10.getD i11 ZEo).take a1.toNat) (fun r13=>(if r13=true then((0≤a1∧a1≤((r10.getD i11 ZEo).length:Int))∧(Zy (s10.length+1) 24∧nx10 (s10++[(r10.getD i11 ZEo).drop a1.toNat]))) else nx10 s10)))) (fun (s10:(List (List Int)))=>Ze3 s10 (fun r12=>K r12)) r10.length 0 [])) a0.length 0 []
theorem ZBi (a0:List (List Int)) (a1:Int)  {K:List (List Int)→Prop} (h:Ziz a0 a1 K) (w0:World) (q0:(ZOz.sl).rep a0 [u0_0] fp0 w0) :
  Calls ZMk 136 #[u0_0,vI a1] w0 fun e w'=>∃ (r0:List (List Int)) (z0_0:Value) (fz0:List Nat),
   e=.returned (z0_0)∧K r0∧(ZMy (ZR9 22 (ZR9 2 (eI.tr))) r0 [z0_0] fz0).holds w'∧(∀ b,b∈fz0→w0.heap.size≤b)∧Bel w0 w':=by
 unfold Ziz at h
 refine cof Tryz.func136 rfl 57 Tryz.ntmps136 ?_
 have hC:=ZM2 (X:=Nox) w0 [ZMg (ZOz.sl) a0 [u0_0] fp0] (al1 q0)
 refine sr (Zd (v:=.slice none 0 0) rfl (dn (sr (Za (v:=u0_0) rfl (Zu hC 0 rfl ZXe rfl (Ye (sz:=1) hC [] [] rfl (fun _=>Zak _) rfl (by decide) fun b5 w6 hB_ hC=>?_))))))
 replace hC:=hC.pushE (ZYa TInts [] [] []) (Zn0 _ _) rfl
 refine Zd (v:=vI (a0.length:Int)) rfl (Zd (v:=.slice (some ⟨b5,0,none⟩) 0 0) rfl (dn (ZMh (sr (Za (v:=u0_0) rfl (Zu hC 1 rfl ZXe rfl (Za (v:=vI 0) rfl (dn (ZMn ?_)))))))))
 have hN11:a0.length≤9223372036854775807:=Yw (hC.getP 1 rfl)
 refine Yi (S:=(List (List Int))) _ _ (fun i10 s11 e_ w_=>∃ (v12:Value),∃ (cs11:List Value),∃ (f12:List Nat),Zt e_ [(1,vI a1),(5,vI (a0.length:Int)),(6,v12),(16,u0_0),(17,vI (a0.length:Int)),(18,vI (i10:Int))]∧(∀ b,b∈f12→w0.heap.size≤b)∧Ctx Nox w0 w_ [own 22 1 v12 s11.length cs11] [ZYa TInts s11 cs11 f12,ZMg (ZOz.sl) a0 [u0_0] fp0]) a0.length ?_ ?_ (s0:=[]) ?_ h
 ·clear hC h
  rintro i10 s11 e_ w10 nx11 K10 hi11 ⟨v12,cs11,f12,hS_,hq11,hC⟩ h hK11
  rw [ue hS_]
  refine sr (Zn rfl rfl (dn (ZMh (Z5 rfl (decide_eq_true (by omega)) (ZMl (Ze (ZMh (ZMn (sr (Za (v:=vI (i10:Int)) rfl ?_))))))))))
  obtain ⟨Ad12,c12,hv10⟩:=Zw (hC.getP 1 rfl) i10 hi11
  refine Yn (len:=a0.length) ZXe sc22.size (tr rfl hv10) rfl (ZMx _) (ZNf.2 hi11) ?_
  obtain ⟨cs_,hl10,hc10,hr10⟩:=Xg (hC.getP 1 rfl) hv10 i10 hi11
  obtain ⟨u11,rfl⟩:=ZNd.1 hl10
  clear hl10
  rw [Xd _ _ hi11] at hr10
  replace hC:=hC.derive 1 rfl (ZMg TInts (a0.getD i10 ZEo) [u11] fp0) (fun _=>hr10) (fun _ hb_=>hb_)
  refine Yp (u11) hc10 sc22 rfl (Zd (v:=vI (i10:Int)) rfl (Zd (v:=u11) rfl (dn (sr (Za (v:=vI (a0.length:Int)) rfl ?_)))))
  obtain ⟨hm10,h⟩:=h
  refine Zb8 (sz:=1) hC (eI.encs (ZEj ((a0.length:Int).toNat) (0:Int))) ZM0 el2 (tr rfl (congrArg (ZO5 .i64) (ZO6 hm10.1).symm)) (tr rfl (congrArg (ZO5 .i64) (ZO6 hm10.1).symm)) (by omega) (by omega) (Zbk (E:=eI) _ _) fun v10 w11 hB_ hC=>?_
  replace hC:=Yy hC 0 ((ZEj ((a0.length:Int).toNat) (0:Int)).length) (eI.encs (ZEj ((a0.length:Int).toNat) (0:Int))) rfl (by simp) rfl
  refine Zd (v:=v10) rfl (dn (sr (Za (v:=v10) rfl (Za (v:=vI (i10:Int)) rfl ?_))))
  obtain ⟨⟨h12,h13⟩,h⟩:=h
  obtain ⟨Ad13,c13,hv11⟩:=Xo (hC.getM 0 rfl) (ZO7 (ZGa _) (show i10 < (ZEj ((a0.length:Int).toNat) (0:Int)).length by omega))
  refine Xv (i10 * 1) ZM0 sc2.size (tr rfl hv11) rfl h12 h13 rfl (Za8 (v:=vI 1) hC 0 [vI 1] (eI.encs ((ZEj ((a0.length:Int).toNat) (0:Int)).set i10 1)) rfl hv11 sc2.size rfl rfl rfl rfl rfl (by rw [ZO8]; exact J4 (sz:=1) (show i10 < (ZEj ((a0.length:Int).toNat) (0:Int)).length by omega)) (Zbj _ _ _ (show i10 < (ZEj ((a0.length:Int).toNat) (0:Int)).length by omega)) fun w12 hC=>?_)
  replace hC:=Yy hC 0 (((ZEj ((a0.length:Int).toNat) (0:Int)).set i10 1).length) (eI.encs ((ZEj ((a0.length:Int).toNat) (0:Int)).set i10 1)) rfl (by simp) rfl
  refine dn (Zh (Za (v:=v12) rfl (Za (v:=u11) rfl (Za (v:=v10) rfl ?_))))
  have hs10:=Y8 hC 0 rfl
  replace hC:=hC.thaw 0 rfl (ZMg TInts ((ZEj ((a0.length:Int).toNat) (0:Int)).set i10 1) [v10] (ZNg (ZFi v10))) Ym (fun _ hb_=>hb_)
  refine Ye (sz:=1) hC [(0,u11),(1,v10)] [u11,v10] rfl (fun _=>ZAk u11 v10 (Zco (hC.getP 1 rfl)) (Zco (hC.getP 0 rfl)) _) rfl (by decide) fun b12 w13 hB_ hC=>?_
  have hf10:=Y8 hC 0 rfl
  replace hC:=hC.joinP 1 0 rfl rfl (ZYa TInts [(a0.getD i10 ZEo),(ZEj ((a0.length:Int).toNat) (0:Int)).set i10 1] [u11,v10] (fp0++(ZNg (ZFi v10)))) (fun a_ b_=>Zy5 a_ b_) (fun c_ hc_=>ZEv.1 hc_)
  replace hC:=hC.thaw 0 rfl (own 22 1 (.slice (some ⟨b12,0,none⟩) 2 2) 2 [u11,v10]) id (fun _ hb_=>hb_)
  replace hC:=hC.joinP 0 1 rfl rfl (ZMg (ZOz.sl) [(a0.getD i10 ZEo),(ZEj ((a0.length:Int).toNat) (0:Int)).set i10 1] [.slice (some ⟨b12,0,none⟩) 2 2] ((ZNg (ZFi (.slice (some ⟨b12,0,none⟩) 2 2)))++(fp0++(ZNg (ZFi v10))))) (fun a_ b_=>Za2 a_ b_) (fun c_ hc_=>ZEv.1 hc_)
  have hs17:∀ b,b∈((ZNg (ZFi (.slice (some ⟨b12,0,none⟩) 2 2)))++(fp0++(ZNg (ZFi v10))))→w0.heap.size≤b∨b∈(fp0):=(fun b hb=>(ZEv.1 hb).elim (fun hb=>.inl (hf10 b hb)) (fun hb=>(ZEv.1 hb).elim (fun hb=>.inr hb) (fun hb=>.inl (hs10 b hb))))
  refine Zf [.slice (some ⟨b12,0,none⟩) 2 2] _ Tryz.func184 rfl rfl rfl (ZBh [(a0.getD i10 ZEo),(ZEj ((a0.length:Int).toNat) (0:Int)).set i10 1] h _ (hC.getP 0 rfl)) ?_
  rintro _ w14 ⟨r11,u10,f14,rfl,h,hr12,hf11,hB10⟩
  refine rt ?_
  replace hC:=hC.push hB10 (ZMy (ZR9 2 (eI.tr)) r11 [u10] f14) hr12 hf11
  obtain ⟨ho10,hf12⟩:=Yv (hC.getM 0 rfl).1
  subst hf12
  replace hC:=hC.recast (c:=own 2 1 u10 r11.length (eI.encs r11)) (fun _ h_=>h_) (fun _=>ho10)
  have hs11:=Y8 hC 0 rfl
  replace hC:=hC.thaw 0 rfl (ZMg TInts r11 [u10] (ZNg (ZFi u10))) Ym (fun _ hb_=>hb_)
  refine Ye (sz:=1) hC [(0,u10)] [u10] rfl (fun _=>Zae u10 (Zco (hC.getP 0 rfl)) _) rfl (by decide) fun b10 w15 hB_ hC=>?_
  have hf13:=Y8 hC 0 rfl
  replace hC:=hC.thaw 0 rfl (own 22 1 (.slice (some ⟨b10,0,none⟩) 1 1) 1 [u10]) id (fun _ hb_=>hb_)
  replace hC:=hC.joinP 0 1 rfl rfl (ZMg (ZOz.sl) [r11] [.slice (some ⟨b10,0,none⟩) 1 1] ((ZNg (ZFi (.slice (some ⟨b10,0,none⟩) 1 1)))++(ZNg (ZFi u10)))) (fun a_ b_=>Za2 a_ (Zdy b_)) (fun c_ hc_=>ZEv.1 hc_)
  have hs12:∀ b,b∈((ZNg (ZFi (.slice (some ⟨b10,0,none⟩) 1 1)))++(ZNg (ZFi u10)))→w0.heap.size≤b:=(fun b hb=>(ZEv.1 hb).elim (fun hb=>hf13 b hb) (fun hb=>hs11 b hb))
  obtain ⟨cs12,hd10,ha10⟩:=Zeu (hC.getP 0 rfl)
  replace hC:=hC.derive 0 rfl (ZYa TInts [r11] cs12 ((ZNg (ZFi (.slice (some ⟨b10,0,none⟩) 1 1)))++(ZNg (ZFi u10)))) (fun _=>ha10) (fun _ h_=>h_)
  obtain ⟨hm11,h⟩:=h
  refine Ja hC 0 ZXe Jz rfl (by decide) (by decide) rfl hd10 (fun q_ hq_=>ha10.2.2.1 q_ hq_) rfl rfl hm11 fun v13 w16 hC=>?_
  replace hC:=Yy hC 0 ((s11++[r11]).length) (cs11++cs12) rfl (by simp) (by simp)
  have hs13:∀ b,b∈(f12++((ZNg (ZFi (.slice (some ⟨b10,0,none⟩) 1 1)))++(ZNg (ZFi u10))))→w0.heap.size≤b:=(fun b hb=>(ZEv.1 hb).elim (fun hb=>hq11 b hb) (fun hb=>hs12 b hb))
  replace hC:=hC.joinP 9 0 rfl rfl (ZYa TInts (s11++[r11]) (cs11++cs12) (f12++((ZNg (ZFi (.slice (some ⟨b10,0,none⟩) 1 1)))++(ZNg (ZFi u10))))) (fun a_ b_=>Zev a_ b_) (fun c_ hc_=>ZEv.1 hc_)
  refine Zd (v:=v13) rfl (done (Zr (Ze (Zh (Zq rfl rfl (Za (v:=vI (ZG5.wrap ((i10:Int)+1))) rfl (done ?_)))))))
  exact hK11 (s11++[r11]) _ _ ⟨v13,cs11++cs12,(f12++((ZNg (ZFi (.slice (some ⟨b10,0,none⟩) 1 1)))++(ZNg (ZFi u10)))),(sl ⟨rfl,rfl,rfl,rfl,rfl,(tr rfl (congrArg _ (Z2 hi11 hN11))),trivial⟩),hs13,(hC.sP [0,11] rfl)⟩ h
 ·clear hC h
  rintro s11 e_ w17 K10 ⟨v12,cs11,f12,hS_,hq11,hC⟩ h
  rw [ue hS_]
  refine sr (Zn rfl rfl (dn (ZMh (Z1 rfl (decide_eq_false (by omega)) ?_))))
  refine ZMv (Zj (Zj (Zx ?_)))
  refine Ze (sr (Ye (sz:=1) hC [] [] rfl (fun _=>Zak _) rfl (by decide) fun b13 w18 hB_ hC=>?_))
  replace hC:=hC.pushE (ZYa TInts [] [] []) (Zn0 _ _) rfl
  refine Zd (v:=.slice (some ⟨b13,0,none⟩) 0 0) rfl (dn (ZMh (sr (Za (v:=v12) rfl (Zf [v12] _ ZZ6 rfl rfl rfl (Zof s11 h _ (Za2 (hC.getM 1 rfl) (hC.getP 1 rfl))) ?_)))))
  rintro _ w19 ⟨r10,u13,f10,rfl,h,hr13,hf14,hB11⟩
  refine rt ?_
  replace hC:=hC.push hB11 (ZMy (ZR9 22 (ZR9 2 (eI.tr))) r10 [u13] f10) hr13 hf14
  refine Zdq hC 0 rfl ZXe rfl (Za (v:=vI 0) rfl (dn (ZMn ?_)))
  have hs14:=Zai hC 0 rfl
  replace hC:=hC.thaw 0 rfl (ZMg (ZOz.sl) r10 [u13] f10) (fun h_=>ZYd _ h_.1) (fun _ hb_=>hb_)
  have hN10:r10.length≤9223372036854775807:=Yw (hC.getP 0 rfl)
  refine Yi (S:=(List (List Int))) _ _ (fun i11 s10 e_ w_=>∃ (v11:Value),∃ (cs10:List Value),∃ (f11:List Nat),Zt e_ [(1,vI a1),(10,v11),(38,u13),(39,vI (r10.length:Int)),(40,vI (i11:Int))]∧(∀ b,b∈f11→w0.heap.size≤b)∧Ctx Nox w0 w_ [own 22 1 v11 s10.length cs10] [ZYa TInts s10 cs10 f11,ZMg (ZOz.sl) r10 [u13] f10,ZMg (ZOz.sl) a0 [u0_0] fp0]) r10.length ?_ ?_ (s0:=[]) ?_ h
  ·clear hC h
   rintro i11 s10 e_ w20 nx10 K11 hi10 ⟨v11,cs10,f11,hS_,hq10,hC⟩ h hK10
   rw [ue hS_]
   refine sr (Zn rfl rfl (dn (ZMh (Z5 rfl (decide_eq_true (by omega)) (ZMl (Ze (ZMh (ZMn (sr ?_)))))))))
   obtain ⟨Ad14,c14,hv12⟩:=Zw (hC.getP 1 rfl) i11 hi10
   refine Yn (len:=r10.length) ZXe sc22.size (tr rfl hv12) rfl (ZMx _) (ZNf.2 hi10) ?_
   obtain ⟨cs_,hl11,hc11,hr11⟩:=Xg (hC.getP 1 rfl) hv12 i11 hi10
   obtain ⟨u12,rfl⟩:=ZNd.1 hl11
   clear hl11
   rw [Xd _ _ hi10] at hr11
   replace hC:=hC.derive 1 rfl (ZMg TInts (r10.getD i11 ZEo) [u12] f10) (fun _=>hr11) (fun _ hb_=>hb_)
   refine Yp (u12) hc11 sc22 rfl (Zd (v:=u12) rfl (dn (sr (Za (v:=u12) rfl (Za (v:=vI a1) rfl ?_)))))
   obtain ⟨h10,h⟩:=h
   obtain ⟨Ad11,c11,hv13,hcap10⟩:=Zn6 (hC.getP 0 rfl)
   refine Zzm ZM0 sc2.size (tr rfl hv13) rfl h10.1 h10.2 hcap10 ?_
   replace hC:=hC.derive 0 rfl (ZMg TInts ((r10.getD i11 ZEo).take a1.toNat) [(sliced Ad11 0 a1.toNat c11 1)] f10) (fun h_=>Zzk h_ hv13 (show _≤_ by omega) hcap10) (fun _ h_=>h_)
   refine Zf [(sliced Ad11 0 a1.toNat c11 1)] _ Tryz.func83 rfl rfl rfl (ZBf ((r10.getD i11 ZEo).take a1.toNat) h _ (hC.getP 0 rfl)) ?_
   rintro _ w21 ⟨r13,rfl,h,hB12⟩
   refine rt ?_
   replace hC:=hC.grow hB12
   refine dn ?_
   refine Zs rfl (fun hb10=>?_) (fun hb10=>?_)
   ·replace h:=ift h (hb10)
    refine Zh (Za (v:=v11) rfl (Za (v:=u12) rfl (Za (v:=vI a1) rfl ?_)))
    obtain ⟨h11,h⟩:=h
    obtain ⟨Ad10,c10,hv14,hcap11⟩:=Zn6 (hC.getP 1 rfl)
    refine Zn7 ZM0 sc2.size (tr rfl hv14) rfl h11.1 h11.2 ?_
    replace hC:=hC.derive 1 rfl (ZMg TInts ((r10.getD i11 ZEo).drop a1.toNat) [(sliced Ad10 a1.toNat ((r10.getD i11 ZEo).length) c10 1)] f10) (fun h_=>Zn5 h_ hv14 (show _≤_ by omega) hcap11) (fun _ h_=>h_)
    refine Ye (sz:=1) hC [(0,(sliced Ad10 a1.toNat ((r10.getD i11 ZEo).length) c10 1))] [(sliced Ad10 a1.toNat ((r10.getD i11 ZEo).length) c10 1)] rfl (fun _=>Zae (sliced Ad10 a1.toNat ((r10.getD i11 ZEo).length) c10 1) (Zco (hC.getP 0 rfl)) _) rfl (by decide) fun b11 w22 hB_ hC=>?_
    have hf15:=Y8 hC 0 rfl
    replace hC:=hC.thaw 0 rfl (own 22 1 (.slice (some ⟨b11,0,none⟩) 1 1) 1 [(sliced Ad10 a1.toNat ((r10.getD i11 ZEo).length) c10 1)]) id (fun _ hb_=>hb_)
    replace hC:=hC.joinP 0 1 rfl rfl (ZMg (ZOz.sl) [(r10.getD i11 ZEo).drop a1.toNat] [.slice (some ⟨b11,0,none⟩) 1 1] ((ZNg (ZFi (.slice (some ⟨b11,0,none⟩) 1 1)))++f10)) (fun a_ b_=>Za2 a_ (Zdy b_)) (fun c_ hc_=>ZEv.1 hc_)
    have hs15:∀ b,b∈((ZNg (ZFi (.slice (some ⟨b11,0,none⟩) 1 1)))++f10)→w0.heap.size≤b:=(fun b hb=>(ZEv.1 hb).elim (fun hb=>hf15 b hb) (fun hb=>hs14 b hb))
    obtain ⟨cs13,hd11,ha11⟩:=Zeu (hC.getP 0 rfl)
    replace hC:=hC.derive 0 rfl (ZYa TInts [(r10.getD i11 ZEo).drop a1.toNat] cs13 ((ZNg (ZFi (.slice (some ⟨b11,0,none⟩) 1 1)))++f10)) (fun _=>ha11) (fun _ h_=>h_)
    obtain ⟨hm12,h⟩:=h
    refine Ja hC 0 ZXe Jz rfl (by decide) (by decide) rfl hd11 (fun q_ hq_=>ha11.2.2.1 q_ hq_) rfl rfl hm12 fun v14 w23 hC=>?_
    replace hC:=Yy hC 0 ((s10++[(r10.getD i11 ZEo).drop a1.toNat]).length) (cs10++cs13) rfl (by simp) (by simp)
    have hs16:∀ b,b∈(f11++((ZNg (ZFi (.slice (some ⟨b11,0,none⟩) 1 1)))++f10))→w0.heap.size≤b:=(fun b hb=>(ZEv.1 hb).elim (fun hb=>hq10 b hb) (fun hb=>hs15 b hb))
    replace hC:=hC.joinP 6 0 rfl rfl (ZYa TInts (s10++[(r10.getD i11 ZEo).drop a1.toNat]) (cs10++cs13) (f11++((ZNg (ZFi (.slice (some ⟨b11,0,none⟩) 1 1)))++f10))) (fun a_ b_=>Zev a_ b_) (fun c_ hc_=>ZEv.1 hc_)
    refine Zd (v:=v14) rfl (done (Zr (Ze (Zh (Zq rfl rfl (Za (v:=vI (ZG5.wrap ((i11:Int)+1))) rfl (done ?_)))))))
    exact hK10 (s10++[(r10.getD i11 ZEo).drop a1.toNat]) _ _ ⟨v14,cs10++cs13,(f11++((ZNg (ZFi (.slice (some ⟨b11,0,none⟩) 1 1)))++f10)),(sl ⟨rfl,rfl,rfl,rfl,(tr rfl (congrArg _ (Z2 hi10 hN10))),trivial⟩),hs16,(hC.sP [0,8,9] rfl)⟩ h
   ·replace h:=Zk h (Y4 hb10)
    refine ZMl (Zr (Ze (Zh (Zq rfl rfl (Za (v:=vI (ZG5.wrap ((i11:Int)+1))) rfl (done ?_))))))
    exact hK10 s10 _ _ ⟨v11,cs10,f11,(sl ⟨rfl,rfl,rfl,rfl,(tr rfl (congrArg _ (Z2 hi10 hN10))),trivial⟩),hq10,(hC.sP [2,3,4] rfl)⟩ h
  ·clear hC h
   rintro s10 e_ w24 K11 ⟨v11,cs10,f11,hS_,hq10,hC⟩ h
   rw [ue hS_]
   refine sr (Zn rfl rfl (dn (ZMh (Z1 rfl (decide_eq_false (by omega)) ?_))))
   refine ZMv (Zj (Zj (Zx ?_)))
   refine Ze (sr (Za (v:=v11) rfl (Zf [v11] _ ZZ6 rfl rfl rfl (Zof s10 h _ (Za2 (hC.getM 0 rfl) (hC.getP 0 rfl))) ?_)))
   rintro _ w25 ⟨r12,u14,f13,rfl,h,hr14,hf16,hB13⟩
   refine rt ?_
   replace hC:=hC.push hB13 (ZMy (ZR9 22 (ZR9 2 (eI.tr))) r12 [u14] f13) hr14 hf16
   refine Zd (v:=u14) rfl (dn (ZMp ?_))
   have hf17:=Y8 hC 1 rfl
   replace hC:=hC.thaw 1 rfl (own 22 1 v11 s10.length cs10) id (fun _ hb_=>hb_)
   replace hC:=hC.joinP 0 1 rfl rfl (ZMg (ZOz.sl) s10 [v11] ((ZNg (ZFi v11))++f11)) (fun a_ b_=>Za2 a_ b_) (fun c_ hc_=>ZEv.1 hc_)
   have hs18:∀ b,b∈((ZNg (ZFi v11))++f11)→w0.heap.size≤b:=(fun b hb=>(ZEv.1 hb).elim (fun hb=>hf17 b hb) (fun hb=>hq10 b hb))
   exact Zi rfl (Zg rfl) ⟨r12,u14,f13,rfl,h,(hC.getM 0 rfl),(Zai hC 0 rfl),hC.below⟩ (.inl rfl)
  ·skip
   exact⟨.slice (some ⟨b13,0,none⟩) 0 0,[],[],(slq rfl),(fun b hb=>absurd hb (by simp)),((hC.xM [0] rfl).sP [1,0,3] rfl)⟩
 ·skip
  exact⟨.slice (some ⟨b5,0,none⟩) 0 0,[],[],(slq rfl),(fun b hb=>absurd hb (by simp)),hC⟩
def Zdh (C:Cx) (a0:Alg) (a1:Int) (a2:Int) (a3:Int) (K:List (List Int)→Prop):Prop :=
 (if a3 < 0 then K [] else(Zk9 C a0 a3∧(Zce C a0.degrees (ZG5.wrap (a3+1))∧Zd2 (⟨C.LV (ZG5.wrap (a3+1)),C.PL (ZG5.wrap (a3+1))⟩:ZW6) (ZG5.wrap (a2+a1)) (fun r12=>Zd2 (⟨C.LV a3,C.PL a3⟩:ZW6) a2 (fun r11=>Z8 (fun i10 (s10:(List Int)×(List (List Int))×Int) nx10=>(if¬ ((r11.getD i10 ZEo)=true) then nx10 (s10.1,s10.2.1,s10.2.2) else(Zy (s10.1.length+1) 8∧((0≤(i10:Int)∧(i10:Int) < ((C.MX a3).length:Int))∧Z8 (fun i12 (s11:(List Int)) nx11=>((0≤(i12:Int)∧(i12:Int) < (r12.length:Int))∧(if¬ ((r12.getD i12 ZEo)=true) then(Zy (s11.length+1) 8∧nx11 (s11++[((C.MX a3).getD i10 ZEo).getD i12 ZEo])) else nx11 s11))) (fun (s11:(List Int))=>(Zy (s10.2.1.length+1) 24∧nx10 (s10.1++[(i10:Int)],s10.2.1++[s11],(s11.length:Int)))) (((C.MX a3).getD i10 ZEo).length) 0 [])))) (fun (s10:(List Int)×(List (List Int))×Int)=>Ziz s10.2.1 s10.2.2 (fun r10=>Z8 (fun i13 (s13:(List (List Int))) nx12=>((0≤((C.LV a3).length:Int)∧((C.LV a3).length:Int) * 8≤281474976710656)∧Z8 (fun i11 (s12:(List Int)) nx13=>((0≤(i11:Int)∧(i11:Int) < (s10.1.length:Int))∧((0≤s10.1.getD i11 ZEo∧s10.1.getD i11 ZEo < (s12.length:Int))∧nx13 (s12.set ((s10.1.getD i11 ZEo).toNat) ((r10.getD i13 ZEo).getD i11 ZEo))))) (fun (s12:(List Int))=>(Zy (s13.length+1) 24∧nx12 (s13++[s12]))) ((r10.getD i13 ZEo).length) 0 (ZEj (((C.LV a3).length:Int).toNat) (0:Int)))) (fun (s13:(List (List Int)))=>K s13) r10.length 0 [])) r11.length 0 ([],[],0))))))
theorem Zlj (C:Cx) (a0:Alg) (a1:Int) (a2:Int) (a3:Int)  {K:List (List Int)→Prop} (h:Zdh C a0 a1 a2 a3 K) (w0:World) (q0:TAlg.rep a0 [u0_0,u0_1] fp0 w0) (qb0:(blk b0 32 [u0_0,u0_1]).holds w0) (qbp0:(blk bp0 198 [vQ b0,.map (some mb0)]).holds w0) (qx0:(cpx C 125 mb0 D0 F0).holds w0) (dq0:∀ b,b∈fp0→b∉(cpx C 125 mb0 D0 F0).fp) (db0:b0∉(cpx C 125 mb0 D0 F0).fp) (dbp0:bp0∉(cpx C 125 mb0 D0 F0).fp) :
  Calls ZMk 117 #[vQ bp0,vI a1,vI a2,vI a3] w0 fun e w'=>∃ (r0:List (List Int)) (z0_0:Value) (fz0:List Nat) (Dz:List Lev) (Fz:List Nat),
   e=.returned (z0_0)∧K r0∧(ZMy (ZR9 22 (ZR9 2 (eI.tr))) r0 [z0_0] fz0).holds w'∧(∀ b,b∈fz0→w0.heap.size≤b∨b∈(cpx C 125 mb0 D0 F0).fp)∧(∀ b,b∈fz0→b∉(cpx C 125 mb0 Dz Fz).fp)∧CpLe D0 Dz F0 Fz∧(cpx C 125 mb0 Dz Fz).holds w'∧(∀ x,x∈(cpx C 125 mb0 Dz Fz).fp→x∈(cpx C 125 mb0 D0 F0).fp∨w0.heap.size≤x)∧BelO ((cpx C 125 mb0 D0 F0).fp) w0 w':=by
 unfold Zdh at h
 refine cof ZZ4 rfl 124 Tryz.ntmps117 ?_
 have hC:=ZZ2 w0 ((cpx C 125 mb0 D0 F0).fp) [cpx C 125 mb0 D0 F0] [ZMg TAlg a0 [u0_0,u0_1] fp0,blk b0 32 [u0_0,u0_1],blk bp0 198 [vQ b0,.map (some mb0)]] (al1 qx0) (alc q0 (alc qb0 (al1 qbp0))) (al1 (fun b_ hb_=>hb_)) (ZS2 _ _) (alc (fun b_ hb_=>dq0 b_ hb_) (alc (Zbp db0) (al1 (Zbp dbp0))))
 replace hC:=hC.dAlg 0 rfl
 refine sr (Zd (v:=.slice none 0 0) rfl (dn (ZMh (sr (Za (v:=vI a3) rfl (Zn rfl rfl (dn ?_)))))))
 refine Zs rfl (fun hb7=>?_) (fun hb7=>?_)
 ·replace h:=ift h (ct hb7)
  refine sr (Zd (v:=.slice none 0 0) rfl (dn ?_))
  refine ZMp (Zm ?_)
  exact Zi rfl (Zg rfl) ⟨[],.slice none 0 0,[],D0,F0,rfl,h,(Zba _ _ _),(fun b hb=>absurd hb (by simp)),(fun x_ hx_=>absurd hx_ (by simp)),(CpLe.refl _ _),(hC.getM 0 rfl),(fun x_ hx_=>(hC.anyX 0 rfl x_ hx_).symm),hC.belO⟩ (.inl rfl)
 ·replace h:=Zk h (cf hb7)
  refine ZMl (Ze (sr (Za (v:=vQ bp0) rfl (Za (v:=vI a3) rfl ?_))))
  obtain ⟨ho10,h⟩:=h
  refine Zf [vQ bp0,vI a3] _ Tryz.func135 rfl rfl rfl (ZAh C a0 a3 ho10 _ (Yk (hC.getP 1 rfl) (hC.getP 0 rfl)) (hC.getP 3 rfl) (hC.getP 4 rfl) (hC.getM 0 rfl) (fun b_ hb hb2_=>(ZEv.1 hb).elim (fun hb=>hC.pdk 1 0 rfl rfl b_ hb hb2_) (fun hb=>hC.pdk 0 0 rfl rfl b_ hb hb2_)) (fun hx_=>hC.pdk 3 0 rfl rfl _ (ZSl _) hx_) (fun hx_=>hC.pdk 4 0 rfl rfl _ (ZSl _) hx_)) ?_
  rintro _ w10 ⟨b10,D11,F12,rfl,hat19,hle13,hx14,hf10,hB10⟩
  refine rt ?_
  replace hC:=hC.turnI 0 rfl hB10 hx14 hf10
  refine Za (v:=vQ bp0) rfl (Za (v:=vI a3) rfl (Zq rfl rfl ?_))
  obtain ⟨ho11,h⟩:=h
  refine Zf [vQ bp0,vI (ZG5.wrap (a3+1))] _ ZXi rfl rfl rfl (Zf2 C a0 (ZG5.wrap (a3+1)) ho11 _ (Yk (hC.getP 1 rfl) (hC.getP 0 rfl)) (hC.getP 3 rfl) (hC.getP 4 rfl) (hC.getM 0 rfl) (fun b_ hb hb2_=>(ZEv.1 hb).elim (fun hb=>hC.pdk 1 0 rfl rfl b_ hb hb2_) (fun hb=>hC.pdk 0 0 rfl rfl b_ hb hb2_)) (fun hx_=>hC.pdk 3 0 rfl rfl _ (ZSl _) hx_) (fun hx_=>hC.pdk 4 0 rfl rfl _ (ZSl _) hx_)) ?_
  rintro _ w11 ⟨b15,D23,F24,rfl,hat31,hle25,hx26,hf11,hB11⟩
  refine rt ?_
  replace hC:=hC.turnI 0 rfl (hB11.belO Zbu) hx26 hf11
  refine Zd (v:=vvP b10) rfl (Zd (v:=vvP b15) rfl (dn (sr (Za (v:=vvP b15) rfl (Za (v:=vI a2) rfl (Za (v:=vI a1) rfl (Zq rfl rfl ?_)))))))
  obtain ⟨u17,u18,u19,u20,u21,u22,hq10,hb12⟩:=Zf0 (hC.getM 0 rfl) hat31
  refine Zf [vvP b15,vI (ZG5.wrap (a2+a1))] _ ZZ7 rfl rfl rfl (Zk7 (⟨C.LV (ZG5.wrap (a3+1)),C.PL (ZG5.wrap (a3+1))⟩:ZW6) (ZG5.wrap (a2+a1)) h _ hq10 hb12) ?_
  rintro _ w12 ⟨r12,u10,f13,rfl,h,hr12,hf12,hB12⟩
  refine rt ?_
  replace hC:=hC.push hB12 (ZMy (ZR9 4 EB.tr) r12 [u10] f13) hr12 hf12
  obtain ⟨ho12,hf13⟩:=Yv (hC.getM 0 rfl).1
  subst hf13
  replace hC:=hC.recast (c:=own 4 1 u10 r12.length (EB.encs r12)) (fun _ h_=>h_) (fun _=>ho12)
  refine Ye (sz:=1) hC [] (eI.encs []) rfl (fun _=>ZAl  _) rfl (by decide) fun b16 w13 hB_ hC=>Zd (v:=u10) rfl (Zd (v:=.slice (some ⟨b16,0,none⟩) 0 0) rfl (dn (sr (Ye (sz:=1) hC [] [] rfl (fun _=>Zak _) rfl (by decide) fun b13 w14 hB_ hC=>?_))))
  replace hC:=hC.pushM0 (Z9 (ZR9 2 (eI.tr)) ([]:List (List Int)) [] []) (Jb _ _) rfl
  replace hC:=hC.gather (c:=ZMy (ZR9 22 (ZR9 2 (eI.tr))) [] [.slice (some ⟨b13,0,none⟩) 0 0] ((ZNg (ZFi (.slice (some ⟨b13,0,none⟩) 0 0)))++([]:List (List Nat)).flatten)) (fun x_ hx_=>(ZEv.1 hx_).symm) (fun h1_ h2_ hd_=>X1 h2_ h1_ (fun b_ hb_ hb2_=>hd_ b_ hb2_ hb_))
  refine Zd (v:=.slice (some ⟨b13,0,none⟩) 0 0) rfl (Zd (v:=vI 0) rfl (dn (ZMh (sr (Za (v:=vvP b10) rfl (Za (v:=vI a2) rfl ?_))))))
  obtain ⟨u23,u24,u25,u26,u27,u28,hq11,hb13⟩:=Zf0 (hC.getM 3 rfl) (hat19.up hle25)
  refine Zf [vvP b10,vI a2] _ ZZ7 rfl rfl rfl (Zk7 (⟨C.LV a3,C.PL a3⟩:ZW6) a2 h _ hq11 hb13) ?_
  rintro _ w15 ⟨r11,u11,f14,rfl,h,hr13,hf14,hB13⟩
  refine rt ?_
  replace hC:=hC.push hB13 (ZMy (ZR9 4 EB.tr) r11 [u11] f14) hr13 hf14
  obtain ⟨ho13,hf15⟩:=Yv (hC.getM 0 rfl).1
  subst hf15
  replace hC:=hC.recast (c:=own 4 1 u11 r11.length (EB.encs r11)) (fun _ h_=>h_) (fun _=>ho13)
  refine Zac hC 0 rfl ZZ3 rfl (Za (v:=vI 0) rfl (dn (ZMn ?_)))
  have hz83:=hC.anyX 4 rfl
  replace hC:=hC.thaw 4 rfl (cpx C 125 mb0 D23 F24) id (fun _ hb_=>hb_)
  have hN10:r11.length≤9223372036854775807:=Zdl (hC.getM 0 rfl)
  refine Yi (S:=(List Int)×(List (List Int))×Int) _ _ (fun i10 s10 e_ w_=>∃ (v12:Value),∃ (v13:Value),∃ (f10:List Nat),Zt e_ [(9,vvP b10),(11,u10),(12,v12),(13,v13),(14,vI s10.2.2),(44,u11),(45,vI (r11.length:Int)),(46,vI (i10:Int))]∧Ctx (fun c_=>c_∈(cpx C 125 mb0 D0 F0).fp) w0 w_ [own 4 1 u11 r11.length (EB.encs r11),ZMy (ZR9 22 (ZR9 2 (eI.tr))) s10.2.1 [v13] f10,own 3 1 v12 s10.1.length (eI.encs s10.1),own 4 1 u10 r12.length (EB.encs r12)] [cpx C 125 mb0 D23 F24,ZMg TForm.sl a0.images [u0_1] fp0,ZMg TInts a0.degrees [u0_0] fp0,ZMg TAlg a0 [u0_0,u0_1] fp0,blk b0 32 [u0_0,u0_1],blk bp0 198 [vQ b0,.map (some mb0)]]) r11.length ?_ ?_ (s0:=([],[],0)) ?_ h
  ·clear hC h
   rintro i10 s10 e_ w16 nx10 K10 hi10 ⟨v12,v13,f10,hS_,hC⟩ h hK10
   rw [ue hS_]
   refine sr (Zn rfl rfl (dn (ZMh (Z5 rfl (decide_eq_true (by omega)) (ZMl (Ze (ZMh (ZMn (sr (Za (v:=vI (i10:Int)) rfl ?_))))))))))
   obtain ⟨Ad10,c10,hv10⟩:=Xo (hC.getM 0 rfl) (ZO7 (ZGa _) hi10)
   refine Xv (i10 * 1) ZZ3 sc4.size (tr rfl hv10) rfl (ZMx _) (ZNf.2 hi10) rfl (Yp (.bool (r11.getD i10 ZEo)) (Zah (hC.getM 0 rfl) hv10 i10 hi10) sc4 rfl (Zd (v:=vI (i10:Int)) rfl (Zd (v:=.bool (r11.getD i10 ZEo)) rfl (dn (ZMh (sr (Za (v:=.bool (r11.getD i10 ZEo)) rfl (Xe rfl (dn ?_)))))))))
   refine Zs rfl (fun hb10=>?_) (fun hb10=>?_)
   ·replace h:=ift h (Y4 (Xi hb10))
    refine ZMv (Zj (Zx ?_))
    refine Ze (Zh (Zq rfl rfl (Za (v:=vI (ZG5.wrap ((i10:Int)+1))) rfl (done ?_))))
    exact hK10 (s10.1,s10.2.1,s10.2.2) _ _ ⟨v12,v13,f10,(sl ⟨rfl,rfl,rfl,rfl,rfl,rfl,rfl,(tr rfl (congrArg _ (Z2 hi10 hN10))),trivial⟩),hC⟩ h
   ·replace h:=Zk h (not_not_intro ((Xj hb10)))
    refine ZMl (Ze (sr (Za (v:=v12) rfl (Za (v:=vI (i10:Int)) rfl (Ye (sz:=1) hC [(0,vI (i10:Int))] (eI.encs [(i10:Int)]) rfl (fun _=>ZAm (i10:Int) _) rfl (by decide) fun b18 w17 hB_ hC=>?_)))))
    obtain ⟨hm11,h⟩:=h
    refine Ja hC 3 Tryz.underlying200 el3 rfl (by decide) (by decide) rfl (Jx (hC.getM 0 rfl)) (fun q hq=>ZNk (E:=eI) _ q hq) rfl rfl hm11 fun v15 w18 hC=>?_
    replace hC:=Yy hC 3 ((s10.1++[(i10:Int)]).length) (eI.encs (s10.1++[(i10:Int)])) rfl (by simp) (by first | (simp [ZM9]; done) | simp [ZM9,ZSs])
    refine Zd (v:=v15) rfl (dn (sr (Ye (sz:=1) hC [] (eI.encs []) rfl (fun _=>Zcf  _) rfl (by decide) fun b17 w19 hB_ hC=>Zd (v:=.slice (some ⟨b17,0,none⟩) 0 0) rfl (dn (ZMh (sr (Za (v:=vvP b10) rfl (Xy rfl (Z0 2 ZW4 rfl sc85.size rfl rfl ?_)))))))))
    obtain ⟨u29,u30,u15,u31,u32,u33,hb14,hr19,hr14,hr20⟩:=Zn9 (hC.getP 0 rfl) (hat19.up hle25)
    have hr15:=hr14 rfl
    refine Yp (u15) (Zaw (off:=2) (sz:=1) hb14 rfl) sc85 rfl ?_
    replace hC:=hC.derive 0 rfl (ZMg (ZOz.sl) (C.MX a3) [u15] F24) (fun _=>hr15) (fun _ h_=>Zid h_)
    refine Za (v:=vI (i10:Int)) rfl ?_
    obtain ⟨⟨h10,h11⟩,h⟩:=h
    obtain ⟨Ad11,c11,hv11⟩:=Zw (hC.getP 0 rfl) i10 (show i10 < (C.MX a3).length by omega)
    refine Yn (len:=(C.MX a3).length) ZXe sc22.size (tr rfl hv11) rfl h10 h11 ?_
    obtain ⟨cs_,hl10,hc10,hr10⟩:=Xg (hC.getP 0 rfl) hv11 i10 (show i10 < (C.MX a3).length by omega)
    obtain ⟨u14,rfl⟩:=ZNd.1 hl10
    clear hl10
    rw [Xd _ _ (show i10 < (C.MX a3).length by omega)] at hr10
    replace hC:=hC.derive 0 rfl (ZMg TInts ((C.MX a3).getD i10 ZEo) [u14] F24) (fun _=>hr10) (fun _ hb_=>hb_)
    refine Yp (u14) hc10 sc22 rfl (Zu hC 0 rfl ZM0 rfl (Za (v:=vI 0) rfl (dn (ZMn ?_))))
    have hN11:((C.MX a3).getD i10 ZEo).length≤9223372036854775807:=Yw (hC.getP 0 rfl)
    refine Yi (S:=(List Int)) _ _ (fun i12 s11 e_ w_=>∃ (v10:Value),Zt e_ [(9,vvP b10),(11,u10),(12,v15),(13,v13),(17,v10),(44,u11),(45,vI (r11.length:Int)),(46,vI (i10:Int)),(64,u14),(65,vI (((C.MX a3).getD i10 ZEo).length:Int)),(66,vI (i12:Int))]∧Ctx (fun c_=>c_∈(cpx C 125 mb0 D0 F0).fp) w0 w_ [own 2 1 v10 s11.length (eI.encs s11),own 4 1 u11 r11.length (EB.encs r11),ZMy (ZR9 22 (ZR9 2 (eI.tr))) s10.2.1 [v13] f10,own 3 1 v15 ((s10.1++[(i10:Int)]).length) (eI.encs (s10.1++[(i10:Int)])),own 4 1 u10 r12.length (EB.encs r12)] [ZMg TInts ((C.MX a3).getD i10 ZEo) [u14] F24,cpx C 125 mb0 D23 F24,ZMg TForm.sl a0.images [u0_1] fp0,ZMg TInts a0.degrees [u0_0] fp0,ZMg TAlg a0 [u0_0,u0_1] fp0,blk b0 32 [u0_0,u0_1],blk bp0 198 [vQ b0,.map (some mb0)]]) (((C.MX a3).getD i10 ZEo).length) ?_ ?_ (s0:=[]) ?_ h
    ·clear hC h
     rintro i12 s11 e_ w20 nx11 K11 hi11 ⟨v10,hS_,hC⟩ h hK11
     rw [ue hS_]
     refine sr (Zn rfl rfl (dn (ZMh (Z5 rfl (decide_eq_true (by omega)) (ZMl (Ze (ZMh (ZMn (sr (Za (v:=vI (i12:Int)) rfl ?_))))))))))
     obtain ⟨Ad12,c12,hv12⟩:=Zw (hC.getP 0 rfl) i12 hi11
     refine Yn (len:=((C.MX a3).getD i10 ZEo).length) ZM0 sc2.size (tr rfl hv12) rfl (ZMx _) (ZNf.2 hi11) (Yp (vI (((C.MX a3).getD i10 ZEo).getD i12 ZEo)) (Yd (hC.getP 0 rfl) hv12 i12 hi11) sc2 rfl (Zd (v:=vI (i12:Int)) rfl (Zd (v:=vI (((C.MX a3).getD i10 ZEo).getD i12 ZEo)) rfl (dn (sr (Za (v:=u10) rfl (Za (v:=vI (i12:Int)) rfl ?_)))))))
     obtain ⟨⟨h12,h13⟩,h⟩:=h
     obtain ⟨Ad13,c13,hv13⟩:=Xo (hC.getM 4 rfl) (ZO7 (ZGa _) (show i12 < r12.length by omega))
     refine Xv (i12 * 1) ZZ3 sc4.size (tr rfl hv13) rfl h12 h13 rfl (Yp (.bool (r12.getD i12 ZEo)) (Zah (hC.getM 4 rfl) hv13 i12 (show i12 < r12.length by omega)) sc4 rfl (Xe rfl (dn ?_)))
     refine Zs rfl (fun hb11=>?_) (fun hb11=>?_)
     ·replace h:=ift h (Y4 (Xi hb11))
      refine Zh (Za (v:=v10) rfl (Za (v:=vI (((C.MX a3).getD i10 ZEo).getD i12 ZEo)) rfl (Ye (sz:=1) hC [(0,vI (((C.MX a3).getD i10 ZEo).getD i12 ZEo))] (eI.encs [((C.MX a3).getD i10 ZEo).getD i12 ZEo]) rfl (fun _=>Zf3 (((C.MX a3).getD i10 ZEo).getD i12 ZEo) _) rfl (by decide) fun b19 w21 hB_ hC=>?_)))
      obtain ⟨hm12,h⟩:=h
      refine Ja hC 1 ZM0 el2 rfl (by decide) (by decide) rfl (Jx (hC.getM 0 rfl)) (fun q hq=>ZNk (E:=eI) _ q hq) rfl rfl hm12 fun v16 w22 hC=>?_
      replace hC:=Yy hC 1 ((s11++[((C.MX a3).getD i10 ZEo).getD i12 ZEo]).length) (eI.encs (s11++[((C.MX a3).getD i10 ZEo).getD i12 ZEo])) rfl (by simp) (by first | (simp [ZM9]; done) | simp [ZM9,ZSs])
      refine Zd (v:=v16) rfl (done (Zr (Ze (Zh (Zq rfl rfl (Za (v:=vI (ZG5.wrap ((i12:Int)+1))) rfl (done ?_)))))))
      exact hK11 (s11++[((C.MX a3).getD i10 ZEo).getD i12 ZEo]) _ _ ⟨v16,(sl ⟨rfl,rfl,rfl,rfl,rfl,rfl,rfl,rfl,rfl,rfl,(tr rfl (congrArg _ (Z2 hi11 hN11))),trivial⟩),(hC.xM [1,2,3,4,5] rfl)⟩ h
     ·replace h:=Zk h (not_not_intro ((Xj hb11)))
      refine ZMl (Zr (Ze (Zh (Zq rfl rfl (Za (v:=vI (ZG5.wrap ((i12:Int)+1))) rfl (done ?_))))))
      exact hK11 s11 _ _ ⟨v10,(sl ⟨rfl,rfl,rfl,rfl,rfl,rfl,rfl,rfl,rfl,rfl,(tr rfl (congrArg _ (Z2 hi11 hN11))),trivial⟩),hC⟩ h
    ·clear hC h
     rintro s11 e_ w23 K11 ⟨v10,hS_,hC⟩ h
     rw [ue hS_]
     refine sr (Zn rfl rfl (dn (ZMh (Z1 rfl (decide_eq_false (by omega)) ?_))))
     refine ZMv (Zj (Zj (Zx ?_)))
     refine Ze (sr (Za (v:=v10) rfl (Zac hC 0 rfl ZM0 rfl (Zd (v:=vI (s11.length:Int)) rfl (dn (Zh (Za (v:=v13) rfl (Za (v:=v10) rfl (Ye (sz:=1) hC [(0,v10)] [v10] rfl (fun _=>Zae v10 (Zbc (hC.getM 0 rfl)) _) rfl (by decide) fun b11 w24 hB_ hC=>?_)))))))))
     replace hC:=hC.pushM0 (Z9 (ZR9 2 (eI.tr)) [] [] []) (Jb _ _) rfl
     replace hC:=hC.sM [2,0,1,3,4,5,6] (M':=[own 2 1 v10 s11.length (eI.encs s11),Z9 (ZR9 2 (eI.tr)) [] [] [],own 22 1 (.slice (some ⟨b11,0,none⟩) 1 1) 1 [v10],own 4 1 u11 r11.length (EB.encs r11),ZMy (ZR9 22 (ZR9 2 (eI.tr))) s10.2.1 [v13] f10,own 3 1 v15 ((s10.1++[(i10:Int)]).length) (eI.encs (s10.1++[(i10:Int)])),own 4 1 u10 r12.length (EB.encs r12)]) (by decide) rfl
     replace hC:=hC.gather (c:=Z9 (ZR9 2 (eI.tr)) [s11] [v10] [(ZNg (ZFi v10))]) (fun x_ hx_=>Zbo hx_) (fun h1_ h2_ hd_=>Zbb (c:=[v10]) (id (Xf h1_)) h2_ hd_)
     replace hC:=hC.sM [1,0,2,3,4,5] (M':=[own 22 1 (.slice (some ⟨b11,0,none⟩) 1 1) 1 [v10],Z9 (ZR9 2 (eI.tr)) [s11] [v10] [(ZNg (ZFi v10))],own 4 1 u11 r11.length (EB.encs r11),ZMy (ZR9 22 (ZR9 2 (eI.tr))) s10.2.1 [v13] f10,own 3 1 v15 ((s10.1++[(i10:Int)]).length) (eI.encs (s10.1++[(i10:Int)])),own 4 1 u10 r12.length (EB.encs r12)]) (by decide) rfl
     replace hC:=hC.gather (c:=ZMy (ZR9 22 (ZR9 2 (eI.tr))) [s11] [.slice (some ⟨b11,0,none⟩) 1 1] ((ZNg (ZFi (.slice (some ⟨b11,0,none⟩) 1 1)))++([(ZNg (ZFi v10))]:List (List Nat)).flatten)) (fun x_ hx_=>ZEv.1 hx_) (fun h1_ h2_ hd_=>X1 h1_ h2_ hd_)
     replace hC:=hC.sM [2,0,1,3,4] (M':=[ZMy (ZR9 22 (ZR9 2 (eI.tr))) s10.2.1 [v13] f10,ZMy (ZR9 22 (ZR9 2 (eI.tr))) [s11] [.slice (some ⟨b11,0,none⟩) 1 1] ((ZNg (ZFi (.slice (some ⟨b11,0,none⟩) 1 1)))++([(ZNg (ZFi v10))]:List (List Nat)).flatten),own 4 1 u11 r11.length (EB.encs r11),own 3 1 v15 ((s10.1++[(i10:Int)]).length) (eI.encs (s10.1++[(i10:Int)])),own 4 1 u10 r12.length (EB.encs r12)]) (by decide) rfl
     obtain ⟨hm13,h⟩:=h
     refine Za4 hC ZXe Jz rfl (by decide) (by decide) rfl rfl hm13 fun v17 f15 w25 hC=>Zd (v:=v17) rfl (done (Zr (Ze (Zh (Zq rfl rfl (Za (v:=vI (ZG5.wrap ((i10:Int)+1))) rfl (done ?_)))))))
     exact hK10 (s10.1++[(i10:Int)],s10.2.1++[s11],(s11.length:Int)) _ _ ⟨v15,v17,f15,(sl ⟨rfl,rfl,rfl,rfl,rfl,rfl,rfl,(tr rfl (congrArg _ (Z2 hi10 hN10))),trivial⟩),((hC.xM [1,0,2,3] rfl).sP [1,2,3,4,5,6] rfl)⟩ h
    ·skip
     exact⟨.slice (some ⟨b17,0,none⟩) 0 0,(slq rfl),((hC.xM [0,2,3,4,5] rfl).sP [0,2,3,4,5,6,7] rfl)⟩
  ·clear hC h
   rintro s10 e_ w26 K10 ⟨v12,v13,f10,hS_,hC⟩ h
   rw [ue hS_]
   refine sr (Zn rfl rfl (dn (ZMh (Z1 rfl (decide_eq_false (by omega)) ?_))))
   refine ZMv (Zj (Zj (Zx ?_)))
   refine Ze (sr (Ye (sz:=1) hC [] [] rfl (fun _=>Zak _) rfl (by decide) fun b14 w27 hB_ hC=>?_))
   replace hC:=hC.pushM0 (Z9 (ZR9 2 (eI.tr)) ([]:List (List Int)) [] []) (Jb _ _) rfl
   replace hC:=hC.gather (c:=ZMy (ZR9 22 (ZR9 2 (eI.tr))) [] [.slice (some ⟨b14,0,none⟩) 0 0] ((ZNg (ZFi (.slice (some ⟨b14,0,none⟩) 0 0)))++([]:List (List Nat)).flatten)) (fun x_ hx_=>(ZEv.1 hx_).symm) (fun h1_ h2_ hd_=>X1 h2_ h1_ (fun b_ hb_ hb2_=>hd_ b_ hb2_ hb_))
   refine Zd (v:=.slice (some ⟨b14,0,none⟩) 0 0) rfl (dn (ZMh (sr (Za (v:=v13) rfl (Za (v:=vI s10.2.2) rfl (Zf [v13,vI s10.2.2] _ Tryz.func136 rfl rfl rfl (ZBi s10.2.1 s10.2.2 h _ (ZYd _ (hC.getM 2 rfl).1)) ?_))))))
   rintro _ w28 ⟨r10,u12,f12,rfl,h,hr16,hf16,hB14⟩
   refine rt ?_
   replace hC:=hC.push hB14 (ZMy (ZR9 22 (ZR9 2 (eI.tr))) r10 [u12] f12) hr16 hf16
   refine Zdq hC 0 rfl ZXe rfl (Za (v:=vI 0) rfl (dn (ZMn ?_)))
   have hs10:=hC.anyX 0 rfl
   replace hC:=hC.thaw 0 rfl (ZMg (ZOz.sl) r10 [u12] f12) (fun h_=>ZYd _ h_.1) (fun _ hb_=>hb_)
   have hN12:r10.length≤9223372036854775807:=Yw (hC.getP 0 rfl)
   refine Yi (S:=(List (List Int))) _ _ (fun i13 s13 e_ w_=>∃ (v14:Value),∃ (f11:List Nat),Zt e_ [(9,vvP b10),(12,v12),(20,v14),(91,u12),(92,vI (r10.length:Int)),(93,vI (i13:Int))]∧Ctx (fun c_=>c_∈(cpx C 125 mb0 D0 F0).fp) w0 w_ [ZMy (ZR9 22 (ZR9 2 (eI.tr))) s13 [v14] f11,own 3 1 v12 s10.1.length (eI.encs s10.1)] [ZMg (ZOz.sl) r10 [u12] f12,cpx C 125 mb0 D23 F24,ZMg TForm.sl a0.images [u0_1] fp0,ZMg TInts a0.degrees [u0_0] fp0,ZMg TAlg a0 [u0_0,u0_1] fp0,blk b0 32 [u0_0,u0_1],blk bp0 198 [vQ b0,.map (some mb0)]]) r10.length ?_ ?_ (s0:=[]) ?_ h
   ·clear hC h
    rintro i13 s13 e_ w29 nx12 K12 hi12 ⟨v14,f11,hS_,hC⟩ h hK12
    rw [ue hS_]
    refine sr (Zn rfl rfl (dn (ZMh (Z5 rfl (decide_eq_true (by omega)) (ZMl (Ze (ZMh (ZMn (sr ?_)))))))))
    obtain ⟨Ad14,c14,hv14⟩:=Zw (hC.getP 0 rfl) i13 hi12
    refine Yn (len:=r10.length) ZXe sc22.size (tr rfl hv14) rfl (ZMx _) (ZNf.2 hi12) ?_
    obtain ⟨cs_,hl11,hc11,hr11⟩:=Xg (hC.getP 0 rfl) hv14 i13 hi12
    obtain ⟨u13,rfl⟩:=ZNd.1 hl11
    clear hl11
    rw [Xd _ _ hi12] at hr11
    replace hC:=hC.derive 0 rfl (ZMg TInts (r10.getD i13 ZEo) [u13] f12) (fun _=>hr11) (fun _ hb_=>hb_)
    refine Yp (u13) hc11 sc22 rfl (Zd (v:=u13) rfl (dn (sr (Za (v:=vvP b10) rfl (Xy rfl (Z0 0 ZW4 rfl sc122.size rfl rfl ?_))))))
    obtain ⟨u16,u34,u35,u36,u37,u38,hb15,hr17,hr21,hr22⟩:=Zn9 (hC.getP 2 rfl) (hat19.up hle25)
    have hr18:=hr17
    refine Yp (u16) (Zaw (off:=0) (sz:=1) hb15 rfl) sc122 rfl ?_
    replace hC:=hC.derive 2 rfl (ZMg ((EA .i64).ty.sl) (C.LV a3) [u16] F24) (fun _=>hr18) (fun _ h_=>Zid h_)
    refine Zu hC 0 rfl ZW3 rfl ?_
    obtain ⟨hm10,h⟩:=h
    refine Zb8 (sz:=1) hC (eI.encs (ZEj (((C.LV a3).length:Int).toNat) (0:Int))) ZM0 el2 (tr rfl (congrArg (ZO5 .i64) (ZO6 hm10.1).symm)) (tr rfl (congrArg (ZO5 .i64) (ZO6 hm10.1).symm)) (by omega) (by omega) (Zbk (E:=eI) _ _) fun v18 w30 hB_ hC=>?_
    replace hC:=Yy hC 0 ((ZEj (((C.LV a3).length:Int).toNat) (0:Int)).length) (eI.encs (ZEj (((C.LV a3).length:Int).toNat) (0:Int))) rfl (by simp) rfl
    refine Zd (v:=v18) rfl (dn (ZMh (sr (Za (v:=u13) rfl (Zu hC 1 rfl ZM0 rfl (Za (v:=vI 0) rfl (dn (ZMn ?_))))))))
    have hN13:(r10.getD i13 ZEo).length≤9223372036854775807:=Yw (hC.getP 1 rfl)
    refine Yi (S:=(List Int)) _ _ (fun i11 s12 e_ w_=>∃ (v11:Value),Zt e_ [(9,vvP b10),(12,v12),(20,v14),(23,v11),(91,u12),(92,vI (r10.length:Int)),(93,vI (i13:Int)),(103,u13),(104,vI ((r10.getD i13 ZEo).length:Int)),(105,vI (i11:Int))]∧Ctx (fun c_=>c_∈(cpx C 125 mb0 D0 F0).fp) w0 w_ [own 2 1 v11 s12.length (eI.encs s12),ZMy (ZR9 22 (ZR9 2 (eI.tr))) s13 [v14] f11,own 3 1 v12 s10.1.length (eI.encs s10.1)] [ZMg TInts (r10.getD i13 ZEo) [u13] f12,ZMg (ZOz.sl) r10 [u12] f12,cpx C 125 mb0 D23 F24,ZMg TForm.sl a0.images [u0_1] fp0,ZMg TInts a0.degrees [u0_0] fp0,ZMg TAlg a0 [u0_0,u0_1] fp0,blk b0 32 [u0_0,u0_1],blk bp0 198 [vQ b0,.map (some mb0)]]) ((r10.getD i13 ZEo).length) ?_ ?_ (s0:=(ZEj (((C.LV a3).length:Int).toNat) (0:Int))) ?_ h
    ·clear hC h
     rintro i11 s12 e_ w31 nx13 K13 hi13 ⟨v11,hS_,hC⟩ h hK13
     rw [ue hS_]
     refine sr (Zn rfl rfl (dn (ZMh (Z5 rfl (decide_eq_true (by omega)) (ZMl (Ze (ZMh (ZMn (sr (Za (v:=vI (i11:Int)) rfl ?_))))))))))
     obtain ⟨Ad15,c15,hv15⟩:=Zw (hC.getP 0 rfl) i11 hi13
     refine Yn (len:=(r10.getD i13 ZEo).length) ZM0 sc2.size (tr rfl hv15) rfl (ZMx _) (ZNf.2 hi13) (Yp (vI ((r10.getD i13 ZEo).getD i11 ZEo)) (Yd (hC.getP 0 rfl) hv15 i11 hi13) sc2 rfl (Zd (v:=vI (i11:Int)) rfl (Zd (v:=vI ((r10.getD i13 ZEo).getD i11 ZEo)) rfl (dn (Zh (Za (v:=v11) rfl (Za (v:=v12) rfl (Za (v:=vI (i11:Int)) rfl ?_))))))))
     obtain ⟨⟨h14,h15⟩,h⟩:=h
     obtain ⟨Ad16,c16,hv16⟩:=Xo (hC.getM 2 rfl) (ZO7 (ZGa _) (show i11 < s10.1.length by omega))
     refine Xv (i11 * 1) Tryz.underlying200 sc3.size (tr rfl hv16) rfl h14 h15 rfl (Yp (vI (s10.1.getD i11 ZEo)) (Zah (hC.getM 2 rfl) hv16 i11 (show i11 < s10.1.length by omega)) sc3 rfl (Za (v:=vI ((r10.getD i13 ZEo).getD i11 ZEo)) rfl ?_))
     obtain ⟨⟨h16,h17⟩,h⟩:=h
     obtain ⟨Ad17,c17,hv17⟩:=Xo (hC.getM 0 rfl) (ZO7 (ZGa _) (show (s10.1.getD i11 ZEo).toNat < s12.length by omega))
     refine Xv ((s10.1.getD i11 ZEo).toNat * 1) ZM0 sc2.size (tr rfl hv17) rfl h16 h17 rfl (Za8 (v:=vI ((r10.getD i13 ZEo).getD i11 ZEo)) hC 0 [vI ((r10.getD i13 ZEo).getD i11 ZEo)] (eI.encs (s12.set ((s10.1.getD i11 ZEo).toNat) ((r10.getD i13 ZEo).getD i11 ZEo))) rfl hv17 sc2.size rfl rfl rfl rfl rfl (by rw [ZO8]; exact J4 (sz:=1) (show (s10.1.getD i11 ZEo).toNat < s12.length by omega)) (Zbj _ _ _ (show (s10.1.getD i11 ZEo).toNat < s12.length by omega)) fun w32 hC=>?_)
     replace hC:=Yy hC 0 ((s12.set ((s10.1.getD i11 ZEo).toNat) ((r10.getD i13 ZEo).getD i11 ZEo)).length) (eI.encs (s12.set ((s10.1.getD i11 ZEo).toNat) ((r10.getD i13 ZEo).getD i11 ZEo))) rfl (by simp) rfl
     refine done (Zr (Ze (Zh (Zq rfl rfl (Za (v:=vI (ZG5.wrap ((i11:Int)+1))) rfl (done ?_))))))
     exact hK13 (s12.set ((s10.1.getD i11 ZEo).toNat) ((r10.getD i13 ZEo).getD i11 ZEo)) _ _ ⟨v11,(sl ⟨rfl,rfl,rfl,rfl,rfl,rfl,rfl,rfl,rfl,(tr rfl (congrArg _ (Z2 hi13 hN13))),trivial⟩),hC⟩ h
    ·clear hC h
     rintro s12 e_ w33 K13 ⟨v11,hS_,hC⟩ h
     rw [ue hS_]
     refine sr (Zn rfl rfl (dn (ZMh (Z1 rfl (decide_eq_false (by omega)) ?_))))
     refine ZMv (Zj (Zj (Zx ?_)))
     refine Ze (Zh (Za (v:=v14) rfl (Za (v:=v11) rfl (Ye (sz:=1) hC [(0,v11)] [v11] rfl (fun _=>Zae v11 (Zbc (hC.getM 0 rfl)) _) rfl (by decide) fun b12 w34 hB_ hC=>?_))))
     replace hC:=hC.pushM0 (Z9 (ZR9 2 (eI.tr)) [] [] []) (Jb _ _) rfl
     replace hC:=hC.sM [2,0,1,3,4] (M':=[own 2 1 v11 s12.length (eI.encs s12),Z9 (ZR9 2 (eI.tr)) [] [] [],own 22 1 (.slice (some ⟨b12,0,none⟩) 1 1) 1 [v11],ZMy (ZR9 22 (ZR9 2 (eI.tr))) s13 [v14] f11,own 3 1 v12 s10.1.length (eI.encs s10.1)]) (by decide) rfl
     replace hC:=hC.gather (c:=Z9 (ZR9 2 (eI.tr)) [s12] [v11] [(ZNg (ZFi v11))]) (fun x_ hx_=>Zbo hx_) (fun h1_ h2_ hd_=>Zbb (c:=[v11]) (id (Xf h1_)) h2_ hd_)
     replace hC:=hC.sM [1,0,2,3] (M':=[own 22 1 (.slice (some ⟨b12,0,none⟩) 1 1) 1 [v11],Z9 (ZR9 2 (eI.tr)) [s12] [v11] [(ZNg (ZFi v11))],ZMy (ZR9 22 (ZR9 2 (eI.tr))) s13 [v14] f11,own 3 1 v12 s10.1.length (eI.encs s10.1)]) (by decide) rfl
     replace hC:=hC.gather (c:=ZMy (ZR9 22 (ZR9 2 (eI.tr))) [s12] [.slice (some ⟨b12,0,none⟩) 1 1] ((ZNg (ZFi (.slice (some ⟨b12,0,none⟩) 1 1)))++([(ZNg (ZFi v11))]:List (List Nat)).flatten)) (fun x_ hx_=>ZEv.1 hx_) (fun h1_ h2_ hd_=>X1 h1_ h2_ hd_)
     replace hC:=hC.sM [1,0,2] (M':=[ZMy (ZR9 22 (ZR9 2 (eI.tr))) s13 [v14] f11,ZMy (ZR9 22 (ZR9 2 (eI.tr))) [s12] [.slice (some ⟨b12,0,none⟩) 1 1] ((ZNg (ZFi (.slice (some ⟨b12,0,none⟩) 1 1)))++([(ZNg (ZFi v11))]:List (List Nat)).flatten),own 3 1 v12 s10.1.length (eI.encs s10.1)]) (by decide) rfl
     obtain ⟨hm14,h⟩:=h
     refine Za4 hC ZXe Jz rfl (by decide) (by decide) rfl rfl hm14 fun v19 f16 w35 hC=>Zd (v:=v19) rfl (done (Zr (Ze (Zh (Zq rfl rfl (Za (v:=vI (ZG5.wrap ((i13:Int)+1))) rfl (done ?_)))))))
     exact hK12 (s13++[s12]) _ _ ⟨v19,f16,(sl ⟨rfl,rfl,rfl,rfl,rfl,(tr rfl (congrArg _ (Z2 hi12 hN12))),trivial⟩),(hC.sP [1,2,3,4,5,6,7] rfl)⟩ h
    ·skip
     exact⟨v18,(slq rfl),(hC.sP [1,2,3,4,5,6,7,8] rfl)⟩
   ·clear hC h
    rintro s13 e_ w36 K12 ⟨v14,f11,hS_,hC⟩ h
    rw [ue hS_]
    refine sr (Zn rfl rfl (dn (ZMh (Z1 rfl (decide_eq_false (by omega)) ?_))))
    refine ZMv (Zj (Zj (Zx ?_)))
    refine Ze (sr (Za (v:=v14) rfl (Zd (v:=v14) rfl (dn (ZMp ?_)))))
    exact Zi rfl (Zg rfl) ⟨s13,v14,f11,D23,F24,rfl,h,(hC.getM 0 rfl),(hC.anyX 0 rfl),(fun x_ hx_ hy_=>hC.pdk 1 0 rfl rfl x_ hy_ hx_),(hle13.trans hle25),(hC.getP 1 rfl),(fun x_ hx_=>(hz83 x_ hx_).symm),hC.belO⟩ (.inl rfl)
   ·skip
    exact⟨.slice (some ⟨b14,0,none⟩) 0 0,((ZNg (ZFi (.slice (some ⟨b14,0,none⟩) 0 0)))++([]:List (List Nat)).flatten),(slq rfl),(hC.xM [0,3] rfl)⟩
  ·skip
   exact⟨.slice (some ⟨b16,0,none⟩) 0 0,.slice (some ⟨b13,0,none⟩) 0 0,((ZNg (ZFi (.slice (some ⟨b13,0,none⟩) 0 0)))++([]:List (List Nat)).flatten),(slq rfl),hC⟩
def Zi0 (C:Cx) (a0:Alg) (a1:Int) (a2:List (List Int)) (K:List (List Int)→Prop):Prop :=
 Z8 (fun i10 (s10:(List (List Int))) nx10=>(Zce C a0.degrees (ZG5.wrap (a1+1))∧(Zce C a0.degrees a1∧Zie (⟨C.LV a1,C.PL a1⟩:ZW6) (a2.getD i10 ZEo) (fun r11=>Zdx a0 r11 (fun r12=>Zey (⟨C.LV (ZG5.wrap (a1+1)),C.PL (ZG5.wrap (a1+1))⟩:ZW6) r12 (fun r10=>(Zy (s10.length+1) 24∧nx10 (s10++[r10])))))))) (fun (s10:(List (List Int)))=>K s10) a2.length 0 []
theorem ZBj (C:Cx) (a0:Alg) (a1:Int) (a2:List (List Int))  {K:List (List Int)→Prop} (h:Zi0 C a0 a1 a2 K) (w0:World) (q0:TAlg.rep a0 [u0_0,u0_1] fp0 w0) (qb0:(blk b0 32 [u0_0,u0_1]).holds w0) (qbp0:(blk bp0 198 [vQ b0,.map (some mb0)]).holds w0) (qx0:(cpx C 125 mb0 D0 F0).holds w0) (dq0:∀ b,b∈fp0→b∉(cpx C 125 mb0 D0 F0).fp) (db0:b0∉(cpx C 125 mb0 D0 F0).fp) (dbp0:bp0∉(cpx C 125 mb0 D0 F0).fp) (q2:(ZOz.sl).rep a2 [u2_0] fp2 w0) (do2:∀ b,b∈fp2→b∉(cpx C 125 mb0 D0 F0).fp) :
  Calls ZMk 118 #[vQ bp0,vI a1,u2_0] w0 fun e w'=>∃ (r0:List (List Int)) (z0_0:Value) (fz0:List Nat) (Dz:List Lev) (Fz:List Nat),
   e=.returned (z0_0)∧K r0∧(ZMy (ZR9 22 (ZR9 2 (eI.tr))) r0 [z0_0] fz0).holds w'∧(∀ b,b∈fz0→w0.heap.size≤b∨b∈(cpx C 125 mb0 D0 F0).fp)∧(∀ b,b∈fz0→b∉(cpx C 125 mb0 Dz Fz).fp)∧CpLe D0 Dz F0 Fz∧(cpx C 125 mb0 Dz Fz).holds w'∧(∀ x,x∈(cpx C 125 mb0 Dz Fz).fp→x∈(cpx C 125 mb0 D0 F0).fp∨w0.heap.size≤x)∧BelO ((cpx C 125 mb0 D0 F0).fp) w0 w':=by
 unfold Zi0 at h
 refine cof Tryz.func118 rfl 37 Tryz.ntmps118 ?_
 have hC:=ZZ2 w0 ((cpx C 125 mb0 D0 F0).fp) [cpx C 125 mb0 D0 F0] [ZMg TAlg a0 [u0_0,u0_1] fp0,ZMg (ZOz.sl) a2 [u2_0] fp2,blk b0 32 [u0_0,u0_1],blk bp0 198 [vQ b0,.map (some mb0)]] (al1 qx0) (alc q0 (alc q2 (alc qb0 (al1 qbp0)))) (al1 (fun b_ hb_=>hb_)) (ZS2 _ _) (alc (fun b_ hb_=>dq0 b_ hb_) (alc (fun b_ hb_=>do2 b_ hb_) (alc (Zbp db0) (al1 (Zbp dbp0)))))
 replace hC:=hC.dAlg 0 rfl
 refine sr (Zd (v:=.slice none 0 0) rfl (dn (sr (Ye (sz:=1) hC [] [] rfl (fun _=>Zak _) rfl (by decide) fun b8 w9 hB_ hC=>?_))))
 replace hC:=hC.pushM0 (Z9 (ZR9 2 (eI.tr)) ([]:List (List Int)) [] []) (Jb _ _) rfl
 replace hC:=hC.gather (c:=ZMy (ZR9 22 (ZR9 2 (eI.tr))) [] [.slice (some ⟨b8,0,none⟩) 0 0] ((ZNg (ZFi (.slice (some ⟨b8,0,none⟩) 0 0)))++([]:List (List Nat)).flatten)) (fun x_ hx_=>(ZEv.1 hx_).symm) (fun h1_ h2_ hd_=>X1 h2_ h1_ (fun b_ hb_ hb2_=>hd_ b_ hb2_ hb_))
 refine Zd (v:=.slice (some ⟨b8,0,none⟩) 0 0) rfl (dn (ZMh (sr (Za (v:=u2_0) rfl (Zu hC 3 rfl ZXe rfl (Za (v:=vI 0) rfl (dn (ZMn ?_))))))))
 have hN10:a2.length≤9223372036854775807:=Yw (hC.getP 3 rfl)
 refine Yi (S:=(List (List Int))) _ _ (fun i10 s10 e_ w_=>∃ (D209:List Lev),∃ (F210:List Nat),∃ (v10:Value),∃ (f10:List Nat),Zt e_ [(0,vQ bp0),(1,vI a1),(7,v10),(11,u2_0),(12,vI (a2.length:Int)),(13,vI (i10:Int))]∧CpLe D0 D209 F0 F210∧Ctx (fun c_=>c_∈(cpx C 125 mb0 D0 F0).fp) w0 w_ [ZMy (ZR9 22 (ZR9 2 (eI.tr))) s10 [v10] f10,cpx C 125 mb0 D209 F210] [ZMg TForm.sl a0.images [u0_1] fp0,ZMg TInts a0.degrees [u0_0] fp0,ZMg TAlg a0 [u0_0,u0_1] fp0,ZMg (ZOz.sl) a2 [u2_0] fp2,blk b0 32 [u0_0,u0_1],blk bp0 198 [vQ b0,.map (some mb0)]]) a2.length ?_ ?_ (s0:=[]) ?_ h
 ·clear hC h
  rintro i10 s10 e_ w10 nx10 K10 hi10 ⟨D209,F210,v10,f10,hS_,hq10,hC⟩ h hK10
  rw [ue hS_]
  refine sr (Zn rfl rfl (dn (ZMh (Z5 rfl (decide_eq_true (by omega)) (ZMl (Ze (ZMh (ZMn (sr ?_)))))))))
  obtain ⟨Ad10,c10,hv10⟩:=Zw (hC.getP 3 rfl) i10 hi10
  refine Yn (len:=a2.length) ZXe sc22.size (tr rfl hv10) rfl (ZMx _) (ZNf.2 hi10) ?_
  obtain ⟨cs_,hl10,hc10,hr10⟩:=Xg (hC.getP 3 rfl) hv10 i10 hi10
  obtain ⟨u11,rfl⟩:=ZNd.1 hl10
  clear hl10
  rw [Xd _ _ hi10] at hr10
  replace hC:=hC.derive 3 rfl (ZMg TInts (a2.getD i10 ZEo) [u11] fp2) (fun _=>hr10) (fun _ hb_=>hb_)
  refine Yp (u11) hc10 sc22 rfl (Zd (v:=u11) rfl (dn ?_))
  refine Zz3 mb0 17 Yo [0,0,0,4,14,0,32,96,224,0,0,1566,0,7710,16382,32766,65534,131071,262143] [8] [0,1,2,3,5,6,7,9,10,12] (by kernel_rfl) (by kernel_rfl) (by kernel_rfl) (fun hM11 hM10 w11 hB_=>?_)
  replace hC:=hC.grow hB_
  refine bMR (Zcd mb0) 0 (v10) rfl hM10 (Zc 19 1) (bMR (Zcd mb0) 1 (vQ bp0) rfl hM10 (Zc 19 3) (bMR (Zcd mb0) 2 (vI a1) rfl hM10 (Zc 19 7) (Zv (Zcd mb0) 3 (vI (ZG5.wrap (a1+1))) rfl rfl (by kernel_rfl) (hM10 3 rfl) (fun w_=>.inl ⟨rfl,by exact Zb6 rfl rfl⟩) (l9:=(Zc 19 15)) (by kernel_rfl) (bMR (Zcd mb0) 5 (vQ bp0) rfl hM10 (Zc 19 47) (Zv (Zcd mb0) 6 (vQ bp0) rfl rfl (by kernel_rfl) (hM10 6 rfl) (fun w_=>.inl ⟨rfl,by exact Zas rfl⟩) (l9:=(Zc 19 111)) (by kernel_rfl) (Zv (Zcd mb0) 7 (vQ bp0) rfl rfl (by kernel_rfl) (hM10 7 rfl) (fun w_=>.inl ⟨rfl,by exact Yt 0 ZXc rfl sc66.size rfl rfl⟩) (l9:=(Zc 19 239)) (by kernel_rfl) (Za3 (Zcd mb0) 8 (vQ b0) rfl rfl (by kernel_rfl) (hM11 8 rfl) (fun w_ hB_=>.inl ⟨rfl,by exact Zc3 (vQ b0) ((hC.growC 1 rfl Zbu hB_).getP 6 rfl) sc66 rfl rfl⟩) (l9:=(Zc 19 495)) (by kernel_rfl) (bMR (Zcd mb0) 9 (vQ bp0) rfl hM10 (Zc 19 1007) (bMR (Zcd mb0) 10 (vI a1) rfl hM10 (Zc 19 2031) (bMR (Zcd mb0) 12 (u11) rfl hM10 (Zc 19 6127) (aO 4 rfl ?_)))))))))))
  obtain ⟨ho10,h⟩:=h
  refine Zf [vQ bp0,vI (ZG5.wrap (a1+1))] _ ZXi rfl rfl rfl (Zf2 C a0 (ZG5.wrap (a1+1)) ho10 _ (Yk (hC.getP 2 rfl) (hC.getP 1 rfl)) (hC.getP 5 rfl) (hC.getP 6 rfl) (hC.getM 1 rfl) (fun b_ hb hb2_=>(ZEv.1 hb).elim (fun hb=>hC.pdk 2 1 rfl rfl b_ hb hb2_) (fun hb=>hC.pdk 1 1 rfl rfl b_ hb hb2_)) (fun hx_=>hC.pdk 5 1 rfl rfl _ (ZSl _) hx_) (fun hx_=>hC.pdk 6 1 rfl rfl _ (ZSl _) hx_)) ?_
  rintro _ w12 ⟨b13,D234,F235,rfl,hat242,hle236,hx237,hf10,hB10⟩
  refine rt ?_
  replace hC:=hC.turnI 1 rfl (hB10.belO Zbu) hx237 hf10
  refine done (aK (by first | assumption | exact Zf1 (by assumption)) (Zc 19 6143) (aO 11 rfl ?_))
  obtain ⟨ho11,h⟩:=h
  refine Zf [vQ bp0,vI a1] _ ZXi rfl rfl rfl (Zf2 C a0 a1 ho11 _ (Yk (hC.getP 2 rfl) (hC.getP 1 rfl)) (hC.getP 5 rfl) (hC.getP 6 rfl) (hC.getM 1 rfl) (fun b_ hb hb2_=>(ZEv.1 hb).elim (fun hb=>hC.pdk 2 1 rfl rfl b_ hb hb2_) (fun hb=>hC.pdk 1 1 rfl rfl b_ hb hb2_)) (fun hx_=>hC.pdk 5 1 rfl rfl _ (ZSl _) hx_) (fun hx_=>hC.pdk 6 1 rfl rfl _ (ZSl _) hx_)) ?_
  rintro _ w13 ⟨b14,D246,F247,rfl,hat254,hle248,hx249,hf11,hB11⟩
  refine rt ?_
  replace hC:=hC.turnI 1 rfl (hB11.belO Zbu) hx249 hf11
  refine done (aK (by first | assumption | exact Zf1 (by assumption)) (Zc 19 8191) (aO 13 rfl ?_))
  obtain ⟨u12,u13,u14,u15,u16,u17,hq11,hb10⟩:=Zf0 (hC.getM 1 rfl) hat254
  refine Zf [vvP b14,u11] _ Tryz.func172 rfl rfl rfl (Zz8 (⟨C.LV a1,C.PL a1⟩:ZW6) (a2.getD i10 ZEo) h _ hq11 hb10 (hC.getP 0 rfl)) ?_
  rintro _ w14 ⟨r11,b11,rfl,h,hr11,hf12,hB12⟩
  refine rt ?_
  replace hC:=hC.push hB12 (mapS b11 r11) hr11 (fun b_ hb_=>by obtain rfl:=ZFz.1 hb_; exact hf12)
  refine done (aK (by first | assumption | exact Zf1 (by assumption)) (Zc 19 16383) (aO 14 rfl (Zf [vQ b0,.map (some b11)] _ Tryz.func154 rfl rfl rfl (Znb a0 r11 h _ (Yk (hC.getP 2 rfl) (hC.getP 1 rfl)) (hC.getP 5 rfl) (hC.getM 0 rfl)) ?_)))
  rintro _ w15 ⟨r12,b12,rfl,h,hr12,hf13,hB13⟩
  refine rt ?_
  replace hC:=hC.push hB13 (mapS b12 r12) hr12 (fun b_ hb_=>by obtain rfl:=ZFz.1 hb_; exact hf13)
  refine done (aK (by first | assumption | exact Zf1 (by assumption)) (Zc 19 32767) (aO 15 rfl ?_))
  obtain ⟨u18,u19,u20,u21,u22,u23,hq12,hb11⟩:=Zf0 (hC.getM 3 rfl) (hat242.up hle248)
  refine Zf [vvP b13,.map (some b12)] _ Tryz.func85 rfl rfl rfl (Zry (⟨C.LV (ZG5.wrap (a1+1)),C.PL (ZG5.wrap (a1+1))⟩:ZW6) r12 h _ hq12 hb11 (hC.getM 0 rfl)) ?_
  rintro _ w16 ⟨r10,u10,f11,rfl,h,hr13,hf14,hB14⟩
  refine rt ?_
  replace hC:=hC.push hB14 (ZMy (ZR9 2 (eI.tr)) r10 [u10] f11) hr13 hf14
  obtain ⟨ho12,hf15⟩:=Yv (hC.getM 0 rfl).1
  subst hf15
  replace hC:=hC.recast (c:=own 2 1 u10 r10.length (eI.encs r10)) (fun _ h_=>h_) (fun _=>ho12)
  refine done (aK (by first | assumption | exact Zf1 (by assumption)) (Zc 19 65535) (aO 16 rfl (Ye (sz:=1) hC [(0,u10)] [u10] rfl (fun _=>Zae u10 (Zbc (hC.getM 0 rfl)) _) rfl (by decide) fun b10 w17 hB_ hC=>?_)))
  replace hC:=hC.pushM0 (Z9 (ZR9 2 (eI.tr)) [] [] []) (Jb _ _) rfl
  replace hC:=hC.sM [2,0,1,3,4,5,6] (M':=[own 2 1 u10 r10.length (eI.encs r10),Z9 (ZR9 2 (eI.tr)) [] [] [],own 22 1 (.slice (some ⟨b10,0,none⟩) 1 1) 1 [u10],mapS b12 r12,mapS b11 r11,ZMy (ZR9 22 (ZR9 2 (eI.tr))) s10 [v10] f10,cpx C 125 mb0 D246 F247]) (by decide) rfl
  replace hC:=hC.gather (c:=Z9 (ZR9 2 (eI.tr)) [r10] [u10] [(ZNg (ZFi u10))]) (fun x_ hx_=>Zbo hx_) (fun h1_ h2_ hd_=>Zbb (c:=[u10]) (id (Xf h1_)) h2_ hd_)
  replace hC:=hC.sM [1,0,2,3,4,5] (M':=[own 22 1 (.slice (some ⟨b10,0,none⟩) 1 1) 1 [u10],Z9 (ZR9 2 (eI.tr)) [r10] [u10] [(ZNg (ZFi u10))],mapS b12 r12,mapS b11 r11,ZMy (ZR9 22 (ZR9 2 (eI.tr))) s10 [v10] f10,cpx C 125 mb0 D246 F247]) (by decide) rfl
  replace hC:=hC.gather (c:=ZMy (ZR9 22 (ZR9 2 (eI.tr))) [r10] [.slice (some ⟨b10,0,none⟩) 1 1] ((ZNg (ZFi (.slice (some ⟨b10,0,none⟩) 1 1)))++([(ZNg (ZFi u10))]:List (List Nat)).flatten)) (fun x_ hx_=>ZEv.1 hx_) (fun h1_ h2_ hd_=>X1 h1_ h2_ hd_)
  refine done (aK (by first | assumption | exact Zf1 (by assumption)) (Zc 19 131071) (Z6 17 (by decide) (by decide) (by kernel_rfl) (by kernel_rfl) rfl ?_))
  replace hC:=hC.sM [3,0,1,2,4] (M':=[ZMy (ZR9 22 (ZR9 2 (eI.tr))) s10 [v10] f10,ZMy (ZR9 22 (ZR9 2 (eI.tr))) [r10] [.slice (some ⟨b10,0,none⟩) 1 1] ((ZNg (ZFi (.slice (some ⟨b10,0,none⟩) 1 1)))++([(ZNg (ZFi u10))]:List (List Nat)).flatten),mapS b12 r12,mapS b11 r11,cpx C 125 mb0 D246 F247]) (by decide) rfl
  obtain ⟨hm10,h⟩:=h
  refine Za4 hC ZXe Jz rfl (by decide) (by decide) rfl rfl hm10 fun v11 f12 w18 hC=>Zd (v:=v11) rfl (done (Z7 (Zr (Ze (Zh (Zq rfl rfl (Za (v:=vI (ZG5.wrap ((i10:Int)+1))) rfl (done ?_))))))))
  exact hK10 (s10++[r10]) _ _ ⟨D246,F247,v11,f12,(sl ⟨rfl,rfl,rfl,rfl,rfl,(tr rfl (congrArg _ (Z2 hi10 hN10))),trivial⟩),((hq10.trans hle236).trans hle248),((hC.xM [0,3] rfl).sP [1,2,3,4,5,6] rfl)⟩ h
 ·clear hC h
  rintro s10 e_ w19 K10 ⟨D209,F210,v10,f10,hS_,hq10,hC⟩ h
  rw [ue hS_]
  refine sr (Zn rfl rfl (dn (ZMh (Z1 rfl (decide_eq_false (by omega)) ?_))))
  refine ZMv (Zj (Zj (Zx ?_)))
  refine Ze (sr (Za (v:=v10) rfl (Zd (v:=v10) rfl (dn (ZMp ?_)))))
  exact Zi rfl (Zg rfl) ⟨s10,v10,f10,D209,F210,rfl,h,(hC.getM 0 rfl),(hC.anyX 0 rfl),(hC.mm 0 1 rfl rfl (by decide)),hq10,(hC.getM 1 rfl),(fun x_ hx_=>(hC.anyX 1 rfl x_ hx_).symm),hC.belO⟩ (.inl rfl)
 ·skip
  exact⟨D0,F0,.slice (some ⟨b8,0,none⟩) 0 0,((ZNg (ZFi (.slice (some ⟨b8,0,none⟩) 0 0)))++([]:List (List Nat)).flatten),(slq rfl),(CpLe.refl _ _),hC⟩
def Zi1 (C:Cx) (a0:Alg) (a1:Int) (a2:Int) (a3:Int) (K:Int→Prop):Prop :=
 (if a1=0 then(Zce C a0.degrees a3∧Zd2 (⟨C.LV a3,C.PL a3⟩:ZW6) a2 (fun r11=>Ze5 r11 (fun r14=>Zd2 (⟨C.LV a3,C.PL a3⟩:ZW6) (ZG5.wrap (a2+1)) (fun r12=>Ze5 r12 (fun r15=>K (ZG5.wrap (r14 - r15))))))) else Zdh C a0 (ZG5.wrap (a1 - 1)) (ZG5.wrap (a2+1)) a3 (fun r10=>(if a3 > 0 then Zdh C a0 (ZG5.wrap (a1 - 1)) (ZG5.wrap ((ZG5.wrap (a2 - a1))+1)) (ZG5.wrap (a3 - 1)) (fun r16=>Zi0 C a0 (ZG5.wrap (a3 - 1)) r16 (fun r13=>(Zy (r10.length+r13.length) 24∧Zdh C a0 a1 a2 a3 (fun r17=>Ze4 (r10++r13) (fun r18=>K (ZG5.wrap ((r17.length:Int) - r18))))))) else Zdh C a0 a1 a2 a3 (fun r19=>Ze4 r10 (fun r20=>K (ZG5.wrap ((r19.length:Int) - r20)))))))
theorem ZBk (C:Cx) (a0:Alg) (a1:Int) (a2:Int) (a3:Int)  {K:Int→Prop} (h:Zi1 C a0 a1 a2 a3 K) (w0:World) (q0:TAlg.rep a0 [u0_0,u0_1] fp0 w0) (qb0:(blk b0 32 [u0_0,u0_1]).holds w0) (qbp0:(blk bp0 198 [vQ b0,.map (some mb0)]).holds w0) (qx0:(cpx C 125 mb0 D0 F0).holds w0) (dq0:∀ b,b∈fp0→b∉(cpx C 125 mb0 D0 F0).fp) (db0:b0∉(cpx C 125 mb0 D0 F0).fp) (dbp0:bp0∉(cpx C 125 mb0 D0 F0).fp) :
  Calls ZMk 64 #[vQ bp0,vI a1,vI a2,vI a3] w0 fun e w'=>∃ (r0:Int) (Dz:List Lev) (Fz:List Nat),
   e=.returned (vI r0)∧K r0∧CpLe D0 Dz F0 Fz∧(cpx C 125 mb0 Dz Fz).holds w'∧(∀ x,x∈(cpx C 125 mb0 Dz Fz).fp→x∈(cpx C 125 mb0 D0 F0).fp∨w0.heap.size≤x)∧BelO ((cpx C 125 mb0 D0 F0).fp) w0 w':=by
 unfold Zi1 at h
 refine cof Tryz.func64 rfl 60 Tryz.ntmps64 ?_
 have hC:=ZZ2 w0 ((cpx C 125 mb0 D0 F0).fp) [cpx C 125 mb0 D0 F0] [ZMg TAlg a0 [u0_0,u0_1] fp0,blk b0 32 [u0_0,u0_1],blk bp0 198 [vQ b0,.map (some mb0)]] (al1 qx0) (alc q0 (alc qb0 (al1 qbp0))) (al1 (fun b_ hb_=>hb_)) (ZS2 _ _) (alc (fun b_ hb_=>dq0 b_ hb_) (alc (Zbp db0) (al1 (Zbp dbp0))))
 replace hC:=hC.dAlg 0 rfl
 refine sr (Zd (v:=vI 0) rfl (dn (ZMh (sr (Za (v:=vI a1) rfl (Xx rfl rfl (dn ?_)))))))
 refine Zs rfl (fun hb7=>?_) (fun hb7=>?_)
 ·replace h:=ift h (ct hb7)
  refine sr (Za (v:=vQ bp0) rfl (Za (v:=vI a3) rfl ?_))
  obtain ⟨ho10,h⟩:=h
  refine Zf [vQ bp0,vI a3] _ ZXi rfl rfl rfl (Zf2 C a0 a3 ho10 _ (Yk (hC.getP 1 rfl) (hC.getP 0 rfl)) (hC.getP 3 rfl) (hC.getP 4 rfl) (hC.getM 0 rfl) (fun b_ hb hb2_=>(ZEv.1 hb).elim (fun hb=>hC.pdk 1 0 rfl rfl b_ hb hb2_) (fun hb=>hC.pdk 0 0 rfl rfl b_ hb hb2_)) (fun hx_=>hC.pdk 3 0 rfl rfl _ (ZSl _) hx_) (fun hx_=>hC.pdk 4 0 rfl rfl _ (ZSl _) hx_)) ?_
  rintro _ w10 ⟨b10,D11,F12,rfl,hat19,hle13,hx14,hf10,hB10⟩
  refine rt ?_
  replace hC:=hC.turnI 0 rfl (hB10.belO Zbu) hx14 hf10
  refine Zd (v:=vvP b10) rfl (dn (sr (Za (v:=vvP b10) rfl (Za (v:=vI a2) rfl ?_))))
  obtain ⟨u15,u16,u17,u18,u19,u20,hq10,hb11⟩:=Zf0 (hC.getM 0 rfl) hat19
  refine Zf [vvP b10,vI a2] _ ZZ7 rfl rfl rfl (Zk7 (⟨C.LV a3,C.PL a3⟩:ZW6) a2 h _ hq10 hb11) ?_
  rintro _ w11 ⟨r11,u11,f10,rfl,h,hr10,hf11,hB11⟩
  refine rt ?_
  replace hC:=hC.push hB11 (ZMy (ZR9 4 EB.tr) r11 [u11] f10) hr10 hf11
  obtain ⟨ho11,hf12⟩:=Yv (hC.getM 0 rfl).1
  subst hf12
  replace hC:=hC.recast (c:=own 4 1 u11 r11.length (EB.encs r11)) (fun _ h_=>h_) (fun _=>ho11)
  refine Zf [u11] _ Z0h rfl rfl rfl (Zr9 r11 h _ (Ym (hC.getM 0 rfl))) ?_
  rintro _ w12 ⟨r14,rfl,h,hB12⟩
  refine rt ?_
  replace hC:=hC.grow hB12
  refine Za (v:=vvP b10) rfl (Za (v:=vI a2) rfl (Zq rfl rfl ?_))
  obtain ⟨u21,u22,u23,u24,u25,u26,hq11,hb12⟩:=Zf0 (hC.getM 1 rfl) hat19
  refine Zf [vvP b10,vI (ZG5.wrap (a2+1))] _ ZZ7 rfl rfl rfl (Zk7 (⟨C.LV a3,C.PL a3⟩:ZW6) (ZG5.wrap (a2+1)) h _ hq11 hb12) ?_
  rintro _ w13 ⟨r12,u12,f11,rfl,h,hr11,hf13,hB13⟩
  refine rt ?_
  replace hC:=hC.push hB13 (ZMy (ZR9 4 EB.tr) r12 [u12] f11) hr11 hf13
  obtain ⟨ho12,hf14⟩:=Yv (hC.getM 0 rfl).1
  subst hf14
  replace hC:=hC.recast (c:=own 4 1 u12 r12.length (EB.encs r12)) (fun _ h_=>h_) (fun _=>ho12)
  refine Zf [u12] _ Z0h rfl rfl rfl (Zr9 r12 h _ (Ym (hC.getM 0 rfl))) ?_
  rintro _ w14 ⟨r15,rfl,h,hB14⟩
  refine rt ?_
  replace hC:=hC.grow hB14
  refine X3 rfl rfl (Zd (v:=vI (ZG5.wrap (r14 - r15))) rfl (dn ?_))
  refine ZMp (Zm ?_)
  exact Zi rfl (Zg rfl) ⟨ZG5.wrap (r14 - r15),D11,F12,rfl,h,hle13,(hC.getM 2 rfl),(fun x_ hx_=>(hC.anyX 2 rfl x_ hx_).symm),hC.belO⟩ (.inl rfl)
 ·replace h:=Zk h (cf hb7)
  refine ZMl (Ze (sr (Za (v:=vQ bp0) rfl (Za (v:=vI a1) rfl (X3 rfl rfl (Za (v:=vI a2) rfl (Zq rfl rfl (Za (v:=vI a3) rfl (Zf [vQ bp0,vI (ZG5.wrap (a1 - 1)),vI (ZG5.wrap (a2+1)),vI a3] _ ZZ4 rfl rfl rfl (Zlj C a0 (ZG5.wrap (a1 - 1)) (ZG5.wrap (a2+1)) a3 h _ (Yk (hC.getP 1 rfl) (hC.getP 0 rfl)) (hC.getP 3 rfl) (hC.getP 4 rfl) (hC.getM 0 rfl) (fun b_ hb hb2_=>(ZEv.1 hb).elim (fun hb=>hC.pdk 1 0 rfl rfl b_ hb hb2_) (fun hb=>hC.pdk 0 0 rfl rfl b_ hb hb2_)) (fun hx_=>hC.pdk 3 0 rfl rfl _ (ZSl _) hx_) (fun hx_=>hC.pdk 4 0 rfl rfl _ (ZSl _) hx_)) ?_)))))))))
  rintro _ w15 ⟨r10,u10,f12,D75,F76,rfl,h,hr12,hfr85,hd10,hle77,hx78,hf15,hB15⟩
  refine rt ?_
  replace hC:=hC.turnPush 0 rfl hB15 hx78 hf15 hr12 (fun b_ hb_=>(hfr85 b_ hb_).symm) hd10
  refine Zd (v:=u10) rfl (dn (ZMh (sr (Za (v:=vI a3) rfl (Jh rfl rfl (dn ?_))))))
  refine Zs rfl (fun hb10=>?_) (fun hb10=>?_)
  ·replace h:=ift h (ct hb10)
   refine Zh (Za (v:=u10) rfl (Za (v:=vQ bp0) rfl (Za (v:=vI a3) rfl (X3 rfl rfl (Za (v:=vQ bp0) rfl (Za (v:=vI a1) rfl (X3 rfl rfl (Za (v:=vI a2) rfl (Za (v:=vI a1) rfl (X3 rfl rfl (Zq rfl rfl (Za (v:=vI a3) rfl (X3 rfl rfl (Zf [vQ bp0,vI (ZG5.wrap (a1 - 1)),vI (ZG5.wrap ((ZG5.wrap (a2 - a1))+1)),vI (ZG5.wrap (a3 - 1))] _ ZZ4 rfl rfl rfl (Zlj C a0 (ZG5.wrap (a1 - 1)) (ZG5.wrap ((ZG5.wrap (a2 - a1))+1)) (ZG5.wrap (a3 - 1)) h _ (Yk (hC.getP 1 rfl) (hC.getP 0 rfl)) (hC.getP 3 rfl) (hC.getP 4 rfl) (hC.getM 1 rfl) (fun b_ hb hb2_=>(ZEv.1 hb).elim (fun hb=>hC.pdk 1 1 rfl rfl b_ hb hb2_) (fun hb=>hC.pdk 0 1 rfl rfl b_ hb hb2_)) (fun hx_=>hC.pdk 3 1 rfl rfl _ (ZSl _) hx_) (fun hx_=>hC.pdk 4 1 rfl rfl _ (ZSl _) hx_)) ?_))))))))))))))
   rintro _ w16 ⟨r16,u13,f13,D92,F93,rfl,h,hr13,hfr102,hd11,hle94,hx95,hf16,hB16⟩
   refine rt ?_
   replace hC:=hC.turnPush 1 rfl hB16 hx95 hf16 hr13 (fun b_ hb_=>(hfr102 b_ hb_).symm) hd11
   refine Zf [vQ bp0,vI (ZG5.wrap (a3 - 1)),u13] _ Tryz.func118 rfl rfl rfl (ZBj C a0 (ZG5.wrap (a3 - 1)) r16 h _ (Yk (hC.getP 1 rfl) (hC.getP 0 rfl)) (hC.getP 3 rfl) (hC.getP 4 rfl) (hC.getM 2 rfl) (fun b_ hb hb2_=>(ZEv.1 hb).elim (fun hb=>hC.pdk 1 2 rfl rfl b_ hb hb2_) (fun hb=>hC.pdk 0 2 rfl rfl b_ hb hb2_)) (fun hx_=>hC.pdk 3 2 rfl rfl _ (ZSl _) hx_) (fun hx_=>hC.pdk 4 2 rfl rfl _ (ZSl _) hx_) (ZYd _ (hC.getM 0 rfl).1) (fun b_ hb hb2_=>hC.mm 0 2 rfl rfl (by decide) b_ hb hb2_)) ?_
   rintro _ w17 ⟨r13,u14,f14,D108,F109,rfl,h,hr14,hfr118,hd12,hle110,hx111,hf17,hB17⟩
   refine rt ?_
   replace hC:=hC.turnPush 2 rfl hB17 hx111 hf17 hr14 (fun b_ hb_=>(hfr118 b_ hb_).symm) hd12
   replace hC:=hC.sM [2,0,1,3] (M':=[ZMy (ZR9 22 (ZR9 2 (eI.tr))) r10 [u10] f12,ZMy (ZR9 22 (ZR9 2 (eI.tr))) r13 [u14] f14,ZMy (ZR9 22 (ZR9 2 (eI.tr))) r16 [u13] f13,cpx C 125 mb0 D108 F109]) (by decide) rfl
   obtain ⟨hm10,h⟩:=h
   refine Za4 hC ZXe Jz rfl (by decide) (by decide) rfl rfl hm10 fun v10 f15 w18 hC=>Zd (v:=v10) rfl (dn (sr (Za (v:=vQ bp0) rfl (Za (v:=vI a1) rfl (Za (v:=vI a2) rfl (Za (v:=vI a3) rfl (Zf [vQ bp0,vI a1,vI a2,vI a3] _ ZZ4 rfl rfl rfl (Zlj C a0 a1 a2 a3 h _ (Yk (hC.getP 1 rfl) (hC.getP 0 rfl)) (hC.getP 3 rfl) (hC.getP 4 rfl) (hC.getM 2 rfl) (fun b_ hb hb2_=>(ZEv.1 hb).elim (fun hb=>hC.pdk 1 2 rfl rfl b_ hb hb2_) (fun hb=>hC.pdk 0 2 rfl rfl b_ hb hb2_)) (fun hx_=>hC.pdk 3 2 rfl rfl _ (ZSl _) hx_) (fun hx_=>hC.pdk 4 2 rfl rfl _ (ZSl _) hx_)) ?_)))))))
   rintro _ w19 ⟨r17,u27,f16,D128,F129,rfl,h,hr15,hfr138,hd13,hle130,hx131,hf18,hB18⟩
   refine rt ?_
   replace hC:=hC.turnPush 2 rfl hB18 hx131 hf18 hr15 (fun b_ hb_=>(hfr138 b_ hb_).symm) hd13
   refine Zdq hC 0 rfl ZXe rfl (Za (v:=v10) rfl (Zf [v10] _ Tryz.func57 rfl rfl rfl (Zr8 (r10++r13) h _ (ZYd _ (hC.getM 1 rfl).1)) ?_))
   rintro _ w20 ⟨r18,rfl,h,hB19⟩
   refine rt ?_
   replace hC:=hC.grow hB19
   refine X3 rfl rfl (Zd (v:=vI (ZG5.wrap ((r17.length:Int) - r18))) rfl (dn (ZMp ?_)))
   exact Zi rfl (Zg rfl) ⟨ZG5.wrap ((r17.length:Int) - r18),D128,F129,rfl,h,(((hle77.trans hle94).trans hle110).trans hle130),(hC.getM 3 rfl),(fun x_ hx_=>(hC.anyX 3 rfl x_ hx_).symm),hC.belO⟩ (.inl rfl)
  ·replace h:=Zk h (cf hb10)
   refine ZMl (Ze (sr (Za (v:=vQ bp0) rfl (Za (v:=vI a1) rfl (Za (v:=vI a2) rfl (Za (v:=vI a3) rfl (Zf [vQ bp0,vI a1,vI a2,vI a3] _ ZZ4 rfl rfl rfl (Zlj C a0 a1 a2 a3 h _ (Yk (hC.getP 1 rfl) (hC.getP 0 rfl)) (hC.getP 3 rfl) (hC.getP 4 rfl) (hC.getM 1 rfl) (fun b_ hb hb2_=>(ZEv.1 hb).elim (fun hb=>hC.pdk 1 1 rfl rfl b_ hb hb2_) (fun hb=>hC.pdk 0 1 rfl rfl b_ hb hb2_)) (fun hx_=>hC.pdk 3 1 rfl rfl _ (ZSl _) hx_) (fun hx_=>hC.pdk 4 1 rfl rfl _ (ZSl _) hx_)) ?_)))))))
   rintro _ w21 ⟨r19,u28,f17,D152,F153,rfl,h,hr16,hfr162,hd14,hle154,hx155,hf19,hB20⟩
   refine rt ?_
   replace hC:=hC.turnPush 1 rfl hB20 hx155 hf19 hr16 (fun b_ hb_=>(hfr162 b_ hb_).symm) hd14
   refine Zdq hC 0 rfl ZXe rfl (Za (v:=u10) rfl (Zf [u10] _ Tryz.func57 rfl rfl rfl (Zr8 r10 h _ (ZYd _ (hC.getM 1 rfl).1)) ?_))
   rintro _ w22 ⟨r20,rfl,h,hB21⟩
   refine rt ?_
   replace hC:=hC.grow hB21
   refine X3 rfl rfl (Zd (v:=vI (ZG5.wrap ((r19.length:Int) - r20))) rfl (dn (ZMp ?_)))
   exact Zi rfl (Zg rfl) ⟨ZG5.wrap ((r19.length:Int) - r20),D152,F153,rfl,h,(hle77.trans hle154),(hC.getM 2 rfl),(fun x_ hx_=>(hC.anyX 2 rfl x_ hx_).symm),hC.belO⟩ (.inl rfl)
def Zi2 (C:Cx) (a0:Alg) (a1:Int) (K:Int→Prop):Prop :=
 (Zce C a0.degrees a1∧Z8 (fun i10 (s10:Int) nx10=>Zex ((C.LV a1).getD i10 ZEo) (fun r10=>nx10 (if s10 < r10 then r10 else s10))) (fun (s10:Int)=>K s10) ((C.LV a1).length) 0 0)
theorem ZBl (C:Cx) (a0:Alg) (a1:Int)  {K:Int→Prop} (h:Zi2 C a0 a1 K) (w0:World) (q0:TAlg.rep a0 [u0_0,u0_1] fp0 w0) (qb0:(blk b0 32 [u0_0,u0_1]).holds w0) (qbp0:(blk bp0 198 [vQ b0,.map (some mb0)]).holds w0) (qx0:(cpx C 125 mb0 D0 F0).holds w0) (dq0:∀ b,b∈fp0→b∉(cpx C 125 mb0 D0 F0).fp) (db0:b0∉(cpx C 125 mb0 D0 F0).fp) (dbp0:bp0∉(cpx C 125 mb0 D0 F0).fp) :
  Calls ZMk 80 #[vQ bp0,vI a1] w0 fun e w'=>∃ (r0:Int) (Dz:List Lev) (Fz:List Nat),
   e=.returned (vI r0)∧K r0∧CpLe D0 Dz F0 Fz∧(cpx C 125 mb0 Dz Fz).holds w'∧(∀ x,x∈(cpx C 125 mb0 Dz Fz).fp→x∈(cpx C 125 mb0 D0 F0).fp∨w0.heap.size≤x)∧BelO ((cpx C 125 mb0 D0 F0).fp) w0 w':=by
 unfold Zi2 at h
 refine cof Tryz.func80 rfl 25 Tryz.ntmps80 ?_
 have hC:=ZZ2 w0 ((cpx C 125 mb0 D0 F0).fp) [cpx C 125 mb0 D0 F0] [ZMg TAlg a0 [u0_0,u0_1] fp0,blk b0 32 [u0_0,u0_1],blk bp0 198 [vQ b0,.map (some mb0)]] (al1 qx0) (alc q0 (alc qb0 (al1 qbp0))) (al1 (fun b_ hb_=>hb_)) (ZS2 _ _) (alc (fun b_ hb_=>dq0 b_ hb_) (alc (Zbp db0) (al1 (Zbp dbp0))))
 replace hC:=hC.dAlg 0 rfl
 refine sr (Zd (v:=vI 0) rfl (dn (sr (Zd (v:=vI 0) rfl (dn (ZMh (sr (Za (v:=vQ bp0) rfl (Za (v:=vI a1) rfl ?_)))))))))
 obtain ⟨ho10,h⟩:=h
 refine Zf [vQ bp0,vI a1] _ ZXi rfl rfl rfl (Zf2 C a0 a1 ho10 _ (Yk (hC.getP 1 rfl) (hC.getP 0 rfl)) (hC.getP 3 rfl) (hC.getP 4 rfl) (hC.getM 0 rfl) (fun b_ hb hb2_=>(ZEv.1 hb).elim (fun hb=>hC.pdk 1 0 rfl rfl b_ hb hb2_) (fun hb=>hC.pdk 0 0 rfl rfl b_ hb hb2_)) (fun hx_=>hC.pdk 3 0 rfl rfl _ (ZSl _) hx_) (fun hx_=>hC.pdk 4 0 rfl rfl _ (ZSl _) hx_)) ?_
 rintro _ w9 ⟨b10,D10,F11,rfl,hat18,hle12,hx13,hf10,hB10⟩
 refine rt ?_
 replace hC:=hC.turnI 0 rfl (hB10.belO Zbu) hx13 hf10
 refine Xy rfl (Z0 0 ZW4 rfl sc122.size rfl rfl ?_)
 have hz19:=hC.anyX 0 rfl
 replace hC:=hC.thaw 0 rfl (cpx C 125 mb0 D10 F11) id (fun _ hb_=>hb_)
 obtain ⟨u10,u11,u12,u13,u14,u15,hb10,hr10,hr12,hr13⟩:=Zn9 (hC.getP 0 rfl) hat18
 have hr11:=hr10
 refine Yp (u10) (Zaw (off:=0) (sz:=1) hb10 rfl) sc122 rfl ?_
 replace hC:=hC.derive 0 rfl (ZMg ((EA .i64).ty.sl) (C.LV a1) [u10] F11) (fun _=>hr11) (fun _ h_=>Zid h_)
 refine Zu hC 0 rfl ZW3 rfl (Za (v:=vI 0) rfl (dn (ZMn ?_)))
 have hN10:(C.LV a1).length≤9223372036854775807:=Yw (hC.getP 0 rfl)
 refine Yi (S:=Int) _ _ (fun i10 s10 e_ w_=>Zt e_ [(5,vI s10),(13,u10),(14,vI ((C.LV a1).length:Int)),(15,vI (i10:Int))]∧Ctx (fun c_=>c_∈(cpx C 125 mb0 D0 F0).fp) w0 w_ [] [ZMg ((EA .i64).ty.sl) (C.LV a1) [u10] F11,cpx C 125 mb0 D10 F11,ZMg TForm.sl a0.images [u0_1] fp0,ZMg TInts a0.degrees [u0_0] fp0,ZMg TAlg a0 [u0_0,u0_1] fp0,blk b0 32 [u0_0,u0_1],blk bp0 198 [vQ b0,.map (some mb0)]]) ((C.LV a1).length) ?_ ?_ (s0:=0) ?_ h
 ·clear hC h
  rintro i10 s10 e_ w10 nx10 K10 hi10 ⟨hS_,hC⟩ h hK10
  rw [ue hS_]
  refine sr (Zn rfl rfl (dn (ZMh (Z5 rfl (decide_eq_true (by omega)) (ZMl (Ze (ZMh (ZMn (sr ?_)))))))))
  obtain ⟨Ad10,c10,hv10⟩:=Zw (hC.getP 0 rfl) i10 hi10
  refine Yn (len:=(C.LV a1).length) ZW3 ag73.size (tr rfl hv10) rfl (ZMx _) (ZNf.2 hi10) (Jd (ZMe .i64 ((C.LV a1).getD i10 ZEo)) (Yd (hC.getP 0 rfl) hv10 i10 hi10) ag73 rfl rfl (Ys hC (ZMe .i64 ZMm) z73 rfl fun b11 w11 hB_ hC=>Z3 (v:=.agg (ZMf (ZMe .i64 ((C.LV a1).getD i10 ZEo)))) hC 0 (ZMe .i64 ((C.LV a1).getD i10 ZEo)) (ZMe .i64 ((C.LV a1).getD i10 ZEo)) rfl ag73.size rfl rfl rfl rfl rfl (ZMq rfl) rfl fun w12 hC=>dn (Zh (Za (v:=vI s10) rfl (Yq hC 0 (ZMe .i64 ((C.LV a1).getD i10 ZEo)) rfl ag73 rfl rfl rfl (Zf [.agg (ZMf (ZMe .i64 ((C.LV a1).getD i10 ZEo)))] _ Tryz.func137 rfl rfl rfl (Zrx ((C.LV a1).getD i10 ZEo) h _) ?_))))))
  rintro _ w13 ⟨r10,rfl,h,hB11⟩
  refine rt ?_
  replace hC:=hC.grow hB11
  refine Zn1 rfl rfl (Zd (v:=vI (if s10 < r10 then r10 else s10)) rfl (done (Zr (Ze (Zh (Zq rfl rfl (Za (v:=vI (ZG5.wrap ((i10:Int)+1))) rfl (done ?_))))))))
  exact hK10 (if s10 < r10 then r10 else s10) _ _ ⟨(sl ⟨rfl,rfl,rfl,(tr rfl (congrArg _ (Z2 hi10 hN10))),trivial⟩),(hC.xM [] rfl)⟩ h
 ·clear hC h
  rintro s10 e_ w14 K10 ⟨hS_,hC⟩ h
  rw [ue hS_]
  refine sr (Zn rfl rfl (dn (ZMh (Z1 rfl (decide_eq_false (by omega)) ?_))))
  refine ZMv (Zj (Zj (Zx ?_)))
  refine Ze (sr (Za (v:=vI s10) rfl (Zd (v:=vI s10) rfl (dn (ZMp ?_)))))
  exact Zi rfl (Zg rfl) ⟨s10,D10,F11,rfl,h,hle12,(hC.getP 1 rfl),(fun x_ hx_=>(hz19 x_ hx_).symm),hC.belO⟩ (.inl rfl)
 ·skip
  exact⟨(slq rfl),hC⟩
def Zgc (C:Cx) (a0:Alg) (a1:Int) (a2:Int) (K:List Int→Prop):Prop :=
 Zi2 C a0 a2 (fun r11=>Xt (fun (s10:(List Int)×Int) nx10=>(if s10.2 < ZG5.wrap (r11+1) then Zi1 C a0 a1 s10.2 a2 (fun r10=>(Zy (s10.1.length+1) 8∧nx10 (s10.1++[r10],ZG5.wrap (s10.2+1)))) else K s10.1)) ([],0))
theorem Zsa (C:Cx) (a0:Alg) (a1:Int) (a2:Int)  {K:List Int→Prop} (h:Zgc C a0 a1 a2 K) (w0:World) (q0:TAlg.rep a0 [u0_0,u0_1] fp0 w0) (qb0:(blk b0 32 [u0_0,u0_1]).holds w0) (qbp0:(blk bp0 198 [vQ b0,.map (some mb0)]).holds w0) (qx0:(cpx C 125 mb0 D0 F0).holds w0) (dq0:∀ b,b∈fp0→b∉(cpx C 125 mb0 D0 F0).fp) (db0:b0∉(cpx C 125 mb0 D0 F0).fp) (dbp0:bp0∉(cpx C 125 mb0 D0 F0).fp) :
  Calls ZMk 66 #[vQ bp0,vI a1,vI a2] w0 fun e w'=>∃ (r0:List Int) (z0_0:Value) (fz0:List Nat) (Dz:List Lev) (Fz:List Nat),
   e=.returned (z0_0)∧K r0∧(ZMy (ZR9 2 (eI.tr)) r0 [z0_0] fz0).holds w'∧(∀ b,b∈fz0→w0.heap.size≤b∨b∈(cpx C 125 mb0 D0 F0).fp)∧(∀ b,b∈fz0→b∉(cpx C 125 mb0 Dz Fz).fp)∧CpLe D0 Dz F0 Fz∧(cpx C 125 mb0 Dz Fz).holds w'∧(∀ x,x∈(cpx C 125 mb0 Dz Fz).fp→x∈(cpx C 125 mb0 D0 F0).fp∨w0.heap.size≤x)∧BelO ((cpx C 125 mb0 D0 F0).fp) w0 w':=by
 unfold Zgc at h
 refine cof Tryz.func66 rfl 27 Tryz.ntmps66 ?_
 have hC:=ZZ2 w0 ((cpx C 125 mb0 D0 F0).fp) [cpx C 125 mb0 D0 F0] [ZMg TAlg a0 [u0_0,u0_1] fp0,blk b0 32 [u0_0,u0_1],blk bp0 198 [vQ b0,.map (some mb0)]] (al1 qx0) (alc q0 (alc qb0 (al1 qbp0))) (al1 (fun b_ hb_=>hb_)) (ZS2 _ _) (alc (fun b_ hb_=>dq0 b_ hb_) (alc (Zbp db0) (al1 (Zbp dbp0))))
 replace hC:=hC.dAlg 0 rfl
 refine sr (Zd (v:=.slice none 0 0) rfl (dn (sr (Ye (sz:=1) hC [] (eI.encs []) rfl (fun _=>Zcf  _) rfl (by decide) fun b7 w8 hB_ hC=>Zd (v:=.slice (some ⟨b7,0,none⟩) 0 0) rfl (dn (ZMh (sr (Za (v:=vQ bp0) rfl (Za (v:=vI a2) rfl (Zf [vQ bp0,vI a2] _ Tryz.func80 rfl rfl rfl (ZBl C a0 a2 h _ (Yk (hC.getP 1 rfl) (hC.getP 0 rfl)) (hC.getP 3 rfl) (hC.getP 4 rfl) (hC.getM 1 rfl) (fun b_ hb hb2_=>(ZEv.1 hb).elim (fun hb=>hC.pdk 1 1 rfl rfl b_ hb hb2_) (fun hb=>hC.pdk 0 1 rfl rfl b_ hb hb2_)) (fun hx_=>hC.pdk 3 1 rfl rfl _ (ZSl _) hx_) (fun hx_=>hC.pdk 4 1 rfl rfl _ (ZSl _) hx_)) ?_))))))))))
 rintro _ w10 ⟨r11,D13,F14,rfl,h,hle15,hx16,hf10,hB10⟩
 refine rt ?_
 replace hC:=hC.turnI 1 rfl hB10 hx16 hf10
 refine Zq rfl rfl (Za (v:=vI 0) rfl (dn (ZMn ?_)))
 refine Xz (S:=(List Int)×Int) _ (fun s10 e_ w_=>∃ (D61:List Lev),∃ (F62:List Nat),∃ (v10:Value),Zt e_ [(0,vQ bp0),(1,vI a1),(2,vI a2),(7,v10),(13,vI (ZG5.wrap (r11+1))),(14,vI s10.2)]∧CpLe D0 D61 F0 F62∧Ctx (fun c_=>c_∈(cpx C 125 mb0 D0 F0).fp) w0 w_ [own 2 1 v10 s10.1.length (eI.encs s10.1),cpx C 125 mb0 D61 F62] [ZMg TForm.sl a0.images [u0_1] fp0,ZMg TInts a0.degrees [u0_0] fp0,ZMg TAlg a0 [u0_0,u0_1] fp0,blk b0 32 [u0_0,u0_1],blk bp0 198 [vQ b0,.map (some mb0)]]) ?_ (s0:=([],0)) ?_ h
 ·clear hC h
  rintro s10 e_ w11 nx10 K10 ⟨D61,F62,v10,hS_,hq10,hC⟩ h hK10
  rw [ue hS_]
  refine sr (Zn rfl rfl (dn (ZMh ?_)))
  refine Zs rfl (fun hb10=>?_) (fun hb10=>?_)
  ·replace h:=ift h (ct hb10)
   refine ZMl (Ze (ZMh (ZMn (sr (Za (v:=vI s10.2) rfl (Zd (v:=vI s10.2) rfl (dn (Zh (Za (v:=v10) rfl (Za (v:=vQ bp0) rfl (Za (v:=vI a1) rfl (Za (v:=vI s10.2) rfl (Za (v:=vI a2) rfl (Zf [vQ bp0,vI a1,vI s10.2,vI a2] _ Tryz.func64 rfl rfl rfl (ZBk C a0 a1 s10.2 a2 h _ (Yk (hC.getP 1 rfl) (hC.getP 0 rfl)) (hC.getP 3 rfl) (hC.getP 4 rfl) (hC.getM 1 rfl) (fun b_ hb hb2_=>(ZEv.1 hb).elim (fun hb=>hC.pdk 1 1 rfl rfl b_ hb hb2_) (fun hb=>hC.pdk 0 1 rfl rfl b_ hb hb2_)) (fun hx_=>hC.pdk 3 1 rfl rfl _ (ZSl _) hx_) (fun hx_=>hC.pdk 4 1 rfl rfl _ (ZSl _) hx_)) ?_))))))))))))))
   rintro _ w12 ⟨r10,D73,F74,rfl,h,hle75,hx76,hf11,hB11⟩
   refine rt ?_
   replace hC:=hC.turnI 1 rfl hB11 hx76 hf11
   refine Ye (sz:=1) hC [(0,vI r10)] (eI.encs [r10]) rfl (fun _=>Zf3 r10 _) rfl (by decide) fun b10 w13 hB_ hC=>?_
   obtain ⟨hm10,h⟩:=h
   refine Ja hC 1 ZM0 el2 rfl (by decide) (by decide) rfl (Jx (hC.getM 0 rfl)) (fun q hq=>ZNk (E:=eI) _ q hq) rfl rfl hm10 fun v11 w14 hC=>?_
   replace hC:=Yy hC 1 ((s10.1++[r10]).length) (eI.encs (s10.1++[r10])) rfl (by simp) (by first | (simp [ZM9]; done) | simp [ZM9,ZSs])
   refine Zd (v:=v11) rfl (done (Zr (Ze (Zh (Zq rfl rfl (Za (v:=vI (ZG5.wrap (s10.2+1))) rfl (done ?_)))))))
   exact hK10 (s10.1++[r10],ZG5.wrap (s10.2+1)) _ _ ⟨D73,F74,v11,(slq rfl),(hq10.trans hle75),(hC.xM [1,2] rfl)⟩ h
  ·replace h:=Zk h (cf hb10)
   refine ZMv (Zj (Zj (Zx ?_)))
   refine Ze (sr (Za (v:=v10) rfl (Zd (v:=v10) rfl (dn (ZMp ?_)))))
   exact Zi rfl (Zg rfl) ⟨s10.1,v10,(ZNg (ZFi v10)),D61,F62,rfl,h,(Xf (hC.getM 0 rfl)),(hC.anyX 0 rfl),(hC.mm 0 1 rfl rfl (by decide)),hq10,(hC.getM 1 rfl),(fun x_ hx_=>(hC.anyX 1 rfl x_ hx_).symm),hC.belO⟩ (.inl rfl)
 ·skip
  exact⟨D13,F14,.slice (some ⟨b7,0,none⟩) 0 0,(slq rfl),hle15,hC⟩
def Zgd (a0:Alg) (a1:Int) (a2:Int) (K:List Int→Int→Prop):Prop :=
 Zlg a1 (fun r13=>joinP (fun (jn10:Int→Prop)=>(if r13=true then Zlf a2 (fun r14=>Zga a0 r14 (fun r17=>jn10 r17)) else Zga a0 false (fun r18=>jn10 r18))) (fun (x10:Int)=>(if x10=0 then Z8 (fun i10 (s10:Unit) nx10=>Za6 a0.degrees (ZG5.wrap (([a2].getD i10 ZEo) - 1)) 120 (fun r19 r11=>(if¬ (r11=true) then K [] 3 else Za6 a0.degrees ([a2].getD i10 ZEo) 120 (fun r20 r10=>(if¬ (r10=true) then K [] 3 else Za6 a0.degrees (ZG5.wrap (([a2].getD i10 ZEo)+1)) 120 (fun r21 r12=>(if¬ (r12=true) then K [] 3 else nx10 ()))))))) (fun (s10:Unit)=>(∃ (C:Cx),Zgc C a0 a1 a2 (fun r15=>K r15 0))) ([a2].length) 0 () else(if x10≠0 then K [] x10 else(∃ (C:Cx),Zgc C a0 a1 a2 (fun r16=>K r16 0))))))
theorem Zsb (a0:Alg) (a1:Int) (a2:Int)  {K:List Int→Int→Prop} (h:Zgd a0 a1 a2 K) (w0:World) (q0:TAlg.rep a0 [u0_0,u0_1] fp0 w0) :
  Calls ZMk 24 #[.agg #[u0_0,u0_1],vI a1,vI a2] w0 fun e w'=>∃ (r0:List Int) (z0_0:Value) (fz0:List Nat) (r1:Int),
   e=.returned (.tuple #[z0_0,vI r1])∧K r0 r1∧(ZMy (ZR9 2 (eI.tr)) r0 [z0_0] fz0).holds w'∧(∀ b,b∈fz0→w0.heap.size≤b)∧Bel w0 w':=by
 unfold Zgd at h
 refine cof Tryz.func24 rfl 24 Tryz.ntmps24 ?_
 have hC:=ZM2 (X:=Nox) w0 [ZMg TAlg a0 [u0_0,u0_1] fp0] (al1 q0)
 replace hC:=hC.dAlg 0 rfl
 refine sr (Yg (v:=.agg #[u0_0,u0_1]) hC [u0_0,u0_1] rfl rfl fun b4 w6 hB_ hC=>Zd (v:=.slice none 0 0) rfl (Zd (v:=vI 0) rfl (dn (sr (Za (v:=vI a2) rfl (Za (v:=vI a1) rfl (Zf [vI a1] _ Tryz.func63 rfl rfl rfl (ZA9 a1 h _) ?_)))))))
 rintro _ w9 ⟨r13,rfl,h,hB10⟩
 refine rt ?_
 replace hC:=hC.grow hB10
 refine Zfz [vQ b4,vI a2,.bool r13] Tryz.func62 rfl rfl 27 Tryz.ntmps62 (ZMq rfl) rfl (sr (Zd (v:=.pointer none) rfl (Zd (v:=vI 0) rfl (dn (ZMh ?_)))))
 obtain ⟨jn10,hj10,h⟩:=Zjn h
 refine Zjx (fun e_ w_=>∃ (x10:Int),Zt e_ [(0,vQ b4),(1,vI a2),(8,vI x10)]∧Ctx Nox w0 w_ [blk b4 32 [u0_0,u0_1]] [ZMg TForm.sl a0.images [u0_1] fp0,ZMg TInts a0.degrees [u0_0] fp0,ZMg TAlg a0 [u0_0,u0_1] fp0]∧jn10 x10) ?_ ?_
 ·skip
  refine Zh (Za (v:=vQ b4) rfl (Za (v:=.bool r13) rfl (Za (v:=.bool r13) rfl ?_)))
  refine Y7 r13 (fun hb12=>?_) (fun hb12=>?_)
  ·replace h:=ift h (hb12)
   refine Zp 2 12 rfl rfl hb12 (Za (v:=vI a2) rfl (Zp 2 12 rfl rfl hb12 (Zf [vI a2] _ Tryz.func112 rfl rfl rfl (ZA8 a2 h _) ?_)))
   rintro _ w10 ⟨r14,rfl,h,hB11⟩
   refine rt ?_
   replace hC:=hC.grow hB11
   refine Z4 (v:=.bool r14) (b:=true) (tr rfl (congrArg _ hb12)) rfl (Zf [vQ b4,.bool r14] _ Tryz.func75 rfl rfl rfl (Zr7 a0 r14 h _ (Yk (hC.getP 1 rfl) (hC.getP 0 rfl)) (hC.getM 0 rfl)) ?_)
   rintro _ w11 ⟨r17,rfl,h,hB12⟩
   refine rt ?_
   replace hC:=hC.grow hB12
   refine Zd (v:=vI r17) rfl (done ?_)
   exact⟨rfl,_,rfl,r17,(slq rfl),hC,h⟩
  ·replace h:=Zk h (Y4 hb12)
   refine Zl (b:=false) 2 12 rfl (tr rfl (congrArg _ hb12)) (by decide) (Zl (b:=false) 2 12 rfl (tr rfl (congrArg _ hb12)) (by decide) (Z4 (v:=.bool false) (b:=false) (tr rfl (congrArg _ hb12)) rfl (Zf [vQ b4,.bool false] _ Tryz.func75 rfl rfl rfl (Zr7 a0 false h _ (Yk (hC.getP 1 rfl) (hC.getP 0 rfl)) (hC.getM 0 rfl)) ?_)))
   rintro _ w12 ⟨r18,rfl,h,hB13⟩
   refine rt ?_
   replace hC:=hC.grow hB13
   refine Zd (v:=vI r18) rfl (done ?_)
   exact⟨rfl,_,rfl,r18,(slq rfl),hC,h⟩
 ·clear hC h
  rintro e_ w13 ⟨x10,hS_,hC,h⟩
  replace h:=hj10 _ h
  rw [ue hS_]
  refine Ze (sr (Za (v:=vQ b4) rfl (Zfz [vQ b4] Tryz.func113 rfl rfl 7 Tryz.ntmps113 (ZMq rfl) rfl (sr (Zd (v:=.pointer none) rfl (dn (sr (Za (v:=vQ b4) rfl (Zfh hC (vvI .i64) vvP fun b11 w14 hB_ hC=>J2 [(0,vQ b4),(1,.map (some b11))] rfl (ZAn b4 b11  _) (Yg (v:=.agg #[vQ b4,.map (some b11)]) hC [vQ b4,.map (some b11)] rfl rfl fun b10 w15 hB_ hC=>Zd (v:=vQ b10) rfl (dn (ZMp ?_))))))))))))
  refine Zi (fn:=Tryz.f113) (v:=vQ b10) rfl (Zg rfl) ⟨_,rfl,?_⟩ (.inl rfl)
  refine Zd (v:=vQ b10) rfl (dn (ZMh (sr (Za (v:=vI x10) rfl (Xx rfl rfl (dn ?_))))))
  refine Zs rfl (fun hb13=>?_) (fun hb13=>?_)
  ·replace h:=ift h (ct hb13)
   refine Zh (Za (v:=vQ b10) rfl (Za (v:=vI a2) rfl (Ye (sz:=1) hC [(0,vI a2)] (eI.encs [a2]) rfl (fun _=>Zf3 a2 _) rfl (by decide) fun b12 w16 hB_ hC=>Zfz [vQ b10,.slice (some ⟨b12,0,none⟩) 1 1] Tryz.func114 rfl rfl 32 Tryz.ntmps114 (ZMq rfl) rfl (sr (Zd (v:=vI 0) rfl (dn (ZMh (sr (Za (v:=.slice (some ⟨b12,0,none⟩) 1 1) rfl (Zac hC 0 rfl ZM0 rfl (Za (v:=vI 0) rfl (dn (ZMn ?_)))))))))))))
   have hN10:[a2].length≤9223372036854775807:=Zdl (hC.getM 0 rfl)
   refine Yi (S:=Unit) _ _ (fun i10 s10 e_ w_=>Zt e_ [(0,vQ b10),(7,.slice (some ⟨b12,0,none⟩) 1 1),(8,vI ([a2].length:Int)),(9,vI (i10:Int))]∧Ctx Nox w0 w_ [own 2 1 (.slice (some ⟨b12,0,none⟩) 1 1) ([a2].length) (eI.encs [a2]),blk b10 198 [vQ b4,.map (some b11)],Yc (vvI .i64) vvP b11 ([]:List (Int×Nat)),blk b4 32 [u0_0,u0_1]] [ZMg TForm.sl a0.images [u0_1] fp0,ZMg TInts a0.degrees [u0_0] fp0,ZMg TAlg a0 [u0_0,u0_1] fp0]) ([a2].length) ?_ ?_ (s0:=()) ?_ h
   ·clear hC h
    rintro i10 s10 e_ w17 nx10 K10 hi10 ⟨hS_,hC⟩ h hK10
    rw [ue hS_]
    refine sr (Zn rfl rfl (dn (ZMh (Z5 rfl (decide_eq_true (by omega)) (ZMl (Ze (ZMh (ZMn (sr ?_)))))))))
    obtain ⟨Ad10,c10,hv10⟩:=Xo (hC.getM 0 rfl) (ZO7 (ZGa _) hi10)
    refine Xv (i10 * 1) ZM0 sc2.size (tr rfl hv10) rfl (ZMx _) (ZNf.2 hi10) rfl (Yp (vI ([a2].getD i10 ZEo)) (Zah (hC.getM 0 rfl) hv10 i10 hi10) sc2 rfl (Zd (v:=vI ([a2].getD i10 ZEo)) rfl (dn (sr (Za (v:=vQ b10) rfl (Za (v:=vI ([a2].getD i10 ZEo)) rfl (X3 rfl rfl (Zfz [vQ b10,vI (ZG5.wrap (([a2].getD i10 ZEo) - 1))] Z0k rfl rfl 20 Z0l (ZMq rfl) rfl (sr (Zd (v:=.bool false) rfl (dn (sr (Za (v:=vQ b10) rfl (Xy rfl (Z0 0 ZXc rfl sc66.size rfl rfl (Yb hC 1 (vQ b4) rfl sc66 rfl rfl (Xy rfl (Z0 0 ZM1 rfl sc22.size rfl rfl (Yb hC 3 (u0_0) rfl sc22 rfl rfl (Za (v:=vI (ZG5.wrap (([a2].getD i10 ZEo) - 1))) rfl (Zf [u0_0,vI (ZG5.wrap (([a2].getD i10 ZEo) - 1)),vI 120] _ Z0m rfl rfl rfl (Zk6 a0.degrees (ZG5.wrap (([a2].getD i10 ZEo) - 1)) 120 h _ (hC.getP 1 rfl)) ?_)))))))))))))))))))))
    rintro _ w18 ⟨r19,u10,f10,r11,rfl,h,hr10,hf10,hB14⟩
    refine rt ?_
    replace hC:=hC.push hB14 (ZMy (ZR9 73 ((EA .i64).tr)) r19 [u10] f10) hr10 hf10
    obtain ⟨ho10,hf11⟩:=Yv (hC.getM 0 rfl).1
    subst hf11
    replace hC:=hC.recast (c:=own 73 8 u10 r19.length ((EA .i64).encs r19)) (fun _ h_=>h_) (fun _=>ho10)
    refine Za (v:=.tuple #[u10,.bool r11]) rfl (Yx (v:=u10) rfl rfl (Yx (v:=.bool r11) rfl rfl (Zd (v:=u10) rfl (Zd (v:=.bool r11) rfl (dn (sr (Za (v:=.bool r11) rfl (Zd (v:=.bool r11) rfl (dn (ZMp ?_))))))))))
    refine Zi (fn:=Tryz.f171) (v:=.bool r11) rfl (Zg rfl) ⟨_,rfl,?_⟩ (.inl rfl)
    refine Xe rfl (Za (v:=.bool (!r11)) rfl ?_)
    refine Y7 (!r11) (fun hb11=>?_) (fun hb11=>?_)
    ·replace h:=ift h (Y4 (Xi hb11))
     refine Zl (b:=true) 5 18 rfl (tr rfl (congrArg _ hb11)) (by decide) (Zl (b:=true) 5 18 rfl (tr rfl (congrArg _ hb11)) (by decide) (Zl (b:=true) 5 18 rfl (tr rfl (congrArg _ hb11)) (by decide) (Zl (b:=true) 5 18 rfl (tr rfl (congrArg _ hb11)) (by decide) (Z4 (v:=.bool true) (b:=true) (tr rfl (congrArg _ hb11)) rfl (Za (v:=.bool true) rfl (Zl (b:=true) 11 24 rfl (tr rfl (congrArg _ rfl)) (by decide) (Zl (b:=true) 11 24 rfl (tr rfl (congrArg _ rfl)) (by decide) (Zl (b:=true) 11 24 rfl (tr rfl (congrArg _ rfl)) (by decide) (Zl (b:=true) 11 24 rfl (tr rfl (congrArg _ rfl)) (by decide) (Zl (b:=true) 11 24 rfl (tr rfl (congrArg _ rfl)) (by decide) (Z4 (v:=.bool true) (b:=true) rfl rfl (dn (Z5 rfl rfl (sr (Zd (v:=vI 3) rfl (dn ?_))))))))))))))))
     refine ZMp (Ya (Zm (Zm (Ya (Zm ?_)))))
     refine Zi (fn:=ZZ8) (v:=vI 3) rfl (Zg rfl) ⟨_,rfl,?_⟩ (.inl rfl)
     refine Zd (v:=vI 3) rfl (dn (sr (Za (v:=vQ b10) rfl (Za (v:=vI 3) rfl (Zd (v:=vQ b10) rfl (Zd (v:=vI 3) rfl (dn (ZMp ?_))))))))
     refine X9 (fn:=ZZ5) (v:=vQ b10) (u:=vI 3) rfl (Zg rfl) (Zg rfl) ⟨_,rfl,?_⟩ (.inl rfl)
     refine Za (v:=.tuple #[vQ b10,vI 3]) rfl (Yx (v:=vQ b10) rfl rfl (Yx (v:=vI 3) rfl rfl (Zd (v:=vQ b10) rfl (Zd (v:=vI 3) rfl (dn (ZMh (sr (Za (v:=vI 3) rfl (Y6 rfl rfl (dn (Z5 rfl rfl (sr (Za (v:=vI 3) rfl (Zd (v:=.slice none 0 0) rfl (Zd (v:=vI 3) rfl (dn ?_))))))))))))))))
     refine ZMp (Zm ?_)
     exact X9 rfl (Zg rfl) (Zg rfl) ⟨[],.slice none 0 0,[],3,rfl,h,(Zba _ _ _),(fun b hb=>absurd hb (by simp)),hC.below⟩ (.inl rfl)
    ·replace h:=Zk h (not_not_intro ((Xj hb11)))
     refine Zp 5 18 rfl rfl hb11 (Za (v:=vQ b10) rfl (Zp 5 18 rfl rfl hb11 (Za (v:=vI ([a2].getD i10 ZEo)) rfl (Zp 5 18 rfl rfl hb11 (Zfz [vQ b10,vI ([a2].getD i10 ZEo)] Z0k rfl rfl 20 Z0l (ZMq rfl) rfl (sr (Zd (v:=.bool false) rfl (dn (sr (Za (v:=vQ b10) rfl (Xy rfl (Z0 0 ZXc rfl sc66.size rfl rfl (Yb hC 2 (vQ b4) rfl sc66 rfl rfl (Xy rfl (Z0 0 ZM1 rfl sc22.size rfl rfl (Yb hC 4 (u0_0) rfl sc22 rfl rfl (Za (v:=vI ([a2].getD i10 ZEo)) rfl (Zf [u0_0,vI ([a2].getD i10 ZEo),vI 120] _ Z0m rfl rfl rfl (Zk6 a0.degrees ([a2].getD i10 ZEo) 120 h _ (hC.getP 1 rfl)) ?_))))))))))))))))))
     rintro _ w19 ⟨r20,u11,f11,r10,rfl,h,hr11,hf12,hB15⟩
     refine rt ?_
     replace hC:=hC.push hB15 (ZMy (ZR9 73 ((EA .i64).tr)) r20 [u11] f11) hr11 hf12
     obtain ⟨ho11,hf13⟩:=Yv (hC.getM 0 rfl).1
     subst hf13
     replace hC:=hC.recast (c:=own 73 8 u11 r20.length ((EA .i64).encs r20)) (fun _ h_=>h_) (fun _=>ho11)
     refine Za (v:=.tuple #[u11,.bool r10]) rfl (Yx (v:=u11) rfl rfl (Yx (v:=.bool r10) rfl rfl (Zd (v:=u11) rfl (Zd (v:=.bool r10) rfl (dn (sr (Za (v:=.bool r10) rfl (Zd (v:=.bool r10) rfl (dn (ZMp ?_))))))))))
     refine Zi (fn:=Tryz.f171) (v:=.bool r10) rfl (Zg rfl) ⟨_,rfl,?_⟩ (.inl rfl)
     refine Zp 5 18 rfl rfl hb11 (Xe rfl (Z4 (v:=.bool (!r10)) (b:=false) (tr rfl (congrArg _ hb11)) rfl (Za (v:=.bool (!r10)) rfl ?_)))
     refine Y7 (!r10) (fun hb10=>?_) (fun hb10=>?_)
     ·replace h:=ift h (Y4 (Xi hb10))
      refine Zl (b:=true) 11 24 rfl (tr rfl (congrArg _ hb10)) (by decide) (Zl (b:=true) 11 24 rfl (tr rfl (congrArg _ hb10)) (by decide) (Zl (b:=true) 11 24 rfl (tr rfl (congrArg _ hb10)) (by decide) (Zl (b:=true) 11 24 rfl (tr rfl (congrArg _ hb10)) (by decide) (Zl (b:=true) 11 24 rfl (tr rfl (congrArg _ hb10)) (by decide) (Z4 (v:=.bool true) (b:=true) (tr rfl (congrArg _ hb10)) rfl (dn (Z5 rfl rfl (sr (Zd (v:=vI 3) rfl (dn ?_))))))))))
      refine ZMp (Ya (Zm (Zm (Ya (Zm ?_)))))
      refine Zi (fn:=ZZ8) (v:=vI 3) rfl (Zg rfl) ⟨_,rfl,?_⟩ (.inl rfl)
      refine Zd (v:=vI 3) rfl (dn (sr (Za (v:=vQ b10) rfl (Za (v:=vI 3) rfl (Zd (v:=vQ b10) rfl (Zd (v:=vI 3) rfl (dn (ZMp ?_))))))))
      refine X9 (fn:=ZZ5) (v:=vQ b10) (u:=vI 3) rfl (Zg rfl) (Zg rfl) ⟨_,rfl,?_⟩ (.inl rfl)
      refine Za (v:=.tuple #[vQ b10,vI 3]) rfl (Yx (v:=vQ b10) rfl rfl (Yx (v:=vI 3) rfl rfl (Zd (v:=vQ b10) rfl (Zd (v:=vI 3) rfl (dn (ZMh (sr (Za (v:=vI 3) rfl (Y6 rfl rfl (dn (Z5 rfl rfl (sr (Za (v:=vI 3) rfl (Zd (v:=.slice none 0 0) rfl (Zd (v:=vI 3) rfl (dn ?_))))))))))))))))
      refine ZMp (Zm ?_)
      exact X9 rfl (Zg rfl) (Zg rfl) ⟨[],.slice none 0 0,[],3,rfl,h,(Zba _ _ _),(fun b hb=>absurd hb (by simp)),hC.below⟩ (.inl rfl)
     ·replace h:=Zk h (not_not_intro ((Xj hb10)))
      refine Zp 11 24 rfl rfl hb10 (Za (v:=vQ b10) rfl (Zp 11 24 rfl rfl hb10 (Za (v:=vI ([a2].getD i10 ZEo)) rfl (Zp 11 24 rfl rfl hb10 (Zq rfl rfl (Zp 11 24 rfl rfl hb10 (Zfz [vQ b10,vI (ZG5.wrap (([a2].getD i10 ZEo)+1))] Z0k rfl rfl 20 Z0l (ZMq rfl) rfl (sr (Zd (v:=.bool false) rfl (dn (sr (Za (v:=vQ b10) rfl (Xy rfl (Z0 0 ZXc rfl sc66.size rfl rfl (Yb hC 3 (vQ b4) rfl sc66 rfl rfl (Xy rfl (Z0 0 ZM1 rfl sc22.size rfl rfl (Yb hC 5 (u0_0) rfl sc22 rfl rfl (Za (v:=vI (ZG5.wrap (([a2].getD i10 ZEo)+1))) rfl (Zf [u0_0,vI (ZG5.wrap (([a2].getD i10 ZEo)+1)),vI 120] _ Z0m rfl rfl rfl (Zk6 a0.degrees (ZG5.wrap (([a2].getD i10 ZEo)+1)) 120 h _ (hC.getP 1 rfl)) ?_))))))))))))))))))))
      rintro _ w20 ⟨r21,u12,f12,r12,rfl,h,hr12,hf14,hB16⟩
      refine rt ?_
      replace hC:=hC.push hB16 (ZMy (ZR9 73 ((EA .i64).tr)) r21 [u12] f12) hr12 hf14
      obtain ⟨ho12,hf15⟩:=Yv (hC.getM 0 rfl).1
      subst hf15
      replace hC:=hC.recast (c:=own 73 8 u12 r21.length ((EA .i64).encs r21)) (fun _ h_=>h_) (fun _=>ho12)
      refine Za (v:=.tuple #[u12,.bool r12]) rfl (Yx (v:=u12) rfl rfl (Yx (v:=.bool r12) rfl rfl (Zd (v:=u12) rfl (Zd (v:=.bool r12) rfl (dn (sr (Za (v:=.bool r12) rfl (Zd (v:=.bool r12) rfl (dn (ZMp ?_))))))))))
      refine Zi (fn:=Tryz.f171) (v:=.bool r12) rfl (Zg rfl) ⟨_,rfl,?_⟩ (.inl rfl)
      refine Zp 11 24 rfl rfl hb10 (Xe rfl (Z4 (v:=.bool (!r12)) (b:=false) (tr rfl (congrArg _ hb10)) rfl (dn ?_)))
      refine Zs rfl (fun hb14=>?_) (fun hb14=>?_)
      ·replace h:=ift h (Y4 (Xi hb14))
       refine sr (Zd (v:=vI 3) rfl (dn ?_))
       refine ZMp (Ya (Zm (Zm (Ya (Zm ?_)))))
       refine Zi (fn:=ZZ8) (v:=vI 3) rfl (Zg rfl) ⟨_,rfl,?_⟩ (.inl rfl)
       refine Zd (v:=vI 3) rfl (dn (sr (Za (v:=vQ b10) rfl (Za (v:=vI 3) rfl (Zd (v:=vQ b10) rfl (Zd (v:=vI 3) rfl (dn (ZMp ?_))))))))
       refine X9 (fn:=ZZ5) (v:=vQ b10) (u:=vI 3) rfl (Zg rfl) (Zg rfl) ⟨_,rfl,?_⟩ (.inl rfl)
       refine Za (v:=.tuple #[vQ b10,vI 3]) rfl (Yx (v:=vQ b10) rfl rfl (Yx (v:=vI 3) rfl rfl (Zd (v:=vQ b10) rfl (Zd (v:=vI 3) rfl (dn (ZMh (sr (Za (v:=vI 3) rfl (Y6 rfl rfl (dn (Z5 rfl rfl (sr (Za (v:=vI 3) rfl (Zd (v:=.slice none 0 0) rfl (Zd (v:=vI 3) rfl (dn ?_))))))))))))))))
       refine ZMp (Zm ?_)
       exact X9 rfl (Zg rfl) (Zg rfl) ⟨[],.slice none 0 0,[],3,rfl,h,(Zba _ _ _),(fun b hb=>absurd hb (by simp)),hC.below⟩ (.inl rfl)
      ·replace h:=Zk h (not_not_intro ((Xj hb14)))
       refine ZMl (Zr (Ze (Zh (Zq rfl rfl (Za (v:=vI (ZG5.wrap ((i10:Int)+1))) rfl (done ?_))))))
       exact hK10 () _ _ ⟨(sl ⟨rfl,rfl,rfl,(tr rfl (congrArg _ (Z2 hi10 hN10))),trivial⟩),(hC.xM [3,4,5,6] rfl)⟩ h
   ·clear hC h
    rintro s10 e_ w21 K10 ⟨hS_,hC⟩ h
    rw [ue hS_]
    refine sr (Zn rfl rfl (dn (ZMh (Z1 rfl (decide_eq_false (by omega)) ?_))))
    refine ZMv (Zj (Zj (Zx ?_)))
    refine Ze (sr (Zd (v:=vI 0) rfl (dn (ZMp ?_))))
    refine Zi (fn:=ZZ8) (v:=vI 0) rfl (Zg rfl) ⟨_,rfl,?_⟩ (.inl rfl)
    refine Zd (v:=vI 0) rfl (dn (sr (Za (v:=vQ b10) rfl (Za (v:=vI 0) rfl (Zd (v:=vQ b10) rfl (Zd (v:=vI 0) rfl (dn (ZMp ?_))))))))
    refine X9 (fn:=ZZ5) (v:=vQ b10) (u:=vI 0) rfl (Zg rfl) (Zg rfl) ⟨_,rfl,?_⟩ (.inl rfl)
    refine Za (v:=.tuple #[vQ b10,vI 0]) rfl (Yx (v:=vQ b10) rfl rfl (Yx (v:=vI 0) rfl rfl (Zd (v:=vQ b10) rfl (Zd (v:=vI 0) rfl (dn (ZMh (sr (Za (v:=vI 0) rfl (Y6 rfl rfl (dn (Z1 rfl rfl (ZMl (Ze (sr (Za (v:=vQ b10) rfl (Za (v:=vI a1) rfl (Za (v:=vI a2) rfl ?_)))))))))))))))))
    replace hC:=hC.thaw 1 rfl (blk b10 198 [vQ b4,.map (some b11)]) id (fun _ hb_=>hb_)
    replace hC:=hC.sM [1,0,2] (M':=[Yc (vvI .i64) vvP b11 ([]:List (Int×Nat)),own 2 1 (.slice (some ⟨b12,0,none⟩) 1 1) ([a2].length) (eI.encs [a2]),blk b4 32 [u0_0,u0_1]]) (by decide) rfl
    obtain ⟨C,h⟩:=h
    replace hC:=hC.recast (c:=cpx C 125 b11 [] []) (fun x_ hx_=>by simpa [cpx,Yc] using hx_) (fun h_=>Zrw h_)
    refine Zf [vQ b10,vI a1,vI a2] _ Tryz.func66 rfl rfl rfl (Zsa C a0 a1 a2 h _ (Yk (hC.getP 2 rfl) (hC.getP 1 rfl)) (hC.getM 2 rfl) (hC.getP 0 rfl) (hC.getM 0 rfl) (fun b_ hb hb2_=>(ZEv.1 hb).elim (fun hb=>hC.pdk 2 0 rfl rfl b_ hb hb2_) (fun hb=>hC.pdk 1 0 rfl rfl b_ hb hb2_)) (hC.mm 2 0 rfl rfl (by decide) _ (ZSl _)) (fun hx_=>hC.pdk 0 0 rfl rfl _ (ZSl _) hx_)) ?_
    rintro _ w22 ⟨r15,u13,f13,D190,F191,rfl,h,hr13,hfr200,hd10,hle192,hx193,hf16,hB17⟩
    refine rt ?_
    replace hC:=hC.turnPush 0 rfl hB17 hx193 hf16 hr13 (fun b_ hb_=>(hfr200 b_ hb_).symm) hd10
    obtain ⟨ho13,hf17⟩:=Yv (hC.getM 0 rfl).1
    subst hf17
    replace hC:=hC.recast (c:=own 2 1 u13 r15.length (eI.encs r15)) (fun _ h_=>h_) (fun _=>ho13)
    refine Zd (v:=u13) rfl (Zd (v:=vI 0) rfl (dn (ZMp ?_)))
    exact X9 rfl (Zg rfl) (Zg rfl) ⟨r15,u13,(ZNg (ZFi u13)),0,rfl,h,(Xf (hC.getM 0 rfl)),(Y8 hC 0 rfl),hC.below⟩ (.inl rfl)
   ·skip
    exact⟨(slq rfl),hC⟩
  ·replace h:=Zk h (cf hb13)
   refine ZMl (Ze (sr (Za (v:=vQ b10) rfl (Za (v:=vI x10) rfl (Zd (v:=vQ b10) rfl (Zd (v:=vI x10) rfl (dn (ZMp ?_))))))))
   refine X9 (fn:=ZZ5) (v:=vQ b10) (u:=vI x10) rfl (Zg rfl) (Zg rfl) ⟨_,rfl,?_⟩ (.inl rfl)
   refine Za (v:=.tuple #[vQ b10,vI x10]) rfl (Yx (v:=vQ b10) rfl rfl (Yx (v:=vI x10) rfl rfl (Zd (v:=vQ b10) rfl (Zd (v:=vI x10) rfl (dn (ZMh (sr (Za (v:=vI x10) rfl (Y6 rfl rfl (dn ?_))))))))))
   refine Zs rfl (fun hb15=>?_) (fun hb15=>?_)
   ·replace h:=ift h (ct hb15)
    refine sr (Za (v:=vI x10) rfl (Zd (v:=.slice none 0 0) rfl (Zd (v:=vI x10) rfl (dn ?_))))
    refine ZMp (Zm ?_)
    exact X9 rfl (Zg rfl) (Zg rfl) ⟨[],.slice none 0 0,[],x10,rfl,h,(Zba _ _ _),(fun b hb=>absurd hb (by simp)),hC.below⟩ (.inl rfl)
   ·replace h:=Zk h (cf hb15)
    refine ZMl (Ze (sr (Za (v:=vQ b10) rfl (Za (v:=vI a1) rfl (Za (v:=vI a2) rfl ?_)))))
    replace hC:=hC.thaw 0 rfl (blk b10 198 [vQ b4,.map (some b11)]) id (fun _ hb_=>hb_)
    obtain ⟨C,h⟩:=h
    replace hC:=hC.recast (c:=cpx C 125 b11 [] []) (fun x_ hx_=>by simpa [cpx,Yc] using hx_) (fun h_=>Zrw h_)
    refine Zf [vQ b10,vI a1,vI a2] _ Tryz.func66 rfl rfl rfl (Zsa C a0 a1 a2 h _ (Yk (hC.getP 2 rfl) (hC.getP 1 rfl)) (hC.getM 1 rfl) (hC.getP 0 rfl) (hC.getM 0 rfl) (fun b_ hb hb2_=>(ZEv.1 hb).elim (fun hb=>hC.pdk 2 0 rfl rfl b_ hb hb2_) (fun hb=>hC.pdk 1 0 rfl rfl b_ hb hb2_)) (hC.mm 1 0 rfl rfl (by decide) _ (ZSl _)) (fun hx_=>hC.pdk 0 0 rfl rfl _ (ZSl _) hx_)) ?_
    rintro _ w23 ⟨r16,u14,f14,D209,F210,rfl,h,hr14,hfr219,hd11,hle211,hx212,hf18,hB18⟩
    refine rt ?_
    replace hC:=hC.turnPush 0 rfl hB18 hx212 hf18 hr14 (fun b_ hb_=>(hfr219 b_ hb_).symm) hd11
    obtain ⟨ho14,hf19⟩:=Yv (hC.getM 0 rfl).1
    subst hf19
    replace hC:=hC.recast (c:=own 2 1 u14 r16.length (eI.encs r16)) (fun _ h_=>h_) (fun _=>ho14)
    refine Zd (v:=u14) rfl (Zd (v:=vI 0) rfl (dn (ZMp ?_)))
    exact X9 rfl (Zg rfl) (Zg rfl) ⟨r16,u14,(ZNg (ZFi u14)),0,rfl,h,(Xf (hC.getM 0 rfl)),(Y8 hC 0 rfl),hC.below⟩ (.inl rfl)
def Zlk (a0:Alg) (a1:Int) (a2:Int) (K:Bool→Prop):Prop :=
 Zh4 a0 1048576 (fun r25=>(if r25 < 0 then K true else Zdz a0 (fun r11=>Zir r11 a1 a2 (fun r10 r13=>Zdz a0 (fun r15=>Zgd r15 a1 a2 (fun r14 r16=>Zc9 r14 r10 (fun r26=>(if¬ (r26=true) then K false else(if r16≠r13 then K false else Zdz a0 (fun r12=>Zfu r15 r12 (fun r28=>(if¬ (r28=true) then K false else Zh7 r15 1 (fun r19 m10=>(if r19 < 0 then K false else Zc9 r14 r10 (fun r24=>(if¬ (r24=true) then K false else Zd0 r14 1 (fun r20 m11=>Zfv m11 1 (fun r21=>(if r21 < 0 then K false else(if r21≠r20 then K false else Zdz (⟨a0.degrees,a0.images⟩:Alg) (fun r17=>Zgd r17 a1 a2 (fun r22 r18=>Zc9 r22 r10 (fun r27=>(if¬ (r27=true) then K false else(if r18≠r13 then K false else Zfv m11 1 (fun r23=>(if r23 < 0 then K false else(if r23≠r20 then K false else K true))))))))))))))))))))))))))))
theorem ZBm (a0 : Alg) (a1 : Int) (a2 : Int)  {K : Bool → Prop} (h : Zlk a0 a1 a2 K) (w0 : World) (q0 : TAlg.rep a0 [u0_0, u0_1] fp0 w0) :
  Calls ZMk 6 #[.agg #[u0_0,u0_1],vI a1,vI a2] w0 fun e w'=>∃ (r0:Bool),
   e=.returned (.bool r0)∧K r0∧Bel w0 w':=by
 unfold Zlk at h
 refine cof Tryz.func6 rfl 106 Tryz.ntmps6 ?_
 have hC:=ZM2 (X:=Nox) w0 [ZMg TAlg a0 [u0_0,u0_1] fp0] (al1 q0)
 replace hC:=hC.dAlg 0 rfl
 refine sr (Yg (v:=.agg #[u0_0,u0_1]) hC [u0_0,u0_1] rfl rfl fun b4 w6 hB_ hC=>Zd (v:=.bool false) rfl (dn (sr (Zd (v:=vI 1048576) rfl (dn (sr (Yq hC 0 [u0_0,u0_1] rfl Zif rfl rfl rfl (Za (v:=vI 1048576) rfl (Zf [.agg #[u0_0,u0_1],vI 1048576] _ Tryz.func10 rfl rfl rfl (Zxl a0 1048576 h _ (Yk (hC.getP 1 rfl) (hC.getP 0 rfl))) ?_)))))))))
 rintro _ w9 ⟨r25,rfl,h,hB12⟩
 refine rt ?_
 replace hC:=hC.grow hB12
 refine Zd (v:=vI r25) rfl (dn (ZMh (sr (Za (v:=vI r25) rfl (Zn rfl rfl (dn ?_))))))
 refine Zs rfl (fun hb15=>?_) (fun hb15=>?_)
 ·replace h:=ift h (ct hb15)
  refine sr (Zd (v:=.bool true) rfl (dn ?_))
  refine ZMp (Zm ?_)
  exact Zi rfl (Zg rfl) ⟨true,rfl,h,hC.below⟩ (.inl rfl)
 ·replace h := Zk h (cf hb15)
  refine ZMl (Ze (sr (Yq hC 0 [u0_0,u0_1] rfl Zif rfl rfl rfl (Zf [.agg #[u0_0,u0_1]] _ ZZ9 rfl rfl rfl (Zks a0 h _ (Yk (hC.getP 1 rfl) (hC.getP 0 rfl))) ?_))))
  rintro _ w10 ⟨r11,u15,u16,f13,rfl,h,hr10,hf10,hB13⟩
  refine rt ?_
  replace hC:=hC.push hB13 (ZMy (Zeh 2 162 55) r11 [u15,u16] f13) hr10 hf10
  obtain ⟨f10,ho10,ho11,hs10,hs11,hd10⟩:=Zj4 (hC.getM 0 rfl)
  replace hC:=hC.split (a:=own 2 1 u15 r11.degrees.length (eI.encs r11.degrees)) (b:=ZMy (ZR9 55 (Yj 162)) r11.images [u16] f10) hs10 hs11 ⟨ho10,ho11,hd10⟩
  refine Za (v:=vI a1) rfl (Za (v:=vI a2) rfl (Zf [.agg #[u15,u16],vI a1,vI a2] _ Tryz.func23 rfl rfl rfl (ZA0 r11 a1 a2 h _ (Yk (Ym (hC.getM 0 rfl)) (ZYd _ (hC.getM 1 rfl).1))) ?_))
  rintro _ w11 ⟨r10,u13,f14,r13,rfl,h,hr11,hf11,hB14⟩
  refine rt ?_
  replace hC:=hC.push hB14 (ZMy (ZR9 2 (eI.tr)) r10 [u13] f14) hr11 hf11
  obtain ⟨ho12,hf12⟩:=Yv (hC.getM 0 rfl).1
  subst hf12
  replace hC:=hC.recast (c:=own 2 1 u13 r10.length (eI.encs r10)) (fun _ h_=>h_) (fun _=>ho12)
  refine Za (v:=.tuple #[u13,vI r13]) rfl (Yx (v:=u13) rfl rfl (Yx (v:=vI r13) rfl rfl (Zd (v:=u13) rfl (Zd (v:=vI r13) rfl (dn (sr (Yq hC 3 [u0_0,u0_1] rfl Zif rfl rfl rfl (Zf [.agg #[u0_0,u0_1]] _ ZZ9 rfl rfl rfl (Zks a0 h _ (Yk (hC.getP 1 rfl) (hC.getP 0 rfl))) ?_))))))))
  rintro _ w12 ⟨r15,u11,u12,f15,rfl,h,hr12,hf13,hB15⟩
  refine rt ?_
  replace hC:=hC.push hB15 (ZMy (Zeh 2 162 55) r15 [u11,u12] f15) hr12 hf13
  obtain ⟨f11,ho13,ho14,hs12,hs13,hd11⟩:=Zj4 (hC.getM 0 rfl)
  replace hC:=hC.split (a:=own 2 1 u11 r15.degrees.length (eI.encs r15.degrees)) (b:=ZMy (ZR9 55 (Yj 162)) r15.images [u12] f11) hs12 hs13 ⟨ho13,ho14,hd11⟩
  refine Ys hC [.slice none 0 0,.slice none 0 0] z32 rfl fun b10 w13 hB_ hC=>Z3 (v:=.agg #[u11,u12]) hC 0 [u11,u12] [u11,u12] rfl ag32.size rfl rfl rfl rfl (Xp (X4 (hC.getM 1 rfl)) (Xp (Zdo (ZYd _ (hC.getM 2 rfl).1)) rfl)) (ZMq rfl) rfl fun w14 hC=>dn (sr (Yq hC 0 [u11,u12] rfl ag32 rfl rfl rfl (Za (v:=vI a1) rfl (Za (v:=vI a2) rfl (Zf [.agg #[u11,u12],vI a1,vI a2] _ Tryz.func24 rfl rfl rfl (Zsb r15 a1 a2 h _ (Yk (Ym (hC.getM 1 rfl)) (ZYd _ (hC.getM 2 rfl).1))) ?_)))))
  rintro _ w15 ⟨r14,u10,f16,r16,rfl,h,hr13,hf14,hB16⟩
  refine rt ?_
  replace hC:=hC.push hB16 (ZMy (ZR9 2 (eI.tr)) r14 [u10] f16) hr13 hf14
  obtain ⟨ho15,hf15⟩:=Yv (hC.getM 0 rfl).1
  subst hf15
  replace hC:=hC.recast (c:=own 2 1 u10 r14.length (eI.encs r14)) (fun _ h_=>h_) (fun _=>ho15)
  refine Za (v:=.tuple #[u10,vI r16]) rfl (Yx (v:=u10) rfl rfl (Yx (v:=vI r16) rfl rfl (Zd (v:=u10) rfl (Zd (v:=vI r16) rfl (dn (ZMh (sr (Za (v:=u10) rfl (Za (v:=u13) rfl (Zf [u10,u13] _ Tryz.func25 rfl rfl rfl (Zke r14 r10 h _ (Ym (hC.getM 0 rfl)) (Ym (hC.getM 4 rfl))) ?_))))))))))
  rintro _ w16 ⟨r26,rfl,h,hB17⟩
  refine rt ?_
  replace hC:=hC.grow hB17
  refine Xe rfl (Za (v:=.bool (!r26)) rfl ?_)
  refine Y7 (!r26) (fun hb11=>?_) (fun hb11=>?_)
  ·replace h:=ift h (Y4 (Xi hb11))
   refine Zl (b:=true) 4 44 rfl (tr rfl (congrArg _ hb11)) (by decide) (Zl (b:=true) 4 44 rfl (tr rfl (congrArg _ hb11)) (by decide) (Zl (b:=true) 4 44 rfl (tr rfl (congrArg _ hb11)) (by decide) (Z4 (v:=.bool true) (b:=true) (tr rfl (congrArg _ hb11)) rfl (dn (Z5 rfl rfl (sr (Zd (v:=.bool false) rfl (dn ?_))))))))
   refine ZMp (Zm ?_)
   exact Zi rfl (Zg rfl) ⟨false,rfl,h,hC.below⟩ (.inl rfl)
  ·replace h := Zk h (not_not_intro ((Xj hb11)))
   refine Zp 4 44 rfl rfl hb11 (Za (v:=vI r16) rfl (Zp 4 44 rfl rfl hb11 (Za (v:=vI r13) rfl (Zp 4 44 rfl rfl hb11 (Y6 rfl rfl (Z4 (v:=.bool (decide (r16≠r13))) (b:=false) (tr rfl (congrArg _ hb11)) rfl (dn ?_)))))))
   refine Zs rfl (fun hb14=>?_) (fun hb14=>?_)
   ·replace h:=ift h (ct hb14)
    refine sr (Zd (v:=.bool false) rfl (dn ?_))
    refine ZMp (Zm ?_)
    exact Zi rfl (Zg rfl) ⟨false,rfl,h,hC.below⟩ (.inl rfl)
   ·replace h := Zk h (cf hb14)
    refine ZMl (Ze (ZMh (ZMh ?_)))
    refine cwd 3 Yo [0,0,2,7,15] [0,1] [] (fun hM10 hM11 w17 hB_=>?_)
    replace hC:=hC.grow hB_
    refine bL 0 (.agg #[u11,u12]) rfl rfl hM10 (fun _ hB_=>by exact Xa (hC.grow hB_) 1 [u11,u12] rfl ag32 rfl rfl rfl) (Zc 5 1) (bL 1 (.agg #[u0_0,u0_1]) rfl rfl hM10 (fun _ hB_=>by exact Xa (hC.grow hB_) 7 [u0_0,u0_1] rfl Zif rfl rfl rfl) (Zc 5 3) (aO 2 rfl (Zf [.agg #[u0_0,u0_1]] _ ZZ9 rfl rfl rfl (Zks a0 h _ (Yk (hC.getP 1 rfl) (hC.getP 0 rfl))) ?_)))
    rintro _ w18 ⟨r12,u17,u18,f17,rfl,h,hr14,hf16,hB18⟩
    refine rt ?_
    replace hC:=hC.push hB18 (ZMy (Zeh 2 162 55) r12 [u17,u18] f17) hr14 hf16
    obtain ⟨f12,ho16,ho17,hs14,hs15,hd12⟩:=Zj4 (hC.getM 0 rfl)
    replace hC:=hC.split (a:=own 2 1 u17 r12.degrees.length (eI.encs r12.degrees)) (b:=ZMy (ZR9 55 (Yj 162)) r12.images [u18] f12) hs14 hs15 ⟨ho16,ho17,hd12⟩
    refine done (aK (by assumption) (Zc 5 7) (Z6 3 (by decide) (by decide) (by kernel_rfl) (by kernel_rfl) rfl (Zf [.agg #[u11,u12],.agg #[u17,u18]] _ Tryz.func15 rfl rfl rfl (Zxn r15 r12 h _ (Yk (Ym (hC.getM 4 rfl)) (ZYd _ (hC.getM 5 rfl).1)) (Yk (Ym (hC.getM 0 rfl)) (ZYd _ (hC.getM 1 rfl).1))) ?_)))
    rintro _ w19 ⟨r28,rfl,h,hB19⟩
    refine rt ?_
    replace hC:=hC.grow hB19
    refine Xe rfl (done (Z7 (Ze ?_)))
    refine Zs rfl (fun hb16=>?_) (fun hb16=>?_)
    ·replace h:=ift h (Y4 (Xi hb16))
     refine sr (Zd (v:=.bool false) rfl (dn ?_))
     refine ZMp (Zm ?_)
     exact Zi rfl (Zg rfl) ⟨false,rfl,h,hC.below⟩ (.inl rfl)
    ·replace h := Zk h (not_not_intro ((Xj hb16)))
     refine ZMl (Ze (sr (Zd (v:=vI 1) rfl (dn (sr (Yq hC 3 [u11,u12] rfl ag32 rfl rfl rfl (Za (v:=vI 1) rfl (Zf [.agg #[u11,u12],vI 1] _ Tryz.func16 rfl rfl rfl (Zxp r15 1 h _ (hC.getM 4 rfl) (hC.getM 5 rfl) (hC.mm 4 5 rfl rfl (by decide))) ?_))))))))
     rintro _ w20 ⟨r19,m10,rfl,h,hm10,hm11,hB11⟩
     refine rt ?_
     replace hC:=hC.turnL hB11 (M':=[own 2 1 u17 r12.degrees.length (eI.encs r12.degrees),ZMy (ZR9 55 (Yj 162)) r12.images [u18] f12,own 2 1 u10 r14.length (eI.encs r14),blk b10 32 [u11,u12],own 2 1 u11 m10.degrees.length (eI.encs m10.degrees),ZMy (ZR9 55 (Yj 162)) m10.images [u12] f11,own 2 1 u13 r10.length (eI.encs r10),own 2 1 u15 r11.degrees.length (eI.encs r11.degrees),ZMy (ZR9 55 (Yj 162)) r11.images [u16] f10,blk b4 25 [u0_0,u0_1]]) rfl (fun x_ hx_=>(ZEv.1 hx_).elim (fun hx_=>⟨_,mg 4 rfl,hx_⟩) (fun hx_=>⟨_,mg 5 rfl,hx_⟩)) (by simp only [ZEk,ZGu,or_false,forall_eq_or_imp,forall_eq]; exact⟨(hC.stay 0 rfl hB11 (fun x_ hq_ hx_=>(ZEv.1 hx_).elim (fun hx_=>hC.mm 0 4 rfl rfl (by decide) x_ hq_ hx_) (fun hx_=>hC.mm 0 5 rfl rfl (by decide) x_ hq_ hx_))),(hC.stay 1 rfl hB11 (fun x_ hq_ hx_=>(ZEv.1 hx_).elim (fun hx_=>hC.mm 1 4 rfl rfl (by decide) x_ hq_ hx_) (fun hx_=>hC.mm 1 5 rfl rfl (by decide) x_ hq_ hx_))),(hC.stay 2 rfl hB11 (fun x_ hq_ hx_=>(ZEv.1 hx_).elim (fun hx_=>hC.mm 2 4 rfl rfl (by decide) x_ hq_ hx_) (fun hx_=>hC.mm 2 5 rfl rfl (by decide) x_ hq_ hx_))),(hC.stay 3 rfl hB11 (fun x_ hq_ hx_=>(ZEv.1 hx_).elim (fun hx_=>hC.mm 3 4 rfl rfl (by decide) x_ hq_ hx_) (fun hx_=>hC.mm 3 5 rfl rfl (by decide) x_ hq_ hx_))),hm10,hm11,(hC.stay 6 rfl hB11 (fun x_ hq_ hx_=>(ZEv.1 hx_).elim (fun hx_=>hC.mm 6 4 rfl rfl (by decide) x_ hq_ hx_) (fun hx_=>hC.mm 6 5 rfl rfl (by decide) x_ hq_ hx_))),(hC.stay 7 rfl hB11 (fun x_ hq_ hx_=>(ZEv.1 hx_).elim (fun hx_=>hC.mm 7 4 rfl rfl (by decide) x_ hq_ hx_) (fun hx_=>hC.mm 7 5 rfl rfl (by decide) x_ hq_ hx_))),(hC.stay 8 rfl hB11 (fun x_ hq_ hx_=>(ZEv.1 hx_).elim (fun hx_=>hC.mm 8 4 rfl rfl (by decide) x_ hq_ hx_) (fun hx_=>hC.mm 8 5 rfl rfl (by decide) x_ hq_ hx_))),(hC.stay 9 rfl hB11 (fun x_ hq_ hx_=>(ZEv.1 hx_).elim (fun hx_=>hC.mm 9 4 rfl rfl (by decide) x_ hq_ hx_) (fun hx_=>hC.mm 9 5 rfl rfl (by decide) x_ hq_ hx_)))⟩)
     refine Zd (v:=vI r19) rfl (dn (ZMh (sr (Za (v:=vI r19) rfl (Zn rfl rfl (Za (v:=.bool (decide (r19 < 0))) rfl ?_))))))
     refine Y7 (decide (r19 < 0)) (fun hb10=>?_) (fun hb10=>?_)
     ·replace h:=ift h (ct hb10)
      refine Zl (b:=true) 2 59 rfl (tr rfl (congrArg _ hb10)) (by decide) (Zl (b:=true) 2 59 rfl (tr rfl (congrArg _ hb10)) (by decide) (Zl (b:=true) 2 59 rfl (tr rfl (congrArg _ hb10)) (by decide) (Zl (b:=true) 2 59 rfl (tr rfl (congrArg _ hb10)) (by decide) (Z4 (v:=.bool true) (b:=true) (tr rfl (congrArg _ hb10)) rfl (Za (v:=.bool true) rfl (Zl (b:=true) 8 65 rfl (tr rfl (congrArg _ rfl)) (by decide) (Zl (b:=true) 8 65 rfl (tr rfl (congrArg _ rfl)) (by decide) (Zl (b:=true) 8 65 rfl (tr rfl (congrArg _ rfl)) (by decide) (Z4 (v:=.bool true) (b:=true) rfl rfl (dn (Z5 rfl rfl (sr (Zd (v:=.bool false) rfl (dn ?_))))))))))))))
      refine ZMp (Zm ?_)
      exact Zi rfl (Zg rfl) ⟨false,rfl,h,hC.below⟩ (.inl rfl)
     ·replace h:=Zk h (cf hb10)
      refine Zp 2 59 rfl rfl hb10 (Za (v:=u10) rfl (Zp 2 59 rfl rfl hb10 (Za (v:=u13) rfl (Zp 2 59 rfl rfl hb10 (Zf [u10,u13] _ Tryz.func25 rfl rfl rfl (Zke r14 r10 h _ (Ym (hC.getM 2 rfl)) (Ym (hC.getM 6 rfl))) ?_)))))
      rintro _ w21 ⟨r24,rfl,h,hB20⟩
      refine rt ?_
      replace hC:=hC.grow hB20
      refine Zp 2 59 rfl rfl hb10 (Xe rfl (Z4 (v:=.bool (!r24)) (b:=false) (tr rfl (congrArg _ hb10)) rfl (Za (v:=.bool (!r24)) rfl ?_)))
      refine Y7 (!r24) (fun hb12=>?_) (fun hb12=>?_)
      ·replace h:=ift h (Y4 (Xi hb12))
       refine Zl (b:=true) 8 65 rfl (tr rfl (congrArg _ hb12)) (by decide) (Zl (b:=true) 8 65 rfl (tr rfl (congrArg _ hb12)) (by decide) (Zl (b:=true) 8 65 rfl (tr rfl (congrArg _ hb12)) (by decide) (Z4 (v:=.bool true) (b:=true) (tr rfl (congrArg _ hb12)) rfl (dn (Z5 rfl rfl (sr (Zd (v:=.bool false) rfl (dn ?_))))))))
       refine ZMp (Zm ?_)
       exact Zi rfl (Zg rfl) ⟨false,rfl,h,hC.below⟩ (.inl rfl)
      ·replace h:=Zk h (not_not_intro ((Xj hb12)))
       refine Zp 8 65 rfl rfl hb12 (Za (v:=vI r16) rfl (Zp 8 65 rfl rfl hb12 (Za (v:=vI r13) rfl (Zp 8 65 rfl rfl hb12 (Y6 rfl rfl (Z4 (v:=.bool (decide (r16≠r13))) (b:=false) (tr rfl (congrArg _ hb12)) rfl (dn (Z1 rfl hb14 (ZMl (Ze (sr (Zd (v:=vI 1) rfl (dn (sr (Za (v:=u10) rfl (Za (v:=vI 1) rfl (Zf [u10,vI 1] _ Tryz.func26 rfl rfl rfl (Zq0 r14 1 h _ (hC.getM 2 rfl)) ?_)))))))))))))))))
       rintro _ w22 ⟨r20,m11,rfl,h,hm12,hB10⟩
       refine rt ?_
       replace hC:=hC.turnL hB10 (M':=[own 2 1 u17 r12.degrees.length (eI.encs r12.degrees),ZMy (ZR9 55 (Yj 162)) r12.images [u18] f12,own 2 1 u10 m11.length (eI.encs m11),blk b10 32 [u11,u12],own 2 1 u11 m10.degrees.length (eI.encs m10.degrees),ZMy (ZR9 55 (Yj 162)) m10.images [u12] f11,own 2 1 u13 r10.length (eI.encs r10),own 2 1 u15 r11.degrees.length (eI.encs r11.degrees),ZMy (ZR9 55 (Yj 162)) r11.images [u16] f10,blk b4 25 [u0_0,u0_1]]) rfl (fun x_ hx_=>⟨_,mg 2 rfl,hx_⟩) (by simp only [ZEk,ZGu,or_false,forall_eq_or_imp,forall_eq]; exact⟨(hC.stay 0 rfl hB10 (fun x_ hq_ hx_=>hC.mm 0 2 rfl rfl (by decide) x_ hq_ hx_)),(hC.stay 1 rfl hB10 (fun x_ hq_ hx_=>hC.mm 1 2 rfl rfl (by decide) x_ hq_ hx_)),hm12,(hC.stay 3 rfl hB10 (fun x_ hq_ hx_=>hC.mm 3 2 rfl rfl (by decide) x_ hq_ hx_)),(hC.stay 4 rfl hB10 (fun x_ hq_ hx_=>hC.mm 4 2 rfl rfl (by decide) x_ hq_ hx_)),(hC.stay 5 rfl hB10 (fun x_ hq_ hx_=>hC.mm 5 2 rfl rfl (by decide) x_ hq_ hx_)),(hC.stay 6 rfl hB10 (fun x_ hq_ hx_=>hC.mm 6 2 rfl rfl (by decide) x_ hq_ hx_)),(hC.stay 7 rfl hB10 (fun x_ hq_ hx_=>hC.mm 7 2 rfl rfl (by decide) x_ hq_ hx_)),(hC.stay 8 rfl hB10 (fun x_ hq_ hx_=>hC.mm 8 2 rfl rfl (by decide) x_ hq_ hx_)),(hC.stay 9 rfl hB10 (fun x_ hq_ hx_=>hC.mm 9 2 rfl rfl (by decide) x_ hq_ hx_))⟩)
       refine Zd (v:=vI r20) rfl (dn (sr (Zd (v:=vI 1) rfl (dn (sr (Za (v:=u10) rfl (Za (v:=vI 1) rfl (Zf [u10,vI 1] _ Tryz.func27 rfl rfl rfl (Zq1 m11 1 h _ (Ym (hC.getM 2 rfl))) ?_))))))))
       rintro _ w23 ⟨r21,rfl,h,hB21⟩
       refine rt ?_
       replace hC:=hC.grow hB21
       refine Zd (v:=vI r21) rfl (dn (ZMh (sr (Za (v:=vI r21) rfl (Zn rfl rfl (dn ?_))))))
       refine Zs rfl (fun hb17=>?_) (fun hb17=>?_)
       ·replace h:=ift h (ct hb17)
        refine sr (Zd (v:=.bool false) rfl (dn ?_))
        refine ZMp (Zm ?_)
        exact Zi rfl (Zg rfl) ⟨false,rfl,h,hC.below⟩ (.inl rfl)
       ·replace h:=Zk h (cf hb17)
        refine ZMl (Ze (ZMh (sr (Za (v:=vI r21) rfl (Za (v:=vI r20) rfl (Y6 rfl rfl (dn ?_)))))))
        refine Zs rfl (fun hb18=>?_) (fun hb18=>?_)
        ·replace h:=ift h (ct hb18)
         refine sr (Zd (v:=.bool false) rfl (dn ?_))
         refine ZMp (Zm ?_)
         exact Zi rfl (Zg rfl) ⟨false,rfl,h,hC.below⟩ (.inl rfl)
        ·replace h:=Zk h (cf hb18)
         refine ZMl (Ze (sr (Yq hC 9 [u0_0,u0_1] rfl Zif rfl rfl rfl (Zf [.agg #[u0_0,u0_1]] _ ZZ9 rfl rfl rfl (Zks (⟨a0.degrees,a0.images⟩:Alg) h _ (Yk (hC.getP 1 rfl) (hC.getP 0 rfl))) ?_))))
         rintro _ w24 ⟨r17,u19,u20,f18,rfl,h,hr15,hf17,hB22⟩
         refine rt ?_
         replace hC:=hC.push hB22 (ZMy (Zeh 2 162 55) r17 [u19,u20] f18) hr15 hf17
         obtain ⟨f19,ho18,ho19,hs16,hs17,hd13⟩:=Zj4 (hC.getM 0 rfl)
         replace hC:=hC.split (a:=own 2 1 u19 r17.degrees.length (eI.encs r17.degrees)) (b:=ZMy (ZR9 55 (Yj 162)) r17.images [u20] f19) hs16 hs17 ⟨ho18,ho19,hd13⟩
         refine Za (v:=vI a1) rfl (Za (v:=vI a2) rfl (Zf [.agg #[u19,u20],vI a1,vI a2] _ Tryz.func24 rfl rfl rfl (Zsb r17 a1 a2 h _ (Yk (Ym (hC.getM 0 rfl)) (ZYd _ (hC.getM 1 rfl).1))) ?_))
         rintro _ w25 ⟨r22,u14,f20,r18,rfl,h,hr16,hf18,hB23⟩
         refine rt ?_
         replace hC:=hC.push hB23 (ZMy (ZR9 2 (eI.tr)) r22 [u14] f20) hr16 hf18
         obtain ⟨ho20,hf19⟩:=Yv (hC.getM 0 rfl).1
         subst hf19
         replace hC:=hC.recast (c:=own 2 1 u14 r22.length (eI.encs r22)) (fun _ h_=>h_) (fun _=>ho20)
         refine Za (v:=.tuple #[u14,vI r18]) rfl (Yx (v:=u14) rfl rfl (Yx (v:=vI r18) rfl rfl (Zd (v:=u14) rfl (Zd (v:=vI r18) rfl (dn (ZMh (sr (Za (v:=u14) rfl (Za (v:=u13) rfl (Zf [u14,u13] _ Tryz.func25 rfl rfl rfl (Zke r22 r10 h _ (Ym (hC.getM 0 rfl)) (Ym (hC.getM 9 rfl))) ?_))))))))))
         rintro _ w26 ⟨r27,rfl,h,hB24⟩
         refine rt ?_
         replace hC:=hC.grow hB24
         refine Xe rfl (Za (v:=.bool (!r27)) rfl ?_)
         refine Y7 (!r27) (fun hb13=>?_) (fun hb13=>?_)
         ·replace h:=ift h (Y4 (Xi hb13))
          refine Zl (b:=true) 4 93 rfl (tr rfl (congrArg _ hb13)) (by decide) (Zl (b:=true) 4 93 rfl (tr rfl (congrArg _ hb13)) (by decide) (Zl (b:=true) 4 93 rfl (tr rfl (congrArg _ hb13)) (by decide) (Z4 (v:=.bool true) (b:=true) (tr rfl (congrArg _ hb13)) rfl (dn (Z5 rfl rfl (sr (Zd (v:=.bool false) rfl (dn ?_))))))))
          refine ZMp (Zm ?_)
          exact Zi rfl (Zg rfl) ⟨false,rfl,h,hC.below⟩ (.inl rfl)
         ·replace h:=Zk h (not_not_intro ((Xj hb13)))
          refine Zp 4 93 rfl rfl hb13 (Za (v:=vI r18) rfl (Zp 4 93 rfl rfl hb13 (Za (v:=vI r13) rfl (Zp 4 93 rfl rfl hb13 (Y6 rfl rfl (Z4 (v:=.bool (decide (r18≠r13))) (b:=false) (tr rfl (congrArg _ hb13)) rfl (dn ?_)))))))
          refine Zs rfl (fun hb19=>?_) (fun hb19=>?_)
          ·replace h:=ift h (ct hb19)
           refine sr (Zd (v:=.bool false) rfl (dn ?_))
           refine ZMp (Zm ?_)
           exact Zi rfl (Zg rfl) ⟨false,rfl,h,hC.below⟩ (.inl rfl)
          ·replace h:=Zk h (cf hb19)
           refine ZMl (Ze (sr (Zd (v:=vI 1) rfl (dn (sr (Za (v:=u10) rfl (Za (v:=vI 1) rfl (Zf [u10,vI 1] _ Tryz.func27 rfl rfl rfl (Zq1 m11 1 h _ (Ym (hC.getM 5 rfl))) ?_))))))))
           rintro _ w27 ⟨r23,rfl,h,hB25⟩
           refine rt ?_
           replace hC:=hC.grow hB25
           refine Zd (v:=vI r23) rfl (dn (ZMh (sr (Za (v:=vI r23) rfl (Zn rfl rfl (dn ?_))))))
           refine Zs rfl (fun hb20=>?_) (fun hb20=>?_)
           ·replace h:=ift h (ct hb20)
            refine sr (Zd (v:=.bool false) rfl (dn ?_))
            refine ZMp (Zm ?_)
            exact Zi rfl (Zg rfl) ⟨false,rfl,h,hC.below⟩ (.inl rfl)
           ·replace h:=Zk h (cf hb20)
            refine ZMl (Ze (ZMh (sr (Za (v:=vI r23) rfl (Za (v:=vI r20) rfl (Y6 rfl rfl (dn ?_)))))))
            refine Zs rfl (fun hb21=>?_) (fun hb21=>?_)
            ·replace h:=ift h (ct hb21)
             refine sr (Zd (v:=.bool false) rfl (dn ?_))
             refine ZMp (Zm ?_)
             exact Zi rfl (Zg rfl) ⟨false,rfl,h,hC.below⟩ (.inl rfl)
            ·replace h:=Zk h (cf hb21)
             refine ZMl (Ze (sr (Zd (v:=.bool true) rfl (dn (ZMp ?_)))))
             exact Zi rfl (Zg rfl) ⟨true,rfl,h,hC.below⟩ (.inl rfl)
end Go.Proofs.YtaagfepgbofmlaaGreat
namespace Go.Proofs.YtaagfepgbofmlaaGreat
open Go Vc
def wdU (m:A8):Nat→Int
  | 0=>0
  | i+1=>wdU m i+m.get i
theorem Zi3 {m:A8} (pm:∀ i,i < 8→0≤m.get i∧m.get i≤255):∀ k:Nat,k≤8→0≤wdU m k∧wdU m k≤255 * k:=by
  intro k
  induction k with
  | zero=>intro _; simp [wdU]
  | succ k ih=>intro hk; have h1:=ih (by omega); have h2:=pm k (by omega); simp only [wdU]; omega
theorem ZBn {m:A8} (pm:∀ i,i < 8→0≤m.get i∧m.get i≤255) {q:Nat}:∀ k:Nat,k≤8→q < k→m.get q≤wdU m k:=by
  intro k
  induction k with
  | zero=>intro _ h; omega
  | succ k ih =>
    intro hk hq
    have h2:=pm k (by omega)
    have h3:=Zi3 pm k (by omega)
    simp only [wdU]
    by_cases e:q=k
    · subst e; omega
    · have:=ih (by omega) (by omega); omega
theorem ZBo {m : A8} (p : ∀ i, i < 8 → 0 ≤ m.get i) (h : wdU m 8 = 1) : ∃ q, q < 8 ∧ m = ZMm.set q 1 := by
  have p0:=p 0 (by omega)
  have p1:=p 1 (by omega)
  have p2:=p 2 (by omega)
  have p3:=p 3 (by omega)
  have p4:=p 4 (by omega)
  have p5:=p 5 (by omega)
  have p6:=p 6 (by omega)
  have p7:=p 7 (by omega)
  clear p
  obtain ⟨x0,x1,x2,x3,x4,x5,x6,x7⟩:=m
  simp only [wdU,A8.get] at *
  by_cases h0:x0=0
  · skip
    by_cases h1:x1=0
    · skip
      by_cases h2:x2=0
      · skip
        by_cases h3:x3=0
        · skip
          by_cases h4:x4=0
          · skip
            by_cases h5:x5=0
            · skip
              by_cases h6:x6=0
              · skip
                by_cases h7:x7=0
                · skip
                  omega
                · refine⟨7,by omega,?_⟩
                  have e:ZZz x0 x1 x2 x3 x4 x5 x6 x7=ZZz 0 0 0 0 0 0 0 1:=by rw [ZZ1]; omega
                  exact e
              · refine⟨6,by omega,?_⟩
                have e:ZZz x0 x1 x2 x3 x4 x5 x6 x7=ZZz 0 0 0 0 0 0 1 0:=by rw [ZZ1]; omega
                exact e
            · refine⟨5,by omega,?_⟩
              have e:ZZz x0 x1 x2 x3 x4 x5 x6 x7=ZZz 0 0 0 0 0 1 0 0:=by rw [ZZ1]; omega
              exact e
          · refine⟨4,by omega,?_⟩
            have e:ZZz x0 x1 x2 x3 x4 x5 x6 x7=ZZz 0 0 0 0 1 0 0 0:=by rw [ZZ1]; omega
            exact e
        · refine⟨3,by omega,?_⟩
          have e:ZZz x0 x1 x2 x3 x4 x5 x6 x7=ZZz 0 0 0 1 0 0 0 0:=by rw [ZZ1]; omega
          exact e
      · refine⟨2,by omega,?_⟩
        have e:ZZz x0 x1 x2 x3 x4 x5 x6 x7=ZZz 0 0 1 0 0 0 0 0:=by rw [ZZ1]; omega
        exact e
    · refine⟨1,by omega,?_⟩
      have e:ZZz x0 x1 x2 x3 x4 x5 x6 x7=ZZz 0 1 0 0 0 0 0 0:=by rw [ZZ1]; omega
      exact e
  · refine⟨0,by omega,?_⟩
    have e:ZZz x0 x1 x2 x3 x4 x5 x6 x7=ZZz 1 0 0 0 0 0 0 0:=by rw [ZZ1]; omega
    exact e
theorem ZBp {q:Nat} (hq:q < 8):wdU (ZMm.set q 1) 8=1:=by
  match q,hq with
  | 0,_ | 1,_ | 2,_ | 3,_ | 4,_ | 5,_ | 6,_ | 7,_=>rfl
theorem ZBq {ds:List Int} {m:A8} (h8:ds.length≤8) (pm:∀ i,i < 8→0≤m.get i∧m.get i≤255) (h:1≤wtU ds m ds.length):1≤wdU m 8:=by
  rcases Int.lt_or_le (wdU m 8) 1 with q | q
  · exfalso
    have hz:∀ i,i < 8→m.get i=0:=fun i hi=>by have:=ZBn pm 8 (Nat.le_refl _) hi; have:=pm i hi; omega
    have:∀ k,k≤ds.length→wtU ds m k=0:=by
      intro k
      induction k with
      | zero=>intro _; rfl
      | succ k ih=>intro hk; simp only [wtU]; rw [ih (by omega),hz k (by omega),Int.mul_zero]; rfl
    have:=this ds.length (Nat.le_refl _)
    omega
  · exact q
theorem Zll {m:A8} {K:Int→Prop} (pm:∀ i,i < 8→0≤m.get i∧m.get i≤255) (h:K (wdU m 8)):Zbv m K:=by
  unfold Zbv
  refine Yr (fun i (s:Int)=>s=wdU m i) 8 ?_ ?_ _ _ _ (by omega) rfl
  · intro i s next hi hs hn
    have h1:=Zi3 pm i (by omega)
    have h2:=pm i hi
    rw [i64_in (m.get i) (by omega),i64_in _ (by omega)]
    exact hn _ (by simp only [wdU]; rw [hs])
  · intro s hs; rw [hs]; exact h
theorem Zsc {m:A8} {K:Int→Prop} (pm:∀ i,i < 8→0≤m.get i∧m.get i≤255) (h:K (wdU m 8)):Zex m K:=by
  unfold Zex
  refine Yr (fun i (s:Int)=>s=wdU m i) 8 ?_ ?_ _ _ _ (by omega) rfl
  · intro i s next hi hs hn
    have h1:=Zi3 pm i (by omega)
    have h2:=pm i hi
    rw [i64_in _ (by omega)]
    exact hn _ (by simp only [wdU]; rw [hs])
  · intro s hs; rw [hs]; exact h
theorem Zsd {l : List Term} (hc : Canon l) {m : A8} : coT l m ≠ 0 ↔ ∃ t, t ∈ l ∧ t.mono = m := by
  constructor
  · intro h
    exact Classical.byContradiction fun hno=>h (Zcr fun t ht e=>hno ⟨t,ht,e⟩)
  · rintro ⟨t,ht,rfl⟩
    have:coT l t.mono=t.factor:=by
      induction l with
      | nil=>cases ht
      | cons q l ih =>
        rcases ZEk.1 ht with rfl | ht
        · exact hc.at_head
        · rw [Zbt,if_neg (Zbs (hc.head t ht)),Int.zero_add]; exact ih hc.tail ht
    have:=hc.2 t ht
    omega
end Go.Proofs.YtaagfepgbofmlaaGreat
namespace Go.Proofs.YtaagfepgbofmlaaGreat
open Go Vc
theorem Zog {a b:Int} {K:Int→Prop} (h:K (if a≠0 then a else b)):Zer [a,b] K:=by
  simp only [Zer,Z8,List.length_cons,List.length_nil,List.getD_cons_zero,List.getD_cons_succ]
  split
  · rename_i q; rwa [if_pos q] at h
  · rename_i q
    rw [if_neg q] at h
    split
    · exact h
    · rename_i q2
      have q2:b=0:=Decidable.not_not.1 q2
      rwa [q2] at h
theorem ZBr {l : List Term} {K : Int → Prop} (hp : Zes l) (hl : l.length ≤ 1048576) (h0 : l.length = 0 → K 0) (h1 : ∀ r, 0 < l.length → (∃ j, j < l.length ∧ wdU (l.getD j ZEo).mono 8 = r) → (∀ j, j < l.length → r ≤ wdU (l.getD j ZEo).mono 8) → K r) : Zih ⟨l⟩ K := by
  unfold Zih
  dsimp only
  refine X5 (fun (s:Int×Int)=>0≤s.2∧s.2≤l.length∧((s.2=0∧s.1=0)∨(0 < s.2∧(∃ j:Nat,(j:Int) < s.2∧wdU (l.getD j ZEo).mono 8=s.1)∧∀ j:Nat,(j:Int) < s.2→s.1≤wdU (l.getD j ZEo).mono 8))) (fun s=>l.length - s.2.toNat) ?_ ⟨Int.le_refl _,by dsimp only; omega,.inl ⟨rfl,rfl⟩⟩
  rintro ⟨s,i⟩ next ⟨g1,g2,g3⟩ hn
  dsimp only at g1 g2 g3 hn ⊢
  split
  · rename_i hi
    have a:i.toNat < l.length:=by omega
    rw [i64_in (i+1) (by omega)]
    refine⟨by omega,Zll (hp _ (Y5 a)) ?_⟩
    have take:(0 < i→wdU (l.getD i.toNat ZEo).mono 8 < s)→next (wdU (l.getD i.toNat ZEo).mono 8,i+1):=fun hlt=>hn _ ⟨by dsimp only; omega,by dsimp only; omega,.inr ⟨by dsimp only; omega,⟨i.toNat,by dsimp only; omega,rfl⟩,fun j hj=>by
      dsimp only at hj ⊢
      by_cases e:j=i.toNat
      · subst e; exact Int.le_refl _
      · rcases g3 with ⟨e0,_⟩ | ⟨e0,_,hall⟩
        · omega
        · have:=hall j (by omega); have:=hlt e0; omega⟩⟩ (by dsimp only; omega)
    split
    · rename_i q; exact take fun z=>by omega
    · rename_i q
      split
      · rename_i q2; exact take fun _=>q2
      · rename_i q2
        rcases g3 with ⟨e0,_⟩ | ⟨e0,⟨j0,hj0,ej0⟩,hall⟩
        · omega
        · refine hn _ ⟨by dsimp only; omega,by dsimp only; omega,.inr ⟨by dsimp only; omega,⟨j0,by dsimp only; omega,ej0⟩,fun j hj=>?_⟩⟩ (by dsimp only; omega)
          dsimp only at hj ⊢
          by_cases e:j=i.toNat
          · subst e; omega
          · exact hall j (by omega)
  · rename_i hi
    rcases g3 with ⟨e0,e1⟩ | ⟨e0,⟨j0,hj0,ej0⟩,hall⟩
    · rw [e1]; exact h0 (by omega)
    · exact h1 s (by omega) ⟨j0,by omega,ej0⟩ fun j hj=>hall j (by omega)
def Za7 (a:Alg):Prop:=∀ i,i < a.images.length→∀ j,j < (a.images.getD i ZEo).terms.length→wdU ((a.images.getD i ZEo).terms.getD j ZEo).mono 8≠1
theorem ZBs {a:Alg} (ok:OkAlg a) (hf:Jk a) {i:Nat} (hi:i < a.images.length) {j:Nat} (hj:j < (a.images.getD i ZEo).terms.length):1≤wdU ((a.images.getD i ZEo).terms.getD j ZEo).mono 8:=by
  refine ZBq ok.deg.1 ((hf i hi).1.pos _ (Y5 hj)) ?_
  have:=ok.hom i hi j hj
  have:=ok.deg.2 i (by have:=ok.len; omega)
  omega
theorem ZBt {a : Alg} {K : Bool → Prop} (ok : OkAlg a) (hf : Jk a) (h1 : Za7 a → K true) (h2 : ¬ Za7 a → K false) : Zii a K := by
  unfold Zii
  have h8:=ok.deg.1
  have hlen:=ok.len
  refine X5 (fun (s:Int)=>0≤s∧s≤a.images.length∧∀ i:Nat,(i:Int) < s→∀ j,j < (a.images.getD i ZEo).terms.length→wdU ((a.images.getD i ZEo).terms.getD j ZEo).mono 8≠1) (fun s=>a.images.length - s.toNat) ?_ ⟨Int.le_refl _,by omega,fun i hi=>by omega⟩
  rintro i next ⟨g1,g2,g3⟩ hn
  split
  · rename_i hi
    have a':i.toNat < a.images.length:=by omega
    obtain ⟨hft,hfl⟩:=hf _ a'
    have hL:(⟨(a.images.getD i.toNat ZEo).terms⟩:ZMj)=a.images.getD i.toNat ZEo:=rfl
    rw [i64_in (i+1) (by omega),← hL]
    have good:(∀ j,j < (a.images.getD i.toNat ZEo).terms.length→wdU ((a.images.getD i.toNat ZEo).terms.getD j ZEo).mono 8≠1)→next (i+1):=fun hh=>hn _ ⟨by omega,by omega,fun k hk=>by
      by_cases e:k=i.toNat
      · subst e; exact hh
      · exact g3 k (by omega)⟩ (by omega)
    refine⟨by omega,ZBr hft.pos hfl (fun e=>?_) (fun r hpos hex hall=>?_)⟩
    · rw [if_neg (by omega)]
      exact good fun j hj=>by omega
    · split
      · rename_i q
        subst q
        obtain ⟨j,hj,ej⟩:=hex
        exact h2 fun z=>z _ a' j hj ej
      · rename_i q
        refine good fun j hj e=>q ?_
        obtain ⟨j0,hj0,ej0⟩:=hex
        have:=hall j hj
        have:=ZBs ok hf a' hj0
        omega
  · exact h1 fun i hi=>g3 i (by omega)
theorem ZBu {ds:List Int} {l:List Term} {K:List Int→Prop} (h8:ds.length≤8) (hc:Canon l) (hp:FitT l) (h:K ((ZE8 ds.length).map fun k=>coT l (ZMm.set k 1))):Zis ds ⟨l⟩ K:=by
  unfold Zis
  refine Znj hc hp fun m hm=>?_
  refine Yr (fun i (s:List Int)=>s=(ZE8 i).map fun k=>coT l (ZMm.set k 1)) ds.length ?_ ?_ _ _ _ (by omega) rfl
  · intro i s next hi hs hn
    unfold Zld
    refine⟨by omega,by rw [hs]; simp; unfold Zy; omega,hn _ ?_⟩
    rw [Zct hm.ok.1,hm.cf,hs,List.range_succ,ZSi]
    simp
  · intro s hs; rw [hs]; exact h
theorem Zse {α:Type} [Inhabited α] {l:List α} {p:α→(Bool→Prop)→Prop} {K:Bool→Prop} {Q:α→Prop} (hp:∀ i,i < l.length→∀ K':Bool→Prop,(Q (l.getD i ZEo)→K' true)→(¬ Q (l.getD i ZEo)→K' false)→p (l.getD i ZEo) K')
    (h1:(∃ i,i < l.length∧Q (l.getD i ZEo))→K true) (h2:(∀ i,i < l.length→¬ Q (l.getD i ZEo))→K false) :
    Z8 (fun i (s:Unit) next=>p (l.getD i ZEo) (fun r=>(if r=true then K (decide ((i:Int)≥0)) else next ()))) (fun (s:Unit)=>K (decide ((-1:Int)≥0))) l.length 0 ():=by
  refine Yr (fun i (_:Unit)=>∀ j,j < i→¬ Q (l.getD j ZEo)) l.length ?_ ?_ _ _ _ (by omega) (by intro j hj; omega)
  · intro i s next hi hI hn
    refine hp i hi _ (fun q=>?_) (fun q=>?_)
    · rw [if_pos rfl,decide_eq_true (show (i:Int)≥0 by omega)]
      exact h1 ⟨i,hi,q⟩
    · rw [if_neg (by simp)]
      refine hn _ fun j hj=>?_
      by_cases e:j=i
      · subst e; exact q
      · exact hI j (by omega)
  · intro s hI
    rw [decide_eq_false (show ¬ (-1:Int)≥0 by omega)]
    exact h2 hI
theorem ZBv {a : Alg} {K : Bool → Prop} (ok : OkAlg a) (hf : Jk a) (h1 : Za7 a → K true) (h2 : ¬ Za7 a → K false) : Zit a K := by
  unfold Zit Zle
  have h8:=ok.deg.1
  have hlen:=ok.len
  let row (i:Nat):List Int:=(ZE8 a.degrees.length).map fun k=>coT (a.images.getD i ZEo).terms (ZMm.set k 1)
  refine Yr (fun i (s:List (List Int))=>s=(ZE8 i).map row) a.images.length ?_ ?_ _ _ _ (by omega) rfl
  · intro i s next hi hs hn
    have hL:(⟨(a.images.getD i ZEo).terms⟩:ZMj)=a.images.getD i ZEo:=rfl
    rw [← hL]
    refine ZBu h8 (ok.frm i hi).canon (hf i hi).1 ⟨by rw [hs]; simp; unfold Zy; omega,hn _ ?_⟩
    rw [hs,List.range_succ,ZSi]
    rfl
  · intro s hs
    subst hs
    have hget:∀ i,i < a.images.length→((ZE8 a.images.length).map row).getD i ZEo=row i:=fun i hi=>by simp [List.getD,hi]
    have hrow:∀ i k,k < a.degrees.length→(row i).getD k ZEo=coT (a.images.getD i ZEo).terms (ZMm.set k 1):=fun i k hk=>by simp [row,List.getD,hk]
    have key:∀ i,i < a.images.length→((∃ k,k < a.degrees.length∧coT (a.images.getD i ZEo).terms (ZMm.set k 1)≠0)↔∃ j,j < (a.images.getD i ZEo).terms.length∧wdU ((a.images.getD i ZEo).terms.getD j ZEo).mono 8=1):=fun i hi=>by
      have hc:=(ok.frm i hi).canon
      constructor
      · rintro ⟨k,hk,hnz⟩
        obtain ⟨t,ht,e⟩:=(Zsd hc).1 hnz
        obtain ⟨j,hj,rfl⟩:=List.getElem_of_mem ht
        refine⟨j,hj,?_⟩
        rw [← Xd _ _ hj,e]
        exact ZBp (by omega)
      · rintro ⟨j,hj,ej⟩
        have hm:=(ok.frm i hi).mono (Y5 hj)
        have pm:=(hf i hi).1.pos _ (Y5 hj)
        obtain ⟨q,hq,e⟩:=ZBo (fun i hi=>(pm i hi).1) ej
        have hqn:q < a.degrees.length:=by
          rcases Nat.lt_or_ge q a.degrees.length with z | z
          · exact z
          · have:=(hm q hq).2 z
            rw [e,ZO2 hq,if_pos rfl] at this
            omega
        exact⟨q,hqn,(Zsd hc).2 ⟨_,Y5 hj,e⟩⟩
    unfold Zlc Ze2
    refine Zse (l:=(ZE8 a.images.length).map row) (p:=fun y0_ K_=>Zf9 y0_ K_) (K:=fun r=>K (!r)) (Q:=fun r=>∃ k,k < a.degrees.length∧r.getD k ZEo≠0) (fun i hi K' c1 c2=>?_) (fun hex=>?_) (fun hall=>?_)
    · have hi':i < a.images.length:=by simpa using hi
      unfold Zf9 Zfo Zen
      rw [hget i hi'] at c1 c2 ⊢
      refine Zse (l:=row i) (p:=Zf8) (K:=K') (Q:=fun x=>x≠0) (fun k hk K2 d1 d2=>?_) (fun hex=>?_) (fun hall=>?_)
      · unfold Zf8
        by_cases z:(row i).getD k ZEo=0
        · rw [decide_eq_false (fun n=>n z)]; exact d2 fun n=>n z
        · rw [decide_eq_true z]; exact d1 z
      · obtain ⟨k,hk,hz⟩:=hex
        exact c1 ⟨k,by simpa [row] using hk,hz⟩
      · exact c2 fun ⟨k,hk,hz⟩=>hall k (by simpa [row] using hk) hz
    · obtain ⟨i,hi,k,hk,hz⟩:=hex
      have hi':i < a.images.length:=by simpa using hi
      rw [hget i hi',hrow i k hk] at hz
      obtain ⟨j,hj,ej⟩:=(key i hi').1 ⟨k,hk,hz⟩
      exact h2 fun z=>z i hi' j hj ej
    · refine h1 fun i hi j hj ej=>?_
      obtain ⟨k,hk,hz⟩:=(key i hi).2 ⟨j,hj,ej⟩
      exact hall i (by simpa using hi) ⟨k,hk,by rw [hget i hi,hrow i k hk]; exact hz⟩
theorem Zsf {a:Alg} {b:Bool} {K:Int→Prop} (hf:Jk a) (h1:¬ OkAlg a→K 1) (h2:OkAlg a→¬ Za7 a→K 5) (h3:OkAlg a→Za7 a→K (if b=true then 0 else 2)):Zga a b K:=by
  unfold Zga
  refine Zys hf (fun ok=>?_) (fun no=>?_)
  · rw [if_pos rfl]
    refine ZBv ok hf (fun m=>?_) (fun m=>?_)
    · rw [if_neg (by simp)]
      refine Zh9 (Zog ?_)
      rw [if_neg (by simp)]
      have:=h3 ok m
      cases b <;> simpa using this
    · rw [if_pos (by simp)]
      refine Zh9 (Zog ?_)
      rw [if_pos (by decide)]
      exact h2 ok m
  · rw [if_neg (by decide)]
    refine Zh9 (Zog ?_)
    rw [if_pos (by decide)]
    exact h1 no
theorem ZBw {a:Alg} {K:Int→Prop} (hf:Jk a) (h1:¬ OkAlg a→K 1) (h2:OkAlg a→¬ Za7 a→K 5) (h3:OkAlg a→Za7 a→K 0):Zij a K:=by
  unfold Zij
  refine Zrd hf (fun ok=>?_) (fun no=>?_)
  · rw [if_neg (by simp)]
    refine ZBt ok hf (fun m=>?_) (fun m=>?_)
    · rw [if_neg (by simp)]; exact h3 ok m
    · rw [if_pos (by simp)]; exact h2 ok m
  · rw [if_pos (by simp)]; exact h1 no
end Go.Proofs.YtaagfepgbofmlaaGreat
namespace Go.Proofs.YtaagfepgbofmlaaGreat
open Go Vc
def Zaq (g:Int→List A8):Nat→List A8
  | 0=>[]
  | k+1=>g k++Zaq g k
def Jf (d n:Int):Int:=if d % 2=1 then(if 1 < (if 20 < n / d then 20 else n / d) then 1 else(if 20 < n / d then 20 else n / d)) else(if 20 < n / d then 20 else n / d)
def X2 (ds:List Int):Nat→Nat→A8→Int→List A8
  | 0,_,m,n=>if n=0 then [m] else []
  | f+1,i,m,n=>Zaq (fun k=>X2 ds f (i+1) (m.set i k) (n - k * ds.getD i ZEo)) ((Jf (ds.getD i ZEo) n).toNat+1)
theorem Zlm {d n:Int} (hd:1≤d) (hn:0≤n):0≤Jf d n∧Jf d n≤20∧Jf d n * d≤n:=by
  have h0:0≤n / d:=Z0p hn (by omega)
  have h1:n / d * d≤n:=Int.ediv_mul_le n (by omega)
  have key:∀ x:Int,0≤x→x≤n / d→x * d≤n:=fun x _ hx=>Z0a (Z0b hx (by omega)) h1
  have hb:0≤Jf d n∧Jf d n≤20∧Jf d n≤n / d:=by
    unfold Jf
    generalize n / d=q at *
    repeat' split
    all_goals omega
  exact⟨hb.1,hb.2.1,key _ hb.1 hb.2.2⟩
theorem Zsg {c:Nat} {g rest l:List A8} (hl:l.length≤c+1):l++g.take ((c+1) - l.length)++rest.take ((c+1) - (l++g.take ((c+1) - l.length)).length)=l++(g++rest).take ((c+1) - l.length):=by
  rw [List.append_assoc,List.take_append,ZEz,ZGs]
  congr 3
  omega
theorem set_set {m:A8} {i:Nat} {a b:Int} (hi:i < 8):(m.set i a).set i b=m.set i b:=by
  refine A8.ext_get fun q hq=>?_
  rw [ZO2 hi,ZO2 hi,ZO2 hi]
  split <;> rfl
theorem ZBx {k:Int} (h:0≤k∧k≤20):ZMt.wrap k=k:=Zmv _ (by omega)
theorem Zsh {d n:Int} (hn:0≤n):ZW1 n d=n / d:=Int.tdiv_eq_ediv_of_nonneg hn
theorem ZBy {ds : List Int} (hd : OkDeg ds) : ∀ (f F i : Nat) (m : A8) (n : Int) (l : List A8) (K : List A8 → Prop), i + f = ds.length → f < F → (0 ≤ n ∧ n ≤ 40) → l.length ≤ 400 → K (l ++ (X2 ds f i m n).take (401 - l.length)) → f_spec_l01Fill F ds m i n l K := by
  intro f
  induction f with
  | zero =>
    intro F i m n l K hi hF hn hl h
    obtain ⟨F,rfl⟩:∃ G,F=G+1:=⟨F - 1,by omega⟩
    rw [f_spec_l01Fill.eq_2,if_pos (by omega)]
    unfold X2 at h
    split
    · rename_i q
      rw [if_pos q] at h
      refine⟨by unfold Zy; omega,?_⟩
      rwa [ZFo (by simp; omega)] at h
    · rename_i q
      rw [if_neg q] at h
      simpa using h
  | succ f ih =>
    intro F i m n l K hi hF hn hl h
    obtain ⟨F,rfl⟩:∃ G,F=G+1:=⟨F - 1,by omega⟩
    have h8:=hd.1
    have hdi:=hd.2 i (by omega)
    obtain ⟨t0,t20,tn⟩:=Zlm (d:=ds.getD i ZEo) (n:=n) hdi.1 hn.1
    have hq0:0≤n / ds.getD i ZEo:=Z0p hn.1 (by omega)
    have hq1:n / ds.getD i ZEo≤n:=Int.ediv_le_self _ hn.1
    rw [f_spec_l01Fill.eq_2,if_neg (by omega)]
    rw [Int.toNat_natCast,Zsh hn.1,i64_in (n / ds.getD i ZEo) (by omega),i64_in ((i:Int)+1) (by omega)]
    have loop:∀ (t:Int),Jf (ds.getD i ZEo) n=t→Xt (fun (s80:A8×(List A8)×Int) next82=>(if s80.2.2≥0 then(if(s80.2.1.length:Int)≤400 then((0≤(i:Int)∧(i:Int) < 8)∧((0≤(i:Int)∧(i:Int) < (ds.length:Int))∧f_spec_l01Fill F ds (s80.1.set i (ZMt.wrap s80.2.2)) ((i:Int)+1) (ZG5.wrap (n - (ZG5.wrap (s80.2.2 * (ds.getD i ZEo))))) s80.2.1 (fun r105=>next82 (s80.1.set i (ZMt.wrap s80.2.2),r105,ZG5.wrap (s80.2.2 - 1))))) else K s80.2.1) else K s80.2.1)) (m,l,t):=by
      rintro t rfl
      rw [X2] at h
      refine X5 (fun (s:A8×List A8×Int)=>(∀ b,s.1.set i b=m.set i b)∧s.2.1.length≤401∧(-1≤s.2.2∧s.2.2≤Jf (ds.getD i ZEo) n)∧s.2.1++(Zaq (fun k=>X2 ds f (i+1) (m.set i k) (n - k * ds.getD i ZEo)) (s.2.2+1).toNat).take (401 - s.2.1.length)=l++(Zaq (fun k=>X2 ds f (i+1) (m.set i k) (n - k * ds.getD i ZEo)) ((Jf (ds.getD i ZEo) n).toNat+1)).take (401 - l.length)) (fun s=>(s.2.2+1).toNat) ?_ ⟨fun _=>rfl,by dsimp only; omega,by dsimp only; omega,by dsimp only; rw [show (Jf (ds.getD i ZEo) n+1).toNat=(Jf (ds.getD i ZEo) n).toNat+1 by omega]⟩
      rintro ⟨x,y,k⟩ next ⟨k1,k2,k3,k4⟩ hx
      dsimp only at k1 k2 k3 k4 hx ⊢
      split
      · rename_i hk
        have hkd0:0≤k * ds.getD i ZEo:=Int.mul_nonneg hk (by omega)
        have hkd:k * ds.getD i ZEo≤n:=Z0a (Z0b k3.2 (by omega)) tn
        split
        · rename_i hy
          refine⟨by omega,by omega,?_⟩
          rw [ZBx ⟨hk,by omega⟩,i64_in (k * ds.getD i ZEo) (by omega),i64_in (n - k * ds.getD i ZEo) (by omega),i64_in (k - 1) (by omega),k1 k]
          have e:((i:Int)+1)=((i+1:Nat):Int):=by omega
          rw [e]
          refine ih F (i+1) _ _ _ _ (by omega) (by omega) (by omega) (by omega) (hx _ ⟨fun b=>by dsimp only; rw [set_set (by omega)],?_,by dsimp only; omega,?_⟩ (by dsimp only; omega))
          · dsimp only; rw [ZEz,ZGs]; omega
          · dsimp only
            rw [← k4,show (k+1).toNat=k.toNat+1 by omega,Zaq,show (k - 1+1).toNat=k.toNat by omega,show ((k.toNat:Nat):Int)=k by omega]
            exact Zsg (c:=400) k2
        · rename_i hy
          have e:y.length=401:=by omega
          rw [← k4,e] at h
          simpa using h
      · rename_i hk
        rw [← k4,show (k+1).toNat=0 by omega] at h
        simpa [Zaq] using h
    have ht:ZFf (ds.getD i ZEo) 2=ds.getD i ZEo % 2:=ZO4 (by omega)
    rw [ht]
    refine⟨by omega,by omega,by omega,?_⟩
    split
    · rename_i q
      refine loop _ ?_
      unfold Jf
      rw [if_pos (by omega)]
      clear loop h ih
      generalize n / ds.getD i ZEo=q at *
      repeat' split
      all_goals omega
    · rename_i q
      refine loop _ ?_
      unfold Jf
      rw [if_neg (by omega)]
theorem ZBz {ds : List Int} (hd : OkDeg ds) (c : Nat) (hc : c ≤ 1000) : ∀ (f F i : Nat) (m : A8) (n : Int) (l : List A8) (K : List A8 → Prop), i + f = ds.length → f < F → (0 ≤ n ∧ n ≤ 40) → l.length ≤ (c + 1) → K (l ++ (X2 ds f i m n).take ((c + 1) - l.length)) → f_impl_lister_from F (ds, (c : Int), l) i m n K := by
  intro f
  induction f with
  | zero =>
    intro F i m n l K hi hF hn hl h
    obtain ⟨F,rfl⟩:∃ G,F=G+1:=⟨F - 1,by omega⟩
    rw [f_impl_lister_from.eq_2]
    dsimp only
    unfold X2 at h
    split
    · rename_i q
      rw [show (c+1) - l.length=0 by omega] at h
      simpa using h
    · rename_i q
      rw [if_pos (by omega)]
      split
      · rename_i q
        rw [if_pos q] at h
        refine⟨by unfold Zy; omega,?_⟩
        rwa [ZFo (by simp; omega)] at h
      · rename_i q
        rw [if_neg q] at h
        simpa using h
  | succ f ih =>
    intro F i m n l K hi hF hn hl h
    obtain ⟨F,rfl⟩:∃ G,F=G+1:=⟨F - 1,by omega⟩
    have h8:=hd.1
    have hdi:=hd.2 i (by omega)
    obtain ⟨t0,t20,tn⟩:=Zlm (d:=ds.getD i ZEo) (n:=n) hdi.1 hn.1
    have hq0:0≤n / ds.getD i ZEo:=Z0p hn.1 (by omega)
    have hq1:n / ds.getD i ZEo≤n:=Int.ediv_le_self _ hn.1
    rw [f_impl_lister_from.eq_2]
    dsimp only
    split
    · rename_i q
      rw [show (c+1) - l.length=0 by omega] at h
      simpa using h
    rw [if_neg (by omega)]
    rw [Int.toNat_natCast,Zsh hn.1,i64_in (n / ds.getD i ZEo) (by omega),i64_in ((i:Int)+1) (by omega)]
    have loop:∀ (t:Int),Jf (ds.getD i ZEo) n=t→Xt (fun (s65:A8×(List A8)×Int) next67=>(if s65.2.2≥0 then((0≤(i:Int)∧(i:Int) < 8)∧f_impl_lister_from F (ds,(c:Int),s65.2.1) ((i:Int)+1) (s65.1.set i s65.2.2) (ZG5.wrap (n - (ZG5.wrap (s65.2.2 * (ds.getD i ZEo))))) (fun m79=>next67 (s65.1.set i s65.2.2,m79,ZG5.wrap (s65.2.2 - 1)))) else K s65.2.1)) (m,l,t):=by
      rintro t rfl
      rw [X2] at h
      refine X5 (fun (s:A8×List A8×Int)=>(∀ b,s.1.set i b=m.set i b)∧s.2.1.length≤(c+1)∧(-1≤s.2.2∧s.2.2≤Jf (ds.getD i ZEo) n)∧s.2.1++(Zaq (fun k=>X2 ds f (i+1) (m.set i k) (n - k * ds.getD i ZEo)) (s.2.2+1).toNat).take ((c+1) - s.2.1.length)=l++(Zaq (fun k=>X2 ds f (i+1) (m.set i k) (n - k * ds.getD i ZEo)) ((Jf (ds.getD i ZEo) n).toNat+1)).take ((c+1) - l.length)) (fun s=>(s.2.2+1).toNat) ?_ ⟨fun _=>rfl,by dsimp only; omega,by dsimp only; omega,by dsimp only; rw [show (Jf (ds.getD i ZEo) n+1).toNat=(Jf (ds.getD i ZEo) n).toNat+1 by omega]⟩
      rintro ⟨x,y,k⟩ next ⟨k1,k2,k3,k4⟩ hx
      dsimp only at k1 k2 k3 k4 hx ⊢
      split
      · rename_i hk
        have hkd0:0≤k * ds.getD i ZEo:=Int.mul_nonneg hk (by omega)
        have hkd:k * ds.getD i ZEo≤n:=Z0a (Z0b k3.2 (by omega)) tn
        refine⟨by omega,?_⟩
        rw [i64_in (k * ds.getD i ZEo) (by omega),i64_in (n - k * ds.getD i ZEo) (by omega),i64_in (k - 1) (by omega),k1 k]
        have e:((i:Int)+1)=((i+1:Nat):Int):=by omega
        rw [e]
        refine ih F (i+1) _ _ _ _ (by omega) (by omega) (by omega) k2 (hx _ ⟨fun b=>by dsimp only; rw [set_set (by omega)],?_,by dsimp only; omega,?_⟩ (by dsimp only; omega))
        · dsimp only; rw [ZEz,ZGs]; omega
        · dsimp only
          rw [← k4,show (k+1).toNat=k.toNat+1 by omega,Zaq,show (k - 1+1).toNat=k.toNat by omega,show ((k.toNat:Nat):Int)=k by omega]
          exact Zsg k2
      · rename_i hk
        rw [← k4,show (k+1).toNat=0 by omega] at h
        simpa [Zaq] using h
    have ht:ZFf (ds.getD i ZEo) 2=ds.getD i ZEo % 2:=ZO4 (by omega)
    rw [ht]
    refine⟨by omega,by omega,?_⟩
    split
    · rename_i q
      refine loop _ ?_
      unfold Jf
      rw [if_pos q]
    · rename_i q
      refine loop _ ?_
      unfold Jf
      rw [if_neg q]
def Zi4 (p:A8):Prop:=∀ q,q < 8→0≤p.get q∧p.get q≤20
theorem Zln {g:Int→List A8} {p:A8}:∀ {t:Nat}, p∈Zaq g t→∃ k:Nat,k < t∧p∈g k:=by
  intro t
  induction t with
  | zero=>intro h; simp [Zaq] at h
  | succ t ih =>
    intro h
    rw [Zaq] at h
    rcases ZEv.1 h with h | h
    · exact⟨t,by omega,h⟩
    · obtain ⟨k,hk,hp⟩:=ih h
      exact⟨k,by omega,hp⟩
theorem ZB0 {ds:List Int} (hd:OkDeg ds):∀ (f i:Nat) (m:A8) (n:Int),i+f=ds.length→0≤n→Zi4 m→∀ p,p∈X2 ds f i m n→Zi4 p:=by
  intro f
  induction f with
  | zero =>
    intro i m n hi hn hm p hp
    unfold X2 at hp
    split at hp
    · rw [ZFz.1 hp]; exact hm
    · simp at hp
  | succ f ih =>
    intro i m n hi hn hm p hp
    have h8:=hd.1
    have hdi:=hd.2 i (by omega)
    obtain ⟨t0,t20,tn⟩:=Zlm (d:=ds.getD i ZEo) (n:=n) hdi.1 hn
    rw [X2] at hp
    obtain ⟨k,hk,hp⟩:=Zln hp
    have hkd:(k:Int) * ds.getD i ZEo≤n:=Z0a (Z0b (by omega) (by omega)) tn
    refine ih (i+1) _ _ (by omega) (by omega) (fun q hq=>?_) p hp
    rw [ZO2 (by omega)]
    split
    · omega
    · exact hm q hq
def mons (ds:List Int) (n:Int):List A8:=if n < 0 then [] else X2 ds ds.length 0 ZMm n
theorem Zlo {ds:List Int} (hd:OkDeg ds) {n:Int}:∀ p,p∈mons ds n→Zi4 p:=fun p hp=>by
  unfold mons at hp
  split at hp
  · simp at hp
  · exact ZB0 hd _ _ _ _ (by omega) (by omega) (fun q hq=>by rw [A8.get_zero]; omega) p hp
def Fits (ds:List Int) (n:Int):Prop:=(mons ds n).length≤120
instance (ds:List Int) (n:Int):Decidable (Fits ds n):=inferInstanceAs (Decidable (_≤_))
theorem kb {K:List A8→Bool→Prop} {a c:List A8} {b d:Bool} (h:K a b) (e1:c=a) (e2:d=b):K c d:=by rw [e1,e2]; exact h
theorem Zlp {ds:List Int} (hd:OkDeg ds) {n:Int} (hn:n≤40) {K:List A8→Bool→Prop} (h1:Fits ds n→K (mons ds n) true) (h2:¬ Fits ds n→∀ l,K l false):Za6 ds n 120 K:=by
  unfold Za6
  by_cases h0:n≥0
  · rw [if_pos h0]
    have h8:=hd.1
    have e:mons ds n=X2 ds ds.length 0 ZMm n:=by unfold mons; rw [if_neg (by omega)]
    refine ZBz hd 120 (by omega) ds.length 9 0 ZMm n [] _ (by omega) (by omega) (by omega) (by simp) ?_
    rw [← e]
    have et:([]:List A8)++(mons ds n).take (120+1 - ([]:List A8).length)=(mons ds n).take 121:=by simp
    by_cases hf:Fits ds n
    · have hf':(mons ds n).length≤120:=hf
      exact kb (h1 hf) (by rw [et,ZFo (by omega)]) (decide_eq_true (by rw [et,ZGs]; omega))
    · have hf':¬ (mons ds n).length≤120:=hf
      exact kb (h2 hf _) rfl (decide_eq_false (by rw [et,ZGs]; omega))
  · rw [if_neg h0]
    have e:mons ds n=[]:=by unfold mons; rw [if_pos (by omega)]
    have:=h1 (by unfold Fits; rw [e]; simp)
    rw [e] at this
    exact this
theorem Zsi {ds:List Int} (hd:OkDeg ds) {n:Int} (hn:0≤n∧n≤40) {K:List A8→Prop} (h:K ((mons ds n).take 401)):Zf4 ds n K:=by
  unfold Zf4
  have h8:=hd.1
  have e:mons ds n=X2 ds ds.length 0 ZMm n:=by unfold mons; rw [if_neg (by omega)]
  rw [e] at h
  exact ZBy hd ds.length 9 0 ZMm n [] _ (by omega) (by omega) hn (by simp) h
theorem ZB1 {a : Alg} (hd : OkDeg a.degrees) {n : Int} (hn : 0 ≤ n ∧ n ≤ 20) {K : Bool → Prop} (h1 : Fits a.degrees (n - 1) → Fits a.degrees n → Fits a.degrees (n + 1) → K true) (h2 : ¬ (Fits a.degrees (n - 1) ∧ Fits a.degrees n ∧ Fits a.degrees (n + 1)) → K false) : Zik a (ZG5.wrap (n - 1)) (ZG5.wrap (n + 1)) K := by
  unfold Zik
  rw [i64_in (n - 1) (by omega),i64_in (n+1) (by omega)]
  have fneg:∀ j:Int,j < 0→Fits a.degrees j:=fun j hj=>by unfold Fits mons; rw [if_pos hj]; simp
  refine X5 (fun (s:Int)=>0≤s∧(n - 1≤s∧s≤n+2)∧∀ j:Int,n - 1≤j→j < s→Fits a.degrees j) (fun s=>(n+2 - s).toNat) ?_ ?_
  · rintro s next ⟨g1,g2,g3⟩ hx
    split
    · rename_i q
      refine Zsi hd (by omega) ?_
      split
      · rename_i q2
        refine h2 fun z=>?_
        have hs:Fits a.degrees s:=by
          rcases (show s=n - 1∨s=n∨s=n+1 by omega) with e | e | e
          · rw [e]; exact z.1
          · rw [e]; exact z.2.1
          · rw [e]; exact z.2.2
        have hs':(mons a.degrees s).length≤120:=hs
        rw [ZGs] at q2
        omega
      · rename_i q2
        rw [i64_in (s+1) (by omega)]
        refine hx _ ⟨by omega,by omega,fun j hj1 hj2=>?_⟩ (by omega)
        by_cases e:j=s
        · subst e
          show (mons a.degrees j).length≤120
          rw [ZGs] at q2; omega
        · exact g3 j hj1 (by omega)
    · rename_i q
      exact h1 (g3 _ (by omega) (by omega)) (g3 _ (by omega) (by omega)) (g3 _ (by omega) (by omega))
  · by_cases q:n - 1 < 0
    · rw [if_pos q]; exact⟨by omega,by omega,fun j _ hj=>fneg j hj⟩
    · rw [if_neg q]; exact⟨by omega,by omega,fun j hj1 hj2=>by omega⟩
def Zbz (ds:List Int) (n:Int):Prop:=Fits ds (n - 1)∧Fits ds n∧Fits ds (n+1)
theorem ZB2 {a:Alg} {n:Int} {K:Int→Prop} (hf:Jk a) (ok:OkAlg a) (h1:¬ (0≤n∧n≤20)→K 2) (h2:(0≤n∧n≤20)→¬ Zbz a.degrees n→K 3) (h3:(0≤n∧n≤20)→Zbz a.degrees n→K 0):Zil a n K:=by
  unfold Zil
  refine Zrd hf (fun _=>?_) (fun no=>absurd ok no)
  rw [if_neg (by simp)]
  refine Zkh ?_
  by_cases hn:0≤n∧n≤20
  · rw [decide_eq_true hn,if_neg (by simp)]
    refine ZB1 ok.deg hn (fun a1 a2 a3=>?_) (fun no=>?_)
    · rw [if_neg (by simp)]; exact h3 hn ⟨a1,a2,a3⟩
    · rw [if_pos (by simp)]; exact h2 hn no
  · rw [decide_eq_false hn,if_pos (by simp)]; exact h1 hn
theorem ZB3 {S:Type} {b:Nat→S→(S→Prop)→Prop} {e:S→Prop} {s:S} (h:b 0 s e):Z8 b e 1 0 s:=h
theorem ZB4 {ds:List Int} (hd:OkDeg ds) {n:Int} (hn:0≤n∧n≤20) {A B:Prop} (h1:¬ Zbz ds n→A) (h2:Zbz ds n→B) :
    Za6 ds (ZG5.wrap ((([n]:List Int).getD 0 ZEo) - 1)) 120 (fun _ r2=>if¬ (r2=true) then A else Za6 ds (([n]:List Int).getD 0 ZEo) 120 (fun _ r4=>if¬ (r4=true) then A else Za6 ds (ZG5.wrap ((([n]:List Int).getD 0 ZEo)+1)) 120 (fun _ r6=>if¬ (r6=true) then A else B))):=by
  show Za6 ds (ZG5.wrap (n - 1)) 120 (fun _ r2=>if¬ (r2=true) then A else Za6 ds n 120 (fun _ r4=>if¬ (r4=true) then A else Za6 ds (ZG5.wrap (n+1)) 120 (fun _ r6=>if¬ (r6=true) then A else B)))
  rw [i64_in (n - 1) (by omega),i64_in (n+1) (by omega)]
  refine Zlp hd (by omega) (fun a1=>?_) (fun no _=>?_)
  · rw [if_neg (by simp)]
    refine Zlp hd (by omega) (fun a2=>?_) (fun no _=>?_)
    · rw [if_neg (by simp)]
      refine Zlp hd (by omega) (fun a3=>?_) (fun no _=>?_)
      · rw [if_neg (by simp)]; exact h2 ⟨a1,a2,a3⟩
      · rw [if_pos (by simp)]; exact h1 fun z=>no z.2.2
    · rw [if_pos (by simp)]; exact h1 fun z=>no z.2.1
  · rw [if_pos (by simp)]; exact h1 fun z=>no z.1
theorem Zi5 {ds:List Int} (hd:OkDeg ds) {n:Int} {i:Nat} (hi:i < (mons ds n).length):∀ j,j < 8→0≤((mons ds n).getD i ZEo).get j∧((mons ds n).getD i ZEo).get j≤255:=fun j hj=>by
  have:=Zlo hd _ (Y5 hi) j hj
  omega
end Go.Proofs.YtaagfepgbofmlaaGreat
namespace Go.Proofs.YtaagfepgbofmlaaGreat
open Go Vc
theorem ZB5 {l:List Int} {m:Int} {K:Int→List Int→Prop} (hm:0≤m∧m+l.length≤4611686018427387904) (h:∀ x',x'.length=l.length→(∀ K':Int→Prop,K' (m+l.length)→Zfv x' m K')→K (m+l.length) x'):Zd0 l m K:=by
  unfold Zd0
  refine X5 (fun (s:List Int×Int×Int)=>s.1.length=l.length∧(0≤s.2.2∧s.2.2≤l.length)∧s.2.1=m+s.2.2∧∀ j:Nat,(j:Int) < s.2.2→s.1.getD j ZEo=m+j) (fun s=>l.length - s.2.2.toNat) ?_ ⟨rfl,by dsimp only; omega,by simp,by intro j hj; dsimp only at hj; omega⟩
  rintro ⟨x,c,i⟩ next ⟨h1,h2,h3,h4⟩ hn
  dsimp only at h1 h2 h3 h4 ⊢
  split
  · rename_i hi
    refine⟨by omega,?_⟩
    rw [i64_in (c+1) (by omega),i64_in (i+1) (by omega)]
    refine hn _ ⟨by simpa using h1,by dsimp only; omega,by dsimp only; omega,fun j hj=>?_⟩ (by dsimp only; omega)
    dsimp only at hj ⊢
    rw [Zd1 (by omega)]
    split
    · omega
    · exact h4 j (by omega)
  · rename_i hi
    have hc:c=m+l.length:=by omega
    rw [hc]
    refine h x h1 fun K' hK'=>?_
    unfold Zfv
    refine Yr (fun i (s:Int)=>s=m+i) x.length ?_ ?_ _ _ _ (by omega) (by simp)
    · intro j s next hj hs hn'
      rw [if_neg (by rw [h4 j (by omega),hs]; simp),i64_in (s+1) (by omega)]
      exact hn' _ (by omega)
    · intro s hs
      rw [hs,h1]; exact hK'
def cnt (fs:List ZMj):Nat:=(fs.map (fun f=>f.terms.length)).sum
theorem ZB6 {l:List Int} {m:Int} {K:Int→List Int→Prop} (hm:0≤m∧m+l.length≤4611686018427387904) (h:∀ x',K (m+l.length) x'):Zd0 l m K:=by
  unfold Zd0
  refine X5 (fun (s:List Int×Int×Int)=>s.1.length=l.length∧(0≤s.2.2∧s.2.2≤l.length)∧s.2.1=m+s.2.2) (fun s=>l.length - s.2.2.toNat) ?_ ⟨rfl,by dsimp only; omega,by simp⟩
  rintro ⟨x,c,i⟩ next ⟨h1,h2,h3⟩ hn
  dsimp only at h1 h2 h3 ⊢
  split
  · rename_i hi
    refine⟨by omega,?_⟩
    rw [i64_in (c+1) (by omega),i64_in (i+1) (by omega)]
    exact hn _ ⟨by simpa using h1,by dsimp only; omega,by dsimp only; omega⟩ (by dsimp only; omega)
  · rename_i hi
    have hc:c=m+l.length:=by omega
    rw [hc]
    exact h x
theorem ZB7 {fs:List ZMj} {B:Nat} (h:∀ i,i < fs.length→(fs.getD i ZEo).terms.length≤B):cnt fs≤fs.length * B:=by
  induction fs with
  | nil=>simp [cnt]
  | cons f fs ih =>
    have h0:=h 0 (by simp)
    have h1:=ih fun i hi=>by have:=h (i+1) (by simpa using hi); simpa using this
    simp only [List.getD_cons_zero] at h0
    simp only [cnt,List.map_cons,List.sum_cons,List.length_cons,Nat.add_mul,Nat.one_mul] at h1 ⊢
    omega
theorem ZB8 {fs:List ZMj} {m:Int} {K:Int→List ZMj→Prop} (hm:0≤m∧m+9 * cnt fs≤4611686018427387904) (h:∀ x' n,0≤n→n≤m+9 * cnt fs→K n x') (hl:fs.length≤1048576):Zh6 fs m K:=by
  unfold Zh6
  let part (i:Nat):Int:=m+9 * cnt (fs.take i)
  have hp0:part 0=m:=by simp [part,cnt]
  have hps:∀ i,i < fs.length→part (i+1)=part i+9 * (fs.getD i ZEo).terms.length:=by
    intro i hi
    simp only [part,cnt,List.take_add_one,List.getElem?_eq_getElem hi,Option.toList_some,ZSi,List.sum_append,List.map_cons,List.map_nil,List.sum_cons,List.sum_nil,List.getD,Option.getD_some]
    omega
  have hpl:part fs.length=m+9 * cnt fs:=by simp [part]
  have hmono:∀ i,i≤fs.length→m≤part i∧part i≤m+9 * cnt fs:=by
    intro i hi
    have:cnt fs=cnt (fs.take i)+cnt (fs.drop i):=by
      unfold cnt; rw [← List.sum_append,← ZSi,List.take_append_drop]
    simp only [part]; omega
  refine X5 (fun (s:List ZMj×Int×Int)=>s.1.length=fs.length∧(0≤s.2.2∧s.2.2≤fs.length)∧s.2.1=part s.2.2.toNat∧∀ j:Nat,s.2.2≤(j:Int)→s.1.getD j ZEo=fs.getD j ZEo) (fun s=>fs.length - s.2.2.toNat) ?_ ⟨rfl,by dsimp only; omega,by dsimp only; exact hp0.symm,fun _ _=>rfl⟩
  rintro ⟨x,c,i⟩ next ⟨h1,h2,h3,h5⟩ hn
  dsimp only at h1 h2 h3 h5 ⊢
  split
  · rename_i hi
    refine⟨by omega,?_⟩
    have hin:i.toNat < fs.length:=by omega
    have hxi:x.getD i.toNat ZEo=fs.getD i.toNat ZEo:=h5 _ (by omega)
    have hs:=hps i.toNat hin
    have hb:=hmono (i.toNat+1) (by omega)
    have hb0:=hmono i.toNat (by omega)
    rw [hxi]
    refine Zx6 (by rw [h3]; omega) fun y hy ht=>?_
    rw [i64_in (i+1) (by omega)]
    refine hn _ ⟨by simpa using h1,by dsimp only; omega,by dsimp only; rw [show (i+1).toNat=i.toNat+1 by omega,hs,h3],fun j hj=>?_⟩ (by dsimp only; omega)
    · dsimp only at hj ⊢
      rw [Zd1 (by omega),if_neg (by omega)]
      exact h5 j (by omega)
  · rename_i hi
    have hie:i.toNat=fs.length:=by omega
    have hc:c=part fs.length:=by rw [h3,hie]
    have hb:=hmono fs.length (Nat.le_refl _)
    rw [hc]
    exact h x _ (by omega) hb.2
theorem ZB9 {a:Alg} {m:Int} {K:Int→Alg→Prop} (hm:0≤m∧m≤100000000000000000) (h1:a.degrees.length≤1048576) (h2:a.images.length≤1048576) (h3:∀ i,i < a.images.length→(a.images.getD i ZEo).terms.length≤1048576) (h:∀ x' n,0≤n→n≤m+10000000000000→K n x'):Zh7 a m K:=by
  unfold Zh7
  have hc:=ZB7 h3
  have hc2:a.images.length * 1048576≤1048576 * 1048576:=Nat.mul_le_mul_right _ h2
  refine ZB6 (by omega) fun d=>?_
  exact ZB8 (by omega) (fun fs n h0 hn=>h _ n h0 (by omega)) (by omega)
end Go.Proofs.YtaagfepgbofmlaaGreat
namespace Go.Proofs.YtaagfepgbofmlaaGreat
open Go Vc
def Xu (p:Int) (l:List A8):List A8:=l.filter fun m=>decide (p≤wdU m 8)
theorem Zge {p:Int} {l:List A8} {i:Nat} (h:i < l.length):Xu p (l.take (i+1))=if p≤wdU (l.getD i ZEo) 8 then Xu p (l.take i)++[l.getD i ZEo] else Xu p (l.take i):=by
  rw [Xq h,Xu,List.filter_append]
  by_cases q:p≤wdU (l.getD i ZEo) 8
  · rw [if_pos q,List.filter_cons_of_pos (by simpa using q)]; rfl
  · rw [if_neg q,List.filter_cons_of_neg (by simpa using q),List.filter_nil,List.append_nil]; rfl
theorem Zgf (p:Int) (l:List A8):(Xu p l).length≤l.length:=List.length_filter_le _ _
theorem Zi6 {ds:List Int} (hd:OkDeg ds) {n:Int}:Xu 0 (mons ds n)=mons ds n:=by
  refine List.filter_eq_self.2 fun m hm=>?_
  have hs:=Zlo hd m hm
  have:=(Zi3 (m:=m) (fun i hi=>by have:=hs i hi; omega) 8 (by omega)).1
  simpa using this
end Go.Proofs.YtaagfepgbofmlaaGreat
namespace Go.Proofs.YtaagfepgbofmlaaGreat
open Go Vc
end Go.Proofs.YtaagfepgbofmlaaGreat
