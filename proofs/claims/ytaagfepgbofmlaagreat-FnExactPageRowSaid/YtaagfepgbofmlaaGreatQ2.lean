import Derived.Test.YtaagfepgbofmlaaGreatQ1
set_option linter.unusedSectionVars false
set_option linter.unusedSimpArgs false
set_option linter.unusedVariables false
open Decidable renaming not_not→ZPz
open Go renaming wp_seq→ZMh,wp_skip→ZMl,wp_ret→ZMp,wp_block→ZMn,wp_exit→ZMv
open Go.IntKind renaming i64→ZG5,u8→ZMt
open Go.Proofs.Tryz renaming prog→ZMk,underlying22→ZM0,func192→ZOx,underlying115→ZNe,underlying53→ZMr,underlying162→ZMw,underlying30→ZM5,underlying55→ZMo,underlying32→ZM1,underlying73→ZM4,underlying136→ZMz,underlying48→ZO9,func134→ZPb
open Go.Value renaming map→ZOy,ownBlock→ZFi,int→ZO5
open Inhabited renaming default→ZEo
open Int renaming tmod→ZFf,natCast_nonneg→ZMx,zero_add→ZO0,ofNat_lt→ZNf,tmod_eq_emod_of_nonneg→ZO4,toNat_of_nonneg→ZO6,mul_tdiv_add_tmod→ZP7,eq_ofNat_of_zero_le→ZQa
open List renaming toArray→ZMf,replicate→ZEj,mem_singleton→ZFz,mem_cons→ZEk,mem_map→ZF2,getD→ZEy,map_cons→ZFq,nodup_cons→ZO1,pairwise_cons→ZFb,not_mem_nil→ZGu,length_eq_one_iff→ZNd,take_of_length_le→ZFo,pairwise_append→ZP5
open List.Pairwise renaming nil→ZP4
open List.Perm renaming refl→ZPe
open Nat renaming le_of_ble_eq_true→ZMq,le_trans→ZEp,le_refl→ZEn,lt_of_le_of_lt→ZO7,zero_le→ZGa
open Option renaming toList→ZNg
open Prod renaming fst→ZFr
open Vc renaming ETerm→ZMi,Form→ZMj,TForm→ZM3,TInts→ZOz
open Vc.A8 renaming enc→ZMe,zero→ZMm,enc_get→ZMu,enc_set→ZNb,get_set→ZO2,ext_get→ZO3
open Vc.Ctx renaming start→ZM2
open Vc.Enc renaming encs_len→ZO8
open Vc.Term renaming enc→ZMs
open Vc.Ty renaming item→ZMg
set_option maxRecDepth 4000
set_option maxHeartbeats 4000000
namespace Go.Proofs.YtaagfepgbofmlaaGreat
open Go Go.RowKit Vc
variable {b0 bp0 b1 bp1 b2 bp2 b3 bp3 b4 bp4 b5 bp5 b6 bp6 b7 bp7 mb0:Nat} {u0_0 u0_1 u0_2 u0_3 u0_4 u0_5 u1_0 u1_1 u1_2 u1_3 u1_4 u1_5 u2_0 u2_1 u2_2 u2_3 u2_4 u2_5 u3_0 u3_1 u3_2 u3_3 u3_4 u3_5 u4_0 u4_1 u4_2 u4_3 u4_4 u4_5 u5_0 u5_1 u5_2 u5_3 u5_4 u5_5 u6_0 u6_1 u6_2 u6_3 u6_4 u6_5 u7_0 u7_1 u7_2 u7_3 u7_4 u7_5:Value} {fp0 fp1 fp2 fp3 fp4 fp5 fp6 fp7 fp0_0 fp0_1 fp0_2 fp0_3 fp0_4 fp0_5 fp1_0 fp1_1 fp1_2 fp1_3 fp1_4 fp1_5 F0:List Nat}
def Zem (a0:List (A8×Int)) (a1:List (A8×Int)) (a2:Int) (K:List (A8×Int)→Prop):Prop :=
 Zca (fun (q10:A8×Int) (s10:(List (A8×Int))) nx10=>Zek s10 q10.1 (ZFf (ZG5.wrap (q10.2 * a2)) 10007) (fun m10=>nx10 m10)) (fun (s10:(List (A8×Int)))=>K s10) a1.length a1 a0
theorem Zv2 (a0:List (A8×Int)) (a1:List (A8×Int)) (a2:Int)  {K:List (A8×Int)→Prop} (h:Zem a0 a1 a2 K) (w0:World) (q0:(mapS b0 a0).holds w0) (d1:∀ c,c∈[b1]→c≠b0) (q1:(mapS b1 a1).holds w0) :
  Calls ZMk 165 #[.map (some b0),.map (some b1),vI a2] w0 fun e w'=>∃ (m0:List (A8×Int)),
   e=.returned (.tuple #[])∧K m0∧(mapS b0 m0).holds w'∧BelB b0 w0 w':=by
 unfold Zem at h
 refine cof Tryz.func165 rfl 22 Tryz.ntmps165 ?_
 have hC:=Ctx.start1 w0 b0 (it:=mapS b0 a0) rfl [mapS b1 a1] q0 (by simp only [ZEk,ZGu,or_false,forall_eq_or_imp,forall_eq]; exact q1) (by simp only [ZEk,ZGu,or_false,forall_eq_or_imp,forall_eq]; exact d1)
 refine sr (Za (v:=.map (some b1)) rfl (Zgw hC 0 rfl ZNe rfl fun r3 es4 ck5 w10 hB_ hn6 hbn7 hC=>dn (ZMn ?_)))
 refine Zg0 (S:=(List (A8×Int))) _ _ (fun l10 s10 e_ w_=>∃ (la10:Option MapEntry),Zt e_ [(0,.map (some b0)),(2,vI a2),(9,vQ r3)]∧Ctx (fun c_=>c_=b0) w0 w_ [itI (kvA .i64) (vvI .i64) r3 b1 es4 ck5 la10 l10,mapS b0 s10] [Za9 b1 es4 ck5,mapS b1 a1]) ?_ (l0:=a1) (s0:=a0) ?_ h
 ·clear hC h
  rintro l10 s10 e_ w11 nx10 K10 ⟨la10,hS_,hC⟩ h hK10
  rw [ue hS_]
  refine sr ?_
  refine Zgx hC 0 0 rfl rfl hn6 hbn7 rfl (fun hr10=>?_) (fun q10 l11 ent10 w12 hp10 hk10 hv10 hC=>?_)
  ·replace h:=h.1 hr10
   refine Yx (v:=.bool false) rfl rfl (dn (ZMh (Z1 rfl rfl ?_)))
   refine ZMv (Zj (Zj (Zx ?_)))
   exact Zc2 rfl  ⟨s10,rfl,h,(hC.getM 1 rfl),hC.belB⟩ (.inr rfl)
  ·replace h:=h.2 q10 l11 hp10
   refine Yx (v:=.bool true) rfl rfl (dn (ZMh (Z5 rfl rfl (ZMl (Ze (ZMn (sr (Zgy hC 0 0 q10 rfl rfl hn6 rfl hk10 hv10 (Yx (v:=.agg (ZMf (ZMe .i64 q10.1))) rfl rfl (Yx (v:=vI q10.2) rfl rfl (Ys hC (ZMe .i64 ZMm) z73 rfl fun b10 w13 hB_ hC=>Z3 (v:=.agg (ZMf (ZMe .i64 q10.1))) hC 0 (ZMe .i64 q10.1) (ZMe .i64 q10.1) rfl ag73.size rfl rfl rfl rfl rfl (ZMq rfl) rfl fun w14 hC=>Zd (v:=vI q10.2) rfl (dn (Zh (Za (v:=.map (some b0)) rfl (Yq hC 0 (ZMe .i64 q10.1) rfl ag73 rfl rfl rfl (Za (v:=vI q10.2) rfl (Za (v:=vI a2) rfl (Zan rfl rfl (X8 rfl rfl (by decide) (Zf [.map (some b0),.agg (ZMf (ZMe .i64 q10.1)),vI (ZFf (ZG5.wrap (q10.2 * a2)) 10007)] _ Tryz.func195 rfl rfl rfl (Zm9 s10 q10.1 (ZFf (ZG5.wrap (q10.2 * a2)) 10007) h _ (hC.getM 2 rfl)) ?_))))))))))))))))))))
   rintro _ w15 ⟨m10,rfl,h,hm10,hB10⟩
   refine rt ?_
   replace hC:=hC.turnB 2 rfl hB10 rfl rfl hm10
   refine done (Zr ?_)
   exact hK10 q10 l11 m10 _ _ hp10 ⟨(some ent10),(slq rfl),(hC.xM [1,2] rfl)⟩ h
 ·skip
  exact⟨none,(slq rfl),hC⟩
def Zcq (a0:List (A8×Int)) (a1:List Int) (a2:List (A8×Int)) (K:List (A8×Int)→Prop):Prop :=
 Zca (fun (q10:A8×Int) (s11:(List (A8×Int))) nx11=>Zca (fun (q11:A8×Int) (s10:(List (A8×Int))) nx10=>Zhc q10.1 a1 q11.1 (fun r10 r11=>(if r11≠0 then Zek s10 r10 (ZFf (ZG5.wrap ((ZG5.wrap (r11 * q10.2)) * q11.2)) 10007) (fun m10=>nx10 m10) else nx10 s10))) (fun (s10:(List (A8×Int)))=>nx11 s10) a2.length a2 s11) (fun (s11:(List (A8×Int)))=>K s11) a0.length a0 ([]:List (A8×Int))
theorem J5 (a0:List (A8×Int)) (a1:List Int) (a2:List (A8×Int))  {K:List (A8×Int)→Prop} (h:Zcq a0 a1 a2 K) (w0:World) (q0:(mapS b0 a0).holds w0) (q1:ZOz.rep a1 [u1_0] fp1 w0) (q2:(mapS b2 a2).holds w0) :
  Calls ZMk 192 #[.map (some b0),u1_0,.map (some b2)] w0 fun e w'=>∃ (r0:List (A8×Int)) (zb0:Nat),
   e=.returned (.map (some zb0))∧K r0∧(mapS zb0 r0).holds w'∧w0.heap.size≤zb0∧Bel w0 w':=by
 unfold Zcq at h
 refine cof ZOx rfl 48 Tryz.ntmps192 ?_
 have hC:=ZM2 (X:=Nox) w0 [ZMg TInts a1 [u1_0] fp1,mapS b0 a0,mapS b2 a2] (alc q1 (alc q0 (al1 q2)))
 refine sr (Zd (v:=.map none) rfl (dn (sr (Zfh hC (kvA .i64) (vvI .i64) fun b4 w6 hB_ hC=>Zd (v:=.map (some b4)) rfl (dn (ZMh (sr (Za (v:=.map (some b0)) rfl (Zgw hC 1 rfl ZNe rfl fun r7 es8 ck9 w10 hB_ hn10 hbn10 hC=>dn (ZMn ?_))))))))))
 refine Zg0 (S:=(List (A8×Int))) _ _ (fun l12 s11 e_ w_=>∃ (la10:Option MapEntry),Zt e_ [(1,u1_0),(2,.map (some b2)),(7,.map (some b4)),(16,vQ r7)]∧Ctx Nox w0 w_ [itI (kvA .i64) (vvI .i64) r7 b0 es8 ck9 la10 l12,mapS b4 s11] [Za9 b0 es8 ck9,ZMg TInts a1 [u1_0] fp1,mapS b0 a0,mapS b2 a2]) ?_ (l0:=a0) (s0:=([]:List (A8×Int))) ?_ h
 ·clear hC h
  rintro l12 s11 e_ w11 nx11 K10 ⟨la10,hS_,hC⟩ h hK11
  rw [ue hS_]
  refine sr ?_
  refine Zgx hC 0 0 rfl rfl hn10 hbn10 rfl (fun hr10=>?_) (fun q10 l10 ent10 w12 hp11 hk10 hv10 hC=>?_)
  ·replace h:=h.1 hr10
   refine Yx (v:=.bool false) rfl rfl (dn (ZMh (Z1 rfl rfl ?_)))
   refine ZMv (Zj (Zj (Zx ?_)))
   refine Ze (sr (Za (v:=.map (some b4)) rfl (Zd (v:=.map (some b4)) rfl (dn (ZMp ?_)))))
   exact Zi rfl (Zg rfl) ⟨s11,b4,rfl,h,(hC.getM 1 rfl),(Zgv hC 1 rfl),hC.below⟩ (.inl rfl)
  ·replace h:=h.2 q10 l10 hp11
   refine Yx (v:=.bool true) rfl rfl (dn (ZMh (Z5 rfl rfl (ZMl (Ze (ZMn (sr (Zgy hC 0 0 q10 rfl rfl hn10 rfl hk10 hv10 (Yx (v:=.agg (ZMf (ZMe .i64 q10.1))) rfl rfl (Yx (v:=vI q10.2) rfl rfl (Ys hC (ZMe .i64 ZMm) z73 rfl fun b10 w13 hB_ hC=>Z3 (v:=.agg (ZMf (ZMe .i64 q10.1))) hC 0 (ZMe .i64 q10.1) (ZMe .i64 q10.1) rfl ag73.size rfl rfl rfl rfl rfl (ZMq rfl) rfl fun w14 hC=>Zd (v:=vI q10.2) rfl (dn (sr (Za (v:=.map (some b2)) rfl (Zgw hC 3 rfl ZNe rfl fun r12 es10 ck10 w15 hB_ hn11 hbn11 hC=>dn (ZMn ?_))))))))))))))))
   refine Zg0 (S:=(List (A8×Int))) _ _ (fun l13 s10 e_ w_=>∃ (la11:Option MapEntry),Zt e_ [(1,u1_0),(2,.map (some b2)),(7,.map (some b4)),(8,vQ b10),(9,vI q10.2),(16,vQ r7),(23,vQ r12)]∧Ctx Nox w0 w_ [itI (kvA .i64) (vvI .i64) r12 b2 es10 ck10 la11 l13,blk b10 73 (ZMe .i64 q10.1),itI (kvA .i64) (vvI .i64) r7 b0 es8 ck9 (some ent10) l10,mapS b4 s10] [Za9 b2 es10 ck10,Za9 b0 es8 ck9,ZMg TInts a1 [u1_0] fp1,mapS b0 a0,mapS b2 a2]) ?_ (l0:=a2) (s0:=s11) ?_ h
   ·clear hC h
    rintro l13 s10 e_ w16 nx10 K11 ⟨la11,hS_,hC⟩ h hK10
    rw [ue hS_]
    refine sr ?_
    refine Zgx hC 0 0 rfl rfl hn11 hbn11 rfl (fun hr11=>?_) (fun q11 l11 ent11 w17 hp10 hk11 hv11 hC=>?_)
    ·replace h:=h.1 hr11
     refine Yx (v:=.bool false) rfl rfl (dn (ZMh (Z1 rfl rfl ?_)))
     refine ZMv (Zj (Zj (Zx ?_)))
     refine Zr ?_
     exact hK11 q10 l10 s10 _ _ hp11 ⟨(some ent10),(slq rfl),((hC.xM [2,3] rfl).sP [1,2,3,4] rfl)⟩ h
    ·replace h:=h.2 q11 l11 hp10
     refine Yx (v:=.bool true) rfl rfl (dn (ZMh (Z5 rfl rfl (ZMl (Ze (ZMn (sr (Zgy hC 0 0 q11 rfl rfl hn11 rfl hk11 hv11 (Yx (v:=.agg (ZMf (ZMe .i64 q11.1))) rfl rfl (Yx (v:=vI q11.2) rfl rfl (Ys hC (ZMe .i64 ZMm) z73 rfl fun b11 w18 hB_ hC=>Z3 (v:=.agg (ZMf (ZMe .i64 q11.1))) hC 0 (ZMe .i64 q11.1) (ZMe .i64 q11.1) rfl ag73.size rfl rfl rfl rfl rfl (ZMq rfl) rfl fun w19 hC=>Zd (v:=vI q11.2) rfl (dn (sr (Yq hC 2 (ZMe .i64 q10.1) rfl ag73 rfl rfl rfl (Za (v:=u1_0) rfl (Yq hC 0 (ZMe .i64 q11.1) rfl ag73 rfl rfl rfl (Zf [.agg (ZMf (ZMe .i64 q10.1)),u1_0,.agg (ZMf (ZMe .i64 q11.1))] _ Tryz.func199 rfl rfl rfl (Zv0 q10.1 a1 q11.1 h _ (hC.getP 2 rfl)) ?_)))))))))))))))))
     rintro _ w20 ⟨r10,r11,rfl,h,hB10⟩
     refine rt ?_
     replace hC:=hC.grow hB10
     refine Za (v:=.tuple #[.agg (ZMf (ZMe .i64 r10)),vI r11]) rfl (Yx (v:=.agg (ZMf (ZMe .i64 r10))) rfl rfl (Yx (v:=vI r11) rfl rfl (Ys hC (ZMe .i64 ZMm) z73 rfl fun b12 w21 hB_ hC=>Z3 (v:=.agg (ZMf (ZMe .i64 r10))) hC 0 (ZMe .i64 r10) (ZMe .i64 r10) rfl ag73.size rfl rfl rfl rfl rfl (ZMq rfl) rfl fun w22 hC=>Zd (v:=vI r11) rfl (dn (sr (Za (v:=vI r11) rfl (Y6 rfl rfl (dn ?_))))))))
     refine Zs rfl (fun hb10=>?_) (fun hb10=>?_)
     ·replace h:=ift h (ct hb10)
      refine Zh (Za (v:=.map (some b4)) rfl (Yq hC 0 (ZMe .i64 r10) rfl ag73 rfl rfl rfl (Za (v:=vI r11) rfl (Za (v:=vI q10.2) rfl (Zan rfl rfl (Za (v:=vI q11.2) rfl (Zan rfl rfl (X8 rfl rfl (by decide) (Zf [.map (some b4),.agg (ZMf (ZMe .i64 r10)),vI (ZFf (ZG5.wrap ((ZG5.wrap (r11 * q10.2)) * q11.2)) 10007)] _ Tryz.func195 rfl rfl rfl (Zm9 s10 r10 (ZFf (ZG5.wrap ((ZG5.wrap (r11 * q10.2)) * q11.2)) 10007) h _ (hC.getM 5 rfl)) ?_)))))))))
      rintro _ w23 ⟨m10,rfl,h,hm10,hB11⟩
      refine rt ?_
      replace hC:=hC.turnB 5 rfl hB11 rfl rfl hm10
      refine done (Zr ?_)
      exact hK10 q11 l11 m10 _ _ hp10 ⟨(some ent11),(slq rfl),(hC.xM [2,3,4,5] rfl)⟩ h
     ·replace h:=Zk h (cf hb10)
      refine ZMl (Zr ?_)
      exact hK10 q11 l11 s10 _ _ hp10 ⟨(some ent11),(slq rfl),(hC.xM [2,3,4,5] rfl)⟩ h
   ·skip
    exact⟨none,(slq rfl),hC⟩
 ·skip
  exact⟨none,(slq rfl),hC⟩
def Zdw (a0:Int) (a1:Int) (a2:Int) (K:Bool→Prop):Prop :=
 (if a0≥a1 then K (decide (a0≤a2)) else K false)
theorem Zkc (a0:Int) (a1:Int) (a2:Int)  {K:Bool→Prop} (h:Zdw a0 a1 a2 K) (w0:World)  :
  Calls ZMk 46 #[vI a0,vI a1,vI a2] w0 fun e w'=>∃ (r0:Bool),
   e=.returned (.bool r0)∧K r0∧Bel w0 w':=by
 unfold Zdw at h
 refine cof Tryz.func46 rfl 15 Tryz.ntmps46 ?_
 have hC:=ZM2 (X:=Nox) w0 [] (by simp)
 refine sr (Zd (v:=.bool false) rfl (dn (sr (Za (v:=vI a0) rfl (Za (v:=vI a1) rfl (J7 rfl rfl (Za (v:=.bool (decide (a0≥a1))) rfl ?_)))))))
 refine Y7 (decide (a0≥a1)) (fun hb1=>?_) (fun hb1=>?_)
 ·replace h:=ift h (ct hb1)
  refine Zp 3 10 rfl rfl hb1 (Za (v:=vI a0) rfl (Zp 3 10 rfl rfl hb1 (Za (v:=vI a2) rfl (Zp 3 10 rfl rfl hb1 (Zb7 rfl rfl (Z4 (v:=.bool (decide (a0≤a2))) (b:=true) (tr rfl (congrArg _ hb1)) rfl (Zd (v:=.bool (decide (a0≤a2))) rfl (dn (ZMp ?_)))))))))
  exact Zi rfl (Zg rfl) ⟨decide (a0≤a2),rfl,h,hC.below⟩ (.inl rfl)
 ·replace h:=Zk h (cf hb1)
  refine Zl (b:=false) 3 10 rfl (tr rfl (congrArg _ hb1)) (by decide) (Zl (b:=false) 3 10 rfl (tr rfl (congrArg _ hb1)) (by decide) (Zl (b:=false) 3 10 rfl (tr rfl (congrArg _ hb1)) (by decide) (Z4 (v:=.bool false) (b:=false) (tr rfl (congrArg _ hb1)) rfl (Zd (v:=.bool false) rfl (dn (ZMp ?_))))))
  exact Zi rfl (Zg rfl) ⟨false,rfl,h,hC.below⟩ (.inl rfl)
def Zen (a0:List Int) (p1:Int→(Bool→Prop)→Prop) (K:Int→Prop):Prop :=
 Z8 (fun i10 (s10:Unit) nx10=>p1 (a0.getD i10 ZEo) (fun r10=>(if r10=true then K (i10:Int) else nx10 ()))) (fun (s10:Unit)=>K (-1)) a0.length 0 ()
theorem Zql (a0:List Int) (p1:Int→(Bool→Prop)→Prop)  {K:Int→Prop} (h:Zen a0 p1 K) (w0:World) (q0:ZOz.rep a0 [u0_0] fp0 w0) {g1:Nat} {cp1:List Value} {fn1:Func} (hf1:ZMk.funcs[g1]? = some fn1) (hb1:fn1.body.isNone=false) (hn1:(fn1.name == "runtime.NumGoroutine")=false) (hp1:∀ (y0:Int) (K_:Bool→Prop) (w_:World),Bel w0 w_→p1 y0 K_→Calls ZMk g1 (ZMf ([vI y0]++cp1)) w_ fun e w'=>∃ (z0:Bool),e=.returned (.bool z0)∧K_ z0∧Bel w_ w') :
  Calls ZMk 185 #[u0_0,.func (.func g1) #[] (ZMf cp1)] w0 fun e w'=>∃ (r0:Int),
   e=.returned (vI r0)∧K r0∧Bel w0 w':=by
 unfold Zen at h
 refine cof Tryz.func185 rfl 19 Tryz.ntmps185 ?_
 have hC:=ZM2 (X:=Nox) w0 [ZMg TInts a0 [u0_0] fp0] (al1 q0)
 refine sr (Zd (v:=vI 0) rfl (dn (ZMh (sr (Za (v:=u0_0) rfl (Zu hC 0 rfl ZM0 rfl (Za (v:=vI 0) rfl (dn (ZMn ?_)))))))))
 have hN10:a0.length≤9223372036854775807:=Yw (hC.getP 0 rfl)
 refine Yi (S:=Unit) _ _ (fun i10 s10 e_ w_=>Zt e_ [(0,u0_0),(1,.func (.func g1) #[] (ZMf cp1)),(7,vI (a0.length:Int)),(8,vI (i10:Int))]∧Ctx Nox w0 w_ [] [ZMg TInts a0 [u0_0] fp0]) a0.length ?_ ?_ (s0:=()) ?_ h
 ·clear hC h
  rintro i10 s10 e_ w10 nx10 K10 hi10 ⟨hS_,hC⟩ h hK10
  rw [ue hS_]
  refine sr (Zn rfl rfl (dn (ZMh (Z5 rfl (decide_eq_true (by omega)) (ZMl (Ze (ZMh (ZMn (sr (Za (v:=vI (i10:Int)) rfl (Zd (v:=vI (i10:Int)) rfl (dn (sr (Za (v:=.func (.func g1) #[] (ZMf cp1)) rfl (Za (v:=u0_0) rfl (Za (v:=vI (i10:Int)) rfl ?_))))))))))))))))
  obtain ⟨Ad10,c10,hv10⟩:=Zw (hC.getP 0 rfl) i10 hi10
  refine Yn (len:=a0.length) ZM0 sc2.size (tr rfl hv10) rfl (ZMx _) (ZNf.2 hi10) (Yp (vI (a0.getD i10 ZEo)) (Yd (hC.getP 0 rfl) hv10 i10 hi10) sc2 rfl ?_)
  refine Zmj [vI (a0.getD i10 ZEo)] _ rfl hf1 hb1 hn1 rfl (hp1 _ _ _ hC.below  h) (fun ret10 w11 hR10=>?_)
  obtain ⟨r10,rfl,h,hB10⟩:=hR10
  refine⟨_,rfl,?_⟩
  replace hC:=hC.grow hB10
  refine dn ?_
  refine Zs rfl (fun hb10=>?_) (fun hb10=>?_)
  ·replace h:=ift h (hb10)
   refine sr (Za (v:=vI (i10:Int)) rfl (Zd (v:=vI (i10:Int)) rfl (dn ?_)))
   refine ZMp (Ya (Zm (Zm (Ya (Zm ?_)))))
   exact Zi rfl (Zg rfl) ⟨(i10:Int),rfl,h,hC.below⟩ (.inl rfl)
  ·replace h:=Zk h (Y4 hb10)
   refine ZMl (Zr (Ze (Zh (Zq rfl rfl (Za (v:=vI (ZG5.wrap ((i10:Int)+1))) rfl (done ?_))))))
   exact hK10 () _ _ ⟨(sl ⟨rfl,rfl,rfl,(tr rfl (congrArg _ (Z2 hi10 hN10))),trivial⟩),hC⟩ h
 ·clear hC h
  rintro s10 e_ w12 K10 ⟨hS_,hC⟩ h
  rw [ue hS_]
  refine sr (Zn rfl rfl (dn (ZMh (Z1 rfl (decide_eq_false (by omega)) ?_))))
  refine ZMv (Zj (Zj (Zx ?_)))
  refine Ze (sr (Zd (v:=vI (-1)) rfl (dn (ZMp ?_))))
  exact Zi rfl (Zg rfl) ⟨(-1),rfl,h,hC.below⟩ (.inl rfl)
 ·skip
  exact⟨(slq rfl),hC⟩
def Zfo (a0:List Int) (p1:Int→(Bool→Prop)→Prop) (K:Bool→Prop):Prop :=
 Zen a0 p1 (fun r5=>K (decide (r5≥0)))
theorem Zqm (a0:List Int) (p1:Int→(Bool→Prop)→Prop)  {K:Bool→Prop} (h:Zfo a0 p1 K) (w0:World) (q0:ZOz.rep a0 [u0_0] fp0 w0) {g1:Nat} {cp1:List Value} {fn1:Func} (hf1:ZMk.funcs[g1]? = some fn1) (hb1:fn1.body.isNone=false) (hn1:(fn1.name == "runtime.NumGoroutine")=false) (hp1:∀ (y0:Int) (K_:Bool→Prop) (w_:World),Bel w0 w_→p1 y0 K_→Calls ZMk g1 (ZMf ([vI y0]++cp1)) w_ fun e w'=>∃ (z0:Bool),e=.returned (.bool z0)∧K_ z0∧Bel w_ w') :
  Calls ZMk 181 #[u0_0,.func (.func g1) #[] (ZMf cp1)] w0 fun e w'=>∃ (r0:Bool),
   e=.returned (.bool r0)∧K r0∧Bel w0 w':=by
 unfold Zfo at h
 refine cof Tryz.func181 rfl 9 Tryz.ntmps181 ?_
 have hC:=ZM2 (X:=Nox) w0 [ZMg TInts a0 [u0_0] fp0] (al1 q0)
 refine sr (Zd (v:=.bool false) rfl (dn (sr (Za (v:=u0_0) rfl (Za (v:=.func (.func g1) #[] (ZMf cp1)) rfl (Zf [u0_0,.func (.func g1) #[] (ZMf cp1)] _ Tryz.func185 rfl rfl rfl (Zql a0 p1 h _ (hC.getP 0 rfl) hf1 hb1 hn1 (fun x0_ K_ w_ hb_=>hp1 x0_ K_ w_ (Zmm hC.below hb_))) ?_))))))
 rintro _ w4 ⟨r5,rfl,h,hB6⟩
 refine rt ?_
 replace hC:=hC.grow hB6
 refine J7 rfl rfl (Zd (v:=.bool (decide (r5≥0))) rfl (dn (ZMp ?_)))
 exact Zi rfl (Zg rfl) ⟨decide (r5≥0),rfl,h,hC.below⟩ (.inl rfl)
def Zhd (a0:Int) (K:Bool→Prop):Prop :=
 Zdw a0 1 12 (fun r4=>K (!r4))
theorem Zv3 (a0:Int)  {K:Bool→Prop} (h:Zhd a0 K) (w0:World)  :
  Calls ZMk 190 #[vI a0] w0 fun e w'=>∃ (r0:Bool),
   e=.returned (.bool r0)∧K r0∧Bel w0 w':=by
 unfold Zhd at h
 refine cof Tryz.func190 rfl 6 Tryz.ntmps190 ?_
 have hC:=ZM2 (X:=Nox) w0 [] (by simp)
 refine sr (Zd (v:=.bool false) rfl (dn (sr (Za (v:=vI a0) rfl (Zf [vI a0,vI 1,vI 12] _ Tryz.func46 rfl rfl rfl (Zkc a0 1 12 h _) ?_)))))
 rintro _ w3 ⟨r4,rfl,h,hB5⟩
 refine rt ?_
 replace hC:=hC.grow hB5
 refine Xe rfl (Zd (v:=.bool (!r4)) rfl (dn (ZMp ?_)))
 exact Zi rfl (Zg rfl) ⟨!r4,rfl,h,hC.below⟩ (.inl rfl)
def Zhe (a0:List Int) (K:Bool→Prop):Prop :=
 (if(a0.length:Int)≤8 then Zfo a0 Zhd (fun r9=>K (!r9)) else K false)
theorem Zv4 (a0:List Int)  {K:Bool→Prop} (h:Zhe a0 K) (w0:World) (q0:ZOz.rep a0 [u0_0] fp0 w0) :
  Calls ZMk 151 #[u0_0] w0 fun e w'=>∃ (r0:Bool),
   e=.returned (.bool r0)∧K r0∧Bel w0 w':=by
 unfold Zhe at h
 refine cof Tryz.func151 rfl 11 Tryz.ntmps151 ?_
 have hC:=ZM2 (X:=Nox) w0 [ZMg TInts a0 [u0_0] fp0] (al1 q0)
 refine sr (Zd (v:=.bool false) rfl (dn (sr (Za (v:=u0_0) rfl (Zu hC 0 rfl ZM0 rfl (Zb7 rfl rfl (Za (v:=.bool (decide ((a0.length:Int)≤8))) rfl ?_)))))))
 refine Y7 (decide ((a0.length:Int)≤8)) (fun hb5=>?_) (fun hb5=>?_)
 ·replace h:=ift h (ct hb5)
  refine Zp 3 6 rfl rfl hb5 (Za (v:=u0_0) rfl (Zp 3 6 rfl rfl hb5 (Zf [u0_0,.func (.func 190) #[] (ZMf [])] _ Tryz.func181 rfl rfl rfl (Zqm a0 Zhd h _ (hC.getP 0 rfl) Tryz.func190 rfl rfl (fun x0_ K_ w_ _ hq_=>Zv3 x0_ hq_ w_)) ?_)))
  rintro _ w8 ⟨r9,rfl,h,hB10⟩
  refine rt ?_
  replace hC:=hC.grow hB10
  refine Zp 3 6 rfl rfl hb5 (Xe rfl (Z4 (v:=.bool (!r9)) (b:=true) (tr rfl (congrArg _ hb5)) rfl (Zd (v:=.bool (!r9)) rfl (dn (ZMp ?_)))))
  exact Zi rfl (Zg rfl) ⟨!r9,rfl,h,hC.below⟩ (.inl rfl)
 ·replace h:=Zk h (cf hb5)
  refine Zl (b:=false) 3 6 rfl (tr rfl (congrArg _ hb5)) (by decide) (Zl (b:=false) 3 6 rfl (tr rfl (congrArg _ hb5)) (by decide) (Zl (b:=false) 3 6 rfl (tr rfl (congrArg _ hb5)) (by decide) (Z4 (v:=.bool false) (b:=false) (tr rfl (congrArg _ hb5)) rfl (Zd (v:=.bool false) rfl (dn (ZMp ?_))))))
  exact Zi rfl (Zg rfl) ⟨false,rfl,h,hC.below⟩ (.inl rfl)
def Zhf (a0:List Int) (a1:A8) (K:Bool→Prop):Prop :=
 Z8 (fun i10 (s10:Unit) nx10=>(if(i10:Int) < (a0.length:Int) then((0≤(i10:Int)∧(i10:Int) < (a0.length:Int))∧(if ZFf (a0.getD i10 ZEo) 2=1 then(if a1.get i10 > 1 then K false else nx10 ()) else(if a1.get i10 > 20 then K false else nx10 ()))) else(if a1.get i10 > 0 then K false else nx10 ()))) (fun (s10:Unit)=>K true) 8 0 ()
theorem Zv5 (a0:List Int) (a1:A8)  {K:Bool→Prop} (h:Zhf a0 a1 K) (w0:World) (q0:ZOz.rep a0 [u0_0] fp0 w0) :
  Calls ZMk 156 #[u0_0,.agg (ZMf (ZMe .u8 a1))] w0 fun e w'=>∃ (r0:Bool),
   e=.returned (.bool r0)∧K r0∧Bel w0 w':=by
 unfold Zhf at h
 refine cof Tryz.func156 rfl 27 Tryz.ntmps156 ?_
 have hC:=ZM2 (X:=Nox) w0 [ZMg TInts a0 [u0_0] fp0] (al1 q0)
 refine sr (Yg (v:=.agg (ZMf (ZMe .u8 a1))) hC (ZMe .u8 a1) rfl rfl fun b2 w4 hB_ hC=>Zd (v:=.bool false) rfl (dn (ZMh (sr (Yq hC 0 (ZMe .u8 a1) rfl ag136 rfl rfl rfl (Za (v:=vI 0) rfl (dn (ZMn ?_))))))))
 refine Yi (S:=Unit) _ _ (fun i10 s10 e_ w_=>Zt e_ [(0,u0_0),(8,.agg (ZMf (ZMe .u8 a1))),(9,vI (i10:Int))]∧Ctx Nox w0 w_ [] [ZMg TInts a0 [u0_0] fp0]) 8 ?_ ?_ (s0:=()) ?_ h
 ·clear hC h
  rintro i10 s10 e_ w10 nx10 K10 hi10 ⟨hS_,hC⟩ h hK10
  rw [ue hS_]
  refine sr (Zn rfl rfl (dn (ZMh (Z5 rfl (decide_eq_true (by omega)) (ZMl (Ze (ZMh (ZMn (sr (Za (v:=vI (i10:Int)) rfl (Zjk (.int .u8 (a1.get i10)) ZMz rfl rfl (ZMx _) (by omega) sc5 (ZMu _ _ hi10) (Zd (v:=vI (i10:Int)) rfl (Zd (v:=.int .u8 (a1.get i10)) rfl (dn (sr (Zd (v:=.int .u8 0) rfl (dn (ZMh (sr (Za (v:=vI (i10:Int)) rfl (Za (v:=u0_0) rfl (Zu hC 0 rfl ZM0 rfl (Zn rfl rfl (dn ?_))))))))))))))))))))))))
  refine Zs rfl (fun hb10=>?_) (fun hb10=>?_)
  ·replace h:=ift h (ct hb10)
   refine sr (Zd (v:=.int .u8 20) rfl (dn (sr (Za (v:=u0_0) rfl (Za (v:=vI (i10:Int)) rfl ?_)))))
   obtain ⟨⟨h10,h11⟩,h⟩:=h
   obtain ⟨Ad10,c10,hv10⟩:=Zw (hC.getP 0 rfl) i10 (show i10 < a0.length by omega)
   refine Yn (len:=a0.length) ZM0 sc2.size (tr rfl hv10) rfl h10 h11 (Yp (vI (a0.getD i10 ZEo)) (Yd (hC.getP 0 rfl) hv10 i10 (show i10 < a0.length by omega)) sc2 rfl (X8 rfl rfl (by decide) (Xx rfl rfl (dn ?_))))
   refine Zs rfl (fun hb11=>?_) (fun hb11=>?_)
   ·replace h:=ift h (ct hb11)
    refine Zh (Zd (v:=.int .u8 1) rfl (dn (sr (Za (v:=.int .u8 (a1.get i10)) rfl (Za (v:=.int .u8 1) rfl (Jh rfl rfl (dn ?_)))))))
    refine Zs rfl (fun hb12=>?_) (fun hb12=>?_)
    ·replace h:=ift h (ct hb12)
     refine sr (Zd (v:=.bool false) rfl (dn ?_))
     refine ZMp (Ya (Zm (Zm (Ya (Zm ?_)))))
     exact Zi rfl (Zg rfl) ⟨false,rfl,h,hC.below⟩ (.inl rfl)
    ·replace h:=Zk h (cf hb12)
     refine ZMl (Zr (Ze (Zh (Zq rfl rfl (Za (v:=vI (ZG5.wrap ((i10:Int)+1))) rfl (done ?_))))))
     exact hK10 () _ _ ⟨(sl ⟨rfl,rfl,(tr rfl (congrArg _ (Z2 hi10 (by decide)))),trivial⟩),hC⟩ h
   ·replace h:=Zk h (cf hb11)
    refine ZMl (Ze (sr (Za (v:=.int .u8 (a1.get i10)) rfl (Za (v:=.int .u8 20) rfl (Jh rfl rfl (dn ?_))))))
    refine Zs rfl (fun hb13=>?_) (fun hb13=>?_)
    ·replace h:=ift h (ct hb13)
     refine sr (Zd (v:=.bool false) rfl (dn ?_))
     refine ZMp (Ya (Zm (Zm (Ya (Zm ?_)))))
     exact Zi rfl (Zg rfl) ⟨false,rfl,h,hC.below⟩ (.inl rfl)
    ·replace h:=Zk h (cf hb13)
     refine ZMl (Zr (Ze (Zh (Zq rfl rfl (Za (v:=vI (ZG5.wrap ((i10:Int)+1))) rfl (done ?_))))))
     exact hK10 () _ _ ⟨(sl ⟨rfl,rfl,(tr rfl (congrArg _ (Z2 hi10 (by decide)))),trivial⟩),hC⟩ h
  ·replace h:=Zk h (cf hb10)
   refine ZMl (Ze (sr (Za (v:=.int .u8 (a1.get i10)) rfl (Za (v:=.int .u8 0) rfl (Jh rfl rfl (dn ?_))))))
   refine Zs rfl (fun hb14=>?_) (fun hb14=>?_)
   ·replace h:=ift h (ct hb14)
    refine sr (Zd (v:=.bool false) rfl (dn ?_))
    refine ZMp (Ya (Zm (Zm (Ya (Zm ?_)))))
    exact Zi rfl (Zg rfl) ⟨false,rfl,h,hC.below⟩ (.inl rfl)
   ·replace h:=Zk h (cf hb14)
    refine ZMl (Zr (Ze (Zh (Zq rfl rfl (Za (v:=vI (ZG5.wrap ((i10:Int)+1))) rfl (done ?_))))))
    exact hK10 () _ _ ⟨(sl ⟨rfl,rfl,(tr rfl (congrArg _ (Z2 hi10 (by decide)))),trivial⟩),hC⟩ h
 ·clear hC h
  rintro s10 e_ w11 K10 ⟨hS_,hC⟩ h
  rw [ue hS_]
  refine sr (Zn rfl rfl (dn (ZMh (Z1 rfl (decide_eq_false (by omega)) ?_))))
  refine ZMv (Zj (Zj (Zx ?_)))
  refine Ze (sr (Zd (v:=.bool true) rfl (dn (ZMp ?_))))
  exact Zi rfl (Zg rfl) ⟨true,rfl,h,hC.below⟩ (.inl rfl)
 ·skip
  exact⟨(slq rfl),(hC.xM [] rfl)⟩
def Zkd (a0:Int) (K:Bool→Prop):Prop :=
 Zdw a0 1 10006 (fun r4=>K r4)
theorem Zv6 (a0:Int)  {K:Bool→Prop} (h:Zkd a0 K) (w0:World)  :
  Calls ZMk 157 #[vI a0] w0 fun e w'=>∃ (r0:Bool),
   e=.returned (.bool r0)∧K r0∧Bel w0 w':=by
 unfold Zkd at h
 refine cof Tryz.func157 rfl 5 Tryz.ntmps157 ?_
 have hC:=ZM2 (X:=Nox) w0 [] (by simp)
 refine sr (Zd (v:=.bool false) rfl (dn (sr (Za (v:=vI a0) rfl (Zf [vI a0,vI 1,vI 10006] _ Tryz.func46 rfl rfl rfl (Zkc a0 1 10006 h _) ?_)))))
 rintro _ w3 ⟨r4,rfl,h,hB5⟩
 refine rt ?_
 replace hC:=hC.grow hB5
 refine Zd (v:=.bool r4) rfl (dn (ZMp ?_))
 exact Zi rfl (Zg rfl) ⟨r4,rfl,h,hC.below⟩ (.inl rfl)
def Zfp (a0:List Int) (a1:ZMj) (K:Bool→Prop):Prop :=
 (if(a1.terms.length:Int) > 400 then K false else Z8 (fun i10 (s10:Unit) nx10=>Zhf a0 ((a1.terms.getD i10 ZEo).mono) (fun r10=>(if¬ (r10=true) then K false else Zkd ((a1.terms.getD i10 ZEo).factor) (fun r13=>(if¬ (r13=true) then K false else(if(i10:Int) > 0 then((0≤ZG5.wrap ((i10:Int) - 1)∧ZG5.wrap ((i10:Int) - 1) < (a1.terms.length:Int))∧Zdv ((a1.terms.getD ((ZG5.wrap ((i10:Int) - 1)).toNat) ZEo).mono) (fun r11=>Zdv ((a1.terms.getD i10 ZEo).mono) (fun r12=>Zkb r11 r12 (fun r14=>(if r14≥0 then K false else nx10 ()))))) else nx10 ())))))) (fun (s10:Unit)=>K true) a1.terms.length 0 ())
theorem Zqn (a0:List Int) (a1:ZMj)  {K:Bool→Prop} (h:Zfp a0 a1 K) (w0:World) (q0:ZOz.rep a0 [u0_0] fp0 w0) (q1:ZM3.rep a1 [u1_0] fp1 w0) :
  Calls ZMk 99 #[u0_0,.agg #[u1_0]] w0 fun e w'=>∃ (r0:Bool),
   e=.returned (.bool r0)∧K r0∧Bel w0 w':=by
 unfold Zfp at h
 refine cof Tryz.func99 rfl 48 Tryz.ntmps99 ?_
 have hC:=ZM2 (X:=Nox) w0 [ZMg TInts a0 [u0_0] fp0,ZMg TForm a1 [u1_0] fp1] (alc q0 (al1 q1))
 have hp3:=(hC.getP 1 rfl)
 replace hC:=hC.derive 1 rfl (ZMg ZMi.ty.sl a1.terms [u1_0] fp1) (fun _=>(Xk hp3)) (fun _ hb_=>hb_)
 refine sr (Yg (v:=.agg #[u1_0]) hC [u1_0] rfl rfl fun b5 w7 hB_ hC=>Zd (v:=.bool false) rfl (dn (ZMh (sr (Z0 0 ZMo rfl sc53.size rfl rfl (Yb hC 0 (u1_0) rfl sc53 rfl rfl (Zu hC 0 rfl ZMr rfl (Jh rfl rfl (dn ?_)))))))))
 refine Zs rfl (fun hb12=>?_) (fun hb12=>?_)
 ·replace h:=ift h (ct hb12)
  refine sr (Zd (v:=.bool false) rfl (dn ?_))
  refine ZMp (Zm ?_)
  exact Zi rfl (Zg rfl) ⟨false,rfl,h,hC.below⟩ (.inl rfl)
 ·replace h:=Zk h (cf hb12)
  refine ZMl (Ze (ZMh (sr (Z0 0 ZMo rfl sc53.size rfl rfl (Yb hC 0 (u1_0) rfl sc53 rfl rfl (Zu hC 0 rfl ZMr rfl (Za (v:=vI 0) rfl (dn (ZMn ?_)))))))))
  have hN10:a1.terms.length≤9223372036854775807:=Yw (hC.getP 0 rfl)
  refine Yi (S:=Unit) _ _ (fun i10 s10 e_ w_=>Zt e_ [(0,u0_0),(3,vQ b5),(12,u1_0),(13,vI (a1.terms.length:Int)),(14,vI (i10:Int))]∧Ctx Nox w0 w_ [blk b5 55 [u1_0]] [ZMg ZMi.ty.sl a1.terms [u1_0] fp1,ZMg TInts a0 [u0_0] fp0,ZMg TForm a1 [u1_0] fp1]) a1.terms.length ?_ ?_ (s0:=()) ?_ h
  ·clear hC h
   rintro i10 s10 e_ w10 nx10 K10 hi10 ⟨hS_,hC⟩ h hK10
   rw [ue hS_]
   refine sr (Zn rfl rfl (dn (ZMh (Z5 rfl (decide_eq_true (by omega)) (ZMl (Ze (ZMh (ZMn (sr (Za (v:=vI (i10:Int)) rfl ?_))))))))))
   obtain ⟨Ad11,c10,hv10⟩:=Zw (hC.getP 0 rfl) i10 hi10
   refine Yn (len:=a1.terms.length) ZMr ag162.size (tr rfl hv10) rfl (ZMx _) (ZNf.2 hi10) (Jd (ZMs (a1.terms.getD i10 ZEo)) (Yd (hC.getP 0 rfl) hv10 i10 hi10) ag162 rfl rfl (Ys hC (ZMs (⟨ZMm,0⟩:Term)) Zfm rfl fun b10 w11 hB_ hC=>Zd (v:=vI (i10:Int)) rfl (Z3 (v:=.agg (ZMf (ZMs (a1.terms.getD i10 ZEo)))) hC 0 (ZMs (a1.terms.getD i10 ZEo)) (ZMs (a1.terms.getD i10 ZEo)) rfl ag162.size rfl rfl rfl rfl rfl (ZMq rfl) rfl fun w12 hC=>dn (ZMh (sr (Za (v:=u0_0) rfl (Z0 0 ZMw rfl ag136.size rfl rfl (Yq hC 0 (ZMe .u8 ((a1.terms.getD i10 ZEo).mono)) rfl ag136 rfl rfl rfl (Zf [u0_0,.agg (ZMf (ZMe .u8 ((a1.terms.getD i10 ZEo).mono)))] _ Tryz.func156 rfl rfl rfl (Zv5 a0 ((a1.terms.getD i10 ZEo).mono) h _ (hC.getP 1 rfl)) ?_)))))))))
   rintro _ w13 ⟨r10,rfl,h,hB10⟩
   refine rt ?_
   replace hC:=hC.grow hB10
   refine Xe rfl (Za (v:=.bool (!r10)) rfl ?_)
   refine Y7 (!r10) (fun hb11=>?_) (fun hb11=>?_)
   ·replace h:=ift h (Y4 (Xi hb11))
    refine Zl (b:=true) 5 24 rfl (tr rfl (congrArg _ hb11)) (by decide) (Zl (b:=true) 5 24 rfl (tr rfl (congrArg _ hb11)) (by decide) (Zl (b:=true) 5 24 rfl (tr rfl (congrArg _ hb11)) (by decide) (Zl (b:=true) 5 24 rfl (tr rfl (congrArg _ hb11)) (by decide) (Z4 (v:=.bool true) (b:=true) (tr rfl (congrArg _ hb11)) rfl (dn (Z5 rfl rfl (sr (Zd (v:=.bool false) rfl (dn ?_)))))))))
    refine ZMp (Zm (Ya (Zm (Zm (Ya (Zm ?_))))))
    exact Zi rfl (Zg rfl) ⟨false,rfl,h,hC.below⟩ (.inl rfl)
   ·replace h:=Zk h (not_not_intro ((Xj hb11)))
    refine Zp 5 24 rfl rfl hb11 (Z0 8 ZMw rfl sc2.size rfl rfl (Zp 5 24 rfl rfl hb11 (Yb hC 0 (vI ((a1.terms.getD i10 ZEo).factor)) rfl sc2 rfl rfl (Zp 5 24 rfl rfl hb11 (Zf [vI ((a1.terms.getD i10 ZEo).factor)] _ Tryz.func157 rfl rfl rfl (Zv6 ((a1.terms.getD i10 ZEo).factor) h _) ?_)))))
    rintro _ w14 ⟨r13,rfl,h,hB11⟩
    refine rt ?_
    replace hC:=hC.grow hB11
    refine Zp 5 24 rfl rfl hb11 (Xe rfl (Z4 (v:=.bool (!r13)) (b:=false) (tr rfl (congrArg _ hb11)) rfl (dn ?_)))
    refine Zs rfl (fun hb13=>?_) (fun hb13=>?_)
    ·replace h:=ift h (Y4 (Xi hb13))
     refine sr (Zd (v:=.bool false) rfl (dn ?_))
     refine ZMp (Zm (Ya (Zm (Zm (Ya (Zm ?_))))))
     exact Zi rfl (Zg rfl) ⟨false,rfl,h,hC.below⟩ (.inl rfl)
    ·replace h:=Zk h (not_not_intro ((Xj hb13)))
     refine ZMl (Ze (ZMh ?_))
     refine cwd 13 Yo [0,1,3,7,15,7,39,127,255,511,1023,7,2055,8191,16383,32767,65535] [4,7,9,12] [0,1,2,3,4,5,6,7,8,9,10,11,12] (fun hM11 hM10 w15 hB_=>?_)
     replace hC:=hC.grow hB_
     refine bM 0 (vI (i10:Int)) rfl hM10 (Zc 17 1) (bF 1 (.bool (decide ((i10:Int) > 0))) rfl rfl hM10 (fun _=>by exact Zpj rfl rfl) (Zc 17 3) (bM 2 (.bool (decide ((i10:Int) > 0))) rfl hM10 (Zc 17 7) ?_))
     refine Y7 (decide ((i10:Int) > 0)) (fun hb10=>?_) (fun hb10=>?_)
     ·replace h:=ift h (ct hb10)
      refine aF 3 (vQ b5) rfl rfl (hM10 3 rfl) (Yl 2 32 rfl rfl hb10) (fun _=>by exact Yt 0 ZMo rfl sc53.size rfl rfl) (Zc 17 15) (aL 4 (u1_0) rfl rfl (hM11 4 rfl) (Yl 2 32 rfl rfl hb10) (fun _ hB_=>by exact Yh (hC.grow hB_) 1 (u1_0) rfl sc53 rfl rfl) (Zc 17 31) (aF 5 (vI (i10:Int)) rfl rfl (hM10 5 rfl) (Yl 2 32 rfl rfl hb10) (fun _=>by exact Zax (v:=vI (i10:Int)) rfl) (Zc 17 63) (aF 6 (vI (ZG5.wrap ((i10:Int) - 1))) rfl rfl (hM10 6 rfl) (Yl 2 32 rfl rfl hb10) (fun _=>by exact Zc0 rfl rfl) (Zc 17 127) ?_)))
      obtain ⟨⟨h10,h11⟩,h⟩:=h
      obtain ⟨Ad10,c11,hv11⟩:=Zw (hC.getP 0 rfl) ((ZG5.wrap ((i10:Int) - 1)).toNat) (show (ZG5.wrap ((i10:Int) - 1)).toNat < a1.terms.length by omega)
      refine aL 7 (.pointer (some (Ad10.add ((ZG5.wrap ((i10:Int) - 1)).toNat * 9)))) rfl rfl (hM11 7 rfl) (Yl 2 32 rfl rfl hb10) (fun _ hB_=>by exact Y2 (len:=a1.terms.length) ZMr ag162.size (by exact tr rfl hv11) rfl h10 h11) (Zc 17 255) (aF 8 (.pointer (some (Ad10.add ((ZG5.wrap ((i10:Int) - 1)).toNat * 9+0)))) rfl rfl (hM10 8 rfl) (Yl 2 32 rfl rfl hb10) (fun _=>by exact Za1 ((ZG5.wrap ((i10:Int) - 1)).toNat * 9+0) ZMw rfl ag136.size rfl rfl) (Zc 17 511) (aL 9 (.agg (ZMf (ZMe .u8 ((a1.terms.getD ((ZG5.wrap ((i10:Int) - 1)).toNat) ZEo).mono)))) rfl rfl (hM11 9 rfl) (Yl 2 32 rfl rfl hb10) (fun _ hB_=>by exact Jm (ZMe .u8 ((a1.terms.getD ((ZG5.wrap ((i10:Int) - 1)).toNat) ZEo).mono)) (Jy (o:=0) (k:=8) (Yd ((hC.grow hB_).getP 0 rfl) hv11 ((ZG5.wrap ((i10:Int) - 1)).toNat) (show (ZG5.wrap ((i10:Int) - 1)).toNat < a1.terms.length by omega)) rfl) ag136 rfl rfl) (Zc 17 1023) (aF 11 (vQ b10) rfl rfl (hM10 11 rfl) (Yl 2 32 rfl rfl hb10) (fun _=>by exact Yt 0 ZMw rfl ag136.size rfl rfl) (Zc 17 3071) (aL 12 (.agg (ZMf (ZMe .u8 ((a1.terms.getD i10 ZEo).mono)))) rfl rfl (hM11 12 rfl) (Yl 2 32 rfl rfl hb10) (fun _ hB_=>by exact Xa (hC.grow hB_) 0 (ZMe .u8 ((a1.terms.getD i10 ZEo).mono)) rfl ag136 rfl rfl rfl) (Zc 17 7167) (aO 10 rfl (Zp 2 32 rfl rfl hb10 (Zf [.agg (ZMf (ZMe .u8 ((a1.terms.getD ((ZG5.wrap ((i10:Int) - 1)).toNat) ZEo).mono)))] _ ZPb rfl rfl rfl (Zka ((a1.terms.getD ((ZG5.wrap ((i10:Int) - 1)).toNat) ZEo).mono) h _) ?_)))))))
      rintro _ w16 ⟨r11,rfl,h,hB12⟩
      refine rt ?_
      replace hC:=hC.grow hB12
      refine done (aK (by assumption) (Zc 17 8191) (Z6 13 (by decide) (by decide) (by kernel_rfl) (by kernel_rfl) rfl (Zp 2 32 rfl rfl hb10 (Zf [.agg (ZMf (ZMe .u8 ((a1.terms.getD i10 ZEo).mono)))] _ ZPb rfl rfl rfl (Zka ((a1.terms.getD i10 ZEo).mono) h _) ?_))))
      rintro _ w17 ⟨r12,rfl,h,hB13⟩
      refine rt ?_
      replace hC:=hC.grow hB13
      refine Zp 2 32 rfl rfl hb10 (Zf [.agg (ZMf (ZMe .i64 r11)),.agg (ZMf (ZMe .i64 r12))] _ Tryz.func158 rfl rfl rfl (Zv1 r11 r12 h _) ?_)
      rintro _ w18 ⟨r14,rfl,h,hB14⟩
      refine rt ?_
      replace hC:=hC.grow hB14
      refine Zp 2 32 rfl rfl hb10 (J7 rfl rfl (Z4 (v:=.bool (decide (r14≥0))) (b:=true) (tr rfl (congrArg _ hb10)) rfl (done (Z7 (Ze ?_)))))
      refine Zs rfl (fun hb14=>?_) (fun hb14=>?_)
      ·replace h:=ift h (ct hb14)
       refine sr (Zd (v:=.bool false) rfl (dn ?_))
       refine ZMp (Ya (Zm (Zm (Ya (Zm ?_)))))
       exact Zi rfl (Zg rfl) ⟨false,rfl,h,hC.below⟩ (.inl rfl)
      ·replace h:=Zk h (cf hb14)
       refine ZMl (Zr (Ze (Zh (Zq rfl rfl (Za (v:=vI (ZG5.wrap ((i10:Int)+1))) rfl (done ?_))))))
       exact hK10 () _ _ ⟨(sl ⟨rfl,rfl,rfl,rfl,(tr rfl (congrArg _ (Z2 hi10 hN10))),trivial⟩),(hC.xM [1] rfl)⟩ h
     ·replace h:=Zk h (cf hb10)
      refine Zv Zz 3 undef rfl rfl (by kernel_rfl) (hM10 3 rfl) (fun w_=>.inr ⟨Yf (b:=false) 2 32 rfl (tr rfl (congrArg _ hb10)) (by decide),rfl⟩) (l9:=(Zc 17 15)) (by kernel_rfl) (Zv Zz 4 undef rfl rfl (by kernel_rfl) (hM10 4 rfl) (fun w_=>.inr ⟨Yf (b:=false) 2 32 rfl (tr rfl (congrArg _ hb10)) (by decide),rfl⟩) (l9:=(Zc 17 31)) (by kernel_rfl) (Zv Zz 5 undef rfl rfl (by kernel_rfl) (hM10 5 rfl) (fun w_=>.inr ⟨Yf (b:=false) 2 32 rfl (tr rfl (congrArg _ hb10)) (by decide),rfl⟩) (l9:=(Zc 17 63)) (by kernel_rfl) (Zv Zz 6 undef rfl rfl (by kernel_rfl) (hM10 6 rfl) (fun w_=>.inr ⟨Yf (b:=false) 2 32 rfl (tr rfl (congrArg _ hb10)) (by decide),rfl⟩) (l9:=(Zc 17 127)) (by kernel_rfl) (Zv Zz 7 undef rfl rfl (by kernel_rfl) (hM10 7 rfl) (fun w_=>.inr ⟨Yf (b:=false) 2 32 rfl (tr rfl (congrArg _ hb10)) (by decide),rfl⟩) (l9:=(Zc 17 255)) (by kernel_rfl) (Zv Zz 8 undef rfl rfl (by kernel_rfl) (hM10 8 rfl) (fun w_=>.inr ⟨Yf (b:=false) 2 32 rfl (tr rfl (congrArg _ hb10)) (by decide),rfl⟩) (l9:=(Zc 17 511)) (by kernel_rfl) (Zv Zz 9 undef rfl rfl (by kernel_rfl) (hM10 9 rfl) (fun w_=>.inr ⟨Yf (b:=false) 2 32 rfl (tr rfl (congrArg _ hb10)) (by decide),rfl⟩) (l9:=(Zc 17 1023)) (by kernel_rfl) (Zv Zz 10 undef rfl rfl (by kernel_rfl) (hM10 10 rfl) (fun w_=>.inr ⟨Yf (b:=false) 2 32 rfl (tr rfl (congrArg _ hb10)) (by decide),rfl⟩) (l9:=(Zc 17 2047)) (by kernel_rfl) (Zv Zz 11 undef rfl rfl (by kernel_rfl) (hM10 11 rfl) (fun w_=>.inr ⟨Yf (b:=false) 2 32 rfl (tr rfl (congrArg _ hb10)) (by decide),rfl⟩) (l9:=(Zc 17 4095)) (by kernel_rfl) (Zv Zz 12 undef rfl rfl (by kernel_rfl) (hM10 12 rfl) (fun w_=>.inr ⟨Yf (b:=false) 2 32 rfl (tr rfl (congrArg _ hb10)) (by decide),rfl⟩) (l9:=(Zc 17 8191)) (by kernel_rfl) (Z6 13 (by decide) (by decide) (by kernel_rfl) (by kernel_rfl) rfl (Zl (b:=false) 2 32 rfl (tr rfl (congrArg _ hb10)) (by decide) (Zl (b:=false) 2 32 rfl (tr rfl (congrArg _ hb10)) (by decide) (Zl (b:=false) 2 32 rfl (tr rfl (congrArg _ hb10)) (by decide) (Z4 (v:=.bool false) (b:=false) (tr rfl (congrArg _ hb10)) rfl (done (Z7 (Ze (Z1 rfl rfl (ZMl (Zr (Ze (Zh (Zq rfl rfl (Za (v:=vI (ZG5.wrap ((i10:Int)+1))) rfl (done ?_)))))))))))))))))))))))))
      exact hK10 () _ _ ⟨(sl ⟨rfl,rfl,rfl,rfl,(tr rfl (congrArg _ (Z2 hi10 hN10))),trivial⟩),(hC.xM [1] rfl)⟩ h
  ·clear hC h
   rintro s10 e_ w19 K10 ⟨hS_,hC⟩ h
   rw [ue hS_]
   refine sr (Zn rfl rfl (dn (ZMh (Z1 rfl (decide_eq_false (by omega)) ?_))))
   refine ZMv (Zj (Zj (Zx ?_)))
   refine Ze (sr (Zd (v:=.bool true) rfl (dn (ZMp ?_))))
   exact Zi rfl (Zg rfl) ⟨true,rfl,h,hC.below⟩ (.inl rfl)
  ·skip
   exact⟨(slq rfl),hC⟩
def Zhg (a0:A8) (a1:List Int) (K:Int→Prop):Prop :=
 Z8 (fun i10 (s10:Int) nx10=>((0≤(i10:Int)∧(i10:Int) < 8)∧nx10 (ZG5.wrap (s10+(ZG5.wrap ((a1.getD i10 ZEo) * (a0.get i10))))))) (fun (s10:Int)=>K s10) a1.length 0 0
theorem Zv7 (a0:A8) (a1:List Int)  {K:Int→Prop} (h:Zhg a0 a1 K) (w0:World) (q1:ZOz.rep a1 [u1_0] fp1 w0) :
  Calls ZMk 183 #[.agg (ZMf (ZMe .i64 a0)),u1_0] w0 fun e w'=>∃ (r0:Int),
   e=.returned (vI r0)∧K r0∧Bel w0 w':=by
 unfold Zhg at h
 refine cof Tryz.func183 rfl 24 Tryz.ntmps183 ?_
 have hC:=ZM2 (X:=Nox) w0 [ZMg TInts a1 [u1_0] fp1] (al1 q1)
 refine sr (Yg (v:=.agg (ZMf (ZMe .i64 a0))) hC (ZMe .i64 a0) rfl rfl fun b2 w4 hB_ hC=>Zd (v:=vI 0) rfl (dn (sr (Zd (v:=vI 0) rfl (dn (ZMh (sr (Za (v:=u1_0) rfl (Zu hC 0 rfl ZM0 rfl (Za (v:=vI 0) rfl (dn (ZMn ?_))))))))))))
 have hN10:a1.length≤9223372036854775807:=Yw (hC.getP 0 rfl)
 refine Yi (S:=Int) _ _ (fun i10 s10 e_ w_=>Zt e_ [(2,vQ b2),(5,vI s10),(8,u1_0),(9,vI (a1.length:Int)),(10,vI (i10:Int))]∧Ctx Nox w0 w_ [blk b2 73 (ZMe .i64 a0)] [ZMg TInts a1 [u1_0] fp1]) a1.length ?_ ?_ (s0:=0) ?_ h
 ·clear hC h
  rintro i10 s10 e_ w10 nx10 K10 hi10 ⟨hS_,hC⟩ h hK10
  rw [ue hS_]
  refine sr (Zn rfl rfl (dn (ZMh (Z5 rfl (decide_eq_true (by omega)) (ZMl (Ze (ZMh (ZMn (sr (Za (v:=vI (i10:Int)) rfl ?_))))))))))
  obtain ⟨Ad10,c10,hv10⟩:=Zw (hC.getP 0 rfl) i10 hi10
  refine Yn (len:=a1.length) ZM0 sc2.size (tr rfl hv10) rfl (ZMx _) (ZNf.2 hi10) (Yp (vI (a1.getD i10 ZEo)) (Yd (hC.getP 0 rfl) hv10 i10 hi10) sc2 rfl (Zd (v:=vI (i10:Int)) rfl (Zd (v:=vI (a1.getD i10 ZEo)) rfl (dn (Zh (Za (v:=vI s10) rfl (Za (v:=vI (a1.getD i10 ZEo)) rfl (Za (v:=vI (i10:Int)) rfl ?_))))))))
  obtain ⟨⟨h10,h11⟩,h⟩:=h
  refine Xs i10 ZM4 sc3.size rfl rfl h10 h11 (by omega) (Yb hC 0 (vI (a0.get i10)) rfl sc3 rfl (ZMu _ _ (show i10 < 8 by omega)) (Zan rfl rfl (Zq rfl rfl (Zd (v:=vI (ZG5.wrap (s10+(ZG5.wrap ((a1.getD i10 ZEo) * (a0.get i10)))))) rfl (done (Zr (Ze (Zh (Zq rfl rfl (Za (v:=vI (ZG5.wrap ((i10:Int)+1))) rfl (done ?_)))))))))))
  exact hK10 (ZG5.wrap (s10+(ZG5.wrap ((a1.getD i10 ZEo) * (a0.get i10))))) _ _ ⟨(sl ⟨rfl,rfl,rfl,rfl,(tr rfl (congrArg _ (Z2 hi10 hN10))),trivial⟩),hC⟩ h
 ·clear hC h
  rintro s10 e_ w11 K10 ⟨hS_,hC⟩ h
  rw [ue hS_]
  refine sr (Zn rfl rfl (dn (ZMh (Z1 rfl (decide_eq_false (by omega)) ?_))))
  refine ZMv (Zj (Zj (Zx ?_)))
  refine Ze (sr (Za (v:=vI s10) rfl (Zd (v:=vI s10) rfl (dn (ZMp ?_)))))
  exact Zi rfl (Zg rfl) ⟨s10,rfl,h,hC.below⟩ (.inl rfl)
 ·skip
  exact⟨(slq rfl),hC⟩
def Zhh (a0:List Int) (a1:ZMj) (K:Int→Bool→Prop):Prop :=
 Z8 (fun i10 (s10:Int) nx10=>Zdv ((a1.terms.getD i10 ZEo).mono) (fun r11=>Zhg r11 a0 (fun r10=>(if s10≥0 then(if r10≠s10 then K 0 false else nx10 r10) else nx10 r10)))) (fun (s10:Int)=>K s10 true) a1.terms.length 0 (-1)
theorem Zv8 (a0:List Int) (a1:ZMj)  {K:Int→Bool→Prop} (h:Zhh a0 a1 K) (w0:World) (q0:ZOz.rep a0 [u0_0] fp0 w0) (q1:ZM3.rep a1 [u1_0] fp1 w0) :
  Calls ZMk 132 #[u0_0,.agg #[u1_0]] w0 fun e w'=>∃ (r0:Int) (r1:Bool),
   e=.returned (.tuple #[vI r0,.bool r1])∧K r0 r1∧Bel w0 w':=by
 unfold Zhh at h
 refine cof Tryz.func132 rfl 32 Tryz.ntmps132 ?_
 have hC:=ZM2 (X:=Nox) w0 [ZMg TInts a0 [u0_0] fp0,ZMg TForm a1 [u1_0] fp1] (alc q0 (al1 q1))
 have hp3:=(hC.getP 1 rfl)
 replace hC:=hC.derive 1 rfl (ZMg ZMi.ty.sl a1.terms [u1_0] fp1) (fun _=>(Xk hp3)) (fun _ hb_=>hb_)
 refine sr (Yg (v:=.agg #[u1_0]) hC [u1_0] rfl rfl fun b5 w7 hB_ hC=>Zd (v:=vI 0) rfl (Zd (v:=.bool false) rfl (dn (sr (Zd (v:=vI (-1)) rfl (dn (ZMh (sr (Z0 0 ZMo rfl sc53.size rfl rfl (Yb hC 0 (u1_0) rfl sc53 rfl rfl (Zu hC 0 rfl ZMr rfl (Za (v:=vI 0) rfl (dn (ZMn ?_))))))))))))))
 have hN10:a1.terms.length≤9223372036854775807:=Yw (hC.getP 0 rfl)
 refine Yi (S:=Int) _ _ (fun i10 s10 e_ w_=>Zt e_ [(0,u0_0),(6,vI s10),(11,u1_0),(12,vI (a1.terms.length:Int)),(13,vI (i10:Int))]∧Ctx Nox w0 w_ [] [ZMg ZMi.ty.sl a1.terms [u1_0] fp1,ZMg TInts a0 [u0_0] fp0,ZMg TForm a1 [u1_0] fp1]) a1.terms.length ?_ ?_ (s0:=(-1)) ?_ h
 ·clear hC h
  rintro i10 s10 e_ w10 nx10 K10 hi10 ⟨hS_,hC⟩ h hK10
  rw [ue hS_]
  refine sr (Zn rfl rfl (dn (ZMh (Z5 rfl (decide_eq_true (by omega)) (ZMl (Ze (ZMh (ZMn (sr ?_)))))))))
  obtain ⟨Ad10,c10,hv10⟩:=Zw (hC.getP 0 rfl) i10 hi10
  refine Yn (len:=a1.terms.length) ZMr ag162.size (tr rfl hv10) rfl (ZMx _) (ZNf.2 hi10) (Jd (ZMs (a1.terms.getD i10 ZEo)) (Yd (hC.getP 0 rfl) hv10 i10 hi10) ag162 rfl rfl (Ys hC (ZMs (⟨ZMm,0⟩:Term)) Zfm rfl fun b10 w11 hB_ hC=>Z3 (v:=.agg (ZMf (ZMs (a1.terms.getD i10 ZEo)))) hC 0 (ZMs (a1.terms.getD i10 ZEo)) (ZMs (a1.terms.getD i10 ZEo)) rfl ag162.size rfl rfl rfl rfl rfl (ZMq rfl) rfl fun w12 hC=>dn (sr (Z0 0 ZMw rfl ag136.size rfl rfl (Yq hC 0 (ZMe .u8 ((a1.terms.getD i10 ZEo).mono)) rfl ag136 rfl rfl rfl (Zf [.agg (ZMf (ZMe .u8 ((a1.terms.getD i10 ZEo).mono)))] _ ZPb rfl rfl rfl (Zka ((a1.terms.getD i10 ZEo).mono) h _) ?_))))))
  rintro _ w13 ⟨r11,rfl,h,hB10⟩
  refine rt ?_
  replace hC:=hC.grow hB10
  refine Za (v:=u0_0) rfl (Zf [.agg (ZMf (ZMe .i64 r11)),u0_0] _ Tryz.func183 rfl rfl rfl (Zv7 r11 a0 h _ (hC.getP 1 rfl)) ?_)
  rintro _ w14 ⟨r10,rfl,h,hB11⟩
  refine rt ?_
  replace hC:=hC.grow hB11
  refine Zd (v:=vI r10) rfl (dn (ZMh (sr (Za (v:=vI s10) rfl (J7 rfl rfl (Za (v:=.bool (decide (s10≥0))) rfl ?_))))))
  refine Y7 (decide (s10≥0)) (fun hb10=>?_) (fun hb10=>?_)
  ·replace h:=ift h (ct hb10)
   refine Zp 2 24 rfl rfl hb10 (Za (v:=vI r10) rfl (Zp 2 24 rfl rfl hb10 (Za (v:=vI s10) rfl (Zp 2 24 rfl rfl hb10 (Y6 rfl rfl (Z4 (v:=.bool (decide (r10≠s10))) (b:=true) (tr rfl (congrArg _ hb10)) rfl (dn ?_)))))))
   refine Zs rfl (fun hb11=>?_) (fun hb11=>?_)
   ·replace h:=ift h (ct hb11)
    refine sr (Zd (v:=vI 0) rfl (Zd (v:=.bool false) rfl (dn ?_)))
    refine ZMp (Zm (Ya (Zm (Zm (Ya (Zm ?_))))))
    exact X9 rfl (Zg rfl) (Zg rfl) ⟨0,false,rfl,h,hC.below⟩ (.inl rfl)
   ·replace h:=Zk h (cf hb11)
    refine ZMl (Ze (Zh (Za (v:=vI r10) rfl (Zd (v:=vI r10) rfl (done (Zr (Ze (Zh (Zq rfl rfl (Za (v:=vI (ZG5.wrap ((i10:Int)+1))) rfl (done ?_)))))))))))
    exact hK10 r10 _ _ ⟨(sl ⟨rfl,rfl,rfl,rfl,(tr rfl (congrArg _ (Z2 hi10 hN10))),trivial⟩),(hC.xM [] rfl)⟩ h
  ·replace h:=Zk h (cf hb10)
   refine Zl (b:=false) 2 24 rfl (tr rfl (congrArg _ hb10)) (by decide) (Zl (b:=false) 2 24 rfl (tr rfl (congrArg _ hb10)) (by decide) (Zl (b:=false) 2 24 rfl (tr rfl (congrArg _ hb10)) (by decide) (Z4 (v:=.bool false) (b:=false) (tr rfl (congrArg _ hb10)) rfl (dn (Z1 rfl rfl (ZMl (Ze (Zh (Za (v:=vI r10) rfl (Zd (v:=vI r10) rfl (done (Zr (Ze (Zh (Zq rfl rfl (Za (v:=vI (ZG5.wrap ((i10:Int)+1))) rfl (done ?_)))))))))))))))))
   exact hK10 r10 _ _ ⟨(sl ⟨rfl,rfl,rfl,rfl,(tr rfl (congrArg _ (Z2 hi10 hN10))),trivial⟩),(hC.xM [] rfl)⟩ h
 ·clear hC h
  rintro s10 e_ w15 K10 ⟨hS_,hC⟩ h
  rw [ue hS_]
  refine sr (Zn rfl rfl (dn (ZMh (Z1 rfl (decide_eq_false (by omega)) ?_))))
  refine ZMv (Zj (Zj (Zx ?_)))
  refine Ze (sr (Za (v:=vI s10) rfl (Zd (v:=vI s10) rfl (Zd (v:=.bool true) rfl (dn (ZMp ?_))))))
  exact X9 rfl (Zg rfl) (Zg rfl) ⟨s10,true,rfl,h,hC.below⟩ (.inl rfl)
 ·skip
  exact⟨(slq rfl),(hC.xM [] rfl)⟩
def Zhi (a0:List Int) (a1:ZMj) (a2:Int) (K:Bool→Prop):Prop :=
 Zhh a0 a1 (fun r10 r11=>(if r11=true then(if r10=(-1) then K true else K (decide (r10=a2))) else K false))
theorem Zv9 (a0:List Int) (a1:ZMj) (a2:Int)  {K:Bool→Prop} (h:Zhi a0 a1 a2 K) (w0:World) (q0:ZOz.rep a0 [u0_0] fp0 w0) (q1:ZM3.rep a1 [u1_0] fp1 w0) :
  Calls ZMk 152 #[u0_0,.agg #[u1_0],vI a2] w0 fun e w'=>∃ (r0:Bool),
   e=.returned (.bool r0)∧K r0∧Bel w0 w':=by
 unfold Zhi at h
 refine cof Tryz.func152 rfl 25 Tryz.ntmps152 ?_
 have hC:=ZM2 (X:=Nox) w0 [ZMg TInts a0 [u0_0] fp0,ZMg TForm a1 [u1_0] fp1] (alc q0 (al1 q1))
 have hp3:=(hC.getP 1 rfl)
 replace hC:=hC.derive 1 rfl (ZMg ZMi.ty.sl a1.terms [u1_0] fp1) (fun _=>(Xk hp3)) (fun _ hb_=>hb_)
 refine sr (Yg (v:=.agg #[u1_0]) hC [u1_0] rfl rfl fun b5 w7 hB_ hC=>Zd (v:=.bool false) rfl (dn (sr (Za (v:=u0_0) rfl (Yq hC 0 [u1_0] rfl ag55 rfl rfl rfl (Zf [u0_0,.agg #[u1_0]] _ Tryz.func132 rfl rfl rfl (Zv8 a0 a1 h _ (hC.getP 1 rfl) (Y3 (hC.getP 0 rfl))) ?_))))))
 rintro _ w10 ⟨r10,r11,rfl,h,hB10⟩
 refine rt ?_
 replace hC:=hC.grow hB10
 refine Za (v:=.tuple #[vI r10,.bool r11]) rfl (Yx (v:=vI r10) rfl rfl (Yx (v:=.bool r11) rfl rfl (Zd (v:=vI r10) rfl (Zd (v:=.bool r11) rfl (dn (sr (Za (v:=.bool r11) rfl (Za (v:=.bool r11) rfl ?_))))))))
 refine Y7 r11 (fun hb10=>?_) (fun hb10=>?_)
 ·replace h:=ift h (hb10)
  refine Zp 1 16 rfl rfl hb10 (Za (v:=vI r10) rfl (Zp 1 16 rfl rfl hb10 (Xx rfl rfl (Zp 1 16 rfl rfl hb10 (Za (v:=.bool (decide (r10=(-1)))) rfl ?_)))))
  refine Y7 (decide (r10=(-1))) (fun hb11=>?_) (fun hb11=>?_)
  ·replace h:=ift h (ct hb11)
   refine Zl (b:=true) 4 19 rfl (tr rfl (congrArg _ hb11)) (by decide) (Zl (b:=true) 4 19 rfl (tr rfl (congrArg _ hb11)) (by decide) (Zl (b:=true) 4 19 rfl (tr rfl (congrArg _ hb11)) (by decide) (Zp 1 16 rfl rfl hb10 (Z4 (v:=.bool true) (b:=true) (tr rfl (congrArg _ hb11)) rfl (Z4 (v:=.bool true) (b:=true) (tr rfl (congrArg _ hb10)) rfl (Zd (v:=.bool true) rfl (dn (ZMp ?_))))))))
   exact Zi rfl (Zg rfl) ⟨true,rfl,h,hC.below⟩ (.inl rfl)
  ·replace h:=Zk h (cf hb11)
   refine Zp 4 19 rfl rfl hb11 (Za (v:=vI r10) rfl (Zp 4 19 rfl rfl hb11 (Za (v:=vI a2) rfl (Zp 4 19 rfl rfl hb11 (Xx rfl rfl (Zp 1 16 rfl rfl hb10 (Z4 (v:=.bool (decide (r10=a2))) (b:=false) (tr rfl (congrArg _ hb11)) rfl (Z4 (v:=.bool (decide (r10=a2))) (b:=true) (tr rfl (congrArg _ hb10)) rfl (Zd (v:=.bool (decide (r10=a2))) rfl (dn (ZMp ?_)))))))))))
   exact Zi rfl (Zg rfl) ⟨decide (r10=a2),rfl,h,hC.below⟩ (.inl rfl)
 ·replace h:=Zk h (Y4 hb10)
  refine Zl (b:=false) 1 16 rfl (tr rfl (congrArg _ hb10)) (by decide) (Zl (b:=false) 1 16 rfl (tr rfl (congrArg _ hb10)) (by decide) (Zl (b:=false) 1 16 rfl (tr rfl (congrArg _ hb10)) (by decide) (J1 4 19 rfl rfl (J1 4 19 rfl rfl (J1 4 19 rfl rfl (Zl (b:=false) 1 16 rfl (tr rfl (congrArg _ hb10)) (by decide) (Z4 (v:=.bool false) (b:=false) (tr rfl (congrArg _ hb10)) rfl (Zd (v:=.bool false) rfl (dn (ZMp ?_))))))))))
  exact Zi rfl (Zg rfl) ⟨false,rfl,h,hC.below⟩ (.inl rfl)
def Zhj (a0:Alg) (K:List (Option (List (A8×Int)))→Prop):Prop :=
 Z8 (fun i10 (s10:(List (Option (List (A8×Int))))) nx10=>Zel (a0.images.getD i10 ZEo) (fun r10=>((0≤(i10:Int)∧(i10:Int) < 8)∧nx10 (s10.set i10 (some r10))))) (fun (s10:(List (Option (List (A8×Int)))))=>K s10) a0.images.length 0 (ZEj 8 none:List (Option (List (A8×Int))))
theorem Zwa (a0:Alg)  {K:List (Option (List (A8×Int)))→Prop} (h:Zhj a0 K) (w0:World) (q0:TAlg.rep a0 [u0_0,u0_1] fp0 w0) (qb0:(blk b0 32 [u0_0,u0_1]).holds w0) :
  Calls ZMk 191 #[vQ b0] w0 fun e w'=>∃ (r0:List (Option (List (A8×Int)))) (zc0:List Value) (fz0:List Nat),
   e=.returned (.agg (ZMf zc0))∧K r0∧(Zaa (kvA .i64) (vvI .i64) 8).rep r0 zc0 fz0 w'∧(∀ b,b∈fz0→w0.heap.size≤b)∧Bel w0 w':=by
 unfold Zhj at h
 refine cof Tryz.func191 rfl 23 Tryz.ntmps191 ?_
 have hC:=ZM2 (X:=Nox) w0 [ZMg TAlg a0 [u0_0,u0_1] fp0,blk b0 32 [u0_0,u0_1]] (alc q0 (al1 qb0))
 replace hC:=hC.dAlg 0 rfl
 refine sr (Ys hC (ZEj 8 (ZOy none)) Zm4 rfl fun b5 w7 hB_ hC=>dn (sr (J2 (v:=.agg (ZMf (ZEj 8 (ZOy none)))) [] rfl (Zvu _) (Ys hC (ZEj 8 (ZOy none)) Zm4 rfl fun b8 w10 hB_ hC=>?_))))
 replace hC:=hC.pushE (ZMg (Zaa (kvA .i64) (vvI .i64) 8) (ZEj 8 none:List (Option (List (A8×Int)))) (ZEj 8 (ZOy none)) []) (Zj5 (kvA .i64) (vvI .i64) 8 _) rfl
 replace hC:=hC.pushE (ZMg (Zaa (kvA .i64) (vvI .i64) 8) (ZEj 8 none:List (Option (List (A8×Int)))) (ZEj 8 (ZOy none)) []) (Zj5 (kvA .i64) (vvI .i64) 8 _) rfl
 have hl10:=Zc6 (hC.getP 1 rfl)
 have hl11:=Zc6 (hC.getP 0 rfl)
 refine Z3 (v:=.agg (ZMf (ZEj 8 (ZOy none)))) hC 0 (ZEj 8 (ZOy none)) (ZEj 8 (ZOy none)) rfl ag211.size rfl rfl rfl hl11 (Zmz (hC.getP 0 rfl)) (by rw [hl10]; exact ZEn _) (Zm0 (hl11.trans hl10.symm)) fun w11 hC=>dn (ZMh (sr (Za (v:=vQ b0) rfl (Xy rfl (Z0 1 ZM1 rfl sc30.size rfl rfl (Zck (u0_1) (hC.getP 5 rfl) sc30 rfl rfl (Zu hC 2 rfl ZM5 rfl (Za (v:=vI 0) rfl (dn (ZMn ?_))))))))))
 have hN10:a0.images.length≤9223372036854775807:=Yw (hC.getP 2 rfl)
 refine Yi (S:=(List (Option (List (A8×Int))))) _ _ (fun i10 s10 e_ w_=>∃ (v10:List Value),∃ (f10:List Nat),Zt e_ [(2,vQ b5),(3,vQ b8),(10,u0_1),(11,vI (a0.images.length:Int)),(12,vI (i10:Int))]∧(∀ b,b∈f10→w0.heap.size≤b)∧Ctx Nox w0 w_ [blk b8 211 v10,blk b5 211 (ZEj 8 (ZOy none))] [ZMg (Zaa (kvA .i64) (vvI .i64) 8) s10 v10 f10,ZMg ZM3.sl a0.images [u0_1] fp0,ZMg TInts a0.degrees [u0_0] fp0,ZMg TAlg a0 [u0_0,u0_1] fp0,blk b0 32 [u0_0,u0_1]]) a0.images.length ?_ ?_ (s0:=(ZEj 8 none:List (Option (List (A8×Int))))) ?_ h
 ·clear hC h
  rintro i10 s10 e_ w12 nx10 K10 hi10 ⟨v10,f10,hS_,hq10,hC⟩ h hK10
  rw [ue hS_]
  refine sr (Zn rfl rfl (dn (ZMh (Z5 rfl (decide_eq_true (by omega)) (ZMl (Ze (ZMh (ZMn (sr (Za (v:=vI (i10:Int)) rfl ?_))))))))))
  obtain ⟨Ad10,c10,hv10⟩:=Zw (hC.getP 1 rfl) i10 hi10
  refine Yn (len:=a0.images.length) ZM5 ag55.size (tr rfl hv10) rfl (ZMx _) (ZNf.2 hi10) ?_
  obtain ⟨cs_,hl12,hc10,hr10⟩:=Xg (hC.getP 1 rfl) hv10 i10 hi10
  obtain ⟨u10,rfl⟩:=ZNd.1 hl12
  clear hl12
  rw [Xd _ _ hi10] at hr10
  have hp10:=hr10
  replace hC:=hC.derive 1 rfl (ZMg ZMi.ty.sl ((a0.images.getD i10 ZEo).terms) [u10] fp0) (fun _=>(Xk hp10)) (fun _ hb_=>hb_)
  refine Jd [u10] hc10 ag55 rfl rfl (Ys hC [.slice none 0 0] z55 rfl fun b11 w13 hB_ hC=>Zd (v:=vI (i10:Int)) rfl (Z3 (v:=.agg #[u10]) hC 0 [u10] [u10] rfl ag55.size rfl rfl rfl rfl (Xp (Zdo (hC.getP 0 rfl)) rfl) (ZMq rfl) rfl fun w14 hC=>dn (Zh (Za (v:=vI (i10:Int)) rfl (Yq hC 0 [u10] rfl ag55 rfl rfl rfl (Zf [.agg #[u10]] _ Tryz.func78 rfl rfl rfl (Zna (a0.images.getD i10 ZEo) h _ (Y3 (hC.getP 0 rfl))) ?_))))))
  rintro _ w15 ⟨r10,b10,rfl,h,hr11,hf10,hB10⟩
  refine rt ?_
  replace hC:=hC.push hB10 (mapS b10 r10) hr11 (fun b_ hb_=>by obtain rfl:=ZFz.1 hb_; exact hf10)
  obtain ⟨⟨h10,h11⟩,h⟩:=h
  refine Xs i10 Tryz.underlying211 sc115.size rfl rfl h10 h11 (by omega) ?_
  have hf11:=Zgv hC 0 rfl
  replace hC:=hC.thaw 0 rfl (mapS b10 r10) id (fun _ hb_=>hb_)
  replace hC:=hC.joinP 0 2 rfl rfl (ZMg (Zaa (kvA .i64) (vvI .i64) 8) (s10.set i10 (some r10)) (v10.set i10 (ZOy (some b10))) (b10::f10)) (fun a_ b_=>Zvg b_ a_) (fun c_ hc_=>(ZEk.1 hc_).elim (fun h_=>.inl (by rw [h_]; exact ZFz.2 rfl)) .inr)
  have hs10:∀ b,b∈(b10::f10)→w0.heap.size≤b:=(fun b hb=>(ZEk.1 hb).elim (fun h_=>by rw [h_]; exact hf11) (fun hb=>hq10 b hb))
  have hl13:=Zc6 (hC.getP 3 rfl)
  refine Z3 (v:=.map (some b10)) hC 1 [.map (some b10)] (v10.set i10 (ZOy (some b10))) rfl sc115.size rfl rfl rfl rfl rfl (by rw [hl13]; omega) (Zqh (by rw [hl13]; omega) (by omega)) fun w16 hC=>done (Zr (Ze (Zh (Zq rfl rfl (Za (v:=vI (ZG5.wrap ((i10:Int)+1))) rfl (done ?_))))))
  exact hK10 (s10.set i10 (some r10)) _ _ ⟨v10.set i10 (ZOy (some b10)),(b10::f10),(sl ⟨rfl,rfl,rfl,rfl,(tr rfl (congrArg _ (Z2 hi10 hN10))),trivial⟩),hs10,((hC.xM [1,2] rfl).sP [0,4,5,6,7] rfl)⟩ h
 ·clear hC h
  rintro s10 e_ w17 K10 ⟨v10,f10,hS_,hq10,hC⟩ h
  rw [ue hS_]
  refine sr (Zn rfl rfl (dn (ZMh (Z1 rfl (decide_eq_false (by omega)) ?_))))
  refine ZMv (Zj (Zj (Zx ?_)))
  refine Ze (sr ?_)
  have hl14:=Zc6 (hC.getP 0 rfl)
  refine Yq hC 0 v10 rfl ag211 rfl (Zvi hl14) hl14 ?_
  replace hC:=hC.pushE (ZMg (Zaa (kvA .i64) (vvI .i64) 8) (ZEj 8 none:List (Option (List (A8×Int)))) (ZEj 8 (ZOy none)) []) (Zj5 (kvA .i64) (vvI .i64) 8 _) rfl
  have hl15:=Zc6 (hC.getP 0 rfl)
  have hl16:=Zc6 (hC.getP 1 rfl)
  refine Z3 (v:=.agg (ZMf v10)) hC 1 v10 v10 rfl ag211.size rfl rfl rfl hl16 (Zmz (hC.getP 1 rfl)) (by rw [hl15]; exact ZEn _) (Zm0 (hl16.trans hl15.symm)) fun w18 hC=>dn (ZMp ?_)
  exact Zi rfl (J8 hC 1 rfl ag211 rfl (Zc6 (hC.getP 1 rfl))) ⟨s10,v10,f10,rfl,h,(hC.getP 1 rfl),(fun b hb=>hq10 b hb),hC.below⟩ (.inl rfl)
 ·skip
  exact⟨ZEj 8 (ZOy none),[],(slq rfl),(fun b hb=>absurd hb (by simp)),(hC.sP [0,2,3,4,5] rfl)⟩
def Zdx (a0:Alg) (a1:List (A8×Int)) (K:List (A8×Int)→Prop):Prop :=
 Zhj a0 (fun r11=>Zca (fun (q10:A8×Int) (s12:(List (A8×Int))) nx11=>Z8 (fun i10 (s10:A8×(List (A8×Int))×Int) nx10=>(if q10.1.get i10 > 0 then Xt (fun (s11:A8×Int) nx12=>(if s11.2 < ZG5.wrap ((i10:Int)+1) then((0≤s11.2∧s11.2 < 8)∧nx12 (s11.1.set s11.2.toNat 0,ZG5.wrap (s11.2+1))) else(∃ ml10,r11[i10]? = some (some ml10)∧Zcq (Yu ([]:List (A8×Int)) (s10.1.set i10 (ZG5.wrap ((q10.1.get i10) - 1))) 1) a0.degrees ml10 (fun r13=>Zcq r13 a0.degrees (Yu ([]:List (A8×Int)) s11.1 1) (fun r14=>Zc8 (ZG5.wrap ((ZG5.wrap (s10.2.2 * q10.2)) * (q10.1.get i10))) (fun r12=>Zem s10.2.1 r14 r12 (fun m10=>(if(i10:Int) < (a0.degrees.length:Int) then((0≤(i10:Int)∧(i10:Int) < (a0.degrees.length:Int))∧(if ZFf (a0.degrees.getD i10 ZEo) 2=1 then(if ZFf (q10.1.get i10) 2=1 then nx10 (s10.1.set i10 (q10.1.get i10),m10,ZG5.wrap (0 - s10.2.2)) else nx10 (s10.1.set i10 (q10.1.get i10),m10,s10.2.2)) else nx10 (s10.1.set i10 (q10.1.get i10),m10,s10.2.2))) else nx10 (s10.1.set i10 (q10.1.get i10),m10,s10.2.2))))))))) (q10.1,0) else(if(i10:Int) < (a0.degrees.length:Int) then((0≤(i10:Int)∧(i10:Int) < (a0.degrees.length:Int))∧(if ZFf (a0.degrees.getD i10 ZEo) 2=1 then(if ZFf (q10.1.get i10) 2=1 then nx10 (s10.1.set i10 (q10.1.get i10),s10.2.1,ZG5.wrap (0 - s10.2.2)) else nx10 (s10.1.set i10 (q10.1.get i10),s10.2.1,s10.2.2)) else nx10 (s10.1.set i10 (q10.1.get i10),s10.2.1,s10.2.2))) else nx10 (s10.1.set i10 (q10.1.get i10),s10.2.1,s10.2.2)))) (fun (s10:A8×(List (A8×Int))×Int)=>nx11 s10.2.1) 8 0 (ZMm,s12,1)) (fun (s12:(List (A8×Int)))=>K s12) a1.length a1 ([]:List (A8×Int)))
theorem Znb (a0 : Alg) (a1 : List (A8 × Int))  {K : List (A8 × Int) → Prop} (h : Zdx a0 a1 K) (w0 : World) (q0 : TAlg.rep a0 [u0_0, u0_1] fp0 w0) (qb0 : (blk b0 32 [u0_0, u0_1]).holds w0) (q1 : (mapS b1 a1).holds w0) :
  Calls ZMk 154 #[vQ b0,.map (some b1)] w0 fun e w'=>∃ (r0:List (A8×Int)) (zb0:Nat),
   e=.returned (.map (some zb0))∧K r0∧(mapS zb0 r0).holds w'∧w0.heap.size≤zb0∧Bel w0 w':=by
 unfold Zdx at h
 refine cof Tryz.func154 rfl 107 Tryz.ntmps154 ?_
 have hC:=ZM2 (X:=Nox) w0 [ZMg TAlg a0 [u0_0,u0_1] fp0,blk b0 32 [u0_0,u0_1],mapS b1 a1] (alc q0 (alc qb0 (al1 q1)))
 replace hC:=hC.dAlg 0 rfl
 refine sr (Zd (v:=.map none) rfl (dn (sr (Zfh hC (kvA .i64) (vvI .i64) fun b6 w8 hB_ hC=>Za (v:=vQ b0) rfl (Zf [vQ b0] _ Tryz.func191 rfl rfl rfl (Zwa a0 h _ (Yk (hC.getP 1 rfl) (hC.getP 0 rfl)) (hC.getP 3 rfl)) ?_)))))
 rintro _ w11 ⟨r11,cs10,f10,rfl,h,hr10,hf10,hB10⟩
 refine rt ?_
 have hs10:=Zmn hC.size hf10
 replace hC:=hC.pushR hB10 (ZMg (Zaa (kvA .i64) (vvI .i64) 8) r11 cs10 f10) hr10 (fun b hb=>.inl (hf10 b hb))
 refine Ys hC (ZEj 8 (ZOy none)) Zm4 rfl fun b11 w12 hB_ hC=>Zd (v:=.map (some b6)) rfl ?_
 replace hC:=hC.pushE (ZMg (Zaa (kvA .i64) (vvI .i64) 8) (ZEj 8 none:List (Option (List (A8×Int)))) (ZEj 8 (ZOy none)) []) (Zj5 (kvA .i64) (vvI .i64) 8 _) rfl
 have hl10:=Zc6 (hC.getP 0 rfl)
 have hl11:=Zc6 (hC.getP 1 rfl)
 refine Z3 (v:=.agg (ZMf cs10)) hC 0 cs10 cs10 rfl ag211.size rfl rfl rfl hl11 (Zmz (hC.getP 1 rfl)) (by rw [hl10]; exact ZEn _) (Zm0 (hl11.trans hl10.symm)) fun w13 hC=>dn (ZMh (sr (Za (v:=.map (some b1)) rfl (Zgw hC 6 rfl ZNe rfl fun r10 es10 ck10 w14 hB_ hn10 hbn10 hC=>dn (ZMn ?_)))))
 refine Zg0 (S:=(List (A8×Int))) _ _ (fun l11 s12 e_ w_=>∃ (la10:Option MapEntry),Zt e_ [(0,vQ b0),(5,.map (some b6)),(6,vQ b11),(21,vQ r10)]∧Ctx Nox w0 w_ [itI (kvA .i64) (vvI .i64) r10 b1 es10 ck10 la10 l11,blk b11 211 cs10,mapS b6 s12] [Za9 b1 es10 ck10,ZMg (Zaa (kvA .i64) (vvI .i64) 8) r11 cs10 f10,ZMg ZM3.sl a0.images [u0_1] fp0,ZMg TInts a0.degrees [u0_0] fp0,ZMg TAlg a0 [u0_0,u0_1] fp0,blk b0 32 [u0_0,u0_1],mapS b1 a1]) ?_ (l0:=a1) (s0:=([]:List (A8×Int))) ?_ h
 ·clear hC h
  rintro l11 s12 e_ w15 nx11 K11 ⟨la10,hS_,hC⟩ h hK11
  rw [ue hS_]
  refine sr ?_
  refine Zgx hC 0 0 rfl rfl hn10 hbn10 rfl (fun hr11=>?_) (fun q10 l10 ent10 w16 hp10 hk10 hv12 hC=>?_)
  ·replace h:=h.1 hr11
   refine Yx (v:=.bool false) rfl rfl (dn (ZMh (Z1 rfl rfl ?_)))
   refine ZMv (Zj (Zj (Zx ?_)))
   refine Ze (sr (Za (v:=.map (some b6)) rfl (Zd (v:=.map (some b6)) rfl (dn (ZMp ?_)))))
   exact Zi rfl (Zg rfl) ⟨s12,b6,rfl,h,(hC.getM 2 rfl),(Zgv hC 2 rfl),hC.below⟩ (.inl rfl)
  ·replace h := h.2 q10 l10 hp10
   refine Yx (v:=.bool true) rfl rfl (dn (ZMh (Z5 rfl rfl (ZMl (Ze (ZMn (sr (Zgy hC 0 0 q10 rfl rfl hn10 rfl hk10 hv12 (Yx (v:=.agg (ZMf (ZMe .i64 q10.1))) rfl rfl (Yx (v:=vI q10.2) rfl rfl (Ys hC (ZMe .i64 ZMm) z73 rfl fun b14 w17 hB_ hC=>Z3 (v:=.agg (ZMf (ZMe .i64 q10.1))) hC 0 (ZMe .i64 q10.1) (ZMe .i64 q10.1) rfl ag73.size rfl rfl rfl rfl rfl (ZMq rfl) rfl fun w18 hC=>Zd (v:=vI q10.2) rfl (dn (sr (J2 [] rfl (Zg4   _) (Ys hC (ZMe .i64 ZMm) z73 rfl fun b15 w19 hB_ hC=>Z3 (v:=.agg (ZMf (ZMe .i64 ZMm))) hC 0 (ZMe .i64 ZMm) (ZMe .i64 ZMm) rfl ag73.size rfl rfl rfl rfl rfl (ZMq rfl) rfl fun w20 hC=>Zd (v:=vI 1) rfl (dn (sr (Yq hC 1 (ZMe .i64 q10.1) rfl ag73 rfl rfl rfl (Za (v:=vI 0) rfl (dn (ZMn ?_)))))))))))))))))))))
   refine Yi (S:=A8×(List (A8×Int))×Int) _ _ (fun i10 s10 e_ w_=>Zt e_ [(0,vQ b0),(5,.map (some b6)),(6,vQ b11),(7,vQ b14),(8,vI q10.2),(9,vQ b15),(10,vI s10.2.2),(21,vQ r10),(28,.agg (ZMf (ZMe .i64 q10.1))),(29,vI (i10:Int))]∧Ctx Nox w0 w_ [blk b15 73 (ZMe .i64 s10.1),blk b14 73 (ZMe .i64 q10.1),itI (kvA .i64) (vvI .i64) r10 b1 es10 ck10 (some ent10) l10,blk b11 211 cs10,mapS b6 s10.2.1] [Za9 b1 es10 ck10,ZMg (Zaa (kvA .i64) (vvI .i64) 8) r11 cs10 f10,ZMg ZM3.sl a0.images [u0_1] fp0,ZMg TInts a0.degrees [u0_0] fp0,ZMg TAlg a0 [u0_0,u0_1] fp0,blk b0 32 [u0_0,u0_1],mapS b1 a1]) 8 ?_ ?_ (s0:=(ZMm,s12,1)) ?_ h
   ·clear hC h
    rintro i10 s10 e_ w21 nx10 K10 hi10 ⟨hS_,hC⟩ h hK10
    rw [ue hS_]
    refine sr (Zn rfl rfl (dn (ZMh (Z5 rfl (decide_eq_true (by omega)) (ZMl (Ze (ZMh (ZMn (sr (Za (v:=vI (i10:Int)) rfl (Zjk (vI (q10.1.get i10)) ZM4 rfl rfl (ZMx _) (by omega) sc3 (ZMu _ _ hi10) (Zd (v:=vI (i10:Int)) rfl (Zd (v:=vI (q10.1.get i10)) rfl (dn (ZMh (sr (Za (v:=vI (q10.1.get i10)) rfl (Jh rfl rfl (dn ?_)))))))))))))))))))
    refine Zs rfl (fun hb14=>?_) (fun hb14=>?_)
    ·replace h:=ift h (ct hb14)
     refine sr (Yq hC 1 (ZMe .i64 q10.1) rfl ag73 rfl rfl rfl (Ys hC (ZMe .i64 ZMm) z73 rfl fun b30 w22 hB_ hC=>Z3 (v:=.agg (ZMf (ZMe .i64 q10.1))) hC 0 (ZMe .i64 q10.1) (ZMe .i64 q10.1) rfl ag73.size rfl rfl rfl rfl rfl (ZMq rfl) rfl fun w23 hC=>dn (ZMh (sr (Za (v:=vI (i10:Int)) rfl (Zq rfl rfl (Za (v:=vI 0) rfl (dn (ZMn ?_)))))))))
     refine Xz (S:=A8×Int) _ (fun s11 e_ w_=>Zt e_ [(0,vQ b0),(5,.map (some b6)),(6,vQ b11),(7,vQ b14),(8,vI q10.2),(9,vQ b15),(10,vI s10.2.2),(11,vI (i10:Int)),(12,vI (q10.1.get i10)),(13,vQ b30),(21,vQ r10),(28,.agg (ZMf (ZMe .i64 q10.1))),(29,vI (i10:Int)),(37,vI (ZG5.wrap ((i10:Int)+1))),(38,vI s11.2)]∧Ctx Nox w0 w_ [blk b30 73 (ZMe .i64 s11.1),blk b15 73 (ZMe .i64 s10.1),blk b14 73 (ZMe .i64 q10.1),itI (kvA .i64) (vvI .i64) r10 b1 es10 ck10 (some ent10) l10,blk b11 211 cs10,mapS b6 s10.2.1] [Za9 b1 es10 ck10,ZMg (Zaa (kvA .i64) (vvI .i64) 8) r11 cs10 f10,ZMg ZM3.sl a0.images [u0_1] fp0,ZMg TInts a0.degrees [u0_0] fp0,ZMg TAlg a0 [u0_0,u0_1] fp0,blk b0 32 [u0_0,u0_1],mapS b1 a1]) ?_ (s0:=(q10.1,0)) ?_ h
     ·clear hC h
      rintro s11 e_ w24 nx12 K12 ⟨hS_,hC⟩ h hK12
      rw [ue hS_]
      refine sr (Zn rfl rfl (dn (ZMh ?_)))
      refine Zs rfl (fun hb15=>?_) (fun hb15=>?_)
      ·replace h:=ift h (ct hb15)
       refine ZMl (Ze (ZMh (ZMn (sr (Za (v:=vI s11.2) rfl (Zd (v:=vI s11.2) rfl (dn (Zh (Za (v:=vI s11.2) rfl ?_)))))))))
       obtain ⟨⟨h10,h11⟩,h⟩:=h
       refine Xs s11.2.toNat ZM4 sc3.size rfl rfl h10 h11 (by omega) (Z3 (v:=vI 0) hC 0 [vI 0] (ZMe .i64 (s11.1.set s11.2.toNat 0)) rfl sc3.size rfl rfl rfl rfl rfl (show s11.2.toNat < 8 by omega) (ZNb _ _ _ (show s11.2.toNat < 8 by omega)) fun w25 hC=>done (Zr (Ze (Zh (Zq rfl rfl (Za (v:=vI (ZG5.wrap (s11.2+1))) rfl (done ?_)))))))
       exact hK12 (s11.1.set s11.2.toNat 0,ZG5.wrap (s11.2+1)) _ _ ⟨(slq rfl),hC⟩ h
      ·replace h:=Zk h (cf hb15)
       refine ZMv (Zj (Zj (Zx ?_)))
       refine Ze (sr (Yq hC 1 (ZMe .i64 s10.1) rfl ag73 rfl rfl rfl (Ys hC (ZMe .i64 ZMm) z73 rfl fun b43 w26 hB_ hC=>Z3 (v:=.agg (ZMf (ZMe .i64 s10.1))) hC 0 (ZMe .i64 s10.1) (ZMe .i64 s10.1) rfl ag73.size rfl rfl rfl rfl rfl (ZMq rfl) rfl fun w27 hC=>dn (sr (Za (v:=vI (i10:Int)) rfl (Za (v:=vI (q10.1.get i10)) rfl (X3 rfl rfl (Xs i10 ZM4 sc3.size rfl rfl (ZMx _) (by omega) (by omega) (Z3 (v:=vI (ZG5.wrap ((q10.1.get i10) - 1))) hC 0 [vI (ZG5.wrap ((q10.1.get i10) - 1))] (ZMe .i64 (s10.1.set i10 (ZG5.wrap ((q10.1.get i10) - 1)))) rfl sc3.size rfl rfl rfl rfl rfl hi10 (ZNb _ _ _ hi10) fun w28 hC=>dn (ZMh ?_))))))))))
       refine Zm2 20 Yo [0,0,3,7,0,16,48,112,0,256,768,2047,0,4096,12288,28672,0,0,196608,458752,1048575,2097151] [1,7,9,10,15,17] [3,4,5,6,8,12,13,14,19] (fun hM11 hM10 w10 hB_=>?_)
       replace hC:=hC.grow hB_
       have hN_:w10.heap.size≤w10.heap.size:=ZEn _
       refine Za3 (Xc _) 1 (.agg (ZMf (ZMe .i64 (s10.1.set i10 (ZG5.wrap ((q10.1.get i10) - 1)))))) rfl rfl (by kernel_rfl) (hM11 1 rfl) (fun w_ hB_=>.inl ⟨rfl,by exact Xa (hC.grow (Zcp hB_)) 0 (ZMe .i64 (s10.1.set i10 (ZG5.wrap ((q10.1.get i10) - 1)))) rfl ag73 rfl rfl rfl⟩) (l9:=(Zc 22 2)) (by kernel_rfl) (bMR (Xc _) 4 (vQ b0) rfl hM10 (Zc 22 18) (Zv (Xc _) 5 (vQ b0) rfl rfl (by kernel_rfl) (hM10 5 rfl) (fun w_=>.inl ⟨rfl,by exact Zas rfl⟩) (l9:=(Zc 22 50)) (by kernel_rfl) (Zv (Xc _) 6 (vQ b0) rfl rfl (by kernel_rfl) (hM10 6 rfl) (fun w_=>.inl ⟨rfl,by exact Yt 0 ZM1 rfl sc22.size rfl rfl⟩) (l9:=(Zc 22 114)) (by kernel_rfl) (Za3 (Xc _) 7 (u0_0) rfl rfl (by kernel_rfl) (hM11 7 rfl) (fun w_ hB_=>.inl ⟨rfl,by exact Zc3 (u0_0) ((hC.grow (Zcp hB_)).getP 5 rfl) sc22 rfl rfl⟩) (l9:=(Zc 22 242)) (by kernel_rfl) (bMR (Xc _) 8 (vI (i10:Int)) rfl hM10 (Zc 22 498) (Za3 (Xc _) 9 (.pointer (some ⟨b11,i10,none⟩)) rfl rfl (by kernel_rfl) (hM11 9 rfl) (fun w_ hB_=>.inl ⟨rfl,by exact Zag i10 Tryz.underlying211 sc115.size rfl rfl (ZMx _) (by omega) (by omega)⟩) (l9:=(Zc 22 1010)) (by kernel_rfl) ?_))))))
       obtain ⟨ml10,hl12,h⟩:=h
       obtain ⟨b10,hb18,hbf10,hm10⟩:=Zvh (hC.getP 1 rfl) hl12
       replace hC:=hC.derive 1 rfl (mapS b10 ml10) (fun _=>hm10) (fun c_ hc_=>by obtain rfl:=ZFz.1 hc_; exact hbf10)
       refine Za3 (Xc _) 10 (.map (some b10)) rfl rfl (by kernel_rfl) (hM11 10 rfl) (fun w_ hB_=>.inl ⟨rfl,by exact Yh (hC.grow (Zcp hB_)) 5 (.map (some b10)) rfl sc115 rfl (Zvj hb18 (by omega))⟩) (l9:=(Zc 22 2034)) (by kernel_rfl) (bMR (Xc _) 12 (vQ b0) rfl hM10 (Zc 22 6130) (Zv (Xc _) 13 (vQ b0) rfl rfl (by kernel_rfl) (hM10 13 rfl) (fun w_=>.inl ⟨rfl,by exact Zas rfl⟩) (l9:=(Zc 22 14322)) (by kernel_rfl) (Zv (Xc _) 14 (vQ b0) rfl rfl (by kernel_rfl) (hM10 14 rfl) (fun w_=>.inl ⟨rfl,by exact Yt 0 ZM1 rfl sc22.size rfl rfl⟩) (l9:=(Zc 22 30706)) (by kernel_rfl) (Za3 (Xc _) 15 (u0_0) rfl rfl (by kernel_rfl) (hM11 15 rfl) (fun w_ hB_=>.inl ⟨rfl,by exact Zc3 (u0_0) ((hC.grow (Zcp hB_)).getP 6 rfl) sc22 rfl rfl⟩) (l9:=(Zc 22 63474)) (by kernel_rfl) (Za3 (Xc _) 17 (.agg (ZMf (ZMe .i64 s11.1))) rfl rfl (by kernel_rfl) (hM11 17 rfl) (fun w_ hB_=>.inl ⟨rfl,by exact Xa (hC.grow (Zcp hB_)) 1 (ZMe .i64 s11.1) rfl ag73 rfl rfl rfl⟩) (l9:=(Zc 22 194546)) (by kernel_rfl) ?_)))))
       refine Zdn (fun e_ w_=>∃ (b17:Nat),∃ (r15:List (A8×Int)),Zt e_ [(0,vQ b0),(5,.map (some b6)),(6,vQ b11),(7,vQ b14),(8,vI q10.2),(9,vQ b15),(10,vI s10.2.2),(11,vI (i10:Int)),(12,vI (q10.1.get i10)),(16,.map (some b17)),(21,vQ r10),(28,.agg (ZMf (ZMe .i64 q10.1))),(29,vI (i10:Int))]∧Ctx Nox w0 w_ [mapS b17 r15,blk b15 73 (ZMe .i64 s10.1),blk b14 73 (ZMe .i64 q10.1),itI (kvA .i64) (vvI .i64) r10 b1 es10 ck10 (some ent10) l10,blk b11 211 cs10,mapS b6 s10.2.1] [Za9 b1 es10 ck10,ZMg (Zaa (kvA .i64) (vvI .i64) 8) r11 cs10 f10,ZMg ZM3.sl a0.images [u0_1] fp0,ZMg TInts a0.degrees [u0_0] fp0,ZMg TAlg a0 [u0_0,u0_1] fp0,blk b0 32 [u0_0,u0_1],mapS b1 a1]∧(Zc8 (ZG5.wrap ((ZG5.wrap (s10.2.2 * q10.2)) * (q10.1.get i10))) (fun r12=>Zem s10.2.1 r15 r12 (fun m10=>(if(i10:Int) < (a0.degrees.length:Int) then((0≤(i10:Int)∧(i10:Int) < (a0.degrees.length:Int))∧(if ZFf (a0.degrees.getD i10 ZEo) 2=1 then(if ZFf (q10.1.get i10) 2=1 then nx10 (s10.1.set i10 (q10.1.get i10),m10,ZG5.wrap (0 - s10.2.2)) else nx10 (s10.1.set i10 (q10.1.get i10),m10,s10.2.2)) else nx10 (s10.1.set i10 (q10.1.get i10),m10,s10.2.2))) else nx10 (s10.1.set i10 (q10.1.get i10),m10,s10.2.2)))))) ?_ ?_
       ·clear hC h
        rintro e_ w29 ⟨b17,r15,hS_,hC,h⟩
        rw [ue hS_]
        refine Ze (Zh (Za (v:=.map (some b6)) rfl (Za (v:=.map (some b17)) rfl (Za (v:=vI s10.2.2) rfl (Za (v:=vI q10.2) rfl (Zan rfl rfl (Za (v:=vI (q10.1.get i10)) rfl (Zan rfl rfl (Zf [vI (ZG5.wrap ((ZG5.wrap (s10.2.2 * q10.2)) * (q10.1.get i10)))] _ Tryz.func187 rfl rfl rfl (Zm8 (ZG5.wrap ((ZG5.wrap (s10.2.2 * q10.2)) * (q10.1.get i10))) h _) ?_)))))))))
        rintro _ w30 ⟨r12,rfl,h,hB11⟩
        refine rt ?_
        replace hC:=hC.grow hB11
        refine Zf [.map (some b6),.map (some b17),vI r12] _ Tryz.func165 rfl rfl rfl (Zv2 s10.2.1 r15 r12 h _ (hC.getM 5 rfl) (fun c_ hc_ e_=>hC.mm 0 5 rfl rfl (by decide) c_ hc_ (ZFz.2 e_)) (hC.getM 0 rfl)) ?_
        rintro _ w31 ⟨m10,rfl,h,hm11,hB12⟩
        refine rt ?_
        replace hC:=hC.turnB 5 rfl hB12 rfl rfl hm11
        refine dn (sr (Za (v:=vI (i10:Int)) rfl (Za (v:=vI (q10.1.get i10)) rfl (Xs i10 ZM4 sc3.size rfl rfl (ZMx _) (by omega) (by omega) (Z3 (v:=vI (q10.1.get i10)) hC 1 [vI (q10.1.get i10)] (ZMe .i64 (s10.1.set i10 (q10.1.get i10))) rfl sc3.size rfl rfl rfl rfl rfl hi10 (ZNb _ _ _ hi10) fun w32 hC=>dn (sr (Za (v:=vI (i10:Int)) rfl (Za (v:=vQ b0) rfl (Xy rfl (Z0 0 ZM1 rfl sc22.size rfl rfl (Zck (u0_0) (hC.getP 5 rfl) sc22 rfl rfl (Zu hC 3 rfl ZM0 rfl (Zn rfl rfl (Za (v:=.bool (decide ((i10:Int) < (a0.degrees.length:Int)))) rfl ?_))))))))))))))
        refine Y7 (decide ((i10:Int) < (a0.degrees.length:Int))) (fun hb10=>?_) (fun hb10=>?_)
        ·replace h:=ift h (ct hb10)
         refine Zp 7 87 rfl rfl hb10 (Za (v:=vQ b0) rfl (Zp 7 87 rfl rfl hb10 (Xy rfl (Zp 7 87 rfl rfl hb10 (Z0 0 ZM1 rfl sc22.size rfl rfl (Zp 7 87 rfl rfl hb10 (Zck (u0_0) (hC.getP 5 rfl) sc22 rfl rfl (Zp 7 87 rfl rfl hb10 (Za (v:=vI (i10:Int)) rfl (Zp 7 87 rfl rfl hb10 ?_))))))))))
         obtain ⟨⟨h12,h13⟩,h⟩:=h
         obtain ⟨Ad10,c10,hv10⟩:=Zw (hC.getP 3 rfl) i10 (show i10 < a0.degrees.length by omega)
         refine Yn (len:=a0.degrees.length) ZM0 sc2.size (tr rfl hv10) rfl h12 h13 (Zp 7 87 rfl rfl hb10 (Yp (vI (a0.degrees.getD i10 ZEo)) (Yd (hC.getP 3 rfl) hv10 i10 (show i10 < a0.degrees.length by omega)) sc2 rfl (Zp 7 87 rfl rfl hb10 (X8 rfl rfl (by decide) (Zp 7 87 rfl rfl hb10 (Xx rfl rfl (Z4 (v:=.bool (decide (ZFf (a0.degrees.getD i10 ZEo) 2=1))) (b:=true) (tr rfl (congrArg _ hb10)) rfl (Za (v:=.bool (decide (ZFf (a0.degrees.getD i10 ZEo) 2=1))) rfl ?_))))))))
         refine Y7 (decide (ZFf (a0.degrees.getD i10 ZEo) 2=1)) (fun hb12=>?_) (fun hb12=>?_)
         ·replace h:=ift h (ct hb12)
          refine Zp 18 98 rfl rfl hb12 (Za (v:=vI (q10.1.get i10)) rfl (Zp 18 98 rfl rfl hb12 (X8 rfl rfl (by decide) (Zp 18 98 rfl rfl hb12 (Xx rfl rfl (Z4 (v:=.bool (decide (ZFf (q10.1.get i10) 2=1))) (b:=true) (tr rfl (congrArg _ hb12)) rfl (dn ?_)))))))
          refine Zs rfl (fun hb16=>?_) (fun hb16=>?_)
          ·replace h:=ift h (ct hb16)
           refine Zh (Za (v:=vI s10.2.2) rfl (Zjj rfl (Zd (v:=vI (ZG5.wrap (0 - s10.2.2))) rfl (done (Zr (Ze (Zh (Zq rfl rfl (Za (v:=vI (ZG5.wrap ((i10:Int)+1))) rfl (done ?_))))))))))
           exact hK10 (s10.1.set i10 (q10.1.get i10),m10,ZG5.wrap (0 - s10.2.2)) _ _ ⟨(sl ⟨rfl,rfl,rfl,rfl,rfl,rfl,rfl,rfl,rfl,(tr rfl (congrArg _ (Z2 hi10 (by decide)))),trivial⟩),(hC.xM [1,2,3,4,5] rfl)⟩ h
          ·replace h:=Zk h (cf hb16)
           refine ZMl (Zr (Ze (Zh (Zq rfl rfl (Za (v:=vI (ZG5.wrap ((i10:Int)+1))) rfl (done ?_))))))
           exact hK10 (s10.1.set i10 (q10.1.get i10),m10,s10.2.2) _ _ ⟨(sl ⟨rfl,rfl,rfl,rfl,rfl,rfl,rfl,rfl,rfl,(tr rfl (congrArg _ (Z2 hi10 (by decide)))),trivial⟩),(hC.xM [1,2,3,4,5] rfl)⟩ h
         ·replace h:=Zk h (cf hb12)
          refine Zl (b:=false) 18 98 rfl (tr rfl (congrArg _ hb12)) (by decide) (Zl (b:=false) 18 98 rfl (tr rfl (congrArg _ hb12)) (by decide) (Zl (b:=false) 18 98 rfl (tr rfl (congrArg _ hb12)) (by decide) (Z4 (v:=.bool false) (b:=false) (tr rfl (congrArg _ hb12)) rfl (dn (Z1 rfl rfl (ZMl (Zr (Ze (Zh (Zq rfl rfl (Za (v:=vI (ZG5.wrap ((i10:Int)+1))) rfl (done ?_))))))))))))
          exact hK10 (s10.1.set i10 (q10.1.get i10),m10,s10.2.2) _ _ ⟨(sl ⟨rfl,rfl,rfl,rfl,rfl,rfl,rfl,rfl,rfl,(tr rfl (congrArg _ (Z2 hi10 (by decide)))),trivial⟩),(hC.xM [1,2,3,4,5] rfl)⟩ h
        ·replace h:=Zk h (cf hb10)
         refine Zl (b:=false) 7 87 rfl (tr rfl (congrArg _ hb10)) (by decide) (Zl (b:=false) 7 87 rfl (tr rfl (congrArg _ hb10)) (by decide) (Zl (b:=false) 7 87 rfl (tr rfl (congrArg _ hb10)) (by decide) (Zl (b:=false) 7 87 rfl (tr rfl (congrArg _ hb10)) (by decide) (Zl (b:=false) 7 87 rfl (tr rfl (congrArg _ hb10)) (by decide) (Zl (b:=false) 7 87 rfl (tr rfl (congrArg _ hb10)) (by decide) (Zl (b:=false) 7 87 rfl (tr rfl (congrArg _ hb10)) (by decide) (Zl (b:=false) 7 87 rfl (tr rfl (congrArg _ hb10)) (by decide) (Zl (b:=false) 7 87 rfl (tr rfl (congrArg _ hb10)) (by decide) (Z4 (v:=.bool false) (b:=false) (tr rfl (congrArg _ hb10)) rfl (Za (v:=.bool false) rfl (Zl (b:=false) 18 98 rfl (tr rfl (congrArg _ rfl)) (by decide) (Zl (b:=false) 18 98 rfl (tr rfl (congrArg _ rfl)) (by decide) (Zl (b:=false) 18 98 rfl (tr rfl (congrArg _ rfl)) (by decide) (Z4 (v:=.bool false) (b:=false) rfl rfl (dn (Z1 rfl rfl (ZMl (Zr (Ze (Zh (Zq rfl rfl (Za (v:=vI (ZG5.wrap ((i10:Int)+1))) rfl (done ?_)))))))))))))))))))))))
         exact hK10 (s10.1.set i10 (q10.1.get i10),m10,s10.2.2) _ _ ⟨(sl ⟨rfl,rfl,rfl,rfl,rfl,rfl,rfl,rfl,rfl,(tr rfl (congrArg _ (Z2 hi10 (by decide)))),trivial⟩),(hC.xM [1,2,3,4,5] rfl)⟩ h
       refine Ju 0 16 rfl rfl (by kernel_rfl) ?_ ?_
       ·skip
        refine Zdp hC (kvA .i64) (vvI .i64) fun b12 w33 hn_ hB_ hC=>?_
        have hnb_b12975:=ZEp hN_ hn_
        refine done ?_
        refine Xb (Jj hN_ (by assumption)) hN_ (l9:=(Zc 22 194547)) (by kernel_rfl) (fun hN_=>?_)
        refine Ju 2 16 rfl rfl (by kernel_rfl) ?_ ?_
        ·skip
         refine Zao hC 0 (s10.1.set i10 (ZG5.wrap ((q10.1.get i10) - 1))) 1 rfl Js ZNe rfl rfl rfl (fun w34 hBB_ hC=>?_) (.inr rfl)
         refine done ?_
         refine Xb (Zab hN_ hnb_b12975 hBB_) hN_ (l9:=(Zc 22 194551)) (by kernel_rfl) (fun hN_=>?_)
         refine bMR (Xc _) 3 (.map (some b12)) rfl hM10 (Zc 22 194559) ?_
         refine Ju 11 16 rfl rfl (by kernel_rfl) ?_ ?_
         ·skip
          refine Zf [.map (some b12),u0_0,.map (some b10)] _ ZOx rfl rfl rfl (J5 (Yu ([]:List (A8×Int)) (s10.1.set i10 (ZG5.wrap ((q10.1.get i10) - 1))) 1) a0.degrees ml10 h _ (hC.getM 0 rfl) (hC.getP 4 rfl) (hC.getP 0 rfl)) ?_
          rintro _ w35 ⟨r13,b31,rfl,h,hr12,hf11,hB13⟩
          refine rt ?_
          replace hC:=hC.push hB13 (mapS b31 r13) hr12 (fun b_ hb_=>by obtain rfl:=ZFz.1 hb_; exact hf11)
          refine done ?_
          refine Xb (Jj hN_ (by assumption)) hN_ (l9:=(Zc 22 196607)) (by kernel_rfl) (fun hN_=>?_)
          refine aO 16 rfl (Zdp hC (kvA .i64) (vvI .i64) fun b32 w36 hn_ hB_ hC=>?_)
          have hnb_b12988:=ZEp hN_ hn_
          refine done ?_
          refine Xb (Jj hN_ (by assumption)) hN_ (l9:=(Zc 22 262143)) (by kernel_rfl) (fun hN_=>?_)
          refine aO 18 rfl ?_
          refine Zao hC 0 s11.1 1 rfl Js ZNe rfl rfl rfl (fun w37 hBB_ hC=>?_) (.inr rfl)
          refine done ?_
          refine Xb (Zab hN_ hnb_b12988 hBB_) hN_ (l9:=(Zc 22 524287)) (by kernel_rfl) (fun hN_=>?_)
          refine bMR (Xc _) 19 (.map (some b32)) rfl hM10 (Zc 22 1048575) (Z6 20 (by decide) (by decide) (by kernel_rfl) (by kernel_rfl) rfl (Zf [.map (some b31),u0_0,.map (some b32)] _ ZOx rfl rfl rfl (J5 r13 a0.degrees (Yu ([]:List (A8×Int)) s11.1 1) h _ (hC.getM 1 rfl) (hC.getP 4 rfl) (hC.getM 0 rfl)) ?_))
          rintro _ w38 ⟨r14,b20,rfl,h,hr13,hf12,hB14⟩
          refine rt ?_
          replace hC:=hC.push hB14 (mapS b20 r14) hr13 (fun b_ hb_=>by obtain rfl:=ZFz.1 hb_; exact hf12)
          refine Zd (v:=.map (some b20)) rfl (done (Z7 ?_))
          exact⟨rfl,_,rfl,⟨b20,r14,(slq rfl),((hC.xM [0,6,7,8,9,10] rfl).sP [1,2,3,4,5,6,7] rfl),h⟩⟩
         ·skip
          refine Zdp hC (kvA .i64) (vvI .i64) fun b19 w39 hn_ hB_ hC=>?_
          have hnb_b13001:=ZEp hN_ hn_
          refine done ?_
          refine Xb (Jj hN_ (by assumption)) hN_ (l9:=(Zc 22 260095)) (by kernel_rfl) (fun hN_=>?_)
          refine Ju 11 18 rfl rfl (by kernel_rfl) ?_ ?_
          ·skip
           refine Zf [.map (some b12),u0_0,.map (some b10)] _ ZOx rfl rfl rfl (J5 (Yu ([]:List (A8×Int)) (s10.1.set i10 (ZG5.wrap ((q10.1.get i10) - 1))) 1) a0.degrees ml10 h _ (hC.getM 1 rfl) (hC.getP 4 rfl) (hC.getP 0 rfl)) ?_
           rintro _ w40 ⟨r16,b33,rfl,h,hr14,hf13,hB15⟩
           refine rt ?_
           replace hC:=hC.push hB15 (mapS b33 r16) hr14 (fun b_ hb_=>by obtain rfl:=ZFz.1 hb_; exact hf13)
           refine done ?_
           refine Xb (Jj hN_ (by assumption)) hN_ (l9:=(Zc 22 262143)) (by kernel_rfl) (fun hN_=>?_)
           refine aO 18 rfl ?_
           refine Zao hC 1 s11.1 1 rfl Js ZNe rfl rfl rfl (fun w41 hBB_ hC=>?_) (.inr rfl)
           refine done ?_
           refine Xb (Zab hN_ hnb_b13001 hBB_) hN_ (l9:=(Zc 22 524287)) (by kernel_rfl) (fun hN_=>?_)
           refine bMR (Xc _) 19 (.map (some b19)) rfl hM10 (Zc 22 1048575) (Z6 20 (by decide) (by decide) (by kernel_rfl) (by kernel_rfl) rfl (Zf [.map (some b33),u0_0,.map (some b19)] _ ZOx rfl rfl rfl (J5 r16 a0.degrees (Yu ([]:List (A8×Int)) s11.1 1) h _ (hC.getM 0 rfl) (hC.getP 4 rfl) (hC.getM 1 rfl)) ?_))
           rintro _ w42 ⟨r17,b21,rfl,h,hr15,hf14,hB16⟩
           refine rt ?_
           replace hC:=hC.push hB16 (mapS b21 r17) hr15 (fun b_ hb_=>by obtain rfl:=ZFz.1 hb_; exact hf14)
           refine Zd (v:=.map (some b21)) rfl (done (Z7 ?_))
           exact⟨rfl,_,rfl,⟨b21,r17,(slq rfl),((hC.xM [0,6,7,8,9,10] rfl).sP [1,2,3,4,5,6,7] rfl),h⟩⟩
          ·skip
           refine Zao hC 0 s11.1 1 rfl Js ZNe rfl rfl rfl (fun w43 hBB_ hC=>?_) (.inr rfl)
           refine done ?_
           refine Xb (Zab hN_ hnb_b13001 hBB_) hN_ (l9:=(Zc 22 522239)) (by kernel_rfl) (fun hN_=>?_)
           refine bMR (Xc _) 19 (.map (some b19)) rfl hM10 (Zc 22 1046527) (aO 11 rfl (Zf [.map (some b12),u0_0,.map (some b10)] _ ZOx rfl rfl rfl (J5 (Yu ([]:List (A8×Int)) (s10.1.set i10 (ZG5.wrap ((q10.1.get i10) - 1))) 1) a0.degrees ml10 h _ (hC.getM 1 rfl) (hC.getP 4 rfl) (hC.getP 0 rfl)) ?_))
           rintro _ w44 ⟨r18,b34,rfl,h,hr16,hf15,hB17⟩
           refine rt ?_
           replace hC:=hC.push hB17 (mapS b34 r18) hr16 (fun b_ hb_=>by obtain rfl:=ZFz.1 hb_; exact hf15)
           refine done ?_
           refine Xb (Jj hN_ (by assumption)) hN_ (l9:=(Zc 22 1048575)) (by kernel_rfl) (fun hN_=>?_)
           refine Z6 20 (by decide) (by decide) (by kernel_rfl) (by kernel_rfl) rfl (Zf [.map (some b34),u0_0,.map (some b19)] _ ZOx rfl rfl rfl (J5 r18 a0.degrees (Yu ([]:List (A8×Int)) s11.1 1) h _ (hC.getM 0 rfl) (hC.getP 4 rfl) (hC.getM 1 rfl)) ?_)
           rintro _ w45 ⟨r19,b22,rfl,h,hr17,hf16,hB18⟩
           refine rt ?_
           replace hC:=hC.push hB18 (mapS b22 r19) hr17 (fun b_ hb_=>by obtain rfl:=ZFz.1 hb_; exact hf16)
           refine Zd (v:=.map (some b22)) rfl (done (Z7 ?_))
           exact⟨rfl,_,rfl,⟨b22,r19,(slq rfl),((hC.xM [0,6,7,8,9,10] rfl).sP [1,2,3,4,5,6,7] rfl),h⟩⟩
        ·skip
         refine Zdp hC (kvA .i64) (vvI .i64) fun b16 w46 hn_ hB_ hC=>?_
         have hnb_b13042:=ZEp hN_ hn_
         refine done ?_
         refine Xb (Jj hN_ (by assumption)) hN_ (l9:=(Zc 22 260083)) (by kernel_rfl) (fun hN_=>?_)
         refine Ju 2 18 rfl rfl (by kernel_rfl) ?_ ?_
         ·skip
          refine Zao hC 1 (s10.1.set i10 (ZG5.wrap ((q10.1.get i10) - 1))) 1 rfl Js ZNe rfl rfl rfl (fun w47 hBB_ hC=>?_) (.inr rfl)
          refine done ?_
          refine Xb (Zab hN_ hnb_b12975 hBB_) hN_ (l9:=(Zc 22 260087)) (by kernel_rfl) (fun hN_=>?_)
          refine bMR (Xc _) 3 (.map (some b12)) rfl hM10 (Zc 22 260095) ?_
          refine Ju 11 18 rfl rfl (by kernel_rfl) ?_ ?_
          ·skip
           refine Zf [.map (some b12),u0_0,.map (some b10)] _ ZOx rfl rfl rfl (J5 (Yu ([]:List (A8×Int)) (s10.1.set i10 (ZG5.wrap ((q10.1.get i10) - 1))) 1) a0.degrees ml10 h _ (hC.getM 1 rfl) (hC.getP 4 rfl) (hC.getP 0 rfl)) ?_
           rintro _ w48 ⟨r20,b35,rfl,h,hr18,hf17,hB19⟩
           refine rt ?_
           replace hC:=hC.push hB19 (mapS b35 r20) hr18 (fun b_ hb_=>by obtain rfl:=ZFz.1 hb_; exact hf17)
           refine done ?_
           refine Xb (Jj hN_ (by assumption)) hN_ (l9:=(Zc 22 262143)) (by kernel_rfl) (fun hN_=>?_)
           refine aO 18 rfl ?_
           refine Zao hC 1 s11.1 1 rfl Js ZNe rfl rfl rfl (fun w49 hBB_ hC=>?_) (.inr rfl)
           refine done ?_
           refine Xb (Zab hN_ hnb_b13042 hBB_) hN_ (l9:=(Zc 22 524287)) (by kernel_rfl) (fun hN_=>?_)
           refine bMR (Xc _) 19 (.map (some b16)) rfl hM10 (Zc 22 1048575) (Z6 20 (by decide) (by decide) (by kernel_rfl) (by kernel_rfl) rfl (Zf [.map (some b35),u0_0,.map (some b16)] _ ZOx rfl rfl rfl (J5 r20 a0.degrees (Yu ([]:List (A8×Int)) s11.1 1) h _ (hC.getM 0 rfl) (hC.getP 4 rfl) (hC.getM 1 rfl)) ?_))
           rintro _ w50 ⟨r21,b23,rfl,h,hr19,hf18,hB20⟩
           refine rt ?_
           replace hC:=hC.push hB20 (mapS b23 r21) hr19 (fun b_ hb_=>by obtain rfl:=ZFz.1 hb_; exact hf18)
           refine Zd (v:=.map (some b23)) rfl (done (Z7 ?_))
           exact⟨rfl,_,rfl,⟨b23,r21,(slq rfl),((hC.xM [0,6,7,8,9,10] rfl).sP [1,2,3,4,5,6,7] rfl),h⟩⟩
          ·skip
           refine Zao hC 0 s11.1 1 rfl Js ZNe rfl rfl rfl (fun w51 hBB_ hC=>?_) (.inr rfl)
           refine done ?_
           refine Xb (Zab hN_ hnb_b13042 hBB_) hN_ (l9:=(Zc 22 522239)) (by kernel_rfl) (fun hN_=>?_)
           refine bMR (Xc _) 19 (.map (some b16)) rfl hM10 (Zc 22 1046527) (aO 11 rfl (Zf [.map (some b12),u0_0,.map (some b10)] _ ZOx rfl rfl rfl (J5 (Yu ([]:List (A8×Int)) (s10.1.set i10 (ZG5.wrap ((q10.1.get i10) - 1))) 1) a0.degrees ml10 h _ (hC.getM 1 rfl) (hC.getP 4 rfl) (hC.getP 0 rfl)) ?_))
           rintro _ w52 ⟨r22,b36,rfl,h,hr20,hf19,hB21⟩
           refine rt ?_
           replace hC:=hC.push hB21 (mapS b36 r22) hr20 (fun b_ hb_=>by obtain rfl:=ZFz.1 hb_; exact hf19)
           refine done ?_
           refine Xb (Jj hN_ (by assumption)) hN_ (l9:=(Zc 22 1048575)) (by kernel_rfl) (fun hN_=>?_)
           refine Z6 20 (by decide) (by decide) (by kernel_rfl) (by kernel_rfl) rfl (Zf [.map (some b36),u0_0,.map (some b16)] _ ZOx rfl rfl rfl (J5 r22 a0.degrees (Yu ([]:List (A8×Int)) s11.1 1) h _ (hC.getM 0 rfl) (hC.getP 4 rfl) (hC.getM 1 rfl)) ?_)
           rintro _ w53 ⟨r23,b24,rfl,h,hr21,hf20,hB22⟩
           refine rt ?_
           replace hC:=hC.push hB22 (mapS b24 r23) hr21 (fun b_ hb_=>by obtain rfl:=ZFz.1 hb_; exact hf20)
           refine Zd (v:=.map (some b24)) rfl (done (Z7 ?_))
           exact⟨rfl,_,rfl,⟨b24,r23,(slq rfl),((hC.xM [0,6,7,8,9,10] rfl).sP [1,2,3,4,5,6,7] rfl),h⟩⟩
         ·skip
          refine Zao hC 0 s11.1 1 rfl Js ZNe rfl rfl rfl (fun w54 hBB_ hC=>?_) (.inr rfl)
          refine done ?_
          refine Xb (Zab hN_ hnb_b13042 hBB_) hN_ (l9:=(Zc 22 522227)) (by kernel_rfl) (fun hN_=>?_)
          refine bMR (Xc _) 19 (.map (some b16)) rfl hM10 (Zc 22 1046515) (aO 2 rfl ?_)
          refine Zao hC 1 (s10.1.set i10 (ZG5.wrap ((q10.1.get i10) - 1))) 1 rfl Js ZNe rfl rfl rfl (fun w55 hBB_ hC=>?_) (.inr rfl)
          refine done ?_
          refine Xb (Zab hN_ hnb_b12975 hBB_) hN_ (l9:=(Zc 22 1046519)) (by kernel_rfl) (fun hN_=>?_)
          refine bMR (Xc _) 3 (.map (some b12)) rfl hM10 (Zc 22 1046527) (aO 11 rfl (Zf [.map (some b12),u0_0,.map (some b10)] _ ZOx rfl rfl rfl (J5 (Yu ([]:List (A8×Int)) (s10.1.set i10 (ZG5.wrap ((q10.1.get i10) - 1))) 1) a0.degrees ml10 h _ (hC.getM 1 rfl) (hC.getP 4 rfl) (hC.getP 0 rfl)) ?_))
          rintro _ w56 ⟨r24,b37,rfl,h,hr22,hf21,hB23⟩
          refine rt ?_
          replace hC:=hC.push hB23 (mapS b37 r24) hr22 (fun b_ hb_=>by obtain rfl:=ZFz.1 hb_; exact hf21)
          refine done ?_
          refine Xb (Jj hN_ (by assumption)) hN_ (l9:=(Zc 22 1048575)) (by kernel_rfl) (fun hN_=>?_)
          refine Z6 20 (by decide) (by decide) (by kernel_rfl) (by kernel_rfl) rfl (Zf [.map (some b37),u0_0,.map (some b16)] _ ZOx rfl rfl rfl (J5 r24 a0.degrees (Yu ([]:List (A8×Int)) s11.1 1) h _ (hC.getM 0 rfl) (hC.getP 4 rfl) (hC.getM 1 rfl)) ?_)
          rintro _ w57 ⟨r25,b25,rfl,h,hr23,hf22,hB24⟩
          refine rt ?_
          replace hC:=hC.push hB24 (mapS b25 r25) hr23 (fun b_ hb_=>by obtain rfl:=ZFz.1 hb_; exact hf22)
          refine Zd (v:=.map (some b25)) rfl (done (Z7 ?_))
          exact⟨rfl,_,rfl,⟨b25,r25,(slq rfl),((hC.xM [0,6,7,8,9,10] rfl).sP [1,2,3,4,5,6,7] rfl),h⟩⟩
       ·skip
        refine Zdp hC (kvA .i64) (vvI .i64) fun b13 w58 hn_ hB_ hC=>?_
        have hnb_b13104:=ZEp hN_ hn_
        refine done ?_
        refine Xb (Jj hN_ (by assumption)) hN_ (l9:=(Zc 22 260082)) (by kernel_rfl) (fun hN_=>?_)
        refine Ju 0 18 rfl rfl (by kernel_rfl) ?_ ?_
        ·skip
         refine Zdp hC (kvA .i64) (vvI .i64) fun b18 w59 hn_ hB_ hC=>?_
         have hnb_b13107:=ZEp hN_ hn_
         refine done ?_
         refine Xb (Jj hN_ (by assumption)) hN_ (l9:=(Zc 22 260083)) (by kernel_rfl) (fun hN_=>?_)
         refine Ju 2 18 rfl rfl (by kernel_rfl) ?_ ?_
         ·skip
          refine Zao hC 0 (s10.1.set i10 (ZG5.wrap ((q10.1.get i10) - 1))) 1 rfl Js ZNe rfl rfl rfl (fun w60 hBB_ hC=>?_) (.inr rfl)
          refine done ?_
          refine Xb (Zab hN_ hnb_b13107 hBB_) hN_ (l9:=(Zc 22 260087)) (by kernel_rfl) (fun hN_=>?_)
          refine bMR (Xc _) 3 (.map (some b18)) rfl hM10 (Zc 22 260095) ?_
          refine Ju 11 18 rfl rfl (by kernel_rfl) ?_ ?_
          ·skip
           refine Zf [.map (some b18),u0_0,.map (some b10)] _ ZOx rfl rfl rfl (J5 (Yu ([]:List (A8×Int)) (s10.1.set i10 (ZG5.wrap ((q10.1.get i10) - 1))) 1) a0.degrees ml10 h _ (hC.getM 0 rfl) (hC.getP 4 rfl) (hC.getP 0 rfl)) ?_
           rintro _ w61 ⟨r26,b38,rfl,h,hr24,hf23,hB25⟩
           refine rt ?_
           replace hC:=hC.push hB25 (mapS b38 r26) hr24 (fun b_ hb_=>by obtain rfl:=ZFz.1 hb_; exact hf23)
           refine done ?_
           refine Xb (Jj hN_ (by assumption)) hN_ (l9:=(Zc 22 262143)) (by kernel_rfl) (fun hN_=>?_)
           refine aO 18 rfl ?_
           refine Zao hC 2 s11.1 1 rfl Js ZNe rfl rfl rfl (fun w62 hBB_ hC=>?_) (.inr rfl)
           refine done ?_
           refine Xb (Zab hN_ hnb_b13104 hBB_) hN_ (l9:=(Zc 22 524287)) (by kernel_rfl) (fun hN_=>?_)
           refine bMR (Xc _) 19 (.map (some b13)) rfl hM10 (Zc 22 1048575) (Z6 20 (by decide) (by decide) (by kernel_rfl) (by kernel_rfl) rfl (Zf [.map (some b38),u0_0,.map (some b13)] _ ZOx rfl rfl rfl (J5 r26 a0.degrees (Yu ([]:List (A8×Int)) s11.1 1) h _ (hC.getM 0 rfl) (hC.getP 4 rfl) (hC.getM 2 rfl)) ?_))
           rintro _ w63 ⟨r27,b26,rfl,h,hr25,hf24,hB26⟩
           refine rt ?_
           replace hC:=hC.push hB26 (mapS b26 r27) hr25 (fun b_ hb_=>by obtain rfl:=ZFz.1 hb_; exact hf24)
           refine Zd (v:=.map (some b26)) rfl (done (Z7 ?_))
           exact⟨rfl,_,rfl,⟨b26,r27,(slq rfl),((hC.xM [0,6,7,8,9,10] rfl).sP [1,2,3,4,5,6,7] rfl),h⟩⟩
          ·skip
           refine Zao hC 1 s11.1 1 rfl Js ZNe rfl rfl rfl (fun w64 hBB_ hC=>?_) (.inr rfl)
           refine done ?_
           refine Xb (Zab hN_ hnb_b13104 hBB_) hN_ (l9:=(Zc 22 522239)) (by kernel_rfl) (fun hN_=>?_)
           refine bMR (Xc _) 19 (.map (some b13)) rfl hM10 (Zc 22 1046527) (aO 11 rfl (Zf [.map (some b18),u0_0,.map (some b10)] _ ZOx rfl rfl rfl (J5 (Yu ([]:List (A8×Int)) (s10.1.set i10 (ZG5.wrap ((q10.1.get i10) - 1))) 1) a0.degrees ml10 h _ (hC.getM 0 rfl) (hC.getP 4 rfl) (hC.getP 0 rfl)) ?_))
           rintro _ w65 ⟨r28,b39,rfl,h,hr26,hf25,hB27⟩
           refine rt ?_
           replace hC:=hC.push hB27 (mapS b39 r28) hr26 (fun b_ hb_=>by obtain rfl:=ZFz.1 hb_; exact hf25)
           refine done ?_
           refine Xb (Jj hN_ (by assumption)) hN_ (l9:=(Zc 22 1048575)) (by kernel_rfl) (fun hN_=>?_)
           refine Z6 20 (by decide) (by decide) (by kernel_rfl) (by kernel_rfl) rfl (Zf [.map (some b39),u0_0,.map (some b13)] _ ZOx rfl rfl rfl (J5 r28 a0.degrees (Yu ([]:List (A8×Int)) s11.1 1) h _ (hC.getM 0 rfl) (hC.getP 4 rfl) (hC.getM 2 rfl)) ?_)
           rintro _ w66 ⟨r29,b27,rfl,h,hr27,hf26,hB28⟩
           refine rt ?_
           replace hC:=hC.push hB28 (mapS b27 r29) hr27 (fun b_ hb_=>by obtain rfl:=ZFz.1 hb_; exact hf26)
           refine Zd (v:=.map (some b27)) rfl (done (Z7 ?_))
           exact⟨rfl,_,rfl,⟨b27,r29,(slq rfl),((hC.xM [0,6,7,8,9,10] rfl).sP [1,2,3,4,5,6,7] rfl),h⟩⟩
         ·skip
          refine Zao hC 1 s11.1 1 rfl Js ZNe rfl rfl rfl (fun w67 hBB_ hC=>?_) (.inr rfl)
          refine done ?_
          refine Xb (Zab hN_ hnb_b13104 hBB_) hN_ (l9:=(Zc 22 522227)) (by kernel_rfl) (fun hN_=>?_)
          refine bMR (Xc _) 19 (.map (some b13)) rfl hM10 (Zc 22 1046515) (aO 2 rfl ?_)
          refine Zao hC 0 (s10.1.set i10 (ZG5.wrap ((q10.1.get i10) - 1))) 1 rfl Js ZNe rfl rfl rfl (fun w68 hBB_ hC=>?_) (.inr rfl)
          refine done ?_
          refine Xb (Zab hN_ hnb_b13107 hBB_) hN_ (l9:=(Zc 22 1046519)) (by kernel_rfl) (fun hN_=>?_)
          refine bMR (Xc _) 3 (.map (some b18)) rfl hM10 (Zc 22 1046527) (aO 11 rfl (Zf [.map (some b18),u0_0,.map (some b10)] _ ZOx rfl rfl rfl (J5 (Yu ([]:List (A8×Int)) (s10.1.set i10 (ZG5.wrap ((q10.1.get i10) - 1))) 1) a0.degrees ml10 h _ (hC.getM 0 rfl) (hC.getP 4 rfl) (hC.getP 0 rfl)) ?_))
          rintro _ w69 ⟨r30,b40,rfl,h,hr28,hf27,hB29⟩
          refine rt ?_
          replace hC:=hC.push hB29 (mapS b40 r30) hr28 (fun b_ hb_=>by obtain rfl:=ZFz.1 hb_; exact hf27)
          refine done ?_
          refine Xb (Jj hN_ (by assumption)) hN_ (l9:=(Zc 22 1048575)) (by kernel_rfl) (fun hN_=>?_)
          refine Z6 20 (by decide) (by decide) (by kernel_rfl) (by kernel_rfl) rfl (Zf [.map (some b40),u0_0,.map (some b13)] _ ZOx rfl rfl rfl (J5 r30 a0.degrees (Yu ([]:List (A8×Int)) s11.1 1) h _ (hC.getM 0 rfl) (hC.getP 4 rfl) (hC.getM 2 rfl)) ?_)
          rintro _ w70 ⟨r31,b28,rfl,h,hr29,hf28,hB30⟩
          refine rt ?_
          replace hC:=hC.push hB30 (mapS b28 r31) hr29 (fun b_ hb_=>by obtain rfl:=ZFz.1 hb_; exact hf28)
          refine Zd (v:=.map (some b28)) rfl (done (Z7 ?_))
          exact⟨rfl,_,rfl,⟨b28,r31,(slq rfl),((hC.xM [0,6,7,8,9,10] rfl).sP [1,2,3,4,5,6,7] rfl),h⟩⟩
        ·skip
         refine Zao hC 0 s11.1 1 rfl Js ZNe rfl rfl rfl (fun w71 hBB_ hC=>?_) (.inr rfl)
         refine done ?_
         refine Xb (Zab hN_ hnb_b13104 hBB_) hN_ (l9:=(Zc 22 522226)) (by kernel_rfl) (fun hN_=>?_)
         refine bMR (Xc _) 19 (.map (some b13)) rfl hM10 (Zc 22 1046514) (aO 0 rfl (Zdp hC (kvA .i64) (vvI .i64) fun b41 w72 hn_ hB_ hC=>?_))
         have hnb_b13170:=ZEp hN_ hn_
         refine done ?_
         refine Xb (Jj hN_ (by assumption)) hN_ (l9:=(Zc 22 1046515)) (by kernel_rfl) (fun hN_=>?_)
         refine aO 2 rfl ?_
         refine Zao hC 0 (s10.1.set i10 (ZG5.wrap ((q10.1.get i10) - 1))) 1 rfl Js ZNe rfl rfl rfl (fun w73 hBB_ hC=>?_) (.inr rfl)
         refine done ?_
         refine Xb (Zab hN_ hnb_b13170 hBB_) hN_ (l9:=(Zc 22 1046519)) (by kernel_rfl) (fun hN_=>?_)
         refine bMR (Xc _) 3 (.map (some b41)) rfl hM10 (Zc 22 1046527) (aO 11 rfl (Zf [.map (some b41),u0_0,.map (some b10)] _ ZOx rfl rfl rfl (J5 (Yu ([]:List (A8×Int)) (s10.1.set i10 (ZG5.wrap ((q10.1.get i10) - 1))) 1) a0.degrees ml10 h _ (hC.getM 0 rfl) (hC.getP 4 rfl) (hC.getP 0 rfl)) ?_))
         rintro _ w74 ⟨r32,b42,rfl,h,hr30,hf29,hB31⟩
         refine rt ?_
         replace hC:=hC.push hB31 (mapS b42 r32) hr30 (fun b_ hb_=>by obtain rfl:=ZFz.1 hb_; exact hf29)
         refine done ?_
         refine Xb (Jj hN_ (by assumption)) hN_ (l9:=(Zc 22 1048575)) (by kernel_rfl) (fun hN_=>?_)
         refine Z6 20 (by decide) (by decide) (by kernel_rfl) (by kernel_rfl) rfl (Zf [.map (some b42),u0_0,.map (some b13)] _ ZOx rfl rfl rfl (J5 r32 a0.degrees (Yu ([]:List (A8×Int)) s11.1 1) h _ (hC.getM 0 rfl) (hC.getP 4 rfl) (hC.getM 2 rfl)) ?_)
         rintro _ w75 ⟨r33,b29,rfl,h,hr31,hf30,hB32⟩
         refine rt ?_
         replace hC:=hC.push hB32 (mapS b29 r33) hr31 (fun b_ hb_=>by obtain rfl:=ZFz.1 hb_; exact hf30)
         refine Zd (v:=.map (some b29)) rfl (done (Z7 ?_))
         exact⟨rfl,_,rfl,⟨b29,r33,(slq rfl),((hC.xM [0,6,7,8,9,10] rfl).sP [1,2,3,4,5,6,7] rfl),h⟩⟩
     ·skip
      exact⟨(slq rfl),hC⟩
    ·replace h:=Zk h (cf hb14)
     refine ZMl (Ze (sr (Za (v:=vI (i10:Int)) rfl (Za (v:=vI (q10.1.get i10)) rfl (Xs i10 ZM4 sc3.size rfl rfl (ZMx _) (by omega) (by omega) (Z3 (v:=vI (q10.1.get i10)) hC 0 [vI (q10.1.get i10)] (ZMe .i64 (s10.1.set i10 (q10.1.get i10))) rfl sc3.size rfl rfl rfl rfl rfl hi10 (ZNb _ _ _ hi10) fun w76 hC=>dn (sr (Za (v:=vI (i10:Int)) rfl (Za (v:=vQ b0) rfl (Xy rfl (Z0 0 ZM1 rfl sc22.size rfl rfl (Zck (u0_0) (hC.getP 5 rfl) sc22 rfl rfl (Zu hC 3 rfl ZM0 rfl (Zn rfl rfl (Za (v:=.bool (decide ((i10:Int) < (a0.degrees.length:Int)))) rfl ?_)))))))))))))))
     refine Y7 (decide ((i10:Int) < (a0.degrees.length:Int))) (fun hb11=>?_) (fun hb11=>?_)
     ·replace h:=ift h (ct hb11)
      refine Zp 7 87 rfl rfl hb11 (Za (v:=vQ b0) rfl (Zp 7 87 rfl rfl hb11 (Xy rfl (Zp 7 87 rfl rfl hb11 (Z0 0 ZM1 rfl sc22.size rfl rfl (Zp 7 87 rfl rfl hb11 (Zck (u0_0) (hC.getP 5 rfl) sc22 rfl rfl (Zp 7 87 rfl rfl hb11 (Za (v:=vI (i10:Int)) rfl (Zp 7 87 rfl rfl hb11 ?_))))))))))
      obtain ⟨⟨h14,h15⟩,h⟩:=h
      obtain ⟨Ad11,c11,hv11⟩:=Zw (hC.getP 3 rfl) i10 (show i10 < a0.degrees.length by omega)
      refine Yn (len:=a0.degrees.length) ZM0 sc2.size (tr rfl hv11) rfl h14 h15 (Zp 7 87 rfl rfl hb11 (Yp (vI (a0.degrees.getD i10 ZEo)) (Yd (hC.getP 3 rfl) hv11 i10 (show i10 < a0.degrees.length by omega)) sc2 rfl (Zp 7 87 rfl rfl hb11 (X8 rfl rfl (by decide) (Zp 7 87 rfl rfl hb11 (Xx rfl rfl (Z4 (v:=.bool (decide (ZFf (a0.degrees.getD i10 ZEo) 2=1))) (b:=true) (tr rfl (congrArg _ hb11)) rfl (Za (v:=.bool (decide (ZFf (a0.degrees.getD i10 ZEo) 2=1))) rfl ?_))))))))
      refine Y7 (decide (ZFf (a0.degrees.getD i10 ZEo) 2=1)) (fun hb13=>?_) (fun hb13=>?_)
      ·replace h:=ift h (ct hb13)
       refine Zp 18 98 rfl rfl hb13 (Za (v:=vI (q10.1.get i10)) rfl (Zp 18 98 rfl rfl hb13 (X8 rfl rfl (by decide) (Zp 18 98 rfl rfl hb13 (Xx rfl rfl (Z4 (v:=.bool (decide (ZFf (q10.1.get i10) 2=1))) (b:=true) (tr rfl (congrArg _ hb13)) rfl (dn ?_)))))))
       refine Zs rfl (fun hb17=>?_) (fun hb17=>?_)
       ·replace h:=ift h (ct hb17)
        refine Zh (Za (v:=vI s10.2.2) rfl (Zjj rfl (Zd (v:=vI (ZG5.wrap (0 - s10.2.2))) rfl (done (Zr (Ze (Zh (Zq rfl rfl (Za (v:=vI (ZG5.wrap ((i10:Int)+1))) rfl (done ?_))))))))))
        exact hK10 (s10.1.set i10 (q10.1.get i10),s10.2.1,ZG5.wrap (0 - s10.2.2)) _ _ ⟨(sl ⟨rfl,rfl,rfl,rfl,rfl,rfl,rfl,rfl,rfl,(tr rfl (congrArg _ (Z2 hi10 (by decide)))),trivial⟩),hC⟩ h
       ·replace h:=Zk h (cf hb17)
        refine ZMl (Zr (Ze (Zh (Zq rfl rfl (Za (v:=vI (ZG5.wrap ((i10:Int)+1))) rfl (done ?_))))))
        exact hK10 (s10.1.set i10 (q10.1.get i10),s10.2.1,s10.2.2) _ _ ⟨(sl ⟨rfl,rfl,rfl,rfl,rfl,rfl,rfl,rfl,rfl,(tr rfl (congrArg _ (Z2 hi10 (by decide)))),trivial⟩),hC⟩ h
      ·replace h:=Zk h (cf hb13)
       refine Zl (b:=false) 18 98 rfl (tr rfl (congrArg _ hb13)) (by decide) (Zl (b:=false) 18 98 rfl (tr rfl (congrArg _ hb13)) (by decide) (Zl (b:=false) 18 98 rfl (tr rfl (congrArg _ hb13)) (by decide) (Z4 (v:=.bool false) (b:=false) (tr rfl (congrArg _ hb13)) rfl (dn (Z1 rfl rfl (ZMl (Zr (Ze (Zh (Zq rfl rfl (Za (v:=vI (ZG5.wrap ((i10:Int)+1))) rfl (done ?_))))))))))))
       exact hK10 (s10.1.set i10 (q10.1.get i10),s10.2.1,s10.2.2) _ _ ⟨(sl ⟨rfl,rfl,rfl,rfl,rfl,rfl,rfl,rfl,rfl,(tr rfl (congrArg _ (Z2 hi10 (by decide)))),trivial⟩),hC⟩ h
     ·replace h:=Zk h (cf hb11)
      refine Zl (b:=false) 7 87 rfl (tr rfl (congrArg _ hb11)) (by decide) (Zl (b:=false) 7 87 rfl (tr rfl (congrArg _ hb11)) (by decide) (Zl (b:=false) 7 87 rfl (tr rfl (congrArg _ hb11)) (by decide) (Zl (b:=false) 7 87 rfl (tr rfl (congrArg _ hb11)) (by decide) (Zl (b:=false) 7 87 rfl (tr rfl (congrArg _ hb11)) (by decide) (Zl (b:=false) 7 87 rfl (tr rfl (congrArg _ hb11)) (by decide) (Zl (b:=false) 7 87 rfl (tr rfl (congrArg _ hb11)) (by decide) (Zl (b:=false) 7 87 rfl (tr rfl (congrArg _ hb11)) (by decide) (Zl (b:=false) 7 87 rfl (tr rfl (congrArg _ hb11)) (by decide) (Z4 (v:=.bool false) (b:=false) (tr rfl (congrArg _ hb11)) rfl (Za (v:=.bool false) rfl (Zl (b:=false) 18 98 rfl (tr rfl (congrArg _ rfl)) (by decide) (Zl (b:=false) 18 98 rfl (tr rfl (congrArg _ rfl)) (by decide) (Zl (b:=false) 18 98 rfl (tr rfl (congrArg _ rfl)) (by decide) (Z4 (v:=.bool false) (b:=false) rfl rfl (dn (Z1 rfl rfl (ZMl (Zr (Ze (Zh (Zq rfl rfl (Za (v:=vI (ZG5.wrap ((i10:Int)+1))) rfl (done ?_)))))))))))))))))))))))
      exact hK10 (s10.1.set i10 (q10.1.get i10),s10.2.1,s10.2.2) _ _ ⟨(sl ⟨rfl,rfl,rfl,rfl,rfl,rfl,rfl,rfl,rfl,(tr rfl (congrArg _ (Z2 hi10 (by decide)))),trivial⟩),hC⟩ h
   ·clear hC h
    rintro s10 e_ w77 K10 ⟨hS_,hC⟩ h
    rw [ue hS_]
    refine sr (Zn rfl rfl (dn (ZMh (Z1 rfl (decide_eq_false (by omega)) ?_))))
    refine ZMv (Zj (Zj (Zx ?_)))
    refine Zr ?_
    exact hK11 q10 l10 s10.2.1 _ _ hp10 ⟨(some ent10),(slq rfl),(hC.xM [2,3,4] rfl)⟩ h
   ·skip
    exact⟨(slq rfl),hC⟩
 ·skip
  exact⟨none,(slq rfl),(hC.sP [0,2,3,4,5,6,7] rfl)⟩
def Zhk (a0:A8) (K:A8→Prop):Prop :=
 Z8 (fun i10 (s10:A8) nx10=>nx10 (s10.set i10 (a0.get i10))) (fun (s10:A8)=>K s10) 8 0 ZMm
theorem Zwb (a0:A8)  {K:A8→Prop} (h:Zhk a0 K) (w0:World)  :
  Calls ZMk 177 #[.agg (ZMf (ZMe .u8 a0))] w0 fun e w'=>∃ (r0:A8),
   e=.returned (.agg (ZMf (ZMe .u8 r0)))∧K r0∧Bel w0 w':=by
 unfold Zhk at h
 refine cof Tryz.func177 rfl 15 Tryz.ntmps177 ?_
 have hC:=ZM2 (X:=Nox) w0 [] (by simp)
 refine sr (Yg (v:=.agg (ZMf (ZMe .u8 a0))) hC (ZMe .u8 a0) rfl rfl fun b1 w3 hB_ hC=>Ys hC (ZMe .u8 ZMm) Zbq rfl fun b4 w6 hB_ hC=>dn (sr (Ys hC (ZMe .u8 ZMm) Zbq rfl fun b7 w9 hB_ hC=>dn (ZMh (sr (Zd (v:=vI 0) rfl (dn (ZMn ?_))))))))
 refine Yi (S:=A8) _ _ (fun i10 s10 e_ w_=>Zt e_ [(1,vQ b1),(2,vQ b4),(3,vQ b7),(4,vI (i10:Int))]∧Ctx Nox w0 w_ [blk b7 136 (ZMe .u8 s10),blk b4 136 (ZMe .u8 ZMm),blk b1 135 (ZMe .u8 a0)] []) 8 ?_ ?_ (s0:=ZMm) ?_ h
 ·clear hC h
  rintro i10 s10 e_ w10 nx10 K10 hi10 ⟨hS_,hC⟩ h hK10
  rw [ue hS_]
  refine ZMh (sr (Za (v:=vI (i10:Int)) rfl (Zn rfl rfl (dn (Z5 rfl (decide_eq_true (by omega)) (ZMl (Ze (ZMh (ZMn (Zh (Za (v:=vI (i10:Int)) rfl (Za (v:=vI (i10:Int)) rfl (Xs i10 Tryz.underlying135 sc5.size rfl rfl (ZMx _) (by omega) (by omega) (Yb hC 2 (.int .u8 (a0.get i10)) rfl sc5 rfl (ZMu _ _ hi10) (Xs i10 ZMz sc5.size rfl rfl (ZMx _) (by omega) (by omega) (Z3 (v:=.int .u8 (a0.get i10)) hC 0 [.int .u8 (a0.get i10)] (ZMe .u8 (s10.set i10 (a0.get i10))) rfl sc5.size rfl rfl rfl rfl rfl hi10 (ZNb _ _ _ hi10) fun w11 hC=>done (Zr (Ze (Zh (Za (v:=vI (i10:Int)) rfl (Zq rfl rfl (Zd (v:=vI (ZG5.wrap ((i10:Int)+1))) rfl (done ?_)))))))))))))))))))))))
  exact hK10 (s10.set i10 (a0.get i10)) _ _ ⟨(sl ⟨rfl,rfl,rfl,(tr rfl (congrArg _ (Z2 hi10 (by decide)))),trivial⟩),hC⟩ h
 ·clear hC h
  rintro s10 e_ w12 K10 ⟨hS_,hC⟩ h
  rw [ue hS_]
  refine ZMh (sr (Za (v:=vI 8) rfl (Zn rfl rfl (dn (Z1 rfl (decide_eq_false (by omega)) ?_)))))
  refine ZMv (Zj (Zj (Zx ?_)))
  refine Ze (sr (Yq hC 0 (ZMe .u8 s10) rfl ag136 rfl rfl rfl (Z3 (v:=.agg (ZMf (ZMe .u8 s10))) hC 1 (ZMe .u8 s10) (ZMe .u8 s10) rfl ag136.size rfl rfl rfl rfl rfl (ZMq rfl) rfl fun w13 hC=>dn (ZMp ?_))))
  exact Zi rfl (J8 hC 1 rfl ag136 rfl rfl) ⟨s10,rfl,h,hC.below⟩ (.inl rfl)
 ·skip
  exact⟨(slq rfl),hC⟩
def Zhl (a0:List Int) (K:List Int→Prop):Prop :=
 ((0≤(a0.length:Int)∧(a0.length:Int) * 8≤281474976710656)∧Z8 (fun i10 (s10:(List Int)) nx10=>((0≤(i10:Int)∧(i10:Int) < (s10.length:Int))∧nx10 (s10.set i10 (a0.getD i10 ZEo)))) (fun (s10:(List Int))=>K s10) a0.length 0 (ZEj ((a0.length:Int).toNat) (0:Int)))
theorem Zwc (a0:List Int)  {K:List Int→Prop} (h:Zhl a0 K) (w0:World) (q0:ZOz.rep a0 [u0_0] fp0 w0) :
  Calls ZMk 41 #[u0_0] w0 fun e w'=>∃ (r0:List Int) (z0_0:Value) (fz0:List Nat),
   e=.returned (z0_0)∧K r0∧(Tr.item (Tr.sl 2 (eI.tr)) r0 [z0_0] fz0).holds w'∧(∀ b,b∈fz0→w0.heap.size≤b)∧Bel w0 w':=by
 unfold Zhl at h
 refine cof Tryz.func41 rfl 22 Tryz.ntmps41 ?_
 have hC:=ZM2 (X:=Nox) w0 [ZMg TInts a0 [u0_0] fp0] (al1 q0)
 refine sr (Zd (v:=.slice none 0 0) rfl (dn (sr (Za (v:=u0_0) rfl (Zu hC 0 rfl ZM0 rfl ?_)))))
 obtain ⟨hm7,h⟩:=h
 refine Zb8 (sz:=1) hC (eI.encs (ZEj ((a0.length:Int).toNat) (0:Int))) ZM0 el2 (tr rfl (congrArg (ZO5 .i64) (ZO6 hm7.1).symm)) (tr rfl (congrArg (ZO5 .i64) (ZO6 hm7.1).symm)) (by omega) (by omega) (Zbk (E:=eI) _ _) fun v5 w6 hB_ hC=>?_
 replace hC:=Yy hC 0 ((ZEj ((a0.length:Int).toNat) (0:Int)).length) (eI.encs (ZEj ((a0.length:Int).toNat) (0:Int))) rfl (by simp) rfl
 refine Zd (v:=v5) rfl (dn (ZMh (sr (Zd (v:=vI 0) rfl (dn (ZMn ?_))))))
 have hN10:a0.length≤9223372036854775807:=Yw (hC.getP 0 rfl)
 refine Yi (S:=(List Int)) _ _ (fun i10 s10 e_ w_=>∃ (v10:Value),Zt e_ [(0,u0_0),(3,v10),(4,vI (i10:Int))]∧Ctx Nox w0 w_ [own 2 1 v10 s10.length (eI.encs s10)] [ZMg TInts a0 [u0_0] fp0]) a0.length ?_ ?_ (s0:=(ZEj ((a0.length:Int).toNat) (0:Int))) ?_ h
 ·clear hC h
  rintro i10 s10 e_ w10 nx10 K10 hi10 ⟨v10,hS_,hC⟩ h hK10
  rw [ue hS_]
  refine ZMh (sr (Za (v:=vI (i10:Int)) rfl (Za (v:=u0_0) rfl (Zu hC 0 rfl ZM0 rfl (Zn rfl rfl (dn (Z5 rfl (decide_eq_true (by omega)) (ZMl (Ze (ZMh (ZMn (Zh (Za (v:=v10) rfl (Za (v:=vI (i10:Int)) rfl (Za (v:=u0_0) rfl (Za (v:=vI (i10:Int)) rfl ?_))))))))))))))))
  obtain ⟨Ad10,c10,hv10⟩:=Zw (hC.getP 0 rfl) i10 hi10
  refine Yn (len:=a0.length) ZM0 sc2.size (tr rfl hv10) rfl (ZMx _) (ZNf.2 hi10) (Yp (vI (a0.getD i10 ZEo)) (Yd (hC.getP 0 rfl) hv10 i10 hi10) sc2 rfl ?_)
  obtain ⟨⟨h10,h11⟩,h⟩:=h
  obtain ⟨Ad11,c11,hv11⟩:=Xo (hC.getM 0 rfl) (ZO7 (ZGa _) (show i10 < s10.length by omega))
  refine Xv (i10 * 1) ZM0 sc2.size (tr rfl hv11) rfl h10 h11 rfl (Za8 (v:=vI (a0.getD i10 ZEo)) hC 0 [vI (a0.getD i10 ZEo)] (eI.encs (s10.set i10 (a0.getD i10 ZEo))) rfl hv11 sc2.size rfl rfl rfl rfl rfl (by rw [ZO8]; exact J4 (sz:=1) (show i10 < s10.length by omega)) (Zbj _ _ _ (show i10 < s10.length by omega)) fun w11 hC=>?_)
  replace hC:=Yy hC 0 ((s10.set i10 (a0.getD i10 ZEo)).length) (eI.encs (s10.set i10 (a0.getD i10 ZEo))) rfl (by simp) rfl
  refine done (Zr (Ze (Zh (Za (v:=vI (i10:Int)) rfl (Zq rfl rfl (Zd (v:=vI (ZG5.wrap ((i10:Int)+1))) rfl (done ?_)))))))
  exact hK10 (s10.set i10 (a0.getD i10 ZEo)) _ _ ⟨v10,(sl ⟨rfl,rfl,(tr rfl (congrArg _ (Z2 hi10 hN10))),trivial⟩),hC⟩ h
 ·clear hC h
  rintro s10 e_ w12 K10 ⟨v10,hS_,hC⟩ h
  rw [ue hS_]
  refine ZMh (sr (Za (v:=vI (a0.length:Int)) rfl (Za (v:=u0_0) rfl (Zu hC 0 rfl ZM0 rfl (Zn rfl rfl (dn (Z1 rfl (decide_eq_false (by omega)) ?_)))))))
  refine ZMv (Zj (Zj (Zx ?_)))
  refine Ze (sr (Za (v:=v10) rfl (Zd (v:=v10) rfl (dn (ZMp ?_)))))
  exact Zi rfl (Zg rfl) ⟨s10,v10,(ZNg (ZFi v10)),rfl,h,(Xf (hC.getM 0 rfl)),(Y8 hC 0 rfl),hC.below⟩ (.inl rfl)
 ·skip
  exact⟨v5,(slq rfl),hC⟩
def Zhm (a0:A8) (a1:A8) (K:Bool→Prop):Prop :=
 Z8 (fun i10 (s10:Unit) nx10=>(if a0.get i10≠a1.get i10 then K false else nx10 ())) (fun (s10:Unit)=>K true) 8 0 ()
theorem Zwd (a0:A8) (a1:A8)  {K:Bool→Prop} (h:Zhm a0 a1 K) (w0:World)  :
  Calls ZMk 188 #[.agg (ZMf (ZMe .u8 a0)),.agg (ZMf (ZMe .u8 a1))] w0 fun e w'=>∃ (r0:Bool),
   e=.returned (.bool r0)∧K r0∧Bel w0 w':=by
 unfold Zhm at h
 refine cof Tryz.func188 rfl 17 Tryz.ntmps188 ?_
 have hC:=ZM2 (X:=Nox) w0 [] (by simp)
 refine sr (Yg (v:=.agg (ZMf (ZMe .u8 a0))) hC (ZMe .u8 a0) rfl rfl fun b1 w3 hB_ hC=>Yg (v:=.agg (ZMf (ZMe .u8 a1))) hC (ZMe .u8 a1) rfl rfl fun b4 w6 hB_ hC=>Zd (v:=.bool false) rfl (dn (ZMh (sr (Zd (v:=vI 0) rfl (dn (ZMn ?_)))))))
 refine Yi (S:=Unit) _ _ (fun i10 s10 e_ w_=>Zt e_ [(2,vQ b1),(3,vQ b4),(5,vI (i10:Int))]∧Ctx Nox w0 w_ [blk b4 136 (ZMe .u8 a1),blk b1 136 (ZMe .u8 a0)] []) 8 ?_ ?_ (s0:=()) ?_ h
 ·clear hC h
  rintro i10 s10 e_ w10 nx10 K10 hi10 ⟨hS_,hC⟩ h hK10
  rw [ue hS_]
  refine ZMh (sr (Za (v:=vI (i10:Int)) rfl (Zn rfl rfl (dn (Z5 rfl (decide_eq_true (by omega)) (ZMl (Ze (ZMh (ZMn (ZMh ?_))))))))))
  refine cwd 6 Yo [0,1,3,0,8,24,63] [1,2,4,5] [0,3] (fun hM10 hM11 w11 hB_=>?_)
  replace hC:=hC.grow hB_
  refine bM 0 (vI (i10:Int)) rfl hM11 (Zc 7 1) (bL 1 (.pointer (some ⟨b1,i10,none⟩)) rfl rfl hM10 (fun _ hB_=>by exact Zag i10 ZMz sc5.size rfl rfl (ZMx _) (by omega) (by omega)) (Zc 7 3) (bL 2 (.int .u8 (a0.get i10)) rfl rfl hM10 (fun _ hB_=>by exact Yh (hC.grow hB_) 1 (.int .u8 (a0.get i10)) rfl sc5 rfl (ZMu _ _ hi10)) (Zc 7 7) (bM 3 (vI (i10:Int)) rfl hM11 (Zc 7 15) (bL 4 (.pointer (some ⟨b4,i10,none⟩)) rfl rfl hM10 (fun _ hB_=>by exact Zag i10 ZMz sc5.size rfl rfl (ZMx _) (by omega) (by omega)) (Zc 7 31) (bL 5 (.int .u8 (a1.get i10)) rfl rfl hM10 (fun _ hB_=>by exact Yh (hC.grow hB_) 0 (.int .u8 (a1.get i10)) rfl sc5 rfl (ZMu _ _ hi10)) (Zc 7 63) (Z6 6 (by decide) (by decide) (by kernel_rfl) (by kernel_rfl) rfl (Y6 rfl rfl (done (Z7 (Ze ?_))))))))))
  refine Zs rfl (fun hb10=>?_) (fun hb10=>?_)
  ·replace h:=ift h (ct hb10)
   refine sr (Zd (v:=.bool false) rfl (dn ?_))
   refine ZMp (Ya (Zm (Zm (Ya (Zm ?_)))))
   exact Zi rfl (Zg rfl) ⟨false,rfl,h,hC.below⟩ (.inl rfl)
  ·replace h:=Zk h (cf hb10)
   refine ZMl (Zr (Ze (Zh (Za (v:=vI (i10:Int)) rfl (Zq rfl rfl (Zd (v:=vI (ZG5.wrap ((i10:Int)+1))) rfl (done ?_)))))))
   exact hK10 () _ _ ⟨(sl ⟨rfl,rfl,(tr rfl (congrArg _ (Z2 hi10 (by decide)))),trivial⟩),hC⟩ h
 ·clear hC h
  rintro s10 e_ w12 K10 ⟨hS_,hC⟩ h
  rw [ue hS_]
  refine ZMh (sr (Za (v:=vI 8) rfl (Zn rfl rfl (dn (Z1 rfl (decide_eq_false (by omega)) ?_)))))
  refine ZMv (Zj (Zj (Zx ?_)))
  refine Ze (sr (Zd (v:=.bool true) rfl (dn (ZMp ?_))))
  exact Zi rfl (Zg rfl) ⟨true,rfl,h,hC.below⟩ (.inl rfl)
 ·skip
  exact⟨(slq rfl),hC⟩
def Zc9 (a0:List Int) (a1:List Int) (K:Bool→Prop):Prop :=
 (if(a0.length:Int)≠(a1.length:Int) then K false else Z8 (fun i10 (s10:Unit) nx10=>((0≤(i10:Int)∧(i10:Int) < (a1.length:Int))∧(if a0.getD i10 ZEo≠a1.getD i10 ZEo then K false else nx10 ()))) (fun (s10:Unit)=>K true) a0.length 0 ())
theorem Zke (a0:List Int) (a1:List Int)  {K:Bool→Prop} (h:Zc9 a0 a1 K) (w0:World) (q0:ZOz.rep a0 [u0_0] fp0 w0) (q1:ZOz.rep a1 [u1_0] fp1 w0) :
  Calls ZMk 25 #[u0_0,u1_0] w0 fun e w'=>∃ (r0:Bool),
   e=.returned (.bool r0)∧K r0∧Bel w0 w':=by
 unfold Zc9 at h
 refine cof Tryz.func25 rfl 26 Tryz.ntmps25 ?_
 have hC:=ZM2 (X:=Nox) w0 [ZMg TInts a0 [u0_0] fp0,ZMg TInts a1 [u1_0] fp1] (alc q0 (al1 q1))
 refine sr (Zd (v:=.bool false) rfl (dn (ZMh (sr (Za (v:=u0_0) rfl (Zu hC 0 rfl ZM0 rfl (Za (v:=u1_0) rfl (Zu hC 1 rfl ZM0 rfl (Y6 rfl rfl (dn ?_))))))))))
 refine Zs rfl (fun hb9=>?_) (fun hb9=>?_)
 ·replace h:=ift h (ct hb9)
  refine sr (Zd (v:=.bool false) rfl (dn ?_))
  refine ZMp (Zm ?_)
  exact Zi rfl (Zg rfl) ⟨false,rfl,h,hC.below⟩ (.inl rfl)
 ·replace h:=Zk h (cf hb9)
  refine ZMl (Ze (ZMh (sr (Zd (v:=vI 0) rfl (dn (ZMn ?_))))))
  have hN10:a0.length≤9223372036854775807:=Yw (hC.getP 0 rfl)
  refine Yi (S:=Unit) _ _ (fun i10 s10 e_ w_=>Zt e_ [(0,u0_0),(1,u1_0),(5,vI (i10:Int))]∧Ctx Nox w0 w_ [] [ZMg TInts a0 [u0_0] fp0,ZMg TInts a1 [u1_0] fp1]) a0.length ?_ ?_ (s0:=()) ?_ h
  ·clear hC h
   rintro i10 s10 e_ w10 nx10 K10 hi10 ⟨hS_,hC⟩ h hK10
   rw [ue hS_]
   refine ZMh (sr (Za (v:=vI (i10:Int)) rfl (Za (v:=u0_0) rfl (Zu hC 0 rfl ZM0 rfl (Zn rfl rfl (dn (Z5 rfl (decide_eq_true (by omega)) (ZMl (Ze (ZMh (ZMn (ZMh ?_))))))))))))
   refine cwd 8 Yo [0,0,3,7,0,0,48,112,255] [2,3,6,7] [0,1,4,5] (fun hM10 hM11 w11 hB_=>?_)
   replace hC:=hC.grow hB_
   refine bM 0 (u0_0) rfl hM11 (Zc 9 1) (bM 1 (vI (i10:Int)) rfl hM11 (Zc 9 3) ?_)
   obtain ⟨Ad10,c10,hv10⟩:=Zw (hC.getP 0 rfl) i10 hi10
   refine bL 2 (.pointer (some (Ad10.add (i10 * 1)))) rfl rfl hM10 (fun _ hB_=>by exact Y2 (len:=a0.length) ZM0 sc2.size (by exact tr rfl hv10) rfl (ZMx _) (ZNf.2 hi10)) (Zc 9 7) (bL 3 (vI (a0.getD i10 ZEo)) rfl rfl hM10 (fun _ hB_=>by exact Xn (vI (a0.getD i10 ZEo)) (Yd ((hC.grow hB_).getP 0 rfl) hv10 i10 hi10) sc2 rfl) (Zc 9 15) (bM 4 (u1_0) rfl hM11 (Zc 9 31) (bM 5 (vI (i10:Int)) rfl hM11 (Zc 9 63) ?_)))
   obtain ⟨⟨h10,h11⟩,h⟩:=h
   obtain ⟨Ad11,c11,hv11⟩:=Zw (hC.getP 1 rfl) i10 (show i10 < a1.length by omega)
   refine bL 6 (.pointer (some (Ad11.add (i10 * 1)))) rfl rfl hM10 (fun _ hB_=>by exact Y2 (len:=a1.length) ZM0 sc2.size (by exact tr rfl hv11) rfl h10 h11) (Zc 9 127) (bL 7 (vI (a1.getD i10 ZEo)) rfl rfl hM10 (fun _ hB_=>by exact Xn (vI (a1.getD i10 ZEo)) (Yd ((hC.grow hB_).getP 1 rfl) hv11 i10 (show i10 < a1.length by omega)) sc2 rfl) (Zc 9 255) (Z6 8 (by decide) (by decide) (by kernel_rfl) (by kernel_rfl) rfl (Y6 rfl rfl (done (Z7 (Ze ?_))))))
   refine Zs rfl (fun hb10=>?_) (fun hb10=>?_)
   ·replace h:=ift h (ct hb10)
    refine sr (Zd (v:=.bool false) rfl (dn ?_))
    refine ZMp (Ya (Zm (Zm (Ya (Zm ?_)))))
    exact Zi rfl (Zg rfl) ⟨false,rfl,h,hC.below⟩ (.inl rfl)
   ·replace h:=Zk h (cf hb10)
    refine ZMl (Zr (Ze (Zh (Za (v:=vI (i10:Int)) rfl (Zq rfl rfl (Zd (v:=vI (ZG5.wrap ((i10:Int)+1))) rfl (done ?_)))))))
    exact hK10 () _ _ ⟨(sl ⟨rfl,rfl,(tr rfl (congrArg _ (Z2 hi10 hN10))),trivial⟩),hC⟩ h
  ·clear hC h
   rintro s10 e_ w12 K10 ⟨hS_,hC⟩ h
   rw [ue hS_]
   refine ZMh (sr (Za (v:=vI (a0.length:Int)) rfl (Za (v:=u0_0) rfl (Zu hC 0 rfl ZM0 rfl (Zn rfl rfl (dn (Z1 rfl (decide_eq_false (by omega)) ?_)))))))
   refine ZMv (Zj (Zj (Zx ?_)))
   refine Ze (sr (Zd (v:=.bool true) rfl (dn (ZMp ?_))))
   exact Zi rfl (Zg rfl) ⟨true,rfl,h,hC.below⟩ (.inl rfl)
  ·skip
   exact⟨(slq rfl),hC⟩
def Zhn (a0:Term) (K:Term→Prop):Prop :=
 Zhk a0.mono (fun r10=>K (⟨r10,a0.factor⟩:Term))
theorem Zwe (a0:Term)  {K:Term→Prop} (h:Zhn a0 K) (w0:World)  :
  Calls ZMk 130 #[.agg (ZMf (ZMs a0))] w0 fun e w'=>∃ (r0:Term),
   e=.returned (.agg (ZMf (ZMs r0)))∧K r0∧Bel w0 w':=by
 unfold Zhn at h
 refine cof Tryz.func130 rfl 12 Tryz.ntmps130 ?_
 have hC:=ZM2 (X:=Nox) w0 [] (by simp)
 refine sr (Yg (v:=.agg (ZMf (ZMs a0))) hC (ZMs a0) rfl rfl fun b1 w3 hB_ hC=>Ys hC (ZMs (⟨ZMm,0⟩:Term)) Zfm rfl fun b4 w6 hB_ hC=>dn (sr (Ys hC (ZMs (⟨ZMm,0⟩:Term)) Zfm rfl fun b7 w9 hB_ hC=>dn (sr (Z0 0 Tryz.underlying170 rfl ag135.size rfl rfl (Yq hC 2 (ZMe .u8 a0.mono) rfl ag135 rfl rfl rfl (Zf [.agg (ZMf (ZMe .u8 a0.mono))] _ Tryz.func177 rfl rfl rfl (Zwb a0.mono h _) ?_)))))))
 rintro _ w10 ⟨r10,rfl,h,hB10⟩
 refine rt ?_
 replace hC:=hC.grow hB10
 refine Z0 0 ZMw rfl ag136.size rfl rfl (Z3 (v:=.agg (ZMf (ZMe .u8 r10))) hC 0 (ZMe .u8 r10) (ZMs (⟨r10,0⟩:Term)) rfl ag136.size rfl rfl rfl rfl rfl (ZMq rfl) rfl fun w11 hC=>dn (sr (Z0 8 Tryz.underlying170 rfl sc2.size rfl rfl (Yb hC 2 (vI a0.factor) rfl sc2 rfl rfl (Z0 8 ZMw rfl sc2.size rfl rfl (Z3 (v:=vI a0.factor) hC 0 [vI a0.factor] (ZMs (⟨r10,a0.factor⟩:Term)) rfl sc2.size rfl rfl rfl rfl rfl (ZMq rfl) rfl fun w12 hC=>dn (sr (Yq hC 0 (ZMs (⟨r10,a0.factor⟩:Term)) rfl ag162 rfl rfl rfl (Z3 (v:=.agg (ZMf (ZMs (⟨r10,a0.factor⟩:Term)))) hC 1 (ZMs (⟨r10,a0.factor⟩:Term)) (ZMs (⟨r10,a0.factor⟩:Term)) rfl ag162.size rfl rfl rfl rfl rfl (ZMq rfl) rfl fun w13 hC=>dn (ZMp ?_))))))))))
 exact Zi rfl (J8 hC 1 rfl ag162 rfl rfl) ⟨(⟨r10,a0.factor⟩:Term),rfl,h,hC.below⟩ (.inl rfl)
def Zho (a0:List Term) (K:List Term→Prop):Prop :=
 ((0≤(a0.length:Int)∧(a0.length:Int) * 16≤281474976710656)∧Z8 (fun i10 (s10:(List Term)) nx10=>Zhn (a0.getD i10 ZEo) (fun r10=>((0≤(i10:Int)∧(i10:Int) < (s10.length:Int))∧nx10 (s10.set i10 r10)))) (fun (s10:(List Term))=>K s10) a0.length 0 (ZEj ((a0.length:Int).toNat) ((⟨ZMm,0⟩:Term):Term)))
theorem Zwf (a0:List Term)  {K:List Term→Prop} (h:Zho a0 K) (w0:World) (q0:ZMi.ty.sl.rep a0 [u0_0] fp0 w0) :
  Calls ZMk 74 #[u0_0] w0 fun e w'=>∃ (r0:List Term) (z0_0:Value) (fz0:List Nat),
   e=.returned (z0_0)∧K r0∧(Tr.item (Tr.sl 162 ZMi.tr) r0 [z0_0] fz0).holds w'∧(∀ b,b∈fz0→w0.heap.size≤b)∧Bel w0 w':=by
 unfold Zho at h
 refine cof Tryz.func74 rfl 23 Tryz.ntmps74 ?_
 have hC:=ZM2 (X:=Nox) w0 [ZMg ZMi.ty.sl a0 [u0_0] fp0] (al1 q0)
 refine sr (Zd (v:=.slice none 0 0) rfl (dn (sr (Za (v:=u0_0) rfl (Zu hC 0 rfl ZO9 rfl ?_)))))
 obtain ⟨hm7,h⟩:=h
 refine Zb8 (sz:=9) hC (ZMi.encs (ZEj ((a0.length:Int).toNat) ((⟨ZMm,0⟩:Term):Term))) ZMr Zfl (tr rfl (congrArg (ZO5 .i64) (ZO6 hm7.1).symm)) (tr rfl (congrArg (ZO5 .i64) (ZO6 hm7.1).symm)) (by omega) (by omega) (Zbk (E:=ETerm) _ _) fun v5 w6 hB_ hC=>?_
 replace hC:=Yy hC 0 ((ZEj ((a0.length:Int).toNat) ((⟨ZMm,0⟩:Term):Term)).length) (ZMi.encs (ZEj ((a0.length:Int).toNat) ((⟨ZMm,0⟩:Term):Term))) rfl (by simp) rfl
 refine Zd (v:=v5) rfl (dn (ZMh (sr (Zd (v:=vI 0) rfl (dn (ZMn ?_))))))
 have hN10:a0.length≤9223372036854775807:=Yw (hC.getP 0 rfl)
 refine Yi (S:=(List Term)) _ _ (fun i10 s10 e_ w_=>∃ (v10:Value),Zt e_ [(0,u0_0),(3,v10),(4,vI (i10:Int))]∧Ctx Nox w0 w_ [own 162 9 v10 s10.length (ZMi.encs s10)] [ZMg ZMi.ty.sl a0 [u0_0] fp0]) a0.length ?_ ?_ (s0:=(ZEj ((a0.length:Int).toNat) ((⟨ZMm,0⟩:Term):Term))) ?_ h
 ·clear hC h
  rintro i10 s10 e_ w10 nx10 K10 hi10 ⟨v10,hS_,hC⟩ h hK10
  rw [ue hS_]
  refine ZMh (sr (Za (v:=vI (i10:Int)) rfl (Za (v:=u0_0) rfl (Zu hC 0 rfl ZO9 rfl (Zn rfl rfl (dn (Z5 rfl (decide_eq_true (by omega)) (ZMl (Ze (ZMh (ZMn (Zh (Za (v:=v10) rfl (Za (v:=vI (i10:Int)) rfl (Za (v:=u0_0) rfl (Za (v:=vI (i10:Int)) rfl ?_))))))))))))))))
  obtain ⟨Ad10,c10,hv10⟩:=Zw (hC.getP 0 rfl) i10 hi10
  refine Yn (len:=a0.length) ZO9 ag170.size (tr rfl hv10) rfl (ZMx _) (ZNf.2 hi10) (Jd (ZMs (a0.getD i10 ZEo)) (Yd (hC.getP 0 rfl) hv10 i10 hi10) ag170 rfl rfl (Zf [.agg (ZMf (ZMs (a0.getD i10 ZEo)))] _ Tryz.func130 rfl rfl rfl (Zwe (a0.getD i10 ZEo) h _) ?_))
  rintro _ w11 ⟨r10,rfl,h,hB10⟩
  refine rt ?_
  replace hC:=hC.grow hB10
  obtain ⟨⟨h10,h11⟩,h⟩:=h
  obtain ⟨Ad11,c11,hv11⟩:=Xo (hC.getM 0 rfl) (ZO7 (ZGa _) (show i10 < s10.length by omega))
  refine Xv (i10 * 9) ZMr ag162.size (tr rfl hv11) rfl h10 h11 rfl (Za8 (v:=.agg (ZMf (ZMs r10))) hC 0 (ZMs r10) (ZMi.encs (s10.set i10 r10)) rfl hv11 ag162.size rfl rfl rfl rfl rfl (by rw [ZO8]; exact J4 (sz:=9) (show i10 < s10.length by omega)) (Zbj _ _ _ (show i10 < s10.length by omega)) fun w12 hC=>?_)
  replace hC:=Yy hC 0 ((s10.set i10 r10).length) (ZMi.encs (s10.set i10 r10)) rfl (by simp) rfl
  refine done (Zr (Ze (Zh (Za (v:=vI (i10:Int)) rfl (Zq rfl rfl (Zd (v:=vI (ZG5.wrap ((i10:Int)+1))) rfl (done ?_)))))))
  exact hK10 (s10.set i10 r10) _ _ ⟨v10,(sl ⟨rfl,rfl,(tr rfl (congrArg _ (Z2 hi10 hN10))),trivial⟩),hC⟩ h
 ·clear hC h
  rintro s10 e_ w13 K10 ⟨v10,hS_,hC⟩ h
  rw [ue hS_]
  refine ZMh (sr (Za (v:=vI (a0.length:Int)) rfl (Za (v:=u0_0) rfl (Zu hC 0 rfl ZO9 rfl (Zn rfl rfl (dn (Z1 rfl (decide_eq_false (by omega)) ?_)))))))
  refine ZMv (Zj (Zj (Zx ?_)))
  refine Ze (sr (Za (v:=v10) rfl (Zd (v:=v10) rfl (dn (ZMp ?_)))))
  exact Zi rfl (Zg rfl) ⟨s10,v10,(ZNg (ZFi v10)),rfl,h,(Xf (hC.getM 0 rfl)),(Y8 hC 0 rfl),hC.below⟩ (.inl rfl)
 ·skip
  exact⟨v5,(slq rfl),hC⟩
def Zhp (a0:ZMj) (K:ZMj→Prop):Prop :=
 Zho a0.terms (fun r10=>K (⟨r10⟩:ZMj))
theorem Zwg (a0:ZMj)  {K:ZMj→Prop} (h:Zhp a0 K) (w0:World) (q0:ZM3.rep a0 [u0_0] fp0 w0) :
  Calls ZMk 30 #[.agg #[u0_0]] w0 fun e w'=>∃ (r0:ZMj) (z0_0:Value) (fz0:List Nat),
   e=.returned (.agg #[z0_0])∧K r0∧(Tr.item (Yj 162) r0 [z0_0] fz0).holds w'∧(∀ b,b∈fz0→w0.heap.size≤b)∧Bel w0 w':=by
 unfold Zhp at h
 refine cof Tryz.func30 rfl 9 Tryz.ntmps30 ?_
 have hC:=ZM2 (X:=Nox) w0 [ZMg TForm a0 [u0_0] fp0] (al1 q0)
 have hp2:=(hC.getP 0 rfl)
 replace hC:=hC.derive 0 rfl (ZMg ZMi.ty.sl a0.terms [u0_0] fp0) (fun _=>(Xk hp2)) (fun _ hb_=>hb_)
 refine sr (Yg (v:=.agg #[u0_0]) hC [u0_0] rfl rfl fun b4 w6 hB_ hC=>Ys hC [.slice none 0 0] z55 rfl fun b7 w9 hB_ hC=>dn (sr (Ys hC [.slice none 0 0] z55 rfl fun b10 w10 hB_ hC=>dn (sr (Z0 0 Tryz.underlying50 rfl sc48.size rfl rfl (Yb hC 2 (u0_0) rfl sc48 rfl rfl (Zf [u0_0] _ Tryz.func74 rfl rfl rfl (Zwf a0.terms h _ (hC.getP 0 rfl)) ?_)))))))
 rintro _ w11 ⟨r10,u10,f10,rfl,h,hr10,hf10,hB10⟩
 refine rt ?_
 replace hC:=hC.push hB10 (Tr.item (Tr.sl 162 ZMi.tr) r10 [u10] f10) hr10 hf10
 obtain ⟨ho10,hf11⟩:=Yv (hC.getM 0 rfl).1
 subst hf11
 replace hC:=hC.recast (c:=own 162 9 u10 r10.length (ZMi.encs r10)) (fun _ h_=>h_) (fun _=>ho10)
 refine Z0 0 ZMo rfl sc53.size rfl rfl (Z3 (v:=u10) hC 1 [u10] [u10] rfl sc53.size rfl rfl (Zb9 (hC.getM 0 rfl)) rfl (Xp (X4 (hC.getM 0 rfl)) rfl) (ZMq rfl) rfl fun w12 hC=>dn (sr (Yq hC 1 [u10] rfl ag55 rfl rfl rfl (Z3 (v:=.agg #[u10]) hC 2 [u10] [u10] rfl ag55.size rfl rfl rfl rfl (Xp (X4 (hC.getM 0 rfl)) rfl) (ZMq rfl) rfl fun w13 hC=>dn (ZMp ?_)))))
 exact Zi rfl (J8 hC 2 rfl ag55 rfl rfl) ⟨(⟨r10⟩:ZMj),u10,(ZNg (ZFi u10)),rfl,h,(Zcn (Xf (hC.getM 0 rfl))),(Y8 hC 0 rfl),hC.below⟩ (.inl rfl)
def Zhq (a0:Term) (a1:Term) (K:Bool→Prop):Prop :=
 Zhm a0.mono a1.mono (fun r10=>(if¬ (r10=true) then K false else(if a0.factor≠a1.factor then K false else K true)))
theorem Zwh (a0:Term) (a1:Term)  {K:Bool→Prop} (h:Zhq a0 a1 K) (w0:World)  :
  Calls ZMk 144 #[.agg (ZMf (ZMs a0)),.agg (ZMf (ZMs a1))] w0 fun e w'=>∃ (r0:Bool),
   e=.returned (.bool r0)∧K r0∧Bel w0 w':=by
 unfold Zhq at h
 refine cof Tryz.func144 rfl 16 Tryz.ntmps144 ?_
 have hC:=ZM2 (X:=Nox) w0 [] (by simp)
 refine sr (Yg (v:=.agg (ZMf (ZMs a0))) hC (ZMs a0) rfl rfl fun b1 w3 hB_ hC=>Yg (v:=.agg (ZMf (ZMs a1))) hC (ZMs a1) rfl rfl fun b4 w6 hB_ hC=>Zd (v:=.bool false) rfl (dn (ZMh (sr (Z0 0 ZMw rfl ag136.size rfl rfl (Yq hC 1 (ZMe .u8 a0.mono) rfl ag136 rfl rfl rfl (Z0 0 ZMw rfl ag136.size rfl rfl (Yq hC 0 (ZMe .u8 a1.mono) rfl ag136 rfl rfl rfl (Zf [.agg (ZMf (ZMe .u8 a0.mono)),.agg (ZMf (ZMe .u8 a1.mono))] _ Tryz.func188 rfl rfl rfl (Zwd a0.mono a1.mono h _) ?_)))))))))
 rintro _ w9 ⟨r10,rfl,h,hB10⟩
 refine rt ?_
 replace hC:=hC.grow hB10
 refine Xe rfl (dn ?_)
 refine Zs rfl (fun hb10=>?_) (fun hb10=>?_)
 ·replace h:=ift h (Y4 (Xi hb10))
  refine sr (Zd (v:=.bool false) rfl (dn ?_))
  refine ZMp (Zm ?_)
  exact Zi rfl (Zg rfl) ⟨false,rfl,h,hC.below⟩ (.inl rfl)
 ·replace h:=Zk h (not_not_intro ((Xj hb10)))
  refine ZMl (Ze (ZMh (sr (Z0 8 ZMw rfl sc2.size rfl rfl (Yb hC 1 (vI a0.factor) rfl sc2 rfl rfl (Z0 8 ZMw rfl sc2.size rfl rfl (Yb hC 0 (vI a1.factor) rfl sc2 rfl rfl (Y6 rfl rfl (dn ?_)))))))))
  refine Zs rfl (fun hb11=>?_) (fun hb11=>?_)
  ·replace h:=ift h (ct hb11)
   refine sr (Zd (v:=.bool false) rfl (dn ?_))
   refine ZMp (Zm ?_)
   exact Zi rfl (Zg rfl) ⟨false,rfl,h,hC.below⟩ (.inl rfl)
  ·replace h:=Zk h (cf hb11)
   refine ZMl (Ze (sr (Zd (v:=.bool true) rfl (dn (ZMp ?_)))))
   exact Zi rfl (Zg rfl) ⟨true,rfl,h,hC.below⟩ (.inl rfl)
def Zkf (a0:List Term) (a1:List Term) (K:Bool→Prop):Prop :=
 (if(a0.length:Int)≠(a1.length:Int) then K false else Z8 (fun i10 (s10:Unit) nx10=>((0≤(i10:Int)∧(i10:Int) < (a1.length:Int))∧Zhq (a0.getD i10 ZEo) (a1.getD i10 ZEo) (fun r10=>(if¬ (r10=true) then K false else nx10 ())))) (fun (s10:Unit)=>K true) a0.length 0 ())
theorem Zwi (a0:List Term) (a1:List Term)  {K:Bool→Prop} (h:Zkf a0 a1 K) (w0:World) (q0:ZMi.ty.sl.rep a0 [u0_0] fp0 w0) (q1:ZMi.ty.sl.rep a1 [u1_0] fp1 w0) :
  Calls ZMk 87 #[u0_0,u1_0] w0 fun e w'=>∃ (r0:Bool),
   e=.returned (.bool r0)∧K r0∧Bel w0 w':=by
 unfold Zkf at h
 refine cof Tryz.func87 rfl 27 Tryz.ntmps87 ?_
 have hC:=ZM2 (X:=Nox) w0 [ZMg ZMi.ty.sl a0 [u0_0] fp0,ZMg ZMi.ty.sl a1 [u1_0] fp1] (alc q0 (al1 q1))
 refine sr (Zd (v:=.bool false) rfl (dn (ZMh (sr (Za (v:=u0_0) rfl (Zu hC 0 rfl ZMr rfl (Za (v:=u1_0) rfl (Zu hC 1 rfl ZMr rfl (Y6 rfl rfl (dn ?_))))))))))
 refine Zs rfl (fun hb9=>?_) (fun hb9=>?_)
 ·replace h:=ift h (ct hb9)
  refine sr (Zd (v:=.bool false) rfl (dn ?_))
  refine ZMp (Zm ?_)
  exact Zi rfl (Zg rfl) ⟨false,rfl,h,hC.below⟩ (.inl rfl)
 ·replace h:=Zk h (cf hb9)
  refine ZMl (Ze (ZMh (sr (Zd (v:=vI 0) rfl (dn (ZMn ?_))))))
  have hN10:a0.length≤9223372036854775807:=Yw (hC.getP 0 rfl)
  refine Yi (S:=Unit) _ _ (fun i10 s10 e_ w_=>Zt e_ [(0,u0_0),(1,u1_0),(5,vI (i10:Int))]∧Ctx Nox w0 w_ [] [ZMg ZMi.ty.sl a0 [u0_0] fp0,ZMg ZMi.ty.sl a1 [u1_0] fp1]) a0.length ?_ ?_ (s0:=()) ?_ h
  ·clear hC h
   rintro i10 s10 e_ w10 nx10 K10 hi10 ⟨hS_,hC⟩ h hK10
   rw [ue hS_]
   refine ZMh (sr (Za (v:=vI (i10:Int)) rfl (Za (v:=u0_0) rfl (Zu hC 0 rfl ZMr rfl (Zn rfl rfl (dn (Z5 rfl (decide_eq_true (by omega)) (ZMl (Ze (ZMh (ZMn (ZMh ?_))))))))))))
   refine cwd 8 Yo [0,0,3,7,0,0,48,112,255,511] [2,3,6,7] [0,1,4,5] (fun hM10 hM11 w11 hB_=>?_)
   replace hC:=hC.grow hB_
   refine bM 0 (u0_0) rfl hM11 (Zc 10 1) (bM 1 (vI (i10:Int)) rfl hM11 (Zc 10 3) ?_)
   obtain ⟨Ad10,c10,hv10⟩:=Zw (hC.getP 0 rfl) i10 hi10
   refine bL 2 (.pointer (some (Ad10.add (i10 * 9)))) rfl rfl hM10 (fun _ hB_=>by exact Y2 (len:=a0.length) ZMr ag162.size (by exact tr rfl hv10) rfl (ZMx _) (ZNf.2 hi10)) (Zc 10 7) (bL 3 (.agg (ZMf (ZMs (a0.getD i10 ZEo)))) rfl rfl hM10 (fun _ hB_=>by exact Jm (ZMs (a0.getD i10 ZEo)) (Yd ((hC.grow hB_).getP 0 rfl) hv10 i10 hi10) ag162 rfl rfl) (Zc 10 15) (bM 4 (u1_0) rfl hM11 (Zc 10 31) (bM 5 (vI (i10:Int)) rfl hM11 (Zc 10 63) ?_)))
   obtain ⟨⟨h10,h11⟩,h⟩:=h
   obtain ⟨Ad11,c11,hv11⟩:=Zw (hC.getP 1 rfl) i10 (show i10 < a1.length by omega)
   refine bL 6 (.pointer (some (Ad11.add (i10 * 9)))) rfl rfl hM10 (fun _ hB_=>by exact Y2 (len:=a1.length) ZMr ag162.size (by exact tr rfl hv11) rfl h10 h11) (Zc 10 127) (bL 7 (.agg (ZMf (ZMs (a1.getD i10 ZEo)))) rfl rfl hM10 (fun _ hB_=>by exact Jm (ZMs (a1.getD i10 ZEo)) (Yd ((hC.grow hB_).getP 1 rfl) hv11 i10 (show i10 < a1.length by omega)) ag162 rfl rfl) (Zc 10 255) (Z6 8 (by decide) (by decide) (by kernel_rfl) (by kernel_rfl) rfl (Zf [.agg (ZMf (ZMs (a0.getD i10 ZEo))),.agg (ZMf (ZMs (a1.getD i10 ZEo)))] _ Tryz.func144 rfl rfl rfl (Zwh (a0.getD i10 ZEo) (a1.getD i10 ZEo) h _) ?_)))
   rintro _ w12 ⟨r10,rfl,h,hB10⟩
   refine rt ?_
   replace hC:=hC.grow hB10
   refine Xe rfl (done (Z7 (Ze ?_)))
   refine Zs rfl (fun hb10=>?_) (fun hb10=>?_)
   ·replace h:=ift h (Y4 (Xi hb10))
    refine sr (Zd (v:=.bool false) rfl (dn ?_))
    refine ZMp (Ya (Zm (Zm (Ya (Zm ?_)))))
    exact Zi rfl (Zg rfl) ⟨false,rfl,h,hC.below⟩ (.inl rfl)
   ·replace h:=Zk h (not_not_intro ((Xj hb10)))
    refine ZMl (Zr (Ze (Zh (Za (v:=vI (i10:Int)) rfl (Zq rfl rfl (Zd (v:=vI (ZG5.wrap ((i10:Int)+1))) rfl (done ?_)))))))
    exact hK10 () _ _ ⟨(sl ⟨rfl,rfl,(tr rfl (congrArg _ (Z2 hi10 hN10))),trivial⟩),hC⟩ h
  ·clear hC h
   rintro s10 e_ w13 K10 ⟨hS_,hC⟩ h
   rw [ue hS_]
   refine ZMh (sr (Za (v:=vI (a0.length:Int)) rfl (Za (v:=u0_0) rfl (Zu hC 0 rfl ZMr rfl (Zn rfl rfl (dn (Z1 rfl (decide_eq_false (by omega)) ?_)))))))
   refine ZMv (Zj (Zj (Zx ?_)))
   refine Ze (sr (Zd (v:=.bool true) rfl (dn (ZMp ?_))))
   exact Zi rfl (Zg rfl) ⟨true,rfl,h,hC.below⟩ (.inl rfl)
  ·skip
   exact⟨(slq rfl),hC⟩
def Zhr (a0:ZMj) (a1:ZMj) (K:Bool→Prop):Prop :=
 Zkf a0.terms a1.terms (fun r10=>(if¬ (r10=true) then K false else K true))
theorem Zwj (a0:ZMj) (a1:ZMj)  {K:Bool→Prop} (h:Zhr a0 a1 K) (w0:World) (q0:ZM3.rep a0 [u0_0] fp0 w0) (q1:ZM3.rep a1 [u1_0] fp1 w0) :
  Calls ZMk 32 #[.agg #[u0_0],.agg #[u1_0]] w0 fun e w'=>∃ (r0:Bool),
   e=.returned (.bool r0)∧K r0∧Bel w0 w':=by
 unfold Zhr at h
 refine cof Tryz.func32 rfl 11 Tryz.ntmps32 ?_
 have hC:=ZM2 (X:=Nox) w0 [ZMg TForm a0 [u0_0] fp0,ZMg TForm a1 [u1_0] fp1] (alc q0 (al1 q1))
 have hp3:=(hC.getP 0 rfl)
 replace hC:=hC.derive 0 rfl (ZMg ZMi.ty.sl a0.terms [u0_0] fp0) (fun _=>(Xk hp3)) (fun _ hb_=>hb_)
 have hp5:=(hC.getP 2 rfl)
 replace hC:=hC.derive 2 rfl (ZMg ZMi.ty.sl a1.terms [u1_0] fp1) (fun _=>(Xk hp5)) (fun _ hb_=>hb_)
 refine sr (Yg (v:=.agg #[u0_0]) hC [u0_0] rfl rfl fun b7 w9 hB_ hC=>Yg (v:=.agg #[u1_0]) hC [u1_0] rfl rfl fun b10 w10 hB_ hC=>Zd (v:=.bool false) rfl (dn (ZMh (sr (Z0 0 ZMo rfl sc53.size rfl rfl (Yb hC 1 (u0_0) rfl sc53 rfl rfl (Z0 0 ZMo rfl sc53.size rfl rfl (Yb hC 0 (u1_0) rfl sc53 rfl rfl (Zf [u0_0,u1_0] _ Tryz.func87 rfl rfl rfl (Zwi a0.terms a1.terms h _ (hC.getP 1 rfl) (hC.getP 0 rfl)) ?_)))))))))
 rintro _ w11 ⟨r10,rfl,h,hB10⟩
 refine rt ?_
 replace hC:=hC.grow hB10
 refine Xe rfl (dn ?_)
 refine Zs rfl (fun hb10=>?_) (fun hb10=>?_)
 ·replace h:=ift h (Y4 (Xi hb10))
  refine sr (Zd (v:=.bool false) rfl (dn ?_))
  refine ZMp (Zm ?_)
  exact Zi rfl (Zg rfl) ⟨false,rfl,h,hC.below⟩ (.inl rfl)
 ·replace h:=Zk h (not_not_intro ((Xj hb10)))
  refine ZMl (Ze (sr (Zd (v:=.bool true) rfl (dn (ZMp ?_)))))
  exact Zi rfl (Zg rfl) ⟨true,rfl,h,hC.below⟩ (.inl rfl)
def Zkg (a0:List ZMj) (a1:List ZMj) (K:Bool→Prop):Prop :=
 (if(a0.length:Int)≠(a1.length:Int) then K false else Z8 (fun i10 (s10:Unit) nx10=>((0≤(i10:Int)∧(i10:Int) < (a1.length:Int))∧Zhr (a0.getD i10 ZEo) (a1.getD i10 ZEo) (fun r10=>(if¬ (r10=true) then K false else nx10 ())))) (fun (s10:Unit)=>K true) a0.length 0 ())
theorem Zwk (a0:List ZMj) (a1:List ZMj)  {K:Bool→Prop} (h:Zkg a0 a1 K) (w0:World) (q0:ZM3.sl.rep a0 [u0_0] fp0 w0) (q1:ZM3.sl.rep a1 [u1_0] fp1 w0) :
  Calls ZMk 51 #[u0_0,u1_0] w0 fun e w'=>∃ (r0:Bool),
   e=.returned (.bool r0)∧K r0∧Bel w0 w':=by
 unfold Zkg at h
 refine cof Tryz.func51 rfl 27 Tryz.ntmps51 ?_
 have hC:=ZM2 (X:=Nox) w0 [ZMg ZM3.sl a0 [u0_0] fp0,ZMg ZM3.sl a1 [u1_0] fp1] (alc q0 (al1 q1))
 refine sr (Zd (v:=.bool false) rfl (dn (ZMh (sr (Za (v:=u0_0) rfl (Zu hC 0 rfl ZM5 rfl (Za (v:=u1_0) rfl (Zu hC 1 rfl ZM5 rfl (Y6 rfl rfl (dn ?_))))))))))
 refine Zs rfl (fun hb9=>?_) (fun hb9=>?_)
 ·replace h:=ift h (ct hb9)
  refine sr (Zd (v:=.bool false) rfl (dn ?_))
  refine ZMp (Zm ?_)
  exact Zi rfl (Zg rfl) ⟨false,rfl,h,hC.below⟩ (.inl rfl)
 ·replace h:=Zk h (cf hb9)
  refine ZMl (Ze (ZMh (sr (Zd (v:=vI 0) rfl (dn (ZMn ?_))))))
  have hN10:a0.length≤9223372036854775807:=Yw (hC.getP 0 rfl)
  refine Yi (S:=Unit) _ _ (fun i10 s10 e_ w_=>Zt e_ [(0,u0_0),(1,u1_0),(5,vI (i10:Int))]∧Ctx Nox w0 w_ [] [ZMg ZM3.sl a0 [u0_0] fp0,ZMg ZM3.sl a1 [u1_0] fp1]) a0.length ?_ ?_ (s0:=()) ?_ h
  ·clear hC h
   rintro i10 s10 e_ w10 nx10 K10 hi10 ⟨hS_,hC⟩ h hK10
   rw [ue hS_]
   refine ZMh (sr (Za (v:=vI (i10:Int)) rfl (Za (v:=u0_0) rfl (Zu hC 0 rfl ZM5 rfl (Zn rfl rfl (dn (Z5 rfl (decide_eq_true (by omega)) (ZMl (Ze (ZMh (ZMn (ZMh ?_))))))))))))
   refine cwd 8 Yo [0,0,3,7,0,0,48,112,255,511] [2,3,6,7] [0,1,4,5] (fun hM10 hM11 w11 hB_=>?_)
   replace hC:=hC.grow hB_
   refine bM 0 (u0_0) rfl hM11 (Zc 10 1) (bM 1 (vI (i10:Int)) rfl hM11 (Zc 10 3) ?_)
   obtain ⟨Ad10,c10,hv10⟩:=Zw (hC.getP 0 rfl) i10 hi10
   refine bL 2 (.pointer (some (Ad10.add (i10 * 1)))) rfl rfl hM10 (fun _ hB_=>by exact Y2 (len:=a0.length) ZM5 ag55.size (by exact tr rfl hv10) rfl (ZMx _) (ZNf.2 hi10)) (Zc 10 7) ?_
   obtain ⟨cs_,hl10,hc10,hr10⟩:=Xg (hC.getP 0 rfl) hv10 i10 hi10
   obtain ⟨u10,rfl⟩:=ZNd.1 hl10
   clear hl10
   rw [Xd _ _ hi10] at hr10
   have hp10:=hr10
   replace hC:=hC.derive 0 rfl (ZMg ZMi.ty.sl ((a0.getD i10 ZEo).terms) [u10] fp0) (fun _=>(Xk hp10)) (fun _ hb_=>hb_)
   refine bL 3 (.agg #[u10]) rfl rfl hM10 (fun _ hB_=>by exact Jm [u10] (Zay hB_ hc10) ag55 rfl rfl) (Zc 10 15) (bM 4 (u1_0) rfl hM11 (Zc 10 31) (bM 5 (vI (i10:Int)) rfl hM11 (Zc 10 63) ?_))
   obtain ⟨⟨h10,h11⟩,h⟩:=h
   obtain ⟨Ad11,c11,hv11⟩:=Zw (hC.getP 2 rfl) i10 (show i10 < a1.length by omega)
   refine bL 6 (.pointer (some (Ad11.add (i10 * 1)))) rfl rfl hM10 (fun _ hB_=>by exact Y2 (len:=a1.length) ZM5 ag55.size (by exact tr rfl hv11) rfl h10 h11) (Zc 10 127) ?_
   obtain ⟨cs_,hl11,hc11,hr11⟩:=Xg (hC.getP 2 rfl) hv11 i10 (show i10 < a1.length by omega)
   obtain ⟨u11,rfl⟩:=ZNd.1 hl11
   clear hl11
   rw [Xd _ _ (show i10 < a1.length by omega)] at hr11
   have hp11:=hr11
   replace hC:=hC.derive 2 rfl (ZMg ZMi.ty.sl ((a1.getD i10 ZEo).terms) [u11] fp1) (fun _=>(Xk hp11)) (fun _ hb_=>hb_)
   refine bL 7 (.agg #[u11]) rfl rfl hM10 (fun _ hB_=>by exact Jm [u11] (Zay hB_ hc11) ag55 rfl rfl) (Zc 10 255) (Z6 8 (by decide) (by decide) (by kernel_rfl) (by kernel_rfl) rfl (Zf [.agg #[u10],.agg #[u11]] _ Tryz.func32 rfl rfl rfl (Zwj (a0.getD i10 ZEo) (a1.getD i10 ZEo) h _ (Y3 (hC.getP 1 rfl)) (Y3 (hC.getP 0 rfl))) ?_))
   rintro _ w12 ⟨r10,rfl,h,hB10⟩
   refine rt ?_
   replace hC:=hC.grow hB10
   refine Xe rfl (done (Z7 (Ze ?_)))
   refine Zs rfl (fun hb10=>?_) (fun hb10=>?_)
   ·replace h:=ift h (Y4 (Xi hb10))
    refine sr (Zd (v:=.bool false) rfl (dn ?_))
    refine ZMp (Ya (Zm (Zm (Ya (Zm ?_)))))
    exact Zi rfl (Zg rfl) ⟨false,rfl,h,hC.below⟩ (.inl rfl)
   ·replace h:=Zk h (not_not_intro ((Xj hb10)))
    refine ZMl (Zr (Ze (Zh (Za (v:=vI (i10:Int)) rfl (Zq rfl rfl (Zd (v:=vI (ZG5.wrap ((i10:Int)+1))) rfl (done ?_)))))))
    exact hK10 () _ _ ⟨(sl ⟨rfl,rfl,(tr rfl (congrArg _ (Z2 hi10 hN10))),trivial⟩),(hC.sP [2,3] rfl)⟩ h
  ·clear hC h
   rintro s10 e_ w13 K10 ⟨hS_,hC⟩ h
   rw [ue hS_]
   refine ZMh (sr (Za (v:=vI (a0.length:Int)) rfl (Za (v:=u0_0) rfl (Zu hC 0 rfl ZM5 rfl (Zn rfl rfl (dn (Z1 rfl (decide_eq_false (by omega)) ?_)))))))
   refine ZMv (Zj (Zj (Zx ?_)))
   refine Ze (sr (Zd (v:=.bool true) rfl (dn (ZMp ?_))))
   exact Zi rfl (Zg rfl) ⟨true,rfl,h,hC.below⟩ (.inl rfl)
  ·skip
   exact⟨(slq rfl),hC⟩
def Zhs (a0:List Term) (a1:Int) (K:Int→List Term→Prop):Prop :=
 Xt (fun (s10:(List Term)×Int×Int) nx10=>(if s10.2.2 < (s10.1.length:Int) then Z8 (fun i10 (s11:(List Term)×Int) nx11=>((0≤s10.2.2∧s10.2.2 < (s11.1.length:Int))∧nx11 (s11.1.set s10.2.2.toNat (⟨((s11.1.getD s10.2.2.toNat ZEo).mono).set i10 (ZMt.wrap s11.2),(s11.1.getD s10.2.2.toNat ZEo).factor⟩:Term),ZG5.wrap (s11.2+1)))) (fun (s11:(List Term)×Int)=>((0≤s10.2.2∧s10.2.2 < (s11.1.length:Int))∧nx10 (s11.1.set s10.2.2.toNat (⟨(s11.1.getD s10.2.2.toNat ZEo).mono,s11.2⟩:Term),ZG5.wrap (s11.2+1),ZG5.wrap (s10.2.2+1)))) 8 0 (s10.1,s10.2.1) else K s10.2.1 s10.1)) (a0,a1,0)
theorem Zwl (a0:List Term) (a1:Int)  {K:Int→List Term→Prop} (h:Zhs a0 a1 K) (w0:World) (qw0:(own 162 9 u0_0 a0.length (ZMi.encs a0)).holds w0) :
  Calls ZMk 102 #[u0_0,vI a1] w0 fun e w'=>∃ (r0:Int) (mw:List Term),
   e=.returned (vI r0)∧K r0 mw∧(own 162 9 u0_0 mw.length (ZMi.encs mw)).holds w'∧BelO ((ZNg (ZFi u0_0))) w0 w':=by
 unfold Zhs at h
 refine cof Tryz.func102 rfl 35 Tryz.ntmps102 ?_
 have hC:=Ctx.startL w0 ((ZNg (ZFi u0_0))) [own 162 9 u0_0 a0.length (ZMi.encs a0)] [] (by simp only [ZEk,ZGu,or_false,forall_eq_or_imp,forall_eq]; exact qw0) (by simp) (by simp only [ZEk,ZGu,or_false,forall_eq_or_imp,forall_eq]; exact fun b hb=>hb) (List.pairwise_singleton _ _) (by simp)
 refine sr (Zd (v:=vI 0) rfl (dn (ZMh (sr (Zd (v:=vI 0) rfl (dn (ZMn ?_)))))))
 refine Xz (S:=(List Term)×Int×Int) _ (fun s10 e_ w_=>Zt e_ [(0,u0_0),(1,vI s10.2.1),(5,vI s10.2.2)]∧Ctx (fun c_=>c_∈(ZNg (ZFi u0_0))) w0 w_ [own 162 9 u0_0 s10.1.length (ZMi.encs s10.1)] []) ?_ (s0:=(a0,a1,0)) ?_ h
 ·clear hC h
  rintro s10 e_ w10 nx10 K11 ⟨hS_,hC⟩ h hK10
  rw [ue hS_]
  refine ZMh (sr (Za (v:=vI s10.2.2) rfl (Za (v:=u0_0) rfl (Zac hC 0 rfl ZMr rfl (Zn rfl rfl (dn ?_))))))
  refine Zs rfl (fun hb10=>?_) (fun hb10=>?_)
  ·replace h:=ift h (ct hb10)
   refine ZMl (Ze (ZMh (ZMn (ZMh (sr (Zd (v:=vI 0) rfl (dn (ZMn ?_))))))))
   refine Yi (S:=(List Term)×Int) _ _ (fun i10 s11 e_ w_=>Zt e_ [(0,u0_0),(1,vI s11.2),(5,vI s10.2.2),(6,vI (i10:Int))]∧Ctx (fun c_=>c_∈(ZNg (ZFi u0_0))) w0 w_ [own 162 9 u0_0 s11.1.length (ZMi.encs s11.1)] []) 8 ?_ ?_ (s0:=(s10.1,s10.2.1)) ?_ h
   ·clear hC h
    rintro i10 s11 e_ w11 nx11 K10 hi10 ⟨hS_,hC⟩ h hK11
    rw [ue hS_]
    refine ZMh (sr (Za (v:=vI (i10:Int)) rfl (Zn rfl rfl (dn (Z5 rfl (decide_eq_true (by omega)) (ZMl (Ze (ZMh (ZMn (sr (Za (v:=u0_0) rfl (Za (v:=vI s10.2.2) rfl (Za (v:=vI (i10:Int)) rfl (Za (v:=vI s11.2) rfl (Zgp Tryz.underlying3 Tryz.underlying5 rfl ?_)))))))))))))))
    obtain ⟨⟨h10,h11⟩,h⟩:=h
    obtain ⟨Ad10,c10,hv10⟩:=Xo (hC.getM 0 rfl) (ZO7 (ZGa _) (show s10.2.2.toNat < s11.1.length by omega))
    refine Xv (s10.2.2.toNat * 9) ZMr ag162.size (tr rfl hv10) rfl h10 h11 rfl (Z0 (s10.2.2.toNat * 9+0) ZMw rfl ag136.size rfl rfl (Xs (s10.2.2.toNat * 9+0+i10) ZMz sc5.size rfl rfl (ZMx _) (by omega) (by omega) (Za8 (v:=.int .u8 (ZMt.wrap s11.2)) hC 0 [.int .u8 (ZMt.wrap s11.2)] (ZMi.encs (s11.1.set s10.2.2.toNat (⟨((s11.1.getD s10.2.2.toNat ZEo).mono).set i10 (ZMt.wrap s11.2),(s11.1.getD s10.2.2.toNat ZEo).factor⟩:Term))) rfl hv10 sc5.size rfl rfl rfl rfl rfl (by rw [ZO8]; have:=J4 (sz:=9) (show s10.2.2.toNat < s11.1.length by omega); have h9:i10+1≤9:=(show i10+1≤9 by omega); have e9:ZMi.sz=9:=rfl; rw [e9]; omega) (Zqd (E:=ETerm) (o:=i10) (show s10.2.2.toNat < s11.1.length by omega) (show i10+1≤9 by omega) (Zu7 hi10)) fun w12 hC=>?_)))
    replace hC:=Yy hC 0 ((s11.1.set s10.2.2.toNat (⟨((s11.1.getD s10.2.2.toNat ZEo).mono).set i10 (ZMt.wrap s11.2),(s11.1.getD s10.2.2.toNat ZEo).factor⟩:Term)).length) (ZMi.encs (s11.1.set s10.2.2.toNat (⟨((s11.1.getD s10.2.2.toNat ZEo).mono).set i10 (ZMt.wrap s11.2),(s11.1.getD s10.2.2.toNat ZEo).factor⟩:Term))) rfl (by simp) rfl
    refine dn (Zh (Za (v:=vI s11.2) rfl (Zq rfl rfl (Zd (v:=vI (ZG5.wrap (s11.2+1))) rfl (done (Zr (Ze (Zh (Za (v:=vI (i10:Int)) rfl (Zq rfl rfl (Zd (v:=vI (ZG5.wrap ((i10:Int)+1))) rfl (done ?_))))))))))))
    exact hK11 (s11.1.set s10.2.2.toNat (⟨((s11.1.getD s10.2.2.toNat ZEo).mono).set i10 (ZMt.wrap s11.2),(s11.1.getD s10.2.2.toNat ZEo).factor⟩:Term),ZG5.wrap (s11.2+1)) _ _ ⟨(sl ⟨rfl,rfl,rfl,(tr rfl (congrArg _ (Z2 hi10 (by decide)))),trivial⟩),hC⟩ h
   ·clear hC h
    rintro s11 e_ w13 K10 ⟨hS_,hC⟩ h
    rw [ue hS_]
    refine ZMh (sr (Za (v:=vI 8) rfl (Zn rfl rfl (dn (Z1 rfl (decide_eq_false (by omega)) ?_)))))
    refine ZMv (Zj (Zj (Zx ?_)))
    refine Ze (sr (Za (v:=u0_0) rfl (Za (v:=vI s10.2.2) rfl (Za (v:=vI s11.2) rfl ?_))))
    obtain ⟨⟨h12,h13⟩,h⟩:=h
    obtain ⟨Ad11,c11,hv11⟩:=Xo (hC.getM 0 rfl) (ZO7 (ZGa _) (show s10.2.2.toNat < s11.1.length by omega))
    refine Xv (s10.2.2.toNat * 9) ZMr ag162.size (tr rfl hv11) rfl h12 h13 rfl (Z0 (s10.2.2.toNat * 9+8) ZMw rfl sc2.size rfl rfl (Za8 (v:=vI s11.2) hC 0 [vI s11.2] (ZMi.encs (s11.1.set s10.2.2.toNat (⟨(s11.1.getD s10.2.2.toNat ZEo).mono,s11.2⟩:Term))) rfl hv11 sc2.size rfl rfl rfl rfl rfl (by rw [ZO8]; have:=J4 (sz:=9) (show s10.2.2.toNat < s11.1.length by omega); have h9:8+1≤9:=(ZMq rfl); have e9:ZMi.sz=9:=rfl; rw [e9]; omega) (Zqd (E:=ETerm) (o:=8) (show s10.2.2.toNat < s11.1.length by omega) (ZMq rfl) rfl) fun w14 hC=>?_))
    replace hC:=Yy hC 0 ((s11.1.set s10.2.2.toNat (⟨(s11.1.getD s10.2.2.toNat ZEo).mono,s11.2⟩:Term)).length) (ZMi.encs (s11.1.set s10.2.2.toNat (⟨(s11.1.getD s10.2.2.toNat ZEo).mono,s11.2⟩:Term))) rfl (by simp) rfl
    refine dn (Zh (Za (v:=vI s11.2) rfl (Zq rfl rfl (Zd (v:=vI (ZG5.wrap (s11.2+1))) rfl (done (Zr (Ze (Zh (Za (v:=vI s10.2.2) rfl (Zq rfl rfl (Zd (v:=vI (ZG5.wrap (s10.2.2+1))) rfl (done ?_))))))))))))
    exact hK10 (s11.1.set s10.2.2.toNat (⟨(s11.1.getD s10.2.2.toNat ZEo).mono,s11.2⟩:Term),ZG5.wrap (s11.2+1),ZG5.wrap (s10.2.2+1)) _ _ ⟨(slq rfl),hC⟩ h
   ·skip
    exact⟨(slq rfl),hC⟩
  ·replace h:=Zk h (cf hb10)
   refine ZMv (Zj (Zj (Zx ?_)))
   refine Ze (sr (Za (v:=vI s10.2.1) rfl (Zd (v:=vI s10.2.1) rfl (dn (ZMp ?_)))))
   exact Zi rfl (Zg rfl) ⟨s10.2.1,s10.1,rfl,h,(hC.getM 0 rfl),hC.belO⟩ (.inl rfl)
 ·skip
  exact⟨(slq rfl),hC⟩
def Zda (a0:Bool) (a1:Int) (K:Int→Prop):Prop :=
 (if a0=true then K a1 else K 0)
theorem Zht (a0:Bool) (a1:Int)  {K:Int→Prop} (h:Zda a0 a1 K) (w0:World)  :
  Calls ZMk 45 #[.bool a0,vI a1] w0 fun e w'=>∃ (r0:Int),
   e=.returned (vI r0)∧K r0∧Bel w0 w':=by
 unfold Zda at h
 refine cof Tryz.func45 rfl 7 Tryz.ntmps45 ?_
 have hC:=ZM2 (X:=Nox) w0 [] (by simp)
 refine sr (Zd (v:=vI 0) rfl (dn (ZMh (sr (Za (v:=.bool a0) rfl (dn ?_))))))
 refine Zs rfl (fun hb1=>?_) (fun hb1=>?_)
 ·replace h:=ift h (hb1)
  refine sr (Za (v:=vI a1) rfl (Zd (v:=vI a1) rfl (dn ?_)))
  refine ZMp (Zm ?_)
  exact Zi rfl (Zg rfl) ⟨a1,rfl,h,hC.below⟩ (.inl rfl)
 ·replace h:=Zk h (Y4 hb1)
  refine ZMl (Ze (sr (Zd (v:=vI 0) rfl (dn (ZMp ?_)))))
  exact Zi rfl (Zg rfl) ⟨0,rfl,h,hC.below⟩ (.inl rfl)
end Go.Proofs.YtaagfepgbofmlaaGreat
namespace Go.Proofs.YtaagfepgbofmlaaGreat
open Go Vc
theorem Zkh {a b c:Int} {K:Bool→Prop} (h:K (decide (b≤a∧a≤c))):Zdr a b c K:=by
  unfold Zdr
  split
  · rename_i h1; simpa [show b≤a from h1] using h
  · rename_i h1; simpa [show ¬ b≤a from h1] using h
theorem Zwm {ds:List Int} {K:Bool→Prop} (h:K (decide (OkDeg ds))):Zg5 ds K:=by
  unfold Zg5
  refine Yr (fun i _=>∀ j,j < i→1≤ds.getD j ZEo∧ds.getD j ZEo≤12) ds.length ?_ ?_ _ _ _ (by omega) (by intro j hj; omega)
  · intro i s next hi hI hn
    refine Zkh ?_
    split
    · rename_i h1
      have:¬ OkDeg ds:=fun hd=>h1 (by simpa using hd.2 i hi)
      simpa [this] using h
    · rename_i h1
      refine hn _ fun j hj=>?_
      by_cases hji:j=i
      · subst hji; simpa using h1
      · exact hI j (by omega)
  · intro s hI
    have:(decide ((ds.length:Int)≤8))=decide (OkDeg ds):=by
      rw [decide_eq_decide]; unfold OkDeg
      constructor
      · intro h8; exact⟨by omega,hI⟩
      · intro h8; have:=h8.1; omega
    rw [this]; exact h
theorem Zwn {ds : List Int} {a : A8} {K : Bool → Prop} (ha : ∀ i, i < 8 → 0 ≤ a.get i) (hl : ds.length ≤ 8) (h : K (decide (OkMono ds a))) : Zg6 ds a K := by
  unfold Zg6
  refine Yr (fun i _=>∀ j,j < i→(j < ds.length→a.get j≤20∧(ZFf (ds.getD j ZEo) 2≠0→a.get j≤1))∧(ds.length≤j→a.get j=0)) 8 ?_ ?_ _ _ _ (by omega) (by intro j hj; omega)
  · intro i s next hi hI hn
    have no:¬ ((i < ds.length→a.get i≤20∧(ZFf (ds.getD i ZEo) 2≠0→a.get i≤1))∧(ds.length≤i→a.get i=0))→K false:=by
      intro hno
      have:¬ OkMono ds a:=fun hm=>hno (hm i hi)
      simpa [this] using h
    have yes:((i < ds.length→a.get i≤20∧(ZFf (ds.getD i ZEo) 2≠0→a.get i≤1))∧(ds.length≤i→a.get i=0))→next ():=by
      intro hy
      refine hn _ fun j hj=>?_
      by_cases hji:j=i
      · subst hji; exact hy
      · exact hI j (by omega)
    split
    · split
      · exact no (by intro q; have:=q.2 (by omega); contradiction)
      · rename_i q
        exact yes ⟨by omega,by intro _; simpa using q⟩
    · split
      · exact no (by intro q; have:=(q.1 (by omega)).1; omega)
      · refine⟨by omega,?_⟩
        split
        · split
          · exact no (by intro q; rename_i q1 q2; have:=(q.1 (by omega)).2 q1; omega)
          · exact yes ⟨fun _=>⟨by omega,fun _=>by omega⟩,by omega⟩
        · rename_i q1
          exact yes ⟨fun _=>⟨by omega,fun q2=>absurd q2 q1⟩,by omega⟩
  · intro s hI
    have:OkMono ds a:=fun i hi=>hI i hi
    simpa [this] using h
theorem Zwo {ds : List Int} {a : A8} {K : Bool → Prop} (hd : OkDeg ds) (ha : ∀ i, i < 8 → 0 ≤ a.get i) (h : K (decide (OkMono ds a))) : Zhf ds a K := by
  unfold Zhf
  refine Yr (fun i _=>∀ j,j < i→(j < ds.length→a.get j≤20∧(ZFf (ds.getD j ZEo) 2≠0→a.get j≤1))∧(ds.length≤j→a.get j=0)) 8 ?_ ?_ _ _ _ (by omega) (by intro j hj; omega)
  · intro i s next hi hI hn
    have hai:=ha i hi
    have no:¬ ((i < ds.length→a.get i≤20∧(ZFf (ds.getD i ZEo) 2≠0→a.get i≤1))∧(ds.length≤i→a.get i=0))→K false:=by
      intro hno
      have:¬ OkMono ds a:=fun hm=>hno (hm i hi)
      simpa [this] using h
    have yes:((i < ds.length→a.get i≤20∧(ZFf (ds.getD i ZEo) 2≠0→a.get i≤1))∧(ds.length≤i→a.get i=0))→next ():=by
      intro hy
      refine hn _ fun j hj=>?_
      by_cases hji:j=i
      · subst hji; exact hy
      · exact hI j (by omega)
    split
    · refine⟨by omega,?_⟩
      rename_i hl
      have hod:=hd.odd (show i < ds.length by omega)
      split
      · rename_i h1
        split
        · exact no (by intro q; have:=(q.1 (by omega)).2 (by omega); omega)
        · exact yes ⟨fun _=>⟨by omega,fun _=>by omega⟩,by omega⟩
      · rename_i h1
        split
        · exact no (by intro q; have:=(q.1 (by omega)).1; omega)
        · exact yes ⟨fun _=>⟨by omega,fun q=>by omega⟩,by omega⟩
    · split
      · exact no (by intro q; have:=q.2 (by omega); omega)
      · exact yes ⟨by omega,fun _=>by omega⟩
  · intro s hI
    have:OkMono ds a:=fun i hi=>hI i hi
    simpa [this] using h
theorem Zki {a b c:Int} {K:Bool→Prop} (h:K (decide (b≤a∧a≤c))):Zdw a b c K:=by
  unfold Zdw
  split
  · rename_i h1; simpa [show b≤a from h1] using h
  · rename_i h1; simpa [show ¬ b≤a from h1] using h
theorem Zwp {ds : List Int} {K : Bool → Prop} (h : K (decide (OkDeg ds))) : Zhe ds K := by
  unfold Zhe
  split
  · rename_i h8
    unfold Zfo Zen
    refine Yr (fun i _=>∀ j,j < i→1≤ds.getD j ZEo∧ds.getD j ZEo≤12) ds.length ?_ ?_ _ _ _ (by omega) (by intro j hj; omega)
    · intro i s next hi hI hn
      unfold Zhd
      refine Zki ?_
      dsimp only
      split
      · rename_i h1
        have:¬ OkDeg ds:=fun hd=>by have:=hd.2 i hi; simp only [Bool.not_eq_true',decide_eq_false_iff_not] at h1; exact h1 this
        simpa [this,show (i:Int)≥0 by omega] using h
      · rename_i h1
        refine hn _ fun j hj=>?_
        by_cases hji:j=i
        · subst hji; simp only [Bool.not_eq_true',decide_eq_false_iff_not,ZPz] at h1; exact h1
        · exact hI j (by omega)
    · intro s hI
      have:OkDeg ds:=⟨by omega,hI⟩
      simpa [this] using h
  · have:¬ OkDeg ds:=fun hd=>by have:=hd.1; omega
    simpa [this] using h
theorem Zkj {a:A8} {K:A8→Prop} (ha:Zaz .u8 a) (h:K a):Zdv a K:=by
  unfold Zdv
  refine Yr (fun i (s:A8)=>∀ j,j < 8→s.get j=if j < i then a.get j else 0) 8 ?_ ?_ _ _ _ (by omega) (by intro j hj; simp [A8.get_zero])
  · intro i s next hi hI hn
    have:=Zmt (Zmu ha hi)
    rw [i64_in _ (by omega)]
    refine hn _ fun j hj=>?_
    rw [ZO2 hi]
    by_cases hji:j=i
    · subst hji; simp
    · rw [if_neg hji,hI j hj]
      by_cases hj2:j < i
      · rw [if_pos hj2,if_pos (by omega)]
      · rw [if_neg hj2,if_neg (by omega)]
  · intro s hI
    have:s=a:=ZO3 fun i hi=>by rw [hI i hi,if_pos hi]
    rw [this]; exact h
theorem Zwq {a:A8} {K:A8→Prop} (h:K a):Zhk a K:=by
  unfold Zhk
  refine Yr (fun i (s:A8)=>∀ j,j < 8→s.get j=if j < i then a.get j else 0) 8 ?_ ?_ _ _ _ (by omega) (by intro j hj; simp [A8.get_zero])
  · intro i s next hi hI hn
    refine hn _ fun j hj=>?_
    rw [ZO2 hi]
    by_cases hji:j=i
    · subst hji; simp
    · rw [if_neg hji,hI j hj]
      by_cases hj2:j < i
      · rw [if_pos hj2,if_pos (by omega)]
      · rw [if_neg hj2,if_neg (by omega)]
  · intro s hI
    have:s=a:=ZO3 fun i hi=>by rw [hI i hi,if_pos hi]
    rw [this]; exact h
theorem Zwr {ds:List Int} {K:List Int→Prop} (hl:ds.length≤1048576) (h:K ds):Zhl ds K:=by
  unfold Zhl
  refine⟨by omega,?_⟩
  refine Yr (fun i (s:List Int)=>s.length=ds.length∧∀ j,j < i→s.getD j ZEo=ds.getD j ZEo) ds.length ?_ ?_ _ _ _ (by omega) (by simp)
  · intro i s next hi hI hn
    refine⟨by omega,hn _ ⟨by simpa using hI.1,fun j hj=>?_⟩⟩
    by_cases hji:j=i
    · subst hji; simp [ZEy,hI.1,hi]
    · rw [← hI.2 j (by omega)]; simp [ZEy,List.getElem?_set_ne (fun e=>hji e.symm)]
  · intro s hI
    have:s=ds:=by
      apply List.ext_getElem hI.1
      intro i h1 h2
      have:=hI.2 i h2
      simpa [ZEy,h1,h2] using this
    rw [this]; exact h
theorem Zws {a b:A8} {K:Bool→Prop} (h:K (decide (a=b))):Zhm a b K:=by
  unfold Zhm
  refine Yr (fun i _=>∀ j,j < i→a.get j=b.get j) 8 ?_ ?_ _ _ _ (by omega) (by intro j hj; omega)
  · intro i s next hi hI hn
    split
    · rename_i h1
      have:¬ a=b:=fun e=>h1 (by rw [e])
      simpa [this] using h
    · rename_i h1
      refine hn _ fun j hj=>?_
      by_cases hji:j=i
      · subst hji; simpa using h1
      · exact hI j (by omega)
  · intro s hI
    have:a=b:=ZO3 hI
    simpa [this] using h
theorem Zqo {a b : List Int} {K : Bool → Prop} (h : K (decide (a = b))) : Zc9 a b K := by
  unfold Zc9
  split
  · rename_i h1
    have:¬ a=b:=fun e=>h1 (by rw [e])
    simpa [this] using h
  · rename_i h1
    have hl:a.length=b.length:=by omega
    refine Yr (fun i _=>∀ j,j < i→a.getD j ZEo=b.getD j ZEo) a.length ?_ ?_ _ _ _ (by omega) (by intro j hj; omega)
    · intro i s next hi hI hn
      refine⟨by omega,?_⟩
      split
      · rename_i h1
        have:¬ a=b:=fun e=>h1 (by rw [e])
        simpa [this] using h
      · rename_i h1
        refine hn _ fun j hj=>?_
        by_cases hji:j=i
        · subst hji; simpa using h1
        · exact hI j (by omega)
    · intro s hI
      have:a=b:=by
        apply List.ext_getElem hl
        intro i h1 h2
        have:=hI i h1
        simpa [ZEy,h1,h2] using this
      simpa [this] using h
end Go.Proofs.YtaagfepgbofmlaaGreat
namespace Go.Proofs.YtaagfepgbofmlaaGreat
open Go Vc
theorem Zkk {ds:List Int} {a:A8} (h:Ji ds a) (hl:ds.length≤8) {i:Nat} (hi:i < ds.length) (ho:ZFf (ds.getD i ZEo) 2≠0):a.get i≤1:=((h i (by omega)).1 hi).2 ho
theorem Zwt {ds:List Int} {a b s:A8} (ha:Ji ds a) (hb:Ji ds b) (hl:ds.length≤8) (h:∀ j,j < 8→s.get j=if j < ds.length then a.get j+b.get j else 0):s=a.add b:=by
  refine ZO3 fun i hi=>?_
  rw [h i hi,A8.get_add]
  split
  · rfl
  · rw [(ha i hi).2 (by omega),(hb i hi).2 (by omega)]; rfl
theorem Zwu {ds : List Int} {a b : A8} {K : A8 → Int → Prop} (hd : OkDeg ds) (ha : Ji ds a) (hb : Ji ds b) (pa : ∀ i, i < 8 → 0 ≤ a.get i) (pb : ∀ i, i < 8 → 0 ≤ b.get i)
    (h:K (Xl ds a b).1 (Xl ds a b).2):Zg7 ds a b K:=by
  have h8:=hd.1
  unfold Zg7
  refine Yr (fun i (s:A8×Int)=>(∀ j,j < i→j < ds.length→ZFf (ds.getD j ZEo) 2≠0→¬ (0 < a.get j∧0 < b.get j))∧(∀ j,j < 8→s.1.get j=if j < i then a.get j+b.get j else 0)∧(s.2=1∨s.2=-1)∧s.2 * sg (Zcm ds a b (ds.length - i) i)=sg (Zcm ds a b ds.length 0)) ds.length ?_ ?_ _ _ _ (by omega) ⟨by intro j hj; omega,by intro j hj; simp [A8.get_zero],by simp,by simp⟩
  · rintro i ⟨s1,s2⟩ next hi ⟨h1,h2,h3,h4⟩ hn
    have hi8:i < 8:=by omega
    have pai:=pa i hi8
    have pbi:=pb i hi8
    have a20:=((ha i hi8).1 hi).1
    have b20:=((hb i hi8).1 hi).1
    have hr:ds.length - i=(ds.length - (i+1))+1:=by omega
    rw [hr] at h4
    simp only [Zcm] at h4
    dsimp only at h1 h2 h3 h4 ⊢
    have hw:ZMt.wrap (a.get i+b.get i)=a.get i+b.get i:=Zmv _ (by omega)
    rw [hw]
    have hset:∀ j,j < 8→(s1.set i (a.get i+b.get i)).get j=if j < i+1 then a.get j+b.get j else 0:=by
      intro j hj
      rw [ZO2 hi8]
      by_cases hji:j=i
      · subst hji; simp
      · rw [if_neg hji,h2 j hj]
        by_cases hj2:j < i
        · rw [if_pos hj2,if_pos (by omega)]
        · rw [if_neg hj2,if_neg (by omega)]
    refine⟨by omega,by omega,by omega,?_⟩
    split
    · rename_i he
      rw [if_pos (.inl he),ZO0] at h4
      refine hn _ ⟨fun j hj hjl ho=>?_,hset,h3,h4⟩
      by_cases hji:j=i
      · subst hji; exact absurd he ho
      · exact h1 j (by omega) hjl ho
    · rename_i he
      have a1:=Zkk ha h8 hi he
      have b1:=Zkk hb h8 hi he
      refine⟨by omega,?_⟩
      rw [ZO2 hi8,if_pos rfl]
      split
      · rename_i hc
        have:Clash ds a b:=⟨i,hi,he,by omega,by omega⟩
        simpa [Xl,this] using h
      · rename_i hc
        have hnc:∀ j,j < i+1→j < ds.length→ZFf (ds.getD j ZEo) 2≠0→¬ (0 < a.get j∧0 < b.get j):=by
          intro j hj hjl ho
          by_cases hji:j=i
          · subst hji; omega
          · exact h1 j (by omega) hjl ho
        rw [i64_in _ (by omega)]
        refine X5 (fun (t:Int×Int)=>((i:Int)+1≤t.1∧t.1≤ds.length)∧(t.2=1∨t.2=-1)∧(b.get i=1→t.2 * sg (Zcl ds a (ds.length - t.1.toNat) t.1.toNat)=s2 * sg (Zcl ds a (ds.length - (i+1)) (i+1)))∧(b.get i≠1→t.2=s2)) (fun t=>ds.length - t.1.toNat) ?_ ⟨by omega,h3,fun _=>by rw [show ((i:Int)+1).toNat=i+1 by omega],fun _=>rfl⟩
        rintro ⟨j,c⟩ next' ⟨⟨q1,q2⟩,q3,q4,q5⟩ hn'
        dsimp only at q1 q2 q3 q4 q5 ⊢
        split
        · rename_i hj
          refine⟨by omega,?_⟩
          split
          · rename_i hb1
            have hjn:j.toNat < ds.length:=by omega
            refine⟨by omega,?_⟩
            have q4:=q4 hb1
            have hr2:ds.length - j.toNat=(ds.length - (j.toNat+1))+1:=by omega
            rw [hr2] at q4
            simp only [Zcl] at q4
            have hj1:(j+1).toNat=j.toNat+1:=by omega
            rw [i64_in (j+1) (by omega)]
            have pj:=pa j.toNat (by omega)
            split
            · rename_i ho
              have aj:=Zkk ha h8 hjn ho
              have od:=hd.odd hjn
              have od1:ZFf (ds.getD j.toNat ZEo) 2=1:=by omega
              rw [od1,Int.one_mul] at q4
              refine⟨by omega,?_⟩
              split
              · rename_i haj
                rw [haj,Int.add_comm,Zu1] at q4
                rw [i64_in (0 - c) (by omega)]
                refine hn' _ ⟨⟨by dsimp only; omega,by dsimp only; omega⟩,by dsimp only; omega,fun _=>?_,fun hne=>absurd hb1 hne⟩ (by dsimp only; omega)
                dsimp only
                rw [hj1,Int.zero_sub,Int.neg_mul,← Int.mul_neg]; exact q4
              · rename_i haj
                rw [show a.get j.toNat=0 by omega,ZO0] at q4
                refine hn' _ ⟨⟨by dsimp only; omega,by dsimp only; omega⟩,q3,fun _=>?_,fun hne=>absurd hb1 hne⟩ (by dsimp only; omega)
                dsimp only
                rw [hj1]; exact q4
            · rename_i ho
              rw [show ZFf (ds.getD j.toNat ZEo) 2=0 by simpa using ho,Int.zero_mul,ZO0] at q4
              refine hn' _ ⟨⟨by dsimp only; omega,by dsimp only; omega⟩,q3,fun _=>?_,fun hne=>absurd hb1 hne⟩ (by dsimp only; omega)
              dsimp only
              rw [hj1]; exact q4
          · rename_i hb1
            refine hn _ ⟨hnc,hset,q3,?_⟩
            rw [if_pos (.inr (by omega)),ZO0] at h4
            dsimp only
            rw [q5 hb1]; exact h4
        · rename_i hj
          refine hn _ ⟨hnc,hset,q3,?_⟩
          dsimp only
          by_cases hb1:b.get i=1
          · have q4:=q4 hb1
            rw [show ds.length - j.toNat=0 by omega] at q4
            simp only [Zcl] at q4
            rw [show sg 0=1 from rfl,Int.mul_one] at q4
            rw [if_neg (by omega),Zj3,← Int.mul_assoc] at h4
            rw [q4]; exact h4
          · rw [if_pos (.inr (by omega)),ZO0] at h4
            rw [q5 hb1]; exact h4
  · rintro ⟨s1,s2⟩ ⟨h1,h2,h3,h4⟩
    have hnc:¬ Clash ds a b:=fun ⟨i,hi,ho,hp⟩=>h1 i hi hi ho hp
    rw [Nat.sub_self] at h4
    simp only [Zcm] at h4
    rw [show sg 0=1 from rfl,Int.mul_one] at h4
    have hs:s1=a.add b:=Zwt ha hb h8 h2
    dsimp only at h4 ⊢
    rw [hs,h4]
    simpa [Xl,hnc] using h
theorem Zwv {ds : List Int} {a b : A8} {K : A8 → Int → Prop} (hd : OkDeg ds) (ha : Ji ds a) (hb : Ji ds b) (pa : ∀ i, i < 8 → 0 ≤ a.get i) (pb : ∀ i, i < 8 → 0 ≤ b.get i)
    (h:K (Xl ds a b).1 (Xl ds a b).2):Zhc a ds b K:=by
  have h8:=hd.1
  have bnd:∀ (x:A8),Ji ds x→∀ i,i < 8→x.get i≤100:=by
    intro x hx i hi
    by_cases hl:i < ds.length
    · exact((hx i hi).1 hl).1
    · rw [(hx i hi).2 (by omega)]; omega
  unfold Zhc
  refine Yr (fun i (c:Int)=>(∀ j,j < i→j < ds.length→ZFf (ds.getD j ZEo) 2≠0→¬ (0 < a.get j∧0 < b.get j))∧(0≤c∧c≤8 * i)∧c+Zcm ds a b (ds.length - i) i=Zcm ds a b ds.length 0) ds.length ?_ ?_ _ _ _ (by omega) ⟨by intro j hj; omega,by omega,by simp⟩
  · rintro i c next hi ⟨h1,h2,h4⟩ hn
    have hi8:i < 8:=by omega
    have pai:=pa i hi8
    have pbi:=pb i hi8
    have hr:ds.length - i=(ds.length - (i+1))+1:=by omega
    rw [hr] at h4
    simp only [Zcm] at h4
    split
    · rename_i he
      rw [if_pos (.inl he),ZO0] at h4
      refine hn _ ⟨fun j hj hjl ho=>?_,by omega,h4⟩
      by_cases hji:j=i
      · subst hji; exact absurd he ho
      · exact h1 j (by omega) hjl ho
    · rename_i he
      refine⟨by omega,?_⟩
      have hnc:¬ (0 < a.get i∧0 < b.get i)→∀ j,j < i+1→j < ds.length→ZFf (ds.getD j ZEo) 2≠0→¬ (0 < a.get j∧0 < b.get j):=by
        intro hno j hj hjl ho
        by_cases hji:j=i
        · subst hji; exact hno
        · exact h1 j (by omega) hjl ho
      split
      · rename_i hap
        refine⟨by omega,?_⟩
        split
        · rename_i hbp
          have:Clash ds a b:=⟨i,hi,he,by omega,by omega⟩
          simpa [Xl,this] using h
        · rename_i hbp
          rw [if_pos (.inr (by omega)),ZO0] at h4
          exact⟨by omega,hn _ ⟨hnc (by omega),by omega,h4⟩⟩
      · rename_i hap
        refine⟨by omega,?_⟩
        split
        · rename_i hbp
          have he0:¬ (ZFf (ds.getD i ZEo) 2=0∨b.get i≤0):=by rintro (q | q); exact he q; omega
          rw [if_neg he0] at h4
          rw [i64_in _ (by omega)]
          refine X5 (fun (t:Int×Int)=>((i:Int)+1≤t.1∧t.1≤ds.length)∧(0≤t.2∧t.2≤8 * i+(t.1 - (i+1)))∧t.2+Zcl ds a (ds.length - t.1.toNat) t.1.toNat=c+Zcl ds a (ds.length - (i+1)) (i+1)) (fun t=>ds.length - t.1.toNat) ?_ ⟨by omega,by omega,by rw [show ((i:Int)+1).toNat=i+1 by omega]⟩
          rintro ⟨j,d⟩ next' ⟨⟨q1,q2⟩,q3,q4⟩ hn'
          dsimp only at q1 q2 q3 q4 ⊢
          split
          · rename_i hj
            have hjn:j.toNat < ds.length:=by omega
            refine⟨by omega,by omega,?_⟩
            have hr2:ds.length - j.toNat=(ds.length - (j.toNat+1))+1:=by omega
            rw [hr2] at q4
            simp only [Zcl] at q4
            have hj1:(j+1).toNat=j.toNat+1:=by omega
            have pj:=pa j.toNat (by omega)
            have hm:0≤ZFf (ds.getD j.toNat ZEo) 2 * a.get j.toNat∧ZFf (ds.getD j.toNat ZEo) 2 * a.get j.toNat≤1:=by
              rcases hd.odd hjn with od | od
              · rw [od]; omega
              · have:=Zkk ha h8 hjn (by omega)
                rw [od]; omega
            rw [i64_in (ZFf (ds.getD j.toNat ZEo) 2 * a.get j.toNat) (by omega),i64_in (d+ZFf (ds.getD j.toNat ZEo) 2 * a.get j.toNat) (by omega),i64_in (j+1) (by omega)]
            refine hn' _ ⟨⟨by dsimp only; omega,by dsimp only; omega⟩,by dsimp only; omega,?_⟩ (by dsimp only; omega)
            dsimp only
            rw [hj1]; omega
          · rename_i hj
            rw [show ds.length - j.toNat=0 by omega] at q4
            simp only [Zcl] at q4
            refine hn _ ⟨hnc (by omega),by omega,by omega⟩
        · rename_i hbp
          rw [if_pos (.inr (by omega)),ZO0] at h4
          exact hn _ ⟨hnc (by omega),by omega,h4⟩
  · rintro c ⟨h1,h2,h4⟩
    have hnc:¬ Clash ds a b:=fun ⟨i,hi,ho,hp⟩=>h1 i hi hi ho hp
    rw [Nat.sub_self] at h4
    simp only [Zcm,Int.add_zero] at h4
    refine Yr (fun i (s:A8)=>∀ j,j < 8→s.get j=if j < i then a.get j+b.get j else a.get j) 8 ?_ ?_ _ _ _ (by omega) (by intro j hj; simp)
    · intro i s next hi hI hn
      have e1:=hI i hi
      rw [if_neg (by omega)] at e1
      have:=bnd a ha i hi
      have:=bnd b hb i hi
      have:=pa i hi
      have:=pb i hi
      rw [e1,i64_in _ (by omega)]
      refine hn _ fun j hj=>?_
      rw [ZO2 hi]
      by_cases hji:j=i
      · subst hji; simp
      · rw [if_neg hji,hI j hj]
        by_cases hj2:j < i
        · rw [if_pos hj2,if_pos (by omega)]
        · rw [if_neg hj2,if_neg (by omega)]
    · intro s hI
      have hs:s=a.add b:=ZO3 fun i hi=>by rw [hI i hi,if_pos hi,A8.get_add]
      have hj:Xl ds a b=(a.add b,sg c):=by simp [Xl,hnc,h4]
      rw [hj] at h
      rw [hs]
      split
      · rename_i ho
        have:sg c=-1:=by unfold sg; rw [ZO4 (by omega)] at ho; rw [if_neg (by omega)]
        rw [this] at h; exact h
      · rename_i ho
        have:sg c=1:=by unfold sg; rw [ZO4 (by omega)] at ho; rw [if_pos (by omega)]
        rw [this] at h; exact h
end Go.Proofs.YtaagfepgbofmlaaGreat
namespace Go.Proofs.YtaagfepgbofmlaaGreat
open Go Vc
end Go.Proofs.YtaagfepgbofmlaaGreat
namespace Vc
open Go
theorem Zqp:∀ (xs ys:List Int),xs.length=ys.length→Jv xs ys=0→xs=ys
  | [],[],_,_=>rfl
  | x :: xs, y :: ys, h, h0 => by
    simp only [Jv] at h0
    split at h0
    · omega
    · rename_i he
      have he:x=y:=ZPz.1 he
      rw [he,Zqp xs ys (by simpa using h) h0]
  | [],_::_,h,_=>by simp at h
  | _::_,[],h,_=>by simp at h
theorem Zqq:∀ (xs ys:List Int),Jv xs ys=- Jv ys xs
  | [],[]=>rfl
  | x :: xs, y :: ys => by
    simp only [Jv]
    have:=Zqq xs ys
    split <;> split <;> omega
  | [],_::_=>rfl
  | _::_,[]=>rfl
theorem A8.list_inj {a b:A8} (h:a.list=b.list):a=b:=by
  cases a; cases b
  simpa [A8.list] using h
theorem Zhu (a:A8):pcmp a a=0:=Zur _
theorem Zqr (a b:A8):pcmp a b=- pcmp b a:=Zqq _ _
theorem Zcb {a b c:A8} (h1:pcmp a b < 0) (h2:pcmp b c < 0):pcmp a c < 0:=Zp5 a.list b.list c.list rfl rfl h1 h2
theorem Zkl {a b:A8} (h1:¬ pcmp a b < 0) (h2:¬ pcmp b a < 0):a=b :=
  A8.list_inj (Zqp _ _ rfl (by have:=Zqr a b; unfold pcmp at *; omega))
theorem Zbs {a b:A8} (h:pcmp a b < 0):a≠b:=by rintro rfl; rw [Zhu] at h; omega
theorem Zhv {a b:A8} (h:pcmp a b < 0):b≠a:=fun e=>Zbs h e.symm
theorem Zkm {a b:A8} (h:pcmp a b < 0):¬ pcmp b a < 0:=by have:=Zqr a b; omega
def tot {α:Type} (f:α→Int):List α→Int
  | []=>0
  | a::l=>f a+tot f l
theorem Zhw {α:Type} (f:α→Int) (l k:List α):tot f (l++k)=tot f l+tot f k:=by
  induction l with
  | nil=>simp [tot]
  | cons a l ih=>simp only [List.cons_append,tot,ih]; omega
theorem Zfq {α:Type} (f:α→Int) {l k:List α} (h:l.Perm k):tot f l=tot f k:=by
  induction h with
  | nil=>rfl
  | cons x _ ih=>simp only [tot,ih]
  | swap x y l=>simp only [tot]; omega
  | trans _ _ h1 h2=>exact h1.trans h2
theorem Zeo {α β:Type} (f:β→Int) (g:α→β) (l:List α):tot f (l.map g)=tot (fun a=>f (g a)) l:=by
  induction l with
  | nil=>rfl
  | cons a l ih=>simp only [ZFq,tot,ih]
theorem Zhx {α:Type} {f g:α→Int} {l:List α} (h:∀ a,a∈l→f a=g a):tot f l=tot g l:=by
  induction l with
  | nil=>rfl
  | cons a l ih=>simp only [tot]; rw [h a (by simp),ih fun b hb=>h b (by simp [hb])]
theorem Zww {α:Type} (f g:α→Int) (l:List α):tot (fun a=>f a+g a) l=tot f l+tot g l:=by
  induction l with
  | nil=>simp [tot]
  | cons a l ih=>simp only [tot,ih]; omega
theorem Zkn {α:Type} {f:α→Int} {l:List α} (h:∀ a,a∈l→f a=0):tot f l=0:=by
  induction l with
  | nil=>rfl
  | cons a l ih=>simp only [tot]; rw [h a (by simp),ih fun b hb=>h b (by simp [hb])]; rfl
theorem Zwx {α:Type} {f g:α→Int} {l:List α} (h:∀ a,a∈l→f a % 10007=g a % 10007):tot f l % 10007=tot g l % 10007:=by
  induction l with
  | nil=>rfl
  | cons a l ih =>
    have h1:=h a (by simp)
    have h2:=ih fun b hb=>h b (by simp [hb])
    simp only [tot]; omega
def co (l:List (A8×Int)) (m:A8):Int:=tot (fun p=>if p.1=m then p.2 else 0) l
def coT (l:List Term) (m:A8):Int:=tot (fun t=>if t.mono=m then t.factor else 0) l
theorem Za5 (p:A8×Int) (l:List (A8×Int)) (m:A8):co (p::l) m=(if p.1=m then p.2 else 0)+co l m:=rfl
theorem Zbt (t:Term) (l:List Term) (m:A8):coT (t::l) m=(if t.mono=m then t.factor else 0)+coT l m:=rfl
theorem Zep (m:A8):coT [] m=0:=rfl
theorem Zfr (m:A8):co [] m=0:=rfl
theorem Zdb (l:List Term) (t:Term) (m:A8):coT (l++[t]) m=coT l m+(if t.mono=m then t.factor else 0):=by
  rw [coT,Zhw]; simp [tot,coT]
theorem Zcr {l:List Term} {m:A8} (h:∀ t,t∈l→t.mono≠m):coT l m=0:=Zkn fun t ht=>if_neg (h t ht)
theorem Zdc {l:List (A8×Int)} {m:A8} (h:∀ t,t∈l→t.1≠m):co l m=0:=Zkn fun t ht=>if_neg (h t ht)
def Canon (l:List Term):Prop:=l.Pairwise (fun a b=>pcmp a.mono b.mono < 0)∧∀ t,t∈l→1≤t.factor∧t.factor≤10006
theorem Canon.nil:Canon []:=⟨ZP4,by simp⟩
theorem Canon.tail {t:Term} {l:List Term} (h:Canon (t::l)):Canon l:=⟨(ZFb.1 h.1).2,fun s hs=>h.2 s (by simp [hs])⟩
theorem Canon.head {t:Term} {l:List Term} (h:Canon (t::l)):∀ s,s∈l→pcmp t.mono s.mono < 0:=(ZFb.1 h.1).1
theorem Canon.snoc {l:List Term} {t:Term} (h:Canon l) (hl:∀ s,s∈l→pcmp s.mono t.mono < 0) (hf:1≤t.factor∧t.factor≤10006):Canon (l++[t]):=by
  refine⟨ZP5.2 ⟨h.1,by simp,fun a ha b hb=>?_⟩,fun s hs=>?_⟩
  · obtain rfl:b=t:=by simpa using hb
    exact hl a ha
  · rcases List.mem_append.1 hs with q | q
    · exact h.2 s q
    · obtain rfl:s=t:=by simpa using q
      exact hf
theorem Canon.at_head {t:Term} {l:List Term} (h:Canon (t::l)):coT (t::l) t.mono=t.factor:=by
  rw [Zbt,if_pos rfl,Zcr fun s hs=>Zhv (h.head s hs),Int.add_zero]
theorem Canon.range {l:List Term} (h:Canon l) (m:A8):0≤coT l m∧coT l m≤10006:=by
  induction l with
  | nil=>simp [Zep]
  | cons t l ih =>
    by_cases hm:t.mono=m
    · subst hm
      rw [h.at_head]
      have:=h.2 t (by simp)
      omega
    · rw [Zbt,if_neg hm,ZO0]
      exact ih h.tail
theorem Zqs : ∀ (A B : List Term), Canon A → Canon B → (∀ m, coT A m = coT B m) → A = B
  | [],[],_,_,_=>rfl
  | [], b :: B, _, hB, h => by
    have:=h b.mono
    rw [hB.at_head,Zep] at this
    have:=hB.2 b (by simp)
    omega
  | a :: A, [], hA, _, h => by
    have:=h a.mono
    rw [hA.at_head,Zep] at this
    have:=hA.2 a (by simp)
    omega
  | a :: A, b :: B, hA, hB, h => by
    have ha:=hA.2 a (by simp)
    have hb:=hB.2 b (by simp)
    by_cases h1:pcmp a.mono b.mono < 0
    · exfalso
      have:=h a.mono
      rw [hA.at_head,Zcr (l:=b::B)] at this
      · omega
      · intro t ht
        rcases ZEk.1 ht with rfl | ht
        · exact Zhv h1
        · exact Zhv (Zcb h1 (hB.head t ht))
    · by_cases h2:pcmp b.mono a.mono < 0
      · exfalso
        have:=h b.mono
        rw [hB.at_head,Zcr (l:=a::A)] at this
        · omega
        · intro t ht
          rcases ZEk.1 ht with rfl | ht
          · exact Zhv h2
          · exact Zhv (Zcb h2 (hA.head t ht))
      · have hm:a.mono=b.mono:=Zkl h1 h2
        have hf:a.factor=b.factor:=by
          have:=h a.mono
          rw [hA.at_head,hm,hB.at_head] at this; exact this
        have hab:a=b:=by cases a; cases b; simp only at hm hf; rw [hm,hf]
        subst hab
        rw [Zqs A B hA.tail hB.tail fun m=>?_]
        have:=h m
        rw [Zbt,Zbt] at this
        omega
theorem Zwy {A B:List Term} (hA:Canon A) (hB:Canon B) (h:∀ m,coT A m % 10007=coT B m % 10007):A=B :=
  Zqs A B hA hB fun m=>by have:=h m; have:=hA.range m; have:=hB.range m; omega
theorem Zhy (x:Int):-10007 < ZFf x 10007∧ZFf x 10007 < 10007:=by
  rcases Int.le_total 0 x with h | h
  · rw [ZO4 h]; omega
  · have e:ZFf x 10007=- ZFf (-x) 10007:=by rw [Int.neg_tmod]; omega
    rw [e,ZO4 (by omega)]; omega
theorem Zqt (x:Int):ZFf (ZFf x 10007+10007) 10007=x % 10007:=by
  have h1:=Zhy x
  rw [ZO4 (by omega)]
  have h2:x=10007 * Int.tdiv x 10007+ZFf x 10007:=(ZP7 x 10007).symm
  omega
theorem Zqu (x:Int):ZFf x 10007 % 10007=x % 10007:=by
  have h2:x=10007 * Int.tdiv x 10007+ZFf x 10007:=(ZP7 x 10007).symm
  omega
theorem Zwz {d e:Nat} (h:d * e=10007):d=1∨e=1:=by
  have key:∀ k,k < 101→k ∣ 10007→k≤1:=by decide
  by_cases hd:d < 101
  · left
    have:=key d hd ⟨e,h.symm⟩
    rcases Nat.eq_zero_or_pos d with rfl | q
    · simp at h
    · omega
  · by_cases he:e < 101
    · right
      have:=key e he ⟨d,by rw [Nat.mul_comm]; exact h.symm⟩
      rcases Nat.eq_zero_or_pos e with rfl | q
      · simp at h
      · omega
    · exfalso
      have:101 * 101≤d * e:=Nat.mul_le_mul (by omega) (by omega)
      omega
theorem Zw0 {a:Nat} (h1:1≤a) (h2:a≤10006):Nat.Coprime 10007 a:=by
  obtain ⟨e,he⟩:=Nat.gcd_dvd_left 10007 a
  rcases Zwz he.symm with q | q
  · exact q
  · exfalso
    rw [q,Nat.mul_one] at he
    have:=Nat.le_of_dvd (by omega) (Nat.gcd_dvd_right 10007 a)
    omega
theorem Zw1 {a b:Int} (ha:1≤a∧a≤10006) (hb:1≤b∧b≤10006):(a * b) % 10007≠0:=by
  obtain ⟨x,rfl⟩:=ZQa (show 0≤a by omega)
  obtain ⟨y,rfl⟩:=ZQa (show 0≤b by omega)
  intro h
  have h:(x * y) % 10007=0:=by
    have e:((x:Int) * (y:Int))=((x * y:Nat):Int):=(Int.natCast_mul x y).symm
    rw [e] at h; omega
  have:=(Zw0 (a:=x) (by omega) (by omega)).dvd_of_dvd_mul_left (Nat.dvd_of_mod_eq_zero h)
  have:=Nat.le_of_dvd (by omega) this
  omega
theorem Zw2 {s a b:Int} (hs:s=1∨s=-1) (ha:1≤a∧a≤10006) (hb:1≤b∧b≤10006):1≤(s * (a * b)) % 10007∧(s * (a * b)) % 10007≤10006:=by
  have:=Zw1 ha hb
  rcases hs with rfl | rfl <;> omega
theorem Zqv:∀ (a x y:List Int),a.length=x.length→x.length=y.length→Jv (List.zipWith (·+·) a x) (List.zipWith (·+·) a y)=Jv x y
  | [],[],[],_,_=>rfl
  | a :: ar, x :: xs, y :: ys, h1, h2 => by
    simp only [List.zipWith_cons_cons,Jv]
    have:=Zqv ar xs ys (by simpa using h1) (by simpa using h2)
    by_cases h:x=y
    · subst h; simpa using this
    · rw [if_pos (by omega),if_pos h]; omega
  | [],_::_,_,h,_=>by simp at h
  | _::_,[],_,h,_=>by simp at h
  | _::_,_::_,[],_,h=>by simp at h
  | [],[],_::_,_,h=>by simp at h
theorem Zw3 (a x y:A8):pcmp (a.add x) (a.add y)=pcmp x y:=Zqv a.list x.list y.list rfl rfl
theorem Xq {α:Type} [Inhabited α] {l:List α} {i:Nat} (h:i < l.length):l.take (i+1)=l.take i++[l.getD i ZEo]:=by
  rw [List.take_add_one]; simp [ZEy,h]
theorem Canon.at_lt {l:List Term} (h:Canon l) {i j:Nat} (hij:i < j) (hj:j < l.length):pcmp (l.getD i ZEo).mono (l.getD j ZEo).mono < 0:=by
  have:=(List.pairwise_iff_getElem.1 h.1) i j (by omega) hj hij
  simpa [ZEy,hj,show i < l.length by omega] using this
theorem Canon.at_range {l:List Term} (h:Canon l) {i:Nat} (hi:i < l.length):1≤(l.getD i ZEo).factor∧(l.getD i ZEo).factor≤10006:=h.2 _ (by simp [ZEy,hi])
theorem Y5 {α:Type} [Inhabited α] {l:List α} {i:Nat} (h:i < l.length):l.getD i ZEo∈l:=by simp [ZEy,h]
structure AddI (f g:List Term) (k:Int) (out:List Term) (i j:Nat):Prop where
  hi:i≤f.length
  hj:j≤g.length
  can:Canon out
  cf:∀ m,coT out m % 10007=(coT (f.take i) m+k * coT (g.take j) m) % 10007
  bf:∀ x,x∈out→i < f.length→pcmp x.mono (f.getD i ZEo).mono < 0
  bg:∀ x,x∈out→j < g.length→pcmp x.mono (g.getD j ZEo).mono < 0
  mo:∀ x,x∈out→∃ y,(y∈f∨y∈g)∧y.mono=x.mono
  ln:out.length≤i+j
theorem AddI.zero (f g:List Term) (k:Int):AddI f g k [] 0 0 :=
  ⟨by omega,by omega,Canon.nil,by intro m; simp [Zep],by simp,by simp,by simp,by simp⟩
theorem Zcs {α:Type} {l:List α} {t x:α} (h:x∈l++[t]):x∈l∨x=t:=by simpa using h
theorem AddI.stepF {f g:List Term} {k:Int} {out:List Term} {i j:Nat} (h:AddI f g k out i j) (cf:Canon f) (cg:Canon g) (hi:i < f.length) (hb:j < g.length→pcmp (f.getD i ZEo).mono (g.getD j ZEo).mono < 0) :
    AddI f g k (out++[f.getD i ZEo]) (i+1) j where
  hi:=hi
  hj:=h.hj
  can:=h.can.snoc (fun s hs=>h.bf s hs hi) (cf.at_range hi)
  cf m:=by
    have:=h.cf m
    rw [Zdb,Xq hi,Zdb]
    omega
  bf x hx hl:=by
    rcases Zcs hx with q | rfl
    · exact Zcb (h.bf x q hi) (cf.at_lt (by omega) hl)
    · exact cf.at_lt (by omega) hl
  bg x hx hl:=by
    rcases Zcs hx with q | rfl
    · exact h.bg x q hl
    · exact hb hl
  mo x hx:=by
    rcases Zcs hx with q | rfl
    · exact h.mo x q
    · exact⟨_,.inl (Y5 hi),rfl⟩
  ln:=by have:=h.ln; simp; omega
theorem AddI.cfG {f g:List Term} {k:Int} {out:List Term} {i j:Nat} (h:AddI f g k out i j) (hj:j < g.length) (m:A8) :
    k * coT (g.take (j+1)) m=k * coT (g.take j) m+(if(g.getD j ZEo).mono=m then k * (g.getD j ZEo).factor else 0):=by
  rw [Xq hj,Zdb,Int.mul_add]
  split <;> simp
theorem AddI.stepG0 {f g:List Term} {k:Int} {out:List Term} {i j:Nat} (h:AddI f g k out i j) (cf:Canon f) (cg:Canon g) (hj:j < g.length)
    (hz:(k * (g.getD j ZEo).factor) % 10007=0):AddI f g k out i (j+1) where
  hi:=h.hi
  hj:=hj
  can:=h.can
  cf m:=by
    have:=h.cf m
    rw [h.cfG hj m]
    split <;> omega
  bf:=h.bf
  bg x hx hl:=Zcb (h.bg x hx hj) (cg.at_lt (by omega) hl)
  mo:=h.mo
  ln:=by have:=h.ln; omega
theorem AddI.stepG1 {f g:List Term} {k:Int} {out:List Term} {i j:Nat} (h:AddI f g k out i j) (cf:Canon f) (cg:Canon g) (hj:j < g.length) (hb:i < f.length→pcmp (g.getD j ZEo).mono (f.getD i ZEo).mono < 0)
    {v:Int} (hv:v=(k * (g.getD j ZEo).factor) % 10007) (hz:v≠0):AddI f g k (out++[⟨(g.getD j ZEo).mono,v⟩]) i (j+1) where
  hi:=h.hi
  hj:=hj
  can:=h.can.snoc (fun s hs=>h.bg s hs hj) (by dsimp only; omega)
  cf m:=by
    have:=h.cf m
    rw [h.cfG hj m,Zdb]
    dsimp only
    split <;> omega
  bf x hx hl:=by
    rcases Zcs hx with q | rfl
    · exact h.bf x q hl
    · exact hb hl
  bg x hx hl:=by
    rcases Zcs hx with q | rfl
    · exact Zcb (h.bg x q hj) (cg.at_lt (by omega) hl)
    · exact cg.at_lt (by omega) hl
  mo x hx:=by
    rcases Zcs hx with q | rfl
    · exact h.mo x q
    · exact⟨_,.inr (Y5 hj),rfl⟩
  ln:=by have:=h.ln; simp; omega
theorem AddI.stepB0 {f g:List Term} {k:Int} {out:List Term} {i j:Nat} (h:AddI f g k out i j) (cf:Canon f) (cg:Canon g) (hi:i < f.length) (hj:j < g.length) (he:(f.getD i ZEo).mono=(g.getD j ZEo).mono)
    (hz:((f.getD i ZEo).factor+k * (g.getD j ZEo).factor) % 10007=0):AddI f g k out (i+1) (j+1) where
  hi:=hi
  hj:=hj
  can:=h.can
  cf m:=by
    have:=h.cf m
    rw [h.cfG hj m,Xq hi,Zdb,he]
    split <;> omega
  bf x hx hl:=Zcb (h.bf x hx hi) (cf.at_lt (by omega) hl)
  bg x hx hl:=Zcb (h.bg x hx hj) (cg.at_lt (by omega) hl)
  mo:=h.mo
  ln:=by have:=h.ln; omega
theorem AddI.stepB1 {f g:List Term} {k:Int} {out:List Term} {i j:Nat} (h:AddI f g k out i j) (cf:Canon f) (cg:Canon g) (hi:i < f.length) (hj:j < g.length) (he:(f.getD i ZEo).mono=(g.getD j ZEo).mono)
    {v:Int} (hv:v=((f.getD i ZEo).factor+k * (g.getD j ZEo).factor) % 10007) (hz:v≠0):AddI f g k (out++[⟨(f.getD i ZEo).mono,v⟩]) (i+1) (j+1) where
  hi:=hi
  hj:=hj
  can:=h.can.snoc (fun s hs=>h.bf s hs hi) (by dsimp only; omega)
  cf m:=by
    have:=h.cf m
    rw [h.cfG hj m,Xq hi,Zdb,Zdb,he]
    dsimp only
    split <;> omega
  bf x hx hl:=by
    rcases Zcs hx with q | rfl
    · exact Zcb (h.bf x q hi) (cf.at_lt (by omega) hl)
    · exact cf.at_lt (by omega) hl
  bg x hx hl:=by
    rcases Zcs hx with q | rfl
    · exact Zcb (h.bg x q hj) (cg.at_lt (by omega) hl)
    · dsimp only; rw [he]; exact cg.at_lt (by omega) hl
  mo x hx:=by
    rcases Zcs hx with q | rfl
    · exact h.mo x q
    · exact⟨_,.inl (Y5 hi),rfl⟩
  ln:=by have:=h.ln; simp; omega
structure IsAdd (f g:List Term) (k:Int) (out:List Term):Prop where
  can:Canon out
  cf:∀ m,coT out m % 10007=(coT f m+k * coT g m) % 10007
  mo:∀ x,x∈out→∃ y,(y∈f∨y∈g)∧y.mono=x.mono
  ln:out.length≤f.length+g.length
theorem AddI.done {f g:List Term} {k:Int} {out:List Term} {i j:Nat} (h:AddI f g k out i j) (hi:¬ i < f.length) (hj:¬ j < g.length):IsAdd f g k out where
  can:=h.can
  cf m:=by have:=h.cf m; rwa [ZFo (by omega),ZFo (by omega)] at this
  mo:=h.mo
  ln:=by have:=h.ln; have:=h.hi; have:=h.hj; omega
def pr1 (ds:List Int) (a:A8) (n:Int) (b:A8) (m':Int) (m:A8):Int:=if(Xl ds a b).1=m then(Xl ds a b).2 * (n * m') else 0
def shC (ds:List Int) (t:Term) (g:List Term) (m:A8):Int:=tot (fun u=>pr1 ds t.mono t.factor u.mono u.factor m) g
def prC (ds:List Int) (f g:List Term) (m:A8):Int:=tot (fun t=>shC ds t g m) f
structure IsShift (ds:List Int) (t:Term) (g out:List Term):Prop where
  can:Canon out
  cf:∀ m,coT out m % 10007=shC ds t g m % 10007
  mo:∀ x,x∈out→∃ u,u∈g∧x.mono=t.mono.add u.mono∧¬ Clash ds t.mono u.mono
  ln:out.length≤g.length
theorem IsShift.nil (ds:List Int) (t:Term):IsShift ds t [] []:=⟨Canon.nil,by intro m; rfl,by simp,by simp⟩
theorem Zqw (ds:List Int) (t:Term) (g:List Term) (u:Term) (m:A8):shC ds t (g++[u]) m=shC ds t g m+pr1 ds t.mono t.factor u.mono u.factor m:=by
  rw [shC,Zhw]; simp [tot,shC]
theorem Canon.init {l:List Term} {u:Term} (h:Canon (l++[u])):Canon l∧∀ s,s∈l→pcmp s.mono u.mono < 0:=by
  have:=ZP5.1 h.1
  exact⟨⟨this.1,fun s hs=>h.2 s (by simp [hs])⟩,fun s hs=>this.2.2 s hs u (by simp)⟩
theorem IsShift.skip {ds:List Int} {t:Term} {g out:List Term} {u:Term} (h:IsShift ds t g out) (hs:(Xl ds t.mono u.mono).2=0):IsShift ds t (g++[u]) out where
  can:=h.can
  cf m:=by
    have:=h.cf m
    rw [Zqw,pr1,hs]
    split <;> simp [this]
  mo x hx:=by
    obtain ⟨u',hu,he⟩:=h.mo x hx
    exact⟨u',by simp [hu],he⟩
  ln:=by have:=h.ln; simp; omega
theorem Zhz {ds:List Int} {a b:A8} (h:(Xl ds a b).2≠0):¬ Clash ds a b∧(Xl ds a b).1=a.add b∧((Xl ds a b).2=1∨(Xl ds a b).2=-1):=by
  have hc:¬ Clash ds a b:=fun q=>h (by simp [Xl,q])
  refine⟨hc,by simp [Xl,hc],?_⟩
  simp only [Xl,hc,if_false]
  exact Zp8 _
theorem IsShift.put {ds:List Int} {t:Term} {g out:List Term} {u:Term} (h:IsShift ds t g out) (cg:Canon (g++[u])) (ht:1≤t.factor∧t.factor≤10006) (hs:(Xl ds t.mono u.mono).2≠0) {v:Int} (hv:v=((Xl ds t.mono u.mono).2 * (t.factor * u.factor)) % 10007) :
    IsShift ds t (g++[u]) (out++[⟨(Xl ds t.mono u.mono).1,v⟩]):=by
  obtain ⟨hc,he,hsg⟩:=Zhz hs
  have hu:=cg.2 u (by simp)
  have hnz:=Zw2 hsg ht hu
  refine⟨h.can.snoc (fun s hs'=>?_) (by dsimp only; omega),fun m=>?_,fun x hx=>?_,by have:=h.ln; simp; omega⟩
  · obtain ⟨u',hu',he',_⟩:=h.mo s hs'
    dsimp only
    rw [he,he',Zw3]
    exact cg.init.2 u' hu'
  · have:=h.cf m
    rw [Zdb,Zqw,pr1]
    dsimp only
    split <;> omega
  · rcases Zcs hx with q | rfl
    · obtain ⟨u',hu',he'⟩:=h.mo x q
      exact⟨u',by simp [hu'],he'⟩
    · exact⟨u,by simp,he,hc⟩
structure IsProd (ds:List Int) (f g out:List Term):Prop where
  can:Canon out
  cf:∀ m,coT out m % 10007=prC ds f g m % 10007
  mo:∀ x,x∈out→∃ t u,t∈f∧u∈g∧x.mono=t.mono.add u.mono∧¬ Clash ds t.mono u.mono
  ln:out.length≤f.length * g.length
theorem IsProd.nil (ds:List Int) (g:List Term):IsProd ds [] g []:=⟨Canon.nil,by intro m; rfl,by simp,by simp⟩
theorem IsProd.step {ds:List Int} {f g out sh out':List Term} {t:Term} (h:IsProd ds f g out) (hs:IsShift ds t g sh) (ha:IsAdd out sh 1 out'):IsProd ds (f++[t]) g out' where
  can:=ha.can
  cf m:=by
    have h1:=h.cf m
    have h2:=hs.cf m
    have h3:=ha.cf m
    rw [prC,Zhw]
    simp only [tot]
    unfold prC at h1
    omega
  mo x hx:=by
    obtain ⟨y,hy | hy,he⟩:=ha.mo x hx
    · obtain ⟨a,u,h1,h2,h3,h4⟩:=h.mo y hy
      exact⟨a,u,by simp [h1],h2,he ▸ h3,h4⟩
    · obtain ⟨u,h2,h3,h4⟩:=hs.mo y hy
      exact⟨t,u,by simp,h2,he ▸ h3,h4⟩
  ln:=by
    have h1:=h.ln
    have h2:=hs.ln
    have h3:=ha.ln
    have:(f++[t]).length * g.length=f.length * g.length+g.length:=by simp [Nat.add_mul]
    omega
def MapOk (l:List (A8×Int)):Prop:=(l.map ZFr).Nodup∧∀ p,p∈l→1≤p.2∧p.2≤10006
theorem MapOk.nil:MapOk []:=⟨by simp,by simp⟩
theorem Zct {l : List (A8 × Int)} (h : (l.map ZFr).Nodup) (m : A8) : (Y9 l m).getD 0 = co l m := by
  induction l with
  | nil=>rfl
  | cons p l ih =>
    simp only [ZFq,ZO1] at h
    simp only [Y9,Za5]
    by_cases hm:m=p.1
    · subst hm
      rw [if_pos rfl,if_pos rfl,Zdc]
      · simp
      · intro t ht e
        exact h.1 (ZF2.2 ⟨t,ht,e⟩)
    · rw [if_neg hm,if_neg (fun e=>hm e.symm),ih h.2,ZO0]
theorem Znc {l : List (A8 × Int)} (h : (l.map ZFr).Nodup) (x : A8) (v : Int) (m : A8) : co (Yu l x v) m = if m = x then v else co l m := by
  induction l with
  | nil => simp only [Yu, Za5, Zfr]; by_cases hm : m = x
           · subst hm; simp
           · rw [if_neg (fun e=>hm e.symm),if_neg hm]; rfl
  | cons p l ih =>
    simp only [ZFq,ZO1] at h
    simp only [Yu]
    split
    · rename_i hx
      rw [Za5,Za5]
      dsimp only
      by_cases hm:m=x
      · subst hm
        rw [if_pos rfl,if_pos rfl,Zdc]
        · simp
        · intro t ht e
          exact h.1 (ZF2.2 ⟨t,ht,by rw [e,hx]⟩)
      · rw [if_neg (fun e=>hm e.symm),if_neg hm,if_neg (fun e=>hm (by rw [hx,e]))]
    · rename_i hx
      rw [Za5,Za5,ih h.2]
      by_cases hm:m=x
      · subst hm; rw [if_pos rfl,if_pos rfl,if_neg (fun e=>hx e.symm)]; simp
      · rw [if_neg hm,if_neg hm]
theorem Zw4 {l : List (A8 × Int)} (h : (l.map ZFr).Nodup) (x : A8) (m : A8) : co (Jo l x) m = if m = x then 0 else co l m := by
  induction l with
  | nil=>simp [Jo,Zfr]
  | cons p l ih =>
    simp only [ZFq,ZO1] at h
    simp only [Jo]
    split
    · rename_i hx
      rw [Za5]
      by_cases hm:m=x
      · subst hm
        rw [if_pos rfl,Zdc]
        intro t ht e
        exact h.1 (ZF2.2 ⟨t,ht,by rw [e,hx]⟩)
      · rw [if_neg hm,if_neg (fun e=>hm (by rw [hx,e]))]; simp
    · rename_i hx
      rw [Za5,Za5,ih h.2]
      by_cases hm:m=x
      · subst hm; rw [if_pos rfl,if_pos rfl,if_neg (fun e=>hx e.symm)]; rfl
      · rw [if_neg hm,if_neg hm]
theorem Znd {l:List (A8×Int)} {x:A8} {p:A8×Int} (h:p∈Jo l x):p∈l:=by
  induction l with
  | nil=>simp [Jo] at h
  | cons q l ih =>
    simp only [Jo] at h
    split at h
    · simp [h]
    · rcases ZEk.1 h with rfl | h
      · simp
      · simp [ih h]
theorem Zw5 {l:List (A8×Int)} (x:A8) (h:(l.map ZFr).Nodup):((Jo l x).map ZFr).Nodup:=by
  induction l with
  | nil=>simp [Jo]
  | cons q l ih =>
    simp only [ZFq,ZO1] at h
    simp only [Jo]
    split
    · exact h.2
    · simp only [ZFq,ZO1]
      refine⟨fun hq=>h.1 ?_,ih h.2⟩
      obtain ⟨p,hp,he⟩:=ZF2.1 hq
      exact ZF2.2 ⟨p,Znd hp,he⟩
theorem Zne {l : List (A8 × Int)} {x : A8} {v : Int} {p : A8 × Int} (h : p ∈ Yu l x v) : p = (x, v) ∨ p ∈ l := by
  induction l with
  | nil=>left; simpa [Yu] using h
  | cons q l ih =>
    simp only [Yu] at h
    split at h
    · rcases ZEk.1 h with rfl | h
      · exact .inl rfl
      · exact .inr (by simp [h])
    · rcases ZEk.1 h with rfl | h
      · exact .inr (by simp)
      · rcases ih h with e | e
        · exact .inl e
        · exact .inr (by simp [e])
theorem Zw6 (l:List (A8×Int)) (x:A8) (v:Int):(Yu l x v).length≤l.length+1:=by
  induction l with
  | nil=>simp [Yu]
  | cons q l ih=>simp only [Yu]; split <;> simp; omega
theorem Zw7 (l:List (A8×Int)) (x:A8):(Jo l x).length≤l.length:=by
  induction l with
  | nil=>simp [Jo]
  | cons q l ih=>simp only [Jo]; split <;> simp; omega
theorem MapOk.put {l:List (A8×Int)} (h:MapOk l) {x:A8} {v:Int} (hv:1≤v∧v≤10006):MapOk (Yu l x v) :=
  ⟨Zj0 h.1,fun p hp=>by rcases Zne hp with rfl | q; exact hv; exact h.2 p q⟩
theorem MapOk.del {l:List (A8×Int)} (h:MapOk l) (x:A8):MapOk (Jo l x):=⟨Zw5 x h.1,fun p hp=>h.2 p (Znd hp)⟩
theorem MapOk.range {l : List (A8 × Int)} (h : MapOk l) (m : A8) : 0 ≤ co l m ∧ co l m ≤ 10006 := by
  rw [← Zct h.1]
  cases hg:Y9 l m with
  | none=>simp
  | some v =>
    have:(m,v)∈l:=by
      clear h
      induction l with
      | nil=>simp [Y9] at hg
      | cons p l ih =>
        simp only [Y9] at hg
        split at hg
        · rename_i e; injection hg with e2; subst e2; subst e; simp
        · simp [ih hg]
    have:=h.2 _ this
    simp only [Option.getD_some]
    dsimp only at this
    omega
structure IsPut (l:List (A8×Int)) (x:A8) (c:Int) (l':List (A8×Int)):Prop where
  ok:MapOk l'
  cf:∀ m,co l' m % 10007=(co l m+if x=m then c else 0) % 10007
  ks:∀ p,p∈l'→p.1=x∨∃ q,q∈l∧q.1=p.1
  ln:l'.length≤l.length+1
theorem IsPut.put {l:List (A8×Int)} (h:MapOk l) {x:A8} {c v:Int} (hv:v=(co l x+c) % 10007) (hz:v≠0):IsPut l x c (Yu l x v) where
  ok:=h.put (by omega)
  cf m:=by
    rw [Znc h.1]
    by_cases hm:m=x
    · subst hm; rw [if_pos rfl,if_pos rfl]; omega
    · rw [if_neg hm,if_neg (fun e=>hm e.symm)]; simp
  ks p hp:=by
    rcases Zne hp with rfl | q
    · exact .inl rfl
    · exact .inr ⟨p,q,rfl⟩
  ln:=Zw6 _ _ _
theorem IsPut.del {l:List (A8×Int)} (h:MapOk l) {x:A8} {c:Int} (hz:(co l x+c) % 10007=0):IsPut l x c (Jo l x) where
  ok:=h.del x
  cf m:=by
    rw [Zw4 h.1]
    by_cases hm:m=x
    · subst hm; rw [if_pos rfl,if_pos rfl]; omega
    · rw [if_neg hm,if_neg (fun e=>hm e.symm)]; simp
  ks p hp:=.inr ⟨p,Znd hp,rfl⟩
  ln:=by have:=Zw7 l x; omega
theorem Zw8 {l : List (A8 × Int)} (h : MapOk l) {xs : List A8} (hp : xs.Perm (l.map ZFr)) (hw : xs.Pairwise (fun a b => ¬ pcmp b a < 0)) : Canon (xs.map fun x => ⟨x, (Y9 l x).getD 0⟩) ∧ ∀ m, coT (xs.map fun x => ⟨x, (Y9 l x).getD 0⟩) m = co l m := by
  have hnd:xs.Nodup:=hp.nodup_iff.2 h.1
  have hmem:∀ x,x∈xs→∃ v,(x,v)∈l∧(Y9 l x).getD 0=v:=by
    intro x hx
    obtain ⟨p,hpl,rfl⟩:=ZF2.1 (hp.mem_iff.1 hx)
    refine⟨p.2,hpl,?_⟩
    rw [Zct h.1]
    have h1:=h.1
    clear hp hx h
    induction l with
    | nil=>simp at hpl
    | cons q l ih =>
      simp only [ZFq,ZO1] at h1
      rw [Za5]
      rcases ZEk.1 hpl with rfl | hpl
      · rw [if_pos rfl,Zdc]
        · simp
        · intro t ht e; exact h1.1 (ZF2.2 ⟨t,ht,e⟩)
      · rw [if_neg (fun e=>h1.1 (ZF2.2 ⟨p,hpl,e.symm⟩)),ih hpl h1.2,ZO0]
  refine⟨⟨?_,fun t ht=>?_⟩,fun m=>?_⟩
  · rw [List.pairwise_map]
    have:xs.Pairwise (fun a b=>a≠b):=hnd
    refine(hw.and this).imp fun {a b} hab=>?_
    by_cases q:pcmp a b < 0
    · exact q
    · exact absurd (Zkl q hab.1) hab.2
  · obtain ⟨x,hx,rfl⟩:=ZF2.1 ht
    obtain ⟨v,hv,he⟩:=hmem x hx
    dsimp only
    rw [he]
    exact h.2 _ hv
  · rw [coT,Zeo]
    dsimp only
    rw [Zfq _ hp,Zeo]
    refine Zhx fun p hpl=>?_
    obtain ⟨v,hv,he⟩:=hmem p.1 (hp.mem_iff.2 (ZF2.2 ⟨p,hpl,rfl⟩))
    have:v=p.2:=by
      rw [← he,Zct h.1]
      have h1:=h.1
      clear hp h hmem he hv
      induction l with
      | nil=>simp at hpl
      | cons q l ih =>
        simp only [ZFq,ZO1] at h1
        rw [Za5]
        rcases ZEk.1 hpl with rfl | hpl
        · rw [if_pos rfl,Zdc]
          · simp
          · intro t ht e; exact h1.1 (ZF2.2 ⟨t,ht,e⟩)
        · rw [if_neg (fun e=>h1.1 (ZF2.2 ⟨p,hpl,e.symm⟩)),ih hpl h1.2,ZO0]
    rw [he,this]
def Zeq (a:A8):List A8→List A8
  | []=>[a]
  | b::l=>if pcmp a b < 0 then a::b::l else b::Zeq a l
theorem Zqx (a:A8) (l:List A8):(Zeq a l).Perm (a::l):=by
  induction l with
  | nil=>exact ZPe _
  | cons b l ih =>
    simp only [Zeq]
    split
    · exact ZPe _
    · exact(ih.cons b).trans (List.Perm.swap _ _ _)
theorem Zw9 {a b c:A8} (h1:¬ pcmp b a < 0) (h2:¬ pcmp c b < 0):¬ pcmp c a < 0:=fun h=>by
  by_cases q:pcmp a b < 0
  · exact h2 (Zcb h q)
  · have:=Zkl q h1
    subst this
    exact h2 h
theorem Zxa {a:A8} {l:List A8} (h:l.Pairwise (fun a b=>¬ pcmp b a < 0)):(Zeq a l).Pairwise (fun a b=>¬ pcmp b a < 0):=by
  induction l with
  | nil=>simp [Zeq]
  | cons b l ih =>
    simp only [Zeq]
    have hb:=ZFb.1 h
    split
    · rename_i q
      refine ZFb.2 ⟨fun x hx=>?_,h⟩
      rcases ZEk.1 hx with rfl | hx
      · exact Zkm q
      · exact Zw9 (Zkm q) (hb.1 x hx)
    · rename_i q
      refine ZFb.2 ⟨fun x hx=>?_,ih hb.2⟩
      rcases ZEk.1 ((Zqx a l).mem_iff.1 hx) with rfl | hx
      · exact q
      · exact hb.1 x hx
theorem Zqy:∀ l:List A8,∃ xs:List A8,xs.Perm l∧xs.Pairwise (fun a b=>¬ pcmp b a < 0)
  | []=>⟨[],ZPe _,ZP4⟩
  | a :: l => by
    obtain ⟨xs,h1,h2⟩:=Zqy l
    exact⟨Zeq a xs,(Zqx a xs).trans (h1.cons a),Zxa h2⟩
end Vc
namespace Vc
open Go Go.RowKit Go.ChangeShapes Go.WideShapes Go.ChangeAt
theorem Zdy {α:Type} {t:Ty α} {x:α} {cs:List Value} {fp:List Nat} {w:World} (h:t.rep x cs fp w):t.all [x] cs fp w:=by
  have hl:=t.len h
  refine⟨t.low h,by rw [hl]; simp,t.one h,fun i hi=>?_⟩
  obtain rfl:i=0:=by simpa using hi
  rw [Nat.zero_mul,List.drop_zero,ZFo (by omega)]
  exact h
section
variable {H:Type} {enc:TypeId×Value→H} {P:Program} {W:World}
end
end Vc
