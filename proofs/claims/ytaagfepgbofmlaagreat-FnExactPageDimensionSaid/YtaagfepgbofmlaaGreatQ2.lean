import Derived.Test.YtaagfepgbofmlaaGreatQ1
set_option linter.unusedSectionVars false
set_option linter.unusedSimpArgs false
set_option linter.unusedVariables false
open Decidable renaming not_not→ZPw
open Go renaming wp_seq→ZKw,wp_ret→ZK4,wp_skip→ZK0,wp_block→ZK2,wp_exit→ZLa
open Go.IntKind renaming i64→ZFm
open Go.Proofs.Tryz renaming prog→ZKz,underlying22→ZLf,underlying32→ZLg,underlying115→ZLu,func192→ZNx,underlying30→ZLk,underlying53→ZK6,underlying162→ZLb,underlying23→ZN3,underlying55→ZK3,underlying73→ZLj,f99→ZN7,underlying48→ZN8,f96→ZOc,underlying136→ZLe,f156→ZOd,underlying25→ZOe,func134→ZOh,underlying50→ZOl
open Go.Value renaming map→ZNy,ownBlock→ZD0,int→ZN5
open Inhabited renaming default→ZC7
open Int renaming tmod→ZDy,natCast_nonneg→ZLc,ofNat_lt→ZLv,zero_add→ZN0,toNat_of_nonneg→ZN6,tmod_eq_emod_of_nonneg→ZOb,mul_tdiv_add_tmod→ZP4,eq_ofNat_of_zero_le→ZP7
open List renaming toArray→ZKu,replicate→ZC2,mem_singleton→ZEf,mem_cons→ZC3,mem_map→ZEh,getD→ZDo,map_cons→ZD7,length_eq_one_iff→ZLt,nodup_cons→ZN4,pairwise_cons→ZDt,mem_append→ZDd,take_of_length_le→ZD5,pairwise_append→ZP2
open List.Pairwise renaming nil→ZP1
open List.Perm renaming refl→ZOr
open Nat renaming le_of_ble_eq_true→ZK5,le_trans→ZDa,le_refl→ZC6,lt_of_le_of_lt→ZOj
open Option renaming toList→ZLw
open Prod renaming fst→ZD9
open Vc renaming Form→ZKy,ETerm→ZKx,TForm→ZLi,TInts→ZNz
open Vc.A8 renaming enc→ZKt,zero→ZK1,enc_get→ZK9,enc_set→ZLq,get_set→ZN9,ext_get→ZOa
open Vc.Ctx renaming start→ZLh
open Vc.Term renaming enc→ZK7
open Vc.Tr renaming item→ZLd
open Vc.Ty renaming item→ZKv
set_option maxRecDepth 4000
set_option maxHeartbeats 4000000
namespace Go.Proofs.YtaagfepgbofmlaaGreat
open Go Go.RowKit Vc
variable {b0 bp0 b1 bp1 b2 bp2 b3 bp3 b4 bp4 b5 bp5 b6 bp6 b7 bp7 mb0:Nat} {u0_0 u0_1 u0_2 u0_3 u0_4 u0_5 u1_0 u1_1 u1_2 u1_3 u1_4 u1_5 u2_0 u2_1 u2_2 u2_3 u2_4 u2_5 u3_0 u3_1 u3_2 u3_3 u3_4 u3_5 u4_0 u4_1 u4_2 u4_3 u4_4 u4_5 u5_0 u5_1 u5_2 u5_3 u5_4 u5_5 u6_0 u6_1 u6_2 u6_3 u6_4 u6_5 u7_0 u7_1 u7_2 u7_3 u7_4 u7_5:Value} {fp0 fp1 fp2 fp3 fp4 fp5 fp6 fp7 fp0_0 fp0_1 fp0_2 fp0_3 fp0_4 fp0_5 fp1_0 fp1_1 fp1_2 fp1_3 fp1_4 fp1_5 F0:List Nat}
def Zej (a0:List (A8×Int)) (a1:List (A8×Int)) (a2:Int) (K:List (A8×Int)→Prop):Prop :=
 Zb1 (fun (q10:A8×Int) (s10:(List (A8×Int))) nx10=>Zeh s10 q10.1 (ZDy (ZFm.wrap (q10.2 * a2)) 10007) (fun m10=>nx10 m10)) (fun (s10:(List (A8×Int)))=>K s10) a1.length a1 a0
theorem Zu1 (a0:List (A8×Int)) (a1:List (A8×Int)) (a2:Int)  {K:List (A8×Int)→Prop} (h:Zej a0 a1 a2 K) (w0:World) (q0:(mapS b0 a0).holds w0) (d1:∀ c,c∈[b1]→c≠b0) (q1:(mapS b1 a1).holds w0) :
  Calls ZKz 165 #[.map (some b0),.map (some b1),vI a2] w0 fun e w'=>∃ (m0:List (A8×Int)),
   e=.returned (.tuple #[])∧K m0∧(mapS b0 m0).holds w'∧BelB b0 w0 w':=by
 unfold Zej at h
 refine cof Tryz.func165 rfl 22 Tryz.ntmps165 ?_
 have hC:=Ctx.start1 w0 b0 (it:=mapS b0 a0) rfl [mapS b1 a1] q0 (by simp only [ZC3,List.not_mem_nil,or_false,forall_eq_or_imp,forall_eq]; exact q1) (by simp only [ZC3,List.not_mem_nil,or_false,forall_eq_or_imp,forall_eq]; exact d1)
 refine sr (Za (v:=.map (some b1)) rfl (Zgo hC 0 rfl ZLu rfl fun r3 es4 ck5 w10 hB_ hn6 hbn7 hC=>dn (ZK2 ?_)))
 refine Zgs (S:=(List (A8×Int))) _ _ (fun l10 s10 e_ w_=>∃ (la10:Option MapEntry),Zv e_ [(0,.map (some b0)),(2,vI a2),(9,vQ r3)]∧Ctx (fun c_=>c_=b0) w0 w_ [itI (kvA .i64) (vvI .i64) r3 b1 es4 ck5 la10 l10,mapS b0 s10] [Zba b1 es4 ck5,mapS b1 a1]) ?_ (l0:=a1) (s0:=a0) ?_ h
 ·clear hC h
  rintro l10 s10 e_ w11 nx10 K10 ⟨la10,hS_,hC⟩ h hK10
  rw [ue hS_]
  refine sr ?_
  refine Zgp hC 0 0 rfl rfl hn6 hbn7 rfl (fun hr10=>?_) (fun q10 l11 ent10 w12 hp10 hk10 hv10 hC=>?_)
  ·replace h:=h.1 hr10
   refine Ym (v:=.bool false) rfl rfl (dn (ZKw (Z2 rfl rfl ?_)))
   refine ZLa (Zj (Zj (Z0 ?_)))
   refine Zc2 (fn:=Tryz.f165) rfl  ⟨s10,rfl,h,(hC.getM 1 rfl),hC.belB⟩ (.inr rfl)
  ·replace h:=h.2 q10 l11 hp10
   refine Ym (v:=.bool true) rfl rfl (dn (ZKw (Z6 rfl rfl (ZK0 (Ze (ZK2 (sr (Zgq hC 0 0 q10 rfl rfl hn6 rfl hk10 hv10 (Ym (v:=.agg (ZKu (ZKt .i64 q10.1))) rfl rfl (Ym (v:=vI q10.2) rfl rfl (Ys hC (ZKt .i64 ZK1) z73 rfl fun b10 w13 hB_ hC=>?_)))))))))))
   refine Z4 (v:=.agg (ZKu (ZKt .i64 q10.1))) hC 0 (ZKt .i64 q10.1) (ZKt .i64 q10.1) rfl ag73.size rfl rfl rfl rfl rfl (ZK5 rfl) rfl fun w14 hC=>Zd (v:=vI q10.2) rfl (dn (Zh (Za (v:=.map (some b0)) rfl (Yw hC 0 (ZKt .i64 q10.1) rfl ag73 rfl rfl rfl (Za (v:=vI q10.2) rfl (Za (v:=vI a2) rfl (Zao rfl rfl (Ja rfl rfl (by decide) ?_))))))))
   refine Zg [.map (some b0),.agg (ZKu (ZKt .i64 q10.1)),vI (ZDy (ZFm.wrap (q10.2 * a2)) 10007)] _ Tryz.func195 rfl rfl rfl (Zms s10 q10.1 (ZDy (ZFm.wrap (q10.2 * a2)) 10007) h _ (hC.getM 2 rfl)) (fun ret10 w15 hR10=>?_)
   obtain ⟨m10,rfl,h,hm10,hB10⟩:=hR10
   refine⟨_,rfl,?_⟩
   replace hC:=hC.turnB 2 rfl hB10 rfl rfl hm10
   refine done (Zr ?_)
   exact hK10 q10 l11 m10 _ _ hp10 ⟨(some ent10),(sl ⟨rfl,rfl,rfl,trivial⟩),(hC.xM [1,2] rfl)⟩ h
 ·skip
  exact⟨none,(sl ⟨rfl,rfl,rfl,trivial⟩),hC⟩
def Zck (a0:List (A8×Int)) (a1:List Int) (a2:List (A8×Int)) (K:List (A8×Int)→Prop):Prop :=
 Zb1 (fun (q10:A8×Int) (s11:(List (A8×Int))) nx11=>Zb1 (fun (q11:A8×Int) (s10:(List (A8×Int))) nx10=>Zg5 q10.1 a1 q11.1 (fun r10 r11=>(if r11≠0 then Zeh s10 r10 (ZDy (ZFm.wrap ((ZFm.wrap (r11 * q10.2)) * q11.2)) 10007) (fun m10=>nx10 m10) else nx10 s10))) (fun (s10:(List (A8×Int)))=>nx11 s10) a2.length a2 s11) (fun (s11:(List (A8×Int)))=>K s11) a0.length a0 ([]:List (A8×Int))
theorem J5 (a0:List (A8×Int)) (a1:List Int) (a2:List (A8×Int))  {K:List (A8×Int)→Prop} (h:Zck a0 a1 a2 K) (w0:World) (q0:(mapS b0 a0).holds w0) (q1:ZNz.rep a1 [u1_0] fp1 w0) (q2:(mapS b2 a2).holds w0) :
  Calls ZKz 192 #[.map (some b0),u1_0,.map (some b2)] w0 fun e w'=>∃ (r0:List (A8×Int)) (zb0:Nat),
   e=.returned (.map (some zb0))∧K r0∧(mapS zb0 r0).holds w'∧w0.heap.size≤zb0∧Bel w0 w':=by
 unfold Zck at h
 refine cof ZNx rfl 48 Tryz.ntmps192 ?_
 have hC:=ZLh (X:=Nox) w0 [ZKv TInts a1 [u1_0] fp1,mapS b0 a0,mapS b2 a2] (alc q1 (alc q0 (al1 q2)))
 refine sr (Zd (v:=.map none) rfl (dn (sr (Zee hC (kvA .i64) (vvI .i64) fun b4 w6 hB_ hC=>Zd (v:=.map (some b4)) rfl (dn (ZKw (sr (Za (v:=.map (some b0)) rfl (Zgo hC 1 rfl ZLu rfl fun r7 es8 ck9 w10 hB_ hn10 hbn10 hC=>dn ?_)))))))))
 refine ZK2 ?_
 refine Zgs (S:=(List (A8×Int))) _ _ (fun l12 s11 e_ w_=>∃ (la10:Option MapEntry),Zv e_ [(1,u1_0),(2,.map (some b2)),(7,.map (some b4)),(16,vQ r7)]∧Ctx Nox w0 w_ [itI (kvA .i64) (vvI .i64) r7 b0 es8 ck9 la10 l12,mapS b4 s11] [Zba b0 es8 ck9,ZKv TInts a1 [u1_0] fp1,mapS b0 a0,mapS b2 a2]) ?_ (l0:=a0) (s0:=([]:List (A8×Int))) ?_ h
 ·clear hC h
  rintro l12 s11 e_ w11 nx11 K10 ⟨la10,hS_,hC⟩ h hK11
  rw [ue hS_]
  refine sr ?_
  refine Zgp hC 0 0 rfl rfl hn10 hbn10 rfl (fun hr10=>?_) (fun q10 l10 ent10 w12 hp11 hk10 hv10 hC=>?_)
  ·replace h:=h.1 hr10
   refine Ym (v:=.bool false) rfl rfl (dn (ZKw (Z2 rfl rfl ?_)))
   refine ZLa (Zj (Zj (Z0 ?_)))
   refine Ze (sr (Za (v:=.map (some b4)) rfl (Zd (v:=.map (some b4)) rfl (dn (ZK4 ?_)))))
   refine Zi (fn:=Tryz.f192) rfl ?_ ⟨s11,b4,rfl,h,(hC.getM 1 rfl),(Zgn hC 1 rfl),hC.below⟩ (.inl rfl)
   exact Zf rfl
  ·replace h:=h.2 q10 l10 hp11
   refine Ym (v:=.bool true) rfl rfl (dn (ZKw (Z6 rfl rfl (ZK0 (Ze (ZK2 (sr (Zgq hC 0 0 q10 rfl rfl hn10 rfl hk10 hv10 (Ym (v:=.agg (ZKu (ZKt .i64 q10.1))) rfl rfl (Ym (v:=vI q10.2) rfl rfl (Ys hC (ZKt .i64 ZK1) z73 rfl fun b10 w13 hB_ hC=>?_)))))))))))
   refine Z4 (v:=.agg (ZKu (ZKt .i64 q10.1))) hC 0 (ZKt .i64 q10.1) (ZKt .i64 q10.1) rfl ag73.size rfl rfl rfl rfl rfl (ZK5 rfl) rfl fun w14 hC=>Zd (v:=vI q10.2) rfl (dn (sr (Za (v:=.map (some b2)) rfl (Zgo hC 3 rfl ZLu rfl fun r12 es10 ck10 w15 hB_ hn11 hbn11 hC=>dn (ZK2 ?_)))))
   refine Zgs (S:=(List (A8×Int))) _ _ (fun l13 s10 e_ w_=>∃ (la11:Option MapEntry),Zv e_ [(1,u1_0),(2,.map (some b2)),(7,.map (some b4)),(8,vQ b10),(9,vI q10.2),(16,vQ r7),(23,vQ r12)]∧Ctx Nox w0 w_ [itI (kvA .i64) (vvI .i64) r12 b2 es10 ck10 la11 l13,blk b10 73 (ZKt .i64 q10.1),itI (kvA .i64) (vvI .i64) r7 b0 es8 ck9 (some ent10) l10,mapS b4 s10] [Zba b2 es10 ck10,Zba b0 es8 ck9,ZKv TInts a1 [u1_0] fp1,mapS b0 a0,mapS b2 a2]) ?_ (l0:=a2) (s0:=s11) ?_ h
   ·clear hC h
    rintro l13 s10 e_ w16 nx10 K11 ⟨la11,hS_,hC⟩ h hK10
    rw [ue hS_]
    refine sr ?_
    refine Zgp hC 0 0 rfl rfl hn11 hbn11 rfl (fun hr11=>?_) (fun q11 l11 ent11 w17 hp10 hk11 hv11 hC=>?_)
    ·replace h:=h.1 hr11
     refine Ym (v:=.bool false) rfl rfl (dn (ZKw (Z2 rfl rfl ?_)))
     refine ZLa (Zj (Zj (Z0 ?_)))
     refine Zr ?_
     exact hK11 q10 l10 s10 _ _ hp11 ⟨(some ent10),(sl ⟨rfl,rfl,rfl,rfl,trivial⟩),((hC.xM [2,3] rfl).sP [1,2,3,4] rfl)⟩ h
    ·replace h:=h.2 q11 l11 hp10
     refine Ym (v:=.bool true) rfl rfl (dn (ZKw (Z6 rfl rfl (ZK0 (Ze (ZK2 (sr (Zgq hC 0 0 q11 rfl rfl hn11 rfl hk11 hv11 (Ym (v:=.agg (ZKu (ZKt .i64 q11.1))) rfl rfl (Ym (v:=vI q11.2) rfl rfl (Ys hC (ZKt .i64 ZK1) z73 rfl fun b11 w18 hB_ hC=>?_)))))))))))
     refine Z4 (v:=.agg (ZKu (ZKt .i64 q11.1))) hC 0 (ZKt .i64 q11.1) (ZKt .i64 q11.1) rfl ag73.size rfl rfl rfl rfl rfl (ZK5 rfl) rfl fun w19 hC=>Zd (v:=vI q11.2) rfl (dn (sr (Yw hC 2 (ZKt .i64 q10.1) rfl ag73 rfl rfl rfl (Za (v:=u1_0) rfl (Yw hC 0 (ZKt .i64 q11.1) rfl ag73 rfl rfl rfl ?_)))))
     refine Zg [.agg (ZKu (ZKt .i64 q10.1)),u1_0,.agg (ZKu (ZKt .i64 q11.1))] _ Tryz.func199 rfl rfl rfl (Zuz q10.1 a1 q11.1 h _ (hC.getP 2 rfl)) (fun ret10 w20 hR10=>?_)
     obtain ⟨r10,r11,rfl,h,hB10⟩:=hR10
     refine⟨_,rfl,?_⟩
     replace hC:=hC.grow hB10
     refine Za (v:=.tuple #[.agg (ZKu (ZKt .i64 r10)),vI r11]) rfl (Ym (v:=.agg (ZKu (ZKt .i64 r10))) rfl rfl (Ym (v:=vI r11) rfl rfl (Ys hC (ZKt .i64 ZK1) z73 rfl fun b12 w21 hB_ hC=>Z4 (v:=.agg (ZKu (ZKt .i64 r10))) hC 0 (ZKt .i64 r10) (ZKt .i64 r10) rfl ag73.size rfl rfl rfl rfl rfl (ZK5 rfl) rfl fun w22 hC=>Zd (v:=vI r11) rfl (dn (sr (Za (v:=vI r11) rfl (Y5 rfl rfl (dn ?_))))))))
     refine Zs rfl (fun hb10=>?_) (fun hb10=>?_)
     ·replace h:=ift h (ct hb10)
      refine Zh (Za (v:=.map (some b4)) rfl (Yw hC 0 (ZKt .i64 r10) rfl ag73 rfl rfl rfl (Za (v:=vI r11) rfl (Za (v:=vI q10.2) rfl (Zao rfl rfl (Za (v:=vI q11.2) rfl (Zao rfl rfl (Ja rfl rfl (by decide) ?_))))))))
      refine Zg [.map (some b4),.agg (ZKu (ZKt .i64 r10)),vI (ZDy (ZFm.wrap ((ZFm.wrap (r11 * q10.2)) * q11.2)) 10007)] _ Tryz.func195 rfl rfl rfl (Zms s10 r10 (ZDy (ZFm.wrap ((ZFm.wrap (r11 * q10.2)) * q11.2)) 10007) h _ (hC.getM 5 rfl)) (fun ret11 w23 hR11=>?_)
      obtain ⟨m10,rfl,h,hm10,hB11⟩:=hR11
      refine⟨_,rfl,?_⟩
      replace hC:=hC.turnB 5 rfl hB11 rfl rfl hm10
      refine done (Zr ?_)
      exact hK10 q11 l11 m10 _ _ hp10 ⟨(some ent11),(sl ⟨rfl,rfl,rfl,rfl,rfl,rfl,rfl,trivial⟩),(hC.xM [2,3,4,5] rfl)⟩ h
     ·replace h:=Zl h (cf hb10)
      refine ZK0 (Zr ?_)
      exact hK10 q11 l11 s10 _ _ hp10 ⟨(some ent11),(sl ⟨rfl,rfl,rfl,rfl,rfl,rfl,rfl,trivial⟩),(hC.xM [2,3,4,5] rfl)⟩ h
   ·skip
    exact⟨none,(sl ⟨rfl,rfl,rfl,rfl,rfl,rfl,rfl,trivial⟩),hC⟩
 ·skip
  exact⟨none,(sl ⟨rfl,rfl,rfl,rfl,trivial⟩),hC⟩
def Zdy (a0:Int) (a1:Int) (a2:Int) (K:Bool→Prop):Prop :=
 (if a0≥a1 then K (decide (a0≤a2)) else K false)
theorem Zj1 (a0:Int) (a1:Int) (a2:Int)  {K:Bool→Prop} (h:Zdy a0 a1 a2 K) (w0:World)  :
  Calls ZKz 46 #[vI a0,vI a1,vI a2] w0 fun e w'=>∃ (r0:Bool),
   e=.returned (.bool r0)∧K r0∧Bel w0 w':=by
 unfold Zdy at h
 refine cof Tryz.func46 rfl 15 Tryz.ntmps46 ?_
 have hC:=ZLh (X:=Nox) w0 [] (by simp)
 refine sr (Zd (v:=.bool false) rfl (dn (sr (Za (v:=vI a0) rfl (Za (v:=vI a1) rfl (J7 rfl rfl (Za (v:=.bool (decide (a0≥a1))) rfl ?_)))))))
 refine Y8 (decide (a0≥a1)) (fun hb1=>?_) (fun hb1=>?_)
 ·replace h:=ift h (ct hb1)
  refine Zm 3 10 rfl rfl hb1 (Za (v:=vI a0) rfl (Zm 3 10 rfl rfl hb1 (Za (v:=vI a2) rfl (Zm 3 10 rfl rfl hb1 (Zcb rfl rfl (Z3 (v:=.bool (decide (a0≤a2))) (b:=true) (tr rfl (congrArg _ hb1)) rfl (Zd (v:=.bool (decide (a0≤a2))) rfl (dn (ZK4 ?_)))))))))
  refine Zi (fn:=Tryz.f46) rfl ?_ ⟨decide (a0≤a2),rfl,h,hC.below⟩ (.inl rfl)
  exact Zf rfl
 ·replace h:=Zl h (cf hb1)
  refine Zk (b:=false) 3 10 rfl (tr rfl (congrArg _ hb1)) (by decide) (Zk (b:=false) 3 10 rfl (tr rfl (congrArg _ hb1)) (by decide) (Zk (b:=false) 3 10 rfl (tr rfl (congrArg _ hb1)) (by decide) (Z3 (v:=.bool false) (b:=false) (tr rfl (congrArg _ hb1)) rfl (Zd (v:=.bool false) rfl (dn (ZK4 ?_))))))
  refine Zi (fn:=Tryz.f46) rfl ?_ ⟨false,rfl,h,hC.below⟩ (.inl rfl)
  exact Zf rfl
def Zek (a0:List Int) (p1:Int→(Bool→Prop)→Prop) (K:Int→Prop):Prop :=
 Yc (fun i10 (s10:Unit) nx10=>p1 (a0.getD i10 ZC7) (fun r10=>(if r10=true then K (i10:Int) else nx10 ()))) (fun (s10:Unit)=>K (-1)) a0.length 0 ()
theorem Zp0 (a0:List Int) (p1:Int→(Bool→Prop)→Prop)  {K:Int→Prop} (h:Zek a0 p1 K) (w0:World) (q0:ZNz.rep a0 [u0_0] fp0 w0) {g1:Nat} {cp1:List Value} {fn1:Func} (hf1:ZKz.funcs[g1]? = some fn1) (hb1:fn1.body.isNone=false) (hn1:(fn1.name == "runtime.NumGoroutine")=false) (hp1:∀ (y0:Int) (K_:Bool→Prop) (w_:World),Bel w0 w_→p1 y0 K_→Calls ZKz g1 (ZKu ([vI y0]++cp1)) w_ fun e w'=>∃ (z0:Bool),e=.returned (.bool z0)∧K_ z0∧Bel w_ w') :
  Calls ZKz 185 #[u0_0,.func (.func g1) #[] (ZKu cp1)] w0 fun e w'=>∃ (r0:Int),
   e=.returned (vI r0)∧K r0∧Bel w0 w':=by
 unfold Zek at h
 refine cof Tryz.func185 rfl 19 Tryz.ntmps185 ?_
 have hC:=ZLh (X:=Nox) w0 [ZKv TInts a0 [u0_0] fp0] (al1 q0)
 refine sr (Zd (v:=vI 0) rfl (dn (ZKw (sr (Za (v:=u0_0) rfl ?_)))))
 obtain ⟨Ad2,c3,hv4⟩:=Zu (hC.getP 0 rfl)
 refine Zt ZLf (tr rfl hv4) (Za (v:=vI 0) rfl (dn (ZK2 ?_)))
 have hN10:a0.length≤9223372036854775807:=Y2 (hC.getP 0 rfl)
 refine Yk (S:=Unit) _ _ (fun i10 s10 e_ w_=>Zv e_ [(0,u0_0),(1,.func (.func g1) #[] (ZKu cp1)),(7,vI (a0.length:Int)),(8,vI (i10:Int))]∧Ctx Nox w0 w_ [] [ZKv TInts a0 [u0_0] fp0]) a0.length ?_ ?_ (s0:=()) ?_ h
 ·clear hC h
  rintro i10 s10 e_ w10 nx10 K10 hi10 ⟨hS_,hC⟩ h hK10
  rw [ue hS_]
  refine sr (Zp rfl rfl (dn (ZKw (Z6 rfl (decide_eq_true (by omega)) (ZK0 (Ze (ZKw (ZK2 (sr (Za (v:=vI (i10:Int)) rfl (Zd (v:=vI (i10:Int)) rfl ?_)))))))))))
  refine dn (sr (Za (v:=.func (.func g1) #[] (ZKu cp1)) rfl (Za (v:=u0_0) rfl (Za (v:=vI (i10:Int)) rfl ?_))))
  obtain ⟨Ad10,c10,hv10⟩:=Zx (hC.getP 0 rfl) i10 hi10
  refine Yn (len:=a0.length) ZLf sc2.size (tr rfl hv10) rfl (ZLc _) (ZLv.2 hi10) (Yo (vI (a0.getD i10 ZC7)) (Ye (hC.getP 0 rfl) hv10 i10 hi10) sc2 rfl ?_)
  refine Zl4 [vI (a0.getD i10 ZC7)] _ rfl hf1 hb1 hn1 rfl (hp1 _ _ _ hC.below  h) (fun ret10 w11 hR10=>?_)
  obtain ⟨r10,rfl,h,hB10⟩:=hR10
  refine⟨_,rfl,?_⟩
  replace hC:=hC.grow hB10
  refine dn ?_
  refine Zs rfl (fun hb10=>?_) (fun hb10=>?_)
  ·replace h:=ift h (hb10)
   refine sr (Za (v:=vI (i10:Int)) rfl (Zd (v:=vI (i10:Int)) rfl (dn ?_)))
   refine ZK4 (Z9 (Zn (Zn (Z9 (Zn ?_)))))
   refine Zi (fn:=Tryz.f185) rfl ?_ ⟨(i10:Int),rfl,h,hC.below⟩ (.inl rfl)
   exact Zf rfl
  ·replace h:=Zl h (Y4 hb10)
   refine ZK0 (Zr (Ze (Zh (Zq rfl rfl (Za (v:=vI (ZFm.wrap ((i10:Int)+1))) rfl (done ?_))))))
   exact hK10 () _ _ ⟨(sl ⟨rfl,rfl,rfl,(tr rfl (congrArg _ (Z5 hi10 hN10))),trivial⟩),hC⟩ h
 ·clear hC h
  rintro s10 e_ w12 K10 ⟨hS_,hC⟩ h
  rw [ue hS_]
  refine sr (Zp rfl rfl (dn (ZKw (Z2 rfl (decide_eq_false (by omega)) ?_))))
  refine ZLa (Zj (Zj (Z0 ?_)))
  refine Ze (sr (Zd (v:=vI (-1)) rfl (dn (ZK4 ?_))))
  refine Zi (fn:=Tryz.f185) rfl ?_ ⟨(-1),rfl,h,hC.below⟩ (.inl rfl)
  exact Zf rfl
 ·skip
  exact⟨(sl ⟨rfl,rfl,rfl,rfl,trivial⟩),hC⟩
def Zfn (a0:List Int) (p1:Int→(Bool→Prop)→Prop) (K:Bool→Prop):Prop :=
 Zek a0 p1 (fun r5=>K (decide (r5≥0)))
theorem Zp1 (a0:List Int) (p1:Int→(Bool→Prop)→Prop)  {K:Bool→Prop} (h:Zfn a0 p1 K) (w0:World) (q0:ZNz.rep a0 [u0_0] fp0 w0) {g1:Nat} {cp1:List Value} {fn1:Func} (hf1:ZKz.funcs[g1]? = some fn1) (hb1:fn1.body.isNone=false) (hn1:(fn1.name == "runtime.NumGoroutine")=false) (hp1:∀ (y0:Int) (K_:Bool→Prop) (w_:World),Bel w0 w_→p1 y0 K_→Calls ZKz g1 (ZKu ([vI y0]++cp1)) w_ fun e w'=>∃ (z0:Bool),e=.returned (.bool z0)∧K_ z0∧Bel w_ w') :
  Calls ZKz 181 #[u0_0,.func (.func g1) #[] (ZKu cp1)] w0 fun e w'=>∃ (r0:Bool),
   e=.returned (.bool r0)∧K r0∧Bel w0 w':=by
 unfold Zfn at h
 refine cof Tryz.func181 rfl 9 Tryz.ntmps181 ?_
 have hC:=ZLh (X:=Nox) w0 [ZKv TInts a0 [u0_0] fp0] (al1 q0)
 refine sr (Zd (v:=.bool false) rfl (dn (sr (Za (v:=u0_0) rfl (Za (v:=.func (.func g1) #[] (ZKu cp1)) rfl ?_)))))
 refine Zg [u0_0,.func (.func g1) #[] (ZKu cp1)] _ Tryz.func185 rfl rfl rfl (Zp0 a0 p1 h _ (hC.getP 0 rfl) hf1 hb1 hn1 (fun x0_ K_ w_ hb_=>hp1 x0_ K_ w_ (Zl7 hC.below hb_))) (fun Y7 w4 hR3=>?_)
 obtain ⟨r5,rfl,h,hB6⟩:=hR3
 refine⟨_,rfl,?_⟩
 replace hC:=hC.grow hB6
 refine J7 rfl rfl (Zd (v:=.bool (decide (r5≥0))) rfl (dn (ZK4 ?_)))
 refine Zi (fn:=Tryz.f181) rfl ?_ ⟨decide (r5≥0),rfl,h,hC.below⟩ (.inl rfl)
 exact Zf rfl
def Zg6 (a0:Int) (K:Bool→Prop):Prop :=
 Zdy a0 1 12 (fun r4=>K (!r4))
theorem Zu2 (a0:Int)  {K:Bool→Prop} (h:Zg6 a0 K) (w0:World)  :
  Calls ZKz 190 #[vI a0] w0 fun e w'=>∃ (r0:Bool),
   e=.returned (.bool r0)∧K r0∧Bel w0 w':=by
 unfold Zg6 at h
 refine cof Tryz.func190 rfl 6 Tryz.ntmps190 ?_
 have hC:=ZLh (X:=Nox) w0 [] (by simp)
 refine sr (Zd (v:=.bool false) rfl (dn (sr (Za (v:=vI a0) rfl ?_))))
 refine Zg [vI a0,vI 1,vI 12] _ Tryz.func46 rfl rfl rfl (Zj1 a0 1 12 h _) (fun Zi w3 hR2=>?_)
 obtain ⟨r4,rfl,h,hB5⟩:=hR2
 refine⟨_,rfl,?_⟩
 replace hC:=hC.grow hB5
 refine Xe rfl (Zd (v:=.bool (!r4)) rfl (dn (ZK4 ?_)))
 refine Zi (fn:=Tryz.f190) rfl ?_ ⟨!r4,rfl,h,hC.below⟩ (.inl rfl)
 exact Zf rfl
def Zg7 (a0:List Int) (K:Bool→Prop):Prop :=
 (if(a0.length:Int)≤8 then Zfn a0 Zg6 (fun r9=>K (!r9)) else K false)
theorem Zu3 (a0:List Int)  {K:Bool→Prop} (h:Zg7 a0 K) (w0:World) (q0:ZNz.rep a0 [u0_0] fp0 w0) :
  Calls ZKz 151 #[u0_0] w0 fun e w'=>∃ (r0:Bool),
   e=.returned (.bool r0)∧K r0∧Bel w0 w':=by
 unfold Zg7 at h
 refine cof Tryz.func151 rfl 11 Tryz.ntmps151 ?_
 have hC:=ZLh (X:=Nox) w0 [ZKv TInts a0 [u0_0] fp0] (al1 q0)
 refine sr (Zd (v:=.bool false) rfl (dn (sr (Za (v:=u0_0) rfl ?_))))
 obtain ⟨Ad2,c3,hv4⟩:=Zu (hC.getP 0 rfl)
 refine Zt ZLf (tr rfl hv4) (Zcb rfl rfl (Za (v:=.bool (decide ((a0.length:Int)≤8))) rfl ?_))
 refine Y8 (decide ((a0.length:Int)≤8)) (fun hb5=>?_) (fun hb5=>?_)
 ·replace h:=ift h (ct hb5)
  refine Zm 3 6 rfl rfl hb5 (Za (v:=u0_0) rfl (Zm 3 6 rfl rfl hb5 ?_))
  refine Zg [u0_0,.func (.func 190) #[] (ZKu [])] _ Tryz.func181 rfl rfl rfl (Zp1 a0 Zg6 h _ (hC.getP 0 rfl) Tryz.func190 rfl rfl (fun x0_ K_ w_ _ hq_=>Zu2 x0_ hq_ w_)) (fun ret6 w8 hR7=>?_)
  obtain ⟨r9,rfl,h,hB10⟩:=hR7
  refine⟨_,rfl,?_⟩
  replace hC:=hC.grow hB10
  refine Zm 3 6 rfl rfl hb5 (Xe rfl (Z3 (v:=.bool (!r9)) (b:=true) (tr rfl (congrArg _ hb5)) rfl (Zd (v:=.bool (!r9)) rfl (dn (ZK4 ?_)))))
  refine Zi (fn:=Tryz.f151) rfl ?_ ⟨!r9,rfl,h,hC.below⟩ (.inl rfl)
  exact Zf rfl
 ·replace h:=Zl h (cf hb5)
  refine Zk (b:=false) 3 6 rfl (tr rfl (congrArg _ hb5)) (by decide) (Zk (b:=false) 3 6 rfl (tr rfl (congrArg _ hb5)) (by decide) (Zk (b:=false) 3 6 rfl (tr rfl (congrArg _ hb5)) (by decide) (Z3 (v:=.bool false) (b:=false) (tr rfl (congrArg _ hb5)) rfl (Zd (v:=.bool false) rfl (dn (ZK4 ?_))))))
  refine Zi (fn:=Tryz.f151) rfl ?_ ⟨false,rfl,h,hC.below⟩ (.inl rfl)
  exact Zf rfl
def Zg8 (a0:List Int) (a1:A8) (K:Bool→Prop):Prop :=
 Yc (fun i10 (s10:Unit) nx10=>(if(i10:Int) < (a0.length:Int) then((0≤(i10:Int)∧(i10:Int) < (a0.length:Int))∧(if ZDy (a0.getD i10 ZC7) 2=1 then(if a1.get i10 > 1 then K false else nx10 ()) else(if a1.get i10 > 20 then K false else nx10 ()))) else(if a1.get i10 > 0 then K false else nx10 ()))) (fun (s10:Unit)=>K true) 8 0 ()
theorem Zu4 (a0:List Int) (a1:A8)  {K:Bool→Prop} (h:Zg8 a0 a1 K) (w0:World) (q0:ZNz.rep a0 [u0_0] fp0 w0) :
  Calls ZKz 156 #[u0_0,.agg (ZKu (ZKt .u8 a1))] w0 fun e w'=>∃ (r0:Bool),
   e=.returned (.bool r0)∧K r0∧Bel w0 w':=by
 unfold Zg8 at h
 refine cof Tryz.func156 rfl 27 Tryz.ntmps156 ?_
 have hC:=ZLh (X:=Nox) w0 [ZKv TInts a0 [u0_0] fp0] (al1 q0)
 refine sr (Yi (v:=.agg (ZKu (ZKt .u8 a1))) hC (ZKt .u8 a1) rfl rfl fun b2 w4 hB_ hC=>Zd (v:=.bool false) rfl (dn (ZKw (sr (Yw hC 0 (ZKt .u8 a1) rfl ag136 rfl rfl rfl (Za (v:=vI 0) rfl (dn (ZK2 ?_))))))))
 refine Yk (S:=Unit) _ _ (fun i10 s10 e_ w_=>Zv e_ [(0,u0_0),(8,.agg (ZKu (ZKt .u8 a1))),(9,vI (i10:Int))]∧Ctx Nox w0 w_ [] [ZKv TInts a0 [u0_0] fp0]) 8 ?_ ?_ (s0:=()) ?_ h
 ·clear hC h
  rintro i10 s10 e_ w10 nx10 K10 hi10 ⟨hS_,hC⟩ h hK10
  rw [ue hS_]
  refine sr (Zp rfl rfl (dn (ZKw (Z6 rfl (decide_eq_true (by omega)) (ZK0 (Ze (ZKw (ZK2 (sr (Za (v:=vI (i10:Int)) rfl (Zjc (.int .u8 (a1.get i10)) ZLe rfl rfl (ZLc _) (by omega) sc5 (ZK9 _ _ hi10) ?_)))))))))))
  refine Zd (v:=vI (i10:Int)) rfl (Zd (v:=.int .u8 (a1.get i10)) rfl (dn (sr (Zd (v:=.int .u8 0) rfl (dn (ZKw (sr (Za (v:=vI (i10:Int)) rfl (Za (v:=u0_0) rfl ?_)))))))))
  obtain ⟨Ad10,c10,hv11⟩:=Zu (hC.getP 0 rfl)
  refine Zt ZLf (tr rfl hv11) (Zp rfl rfl (dn ?_))
  refine Zs rfl (fun hb10=>?_) (fun hb10=>?_)
  ·replace h:=ift h (ct hb10)
   refine sr (Zd (v:=.int .u8 20) rfl (dn (sr (Za (v:=u0_0) rfl (Za (v:=vI (i10:Int)) rfl ?_)))))
   obtain ⟨⟨h10,h11⟩,h⟩:=h
   obtain ⟨Ad11,c11,hv10⟩:=Zx (hC.getP 0 rfl) i10 (show i10 < a0.length by omega)
   refine Yn (len:=a0.length) ZLf sc2.size (tr rfl hv10) rfl h10 h11 (Yo (vI (a0.getD i10 ZC7)) (Ye (hC.getP 0 rfl) hv10 i10 (show i10 < a0.length by omega)) sc2 rfl (Ja rfl rfl (by decide) (Xu rfl rfl (dn ?_))))
   refine Zs rfl (fun hb11=>?_) (fun hb11=>?_)
   ·replace h:=ift h (ct hb11)
    refine Zh (Zd (v:=.int .u8 1) rfl (dn (sr (Za (v:=.int .u8 (a1.get i10)) rfl (Za (v:=.int .u8 1) rfl (Jg rfl rfl (dn ?_)))))))
    refine Zs rfl (fun hb12=>?_) (fun hb12=>?_)
    ·replace h:=ift h (ct hb12)
     refine sr (Zd (v:=.bool false) rfl (dn ?_))
     refine ZK4 (Z9 (Zn (Zn (Z9 (Zn ?_)))))
     refine Zi (fn:=ZOd) rfl ?_ ⟨false,rfl,h,hC.below⟩ (.inl rfl)
     exact Zf rfl
    ·replace h:=Zl h (cf hb12)
     refine ZK0 (Zr (Ze (Zh (Zq rfl rfl (Za (v:=vI (ZFm.wrap ((i10:Int)+1))) rfl (done ?_))))))
     exact hK10 () _ _ ⟨(sl ⟨rfl,rfl,(tr rfl (congrArg _ (Z5 hi10 (by decide)))),trivial⟩),hC⟩ h
   ·replace h:=Zl h (cf hb11)
    refine ZK0 (Ze (sr (Za (v:=.int .u8 (a1.get i10)) rfl (Za (v:=.int .u8 20) rfl (Jg rfl rfl (dn ?_))))))
    refine Zs rfl (fun hb13=>?_) (fun hb13=>?_)
    ·replace h:=ift h (ct hb13)
     refine sr (Zd (v:=.bool false) rfl (dn ?_))
     refine ZK4 (Z9 (Zn (Zn (Z9 (Zn ?_)))))
     refine Zi (fn:=ZOd) rfl ?_ ⟨false,rfl,h,hC.below⟩ (.inl rfl)
     exact Zf rfl
    ·replace h:=Zl h (cf hb13)
     refine ZK0 (Zr (Ze (Zh (Zq rfl rfl (Za (v:=vI (ZFm.wrap ((i10:Int)+1))) rfl (done ?_))))))
     exact hK10 () _ _ ⟨(sl ⟨rfl,rfl,(tr rfl (congrArg _ (Z5 hi10 (by decide)))),trivial⟩),hC⟩ h
  ·replace h:=Zl h (cf hb10)
   refine ZK0 (Ze (sr (Za (v:=.int .u8 (a1.get i10)) rfl (Za (v:=.int .u8 0) rfl (Jg rfl rfl (dn ?_))))))
   refine Zs rfl (fun hb14=>?_) (fun hb14=>?_)
   ·replace h:=ift h (ct hb14)
    refine sr (Zd (v:=.bool false) rfl (dn ?_))
    refine ZK4 (Z9 (Zn (Zn (Z9 (Zn ?_)))))
    refine Zi (fn:=ZOd) rfl ?_ ⟨false,rfl,h,hC.below⟩ (.inl rfl)
    exact Zf rfl
   ·replace h:=Zl h (cf hb14)
    refine ZK0 (Zr (Ze (Zh (Zq rfl rfl (Za (v:=vI (ZFm.wrap ((i10:Int)+1))) rfl (done ?_))))))
    exact hK10 () _ _ ⟨(sl ⟨rfl,rfl,(tr rfl (congrArg _ (Z5 hi10 (by decide)))),trivial⟩),hC⟩ h
 ·clear hC h
  rintro s10 e_ w11 K10 ⟨hS_,hC⟩ h
  rw [ue hS_]
  refine sr (Zp rfl rfl (dn (ZKw (Z2 rfl (decide_eq_false (by omega)) ?_))))
  refine ZLa (Zj (Zj (Z0 ?_)))
  refine Ze (sr (Zd (v:=.bool true) rfl (dn (ZK4 ?_))))
  refine Zi (fn:=ZOd) rfl ?_ ⟨true,rfl,h,hC.below⟩ (.inl rfl)
  exact Zf rfl
 ·skip
  exact⟨(sl ⟨rfl,rfl,rfl,trivial⟩),(hC.xM [] rfl)⟩
def Zj2 (a0:Int) (K:Bool→Prop):Prop :=
 Zdy a0 1 10006 (fun r4=>K r4)
theorem Zu5 (a0:Int)  {K:Bool→Prop} (h:Zj2 a0 K) (w0:World)  :
  Calls ZKz 157 #[vI a0] w0 fun e w'=>∃ (r0:Bool),
   e=.returned (.bool r0)∧K r0∧Bel w0 w':=by
 unfold Zj2 at h
 refine cof Tryz.func157 rfl 5 Tryz.ntmps157 ?_
 have hC:=ZLh (X:=Nox) w0 [] (by simp)
 refine sr (Zd (v:=.bool false) rfl (dn (sr (Za (v:=vI a0) rfl ?_))))
 refine Zg [vI a0,vI 1,vI 10006] _ Tryz.func46 rfl rfl rfl (Zj1 a0 1 10006 h _) (fun Zi w3 hR2=>?_)
 obtain ⟨r4,rfl,h,hB5⟩:=hR2
 refine⟨_,rfl,?_⟩
 replace hC:=hC.grow hB5
 refine Zd (v:=.bool r4) rfl (dn (ZK4 ?_))
 refine Zi (fn:=Tryz.f157) rfl ?_ ⟨r4,rfl,h,hC.below⟩ (.inl rfl)
 exact Zf rfl
def Zfo (a0:List Int) (a1:ZKy) (K:Bool→Prop):Prop :=
 (if(a1.terms.length:Int) > 400 then K false else Yc (fun i10 (s10:Unit) nx10=>Zg8 a0 ((a1.terms.getD i10 ZC7).mono) (fun r10=>(if¬ (r10=true) then K false else Zj2 ((a1.terms.getD i10 ZC7).factor) (fun r13=>(if¬ (r13=true) then K false else(if(i10:Int) > 0 then((0≤ZFm.wrap ((i10:Int) - 1)∧ZFm.wrap ((i10:Int) - 1) < (a1.terms.length:Int))∧Zdx ((a1.terms.getD ((ZFm.wrap ((i10:Int) - 1)).toNat) ZC7).mono) (fun r11=>Zdx ((a1.terms.getD i10 ZC7).mono) (fun r12=>Zj0 r11 r12 (fun r14=>(if r14≥0 then K false else nx10 ()))))) else nx10 ())))))) (fun (s10:Unit)=>K true) a1.terms.length 0 ())
theorem Zp2 (a0:List Int) (a1:ZKy)  {K:Bool→Prop} (h:Zfo a0 a1 K) (w0:World) (q0:ZNz.rep a0 [u0_0] fp0 w0) (q1:ZLi.rep a1 [u1_0] fp1 w0) :
  Calls ZKz 99 #[u0_0,.agg #[u1_0]] w0 fun e w'=>∃ (r0:Bool),
   e=.returned (.bool r0)∧K r0∧Bel w0 w':=by
 unfold Zfo at h
 refine cof Tryz.func99 rfl 48 Tryz.ntmps99 ?_
 have hC:=ZLh (X:=Nox) w0 [ZKv TInts a0 [u0_0] fp0,ZKv TForm a1 [u1_0] fp1] (alc q0 (al1 q1))
 have hp3:=(hC.getP 1 rfl)
 replace hC:=hC.derive 1 rfl (ZKv ZKx.ty.sl a1.terms [u1_0] fp1) (fun _=>(Xm hp3)) (fun _ hb_=>hb_)
 refine sr (Yi (v:=.agg #[u1_0]) hC [u1_0] rfl rfl fun b5 w7 hB_ hC=>Zd (v:=.bool false) rfl (dn (ZKw (sr (Z1 0 ZK3 rfl sc53.size rfl rfl (Yb hC 0 (u1_0) rfl sc53 rfl rfl ?_))))))
 obtain ⟨Ad8,c9,hv12⟩:=Zu (hC.getP 0 rfl)
 refine Zt ZK6 (tr rfl hv12) (Jg rfl rfl (dn ?_))
 refine Zs rfl (fun hb12=>?_) (fun hb12=>?_)
 ·replace h:=ift h (ct hb12)
  refine sr (Zd (v:=.bool false) rfl (dn ?_))
  refine ZK4 (Zn ?_)
  refine Zi (fn:=ZN7) rfl ?_ ⟨false,rfl,h,hC.below⟩ (.inl rfl)
  exact Zf rfl
 ·replace h:=Zl h (cf hb12)
  refine ZK0 (Ze (ZKw (sr (Z1 0 ZK3 rfl sc53.size rfl rfl (Yb hC 0 (u1_0) rfl sc53 rfl rfl ?_)))))
  obtain ⟨Ad11,c10,hv13⟩:=Zu (hC.getP 0 rfl)
  refine Zt ZK6 (tr rfl hv13) (Za (v:=vI 0) rfl (dn (ZK2 ?_)))
  have hN10:a1.terms.length≤9223372036854775807:=Y2 (hC.getP 0 rfl)
  refine Yk (S:=Unit) _ _ (fun i10 s10 e_ w_=>Zv e_ [(0,u0_0),(3,vQ b5),(12,u1_0),(13,vI (a1.terms.length:Int)),(14,vI (i10:Int))]∧Ctx Nox w0 w_ [blk b5 55 [u1_0]] [ZKv ZKx.ty.sl a1.terms [u1_0] fp1,ZKv TInts a0 [u0_0] fp0,ZKv TForm a1 [u1_0] fp1]) a1.terms.length ?_ ?_ (s0:=()) ?_ h
  ·clear hC h
   rintro i10 s10 e_ w10 nx10 K10 hi10 ⟨hS_,hC⟩ h hK10
   rw [ue hS_]
   refine sr (Zp rfl rfl (dn (ZKw (Z6 rfl (decide_eq_true (by omega)) (ZK0 (Ze (ZKw (ZK2 (sr (Za (v:=vI (i10:Int)) rfl ?_))))))))))
   obtain ⟨Ad12,c11,hv10⟩:=Zx (hC.getP 0 rfl) i10 hi10
   refine Yn (len:=a1.terms.length) ZK6 ag162.size (tr rfl hv10) rfl (ZLc _) (ZLv.2 hi10) (Ji (ZK7 (a1.terms.getD i10 ZC7)) (Ye (hC.getP 0 rfl) hv10 i10 hi10) ag162 rfl rfl (Ys hC (ZK7 (⟨ZK1,0⟩:Term)) Zfl rfl fun b10 w11 hB_ hC=>Zd (v:=vI (i10:Int)) rfl (Z4 (v:=.agg (ZKu (ZK7 (a1.terms.getD i10 ZC7)))) hC 0 (ZK7 (a1.terms.getD i10 ZC7)) (ZK7 (a1.terms.getD i10 ZC7)) rfl ag162.size rfl rfl rfl rfl rfl (ZK5 rfl) rfl fun w12 hC=>dn (ZKw (sr (Za (v:=u0_0) rfl (Z1 0 ZLb rfl ag136.size rfl rfl (Yw hC 0 (ZKt .u8 ((a1.terms.getD i10 ZC7).mono)) rfl ag136 rfl rfl rfl ?_))))))))
   refine Zg [u0_0,.agg (ZKu (ZKt .u8 ((a1.terms.getD i10 ZC7).mono)))] _ Tryz.func156 rfl rfl rfl (Zu4 a0 ((a1.terms.getD i10 ZC7).mono) h _ (hC.getP 1 rfl)) (fun ret10 w13 hR10=>?_)
   obtain ⟨r10,rfl,h,hB10⟩:=hR10
   refine⟨_,rfl,?_⟩
   replace hC:=hC.grow hB10
   refine Xe rfl (Za (v:=.bool (!r10)) rfl ?_)
   refine Y8 (!r10) (fun hb11=>?_) (fun hb11=>?_)
   ·replace h:=ift h (Y4 (Xj hb11))
    refine Zk (b:=true) 5 24 rfl (tr rfl (congrArg _ hb11)) (by decide) (Zk (b:=true) 5 24 rfl (tr rfl (congrArg _ hb11)) (by decide) (Zk (b:=true) 5 24 rfl (tr rfl (congrArg _ hb11)) (by decide) (Zk (b:=true) 5 24 rfl (tr rfl (congrArg _ hb11)) (by decide) (Z3 (v:=.bool true) (b:=true) (tr rfl (congrArg _ hb11)) rfl (dn (Z6 rfl rfl (sr (Zd (v:=.bool false) rfl (dn ?_)))))))))
    refine ZK4 (Zn (Z9 (Zn (Zn (Z9 (Zn ?_))))))
    refine Zi (fn:=ZN7) rfl ?_ ⟨false,rfl,h,hC.below⟩ (.inl rfl)
    exact Zf rfl
   ·replace h:=Zl h (not_not_intro ((Xk hb11)))
    refine Zm 5 24 rfl rfl hb11 (Z1 8 ZLb rfl sc2.size rfl rfl (Zm 5 24 rfl rfl hb11 (Yb hC 0 (vI ((a1.terms.getD i10 ZC7).factor)) rfl sc2 rfl rfl (Zm 5 24 rfl rfl hb11 ?_))))
    refine Zg [vI ((a1.terms.getD i10 ZC7).factor)] _ Tryz.func157 rfl rfl rfl (Zu5 ((a1.terms.getD i10 ZC7).factor) h _) (fun ret11 w14 hR11=>?_)
    obtain ⟨r13,rfl,h,hB11⟩:=hR11
    refine⟨_,rfl,?_⟩
    replace hC:=hC.grow hB11
    refine Zm 5 24 rfl rfl hb11 (Xe rfl (Z3 (v:=.bool (!r13)) (b:=false) (tr rfl (congrArg _ hb11)) rfl (dn ?_)))
    refine Zs rfl (fun hb13=>?_) (fun hb13=>?_)
    ·replace h:=ift h (Y4 (Xj hb13))
     refine sr (Zd (v:=.bool false) rfl (dn ?_))
     refine ZK4 (Zn (Z9 (Zn (Zn (Z9 (Zn ?_))))))
     refine Zi (fn:=ZN7) rfl ?_ ⟨false,rfl,h,hC.below⟩ (.inl rfl)
     exact Zf rfl
    ·replace h:=Zl h (not_not_intro ((Xk hb13)))
     refine ZK0 (Ze (ZKw ?_))
     refine Yq 13 Yl [0,1,3,7,15,7,39,127,255,511,1023,7,2055,8191,16383,32767,65535] [4,7,9,12] [0,1,2,3,4,5,6,7,8,9,10,11,12] (by kernel_rfl) (by kernel_rfl) (by kernel_rfl) (fun hM11 hM10 w15 hB_=>?_)
     replace hC:=hC.grow hB_
     refine bM 0 (vI (i10:Int)) rfl hM10 (Zc 17 1) (bF 1 (.bool (decide ((i10:Int) > 0))) rfl rfl hM10 (fun _=>by exact Zo1 rfl rfl) (Zc 17 3) (bM 2 (.bool (decide ((i10:Int) > 0))) rfl hM10 (Zc 17 7) ?_))
     refine Y8 (decide ((i10:Int) > 0)) (fun hb10=>?_) (fun hb10=>?_)
     ·replace h:=ift h (ct hb10)
      refine aF 3 (vQ b5) rfl rfl (hM10 3 rfl) (Yj 2 32 rfl rfl hb10) (fun _=>by exact Yr 0 ZK3 rfl sc53.size rfl rfl) (Zc 17 15) (aL 4 (u1_0) rfl rfl (hM11 4 rfl) (Yj 2 32 rfl rfl hb10) (fun _ hB_=>by exact Yg (hC.grow hB_) 1 (u1_0) rfl sc53 rfl rfl) (Zc 17 31) (aF 5 (vI (i10:Int)) rfl rfl (hM10 5 rfl) (Yj 2 32 rfl rfl hb10) (fun _=>by exact Za0 (v:=vI (i10:Int)) rfl) (Zc 17 63) (aF 6 (vI (ZFm.wrap ((i10:Int) - 1))) rfl rfl (hM10 6 rfl) (Yj 2 32 rfl rfl hb10) (fun _=>by exact Zc0 rfl rfl) (Zc 17 127) ?_)))
      obtain ⟨⟨h10,h11⟩,h⟩:=h
      obtain ⟨Ad10,c12,hv11⟩:=Zx (hC.getP 0 rfl) ((ZFm.wrap ((i10:Int) - 1)).toNat) (show (ZFm.wrap ((i10:Int) - 1)).toNat < a1.terms.length by omega)
      refine aL 7 (.pointer (some (Ad10.add ((ZFm.wrap ((i10:Int) - 1)).toNat * 9)))) rfl rfl (hM11 7 rfl) (Yj 2 32 rfl rfl hb10) (fun _ hB_=>by exact Y1 (len:=a1.terms.length) ZK6 ag162.size (by exact tr rfl hv11) rfl h10 h11) (Zc 17 255) (aF 8 (.pointer (some (Ad10.add ((ZFm.wrap ((i10:Int) - 1)).toNat * 9+0)))) rfl rfl (hM10 8 rfl) (Yj 2 32 rfl rfl hb10) (fun _=>by exact Za5 ((ZFm.wrap ((i10:Int) - 1)).toNat * 9+0) ZLb rfl ag136.size rfl rfl) (Zc 17 511) (aL 9 (.agg (ZKu (ZKt .u8 ((a1.terms.getD ((ZFm.wrap ((i10:Int) - 1)).toNat) ZC7).mono)))) rfl rfl (hM11 9 rfl) (Yj 2 32 rfl rfl hb10) (fun _ hB_=>by exact Jm (ZKt .u8 ((a1.terms.getD ((ZFm.wrap ((i10:Int) - 1)).toNat) ZC7).mono)) (J1 (o:=0) (k:=8) (Ye ((hC.grow hB_).getP 0 rfl) hv11 ((ZFm.wrap ((i10:Int) - 1)).toNat) (show (ZFm.wrap ((i10:Int) - 1)).toNat < a1.terms.length by omega)) rfl) ag136 rfl rfl) (Zc 17 1023) (aF 11 (vQ b10) rfl rfl (hM10 11 rfl) (Yj 2 32 rfl rfl hb10) (fun _=>by exact Yr 0 ZLb rfl ag136.size rfl rfl) (Zc 17 3071) (aL 12 (.agg (ZKu (ZKt .u8 ((a1.terms.getD i10 ZC7).mono)))) rfl rfl (hM11 12 rfl) (Yj 2 32 rfl rfl hb10) (fun _ hB_=>by exact Xc (hC.grow hB_) 0 (ZKt .u8 ((a1.terms.getD i10 ZC7).mono)) rfl ag136 rfl rfl rfl) (Zc 17 7167) (aO 10 rfl (Zm 2 32 rfl rfl hb10 ?_))))))
      refine Zg [.agg (ZKu (ZKt .u8 ((a1.terms.getD ((ZFm.wrap ((i10:Int) - 1)).toNat) ZC7).mono)))] _ ZOh rfl rfl rfl (Zjz ((a1.terms.getD ((ZFm.wrap ((i10:Int) - 1)).toNat) ZC7).mono) h _) (fun ret12 w16 hR12=>?_)
      obtain ⟨r11,rfl,h,hB12⟩:=hR12
      refine⟨_,rfl,?_⟩
      replace hC:=hC.grow hB12
      refine done (aK (by assumption) (Zc 17 8191) (Z7 13 (by decide) (by decide) (by kernel_rfl) (by kernel_rfl) rfl (Zm 2 32 rfl rfl hb10 ?_)))
      refine Zg [.agg (ZKu (ZKt .u8 ((a1.terms.getD i10 ZC7).mono)))] _ ZOh rfl rfl rfl (Zjz ((a1.terms.getD i10 ZC7).mono) h _) (fun ret13 w17 hR13=>?_)
      obtain ⟨r12,rfl,h,hB13⟩:=hR13
      refine⟨_,rfl,?_⟩
      replace hC:=hC.grow hB13
      refine Zm 2 32 rfl rfl hb10 ?_
      refine Zg [.agg (ZKu (ZKt .i64 r11)),.agg (ZKu (ZKt .i64 r12))] _ Tryz.func158 rfl rfl rfl (Zu0 r11 r12 h _) (fun ret14 w18 hR14=>?_)
      obtain ⟨r14,rfl,h,hB14⟩:=hR14
      refine⟨_,rfl,?_⟩
      replace hC:=hC.grow hB14
      refine Zm 2 32 rfl rfl hb10 (J7 rfl rfl (Z3 (v:=.bool (decide (r14≥0))) (b:=true) (tr rfl (congrArg _ hb10)) rfl (done (Z8 (Ze ?_)))))
      refine Zs rfl (fun hb14=>?_) (fun hb14=>?_)
      ·replace h:=ift h (ct hb14)
       refine sr (Zd (v:=.bool false) rfl (dn ?_))
       refine ZK4 (Z9 (Zn (Zn (Z9 (Zn ?_)))))
       refine Zi (fn:=ZN7) rfl ?_ ⟨false,rfl,h,hC.below⟩ (.inl rfl)
       exact Zf rfl
      ·replace h:=Zl h (cf hb14)
       refine ZK0 (Zr (Ze (Zh (Zq rfl rfl (Za (v:=vI (ZFm.wrap ((i10:Int)+1))) rfl (done ?_))))))
       exact hK10 () _ _ ⟨(sl ⟨rfl,rfl,rfl,rfl,(tr rfl (congrArg _ (Z5 hi10 hN10))),trivial⟩),(hC.xM [1] rfl)⟩ h
     ·replace h:=Zl h (cf hb10)
      refine Zw Zz 3 undef rfl rfl (by kernel_rfl) (hM10 3 rfl) (fun w_=>.inr ⟨Yf (b:=false) 2 32 rfl (tr rfl (congrArg _ hb10)) (by decide),rfl⟩) (l9:=(Zc 17 15)) (by kernel_rfl) (Zw Zz 4 undef rfl rfl (by kernel_rfl) (hM10 4 rfl) (fun w_=>.inr ⟨Yf (b:=false) 2 32 rfl (tr rfl (congrArg _ hb10)) (by decide),rfl⟩) (l9:=(Zc 17 31)) (by kernel_rfl) (Zw Zz 5 undef rfl rfl (by kernel_rfl) (hM10 5 rfl) (fun w_=>.inr ⟨Yf (b:=false) 2 32 rfl (tr rfl (congrArg _ hb10)) (by decide),rfl⟩) (l9:=(Zc 17 63)) (by kernel_rfl) (Zw Zz 6 undef rfl rfl (by kernel_rfl) (hM10 6 rfl) (fun w_=>.inr ⟨Yf (b:=false) 2 32 rfl (tr rfl (congrArg _ hb10)) (by decide),rfl⟩) (l9:=(Zc 17 127)) (by kernel_rfl) (Zw Zz 7 undef rfl rfl (by kernel_rfl) (hM10 7 rfl) (fun w_=>.inr ⟨Yf (b:=false) 2 32 rfl (tr rfl (congrArg _ hb10)) (by decide),rfl⟩) (l9:=(Zc 17 255)) (by kernel_rfl) (Zw Zz 8 undef rfl rfl (by kernel_rfl) (hM10 8 rfl) (fun w_=>.inr ⟨Yf (b:=false) 2 32 rfl (tr rfl (congrArg _ hb10)) (by decide),rfl⟩) (l9:=(Zc 17 511)) (by kernel_rfl) (Zw Zz 9 undef rfl rfl (by kernel_rfl) (hM10 9 rfl) (fun w_=>.inr ⟨Yf (b:=false) 2 32 rfl (tr rfl (congrArg _ hb10)) (by decide),rfl⟩) (l9:=(Zc 17 1023)) (by kernel_rfl) (Zw Zz 10 undef rfl rfl (by kernel_rfl) (hM10 10 rfl) (fun w_=>.inr ⟨Yf (b:=false) 2 32 rfl (tr rfl (congrArg _ hb10)) (by decide),rfl⟩) (l9:=(Zc 17 2047)) (by kernel_rfl) ?_)))))))
      refine Zw Zz 11 undef rfl rfl (by kernel_rfl) (hM10 11 rfl) (fun w_=>.inr ⟨Yf (b:=false) 2 32 rfl (tr rfl (congrArg _ hb10)) (by decide),rfl⟩) (l9:=(Zc 17 4095)) (by kernel_rfl) (Zw Zz 12 undef rfl rfl (by kernel_rfl) (hM10 12 rfl) (fun w_=>.inr ⟨Yf (b:=false) 2 32 rfl (tr rfl (congrArg _ hb10)) (by decide),rfl⟩) (l9:=(Zc 17 8191)) (by kernel_rfl) (Z7 13 (by decide) (by decide) (by kernel_rfl) (by kernel_rfl) rfl (Zk (b:=false) 2 32 rfl (tr rfl (congrArg _ hb10)) (by decide) (Zk (b:=false) 2 32 rfl (tr rfl (congrArg _ hb10)) (by decide) (Zk (b:=false) 2 32 rfl (tr rfl (congrArg _ hb10)) (by decide) (Z3 (v:=.bool false) (b:=false) (tr rfl (congrArg _ hb10)) rfl (done (Z8 (Ze (Z2 rfl rfl (ZK0 ?_)))))))))))
      refine Zr (Ze (Zh (Zq rfl rfl (Za (v:=vI (ZFm.wrap ((i10:Int)+1))) rfl (done ?_)))))
      exact hK10 () _ _ ⟨(sl ⟨rfl,rfl,rfl,rfl,(tr rfl (congrArg _ (Z5 hi10 hN10))),trivial⟩),(hC.xM [1] rfl)⟩ h
  ·clear hC h
   rintro s10 e_ w19 K10 ⟨hS_,hC⟩ h
   rw [ue hS_]
   refine sr (Zp rfl rfl (dn (ZKw (Z2 rfl (decide_eq_false (by omega)) ?_))))
   refine ZLa (Zj (Zj (Z0 ?_)))
   refine Ze (sr (Zd (v:=.bool true) rfl (dn (ZK4 ?_))))
   refine Zi (fn:=ZN7) rfl ?_ ⟨true,rfl,h,hC.below⟩ (.inl rfl)
   exact Zf rfl
  ·skip
   exact⟨(sl ⟨rfl,rfl,rfl,rfl,rfl,trivial⟩),hC⟩
def Zg9 (a0:A8) (a1:List Int) (K:Int→Prop):Prop :=
 Yc (fun i10 (s10:Int) nx10=>((0≤(i10:Int)∧(i10:Int) < 8)∧nx10 (ZFm.wrap (s10+(ZFm.wrap ((a1.getD i10 ZC7) * (a0.get i10))))))) (fun (s10:Int)=>K s10) a1.length 0 0
theorem Zu6 (a0:A8) (a1:List Int)  {K:Int→Prop} (h:Zg9 a0 a1 K) (w0:World) (q1:ZNz.rep a1 [u1_0] fp1 w0) :
  Calls ZKz 183 #[.agg (ZKu (ZKt .i64 a0)),u1_0] w0 fun e w'=>∃ (r0:Int),
   e=.returned (vI r0)∧K r0∧Bel w0 w':=by
 unfold Zg9 at h
 refine cof Tryz.func183 rfl 24 Tryz.ntmps183 ?_
 have hC:=ZLh (X:=Nox) w0 [ZKv TInts a1 [u1_0] fp1] (al1 q1)
 refine sr (Yi (v:=.agg (ZKu (ZKt .i64 a0))) hC (ZKt .i64 a0) rfl rfl fun b2 w4 hB_ hC=>Zd (v:=vI 0) rfl (dn (sr (Zd (v:=vI 0) rfl (dn (ZKw (sr (Za (v:=u1_0) rfl ?_))))))))
 obtain ⟨Ad5,c6,hv7⟩:=Zu (hC.getP 0 rfl)
 refine Zt ZLf (tr rfl hv7) (Za (v:=vI 0) rfl (dn (ZK2 ?_)))
 have hN10:a1.length≤9223372036854775807:=Y2 (hC.getP 0 rfl)
 refine Yk (S:=Int) _ _ (fun i10 s10 e_ w_=>Zv e_ [(2,vQ b2),(5,vI s10),(8,u1_0),(9,vI (a1.length:Int)),(10,vI (i10:Int))]∧Ctx Nox w0 w_ [blk b2 73 (ZKt .i64 a0)] [ZKv TInts a1 [u1_0] fp1]) a1.length ?_ ?_ (s0:=0) ?_ h
 ·clear hC h
  rintro i10 s10 e_ w10 nx10 K10 hi10 ⟨hS_,hC⟩ h hK10
  rw [ue hS_]
  refine sr (Zp rfl rfl (dn (ZKw (Z6 rfl (decide_eq_true (by omega)) (ZK0 (Ze (ZKw (ZK2 (sr (Za (v:=vI (i10:Int)) rfl ?_))))))))))
  obtain ⟨Ad10,c10,hv10⟩:=Zx (hC.getP 0 rfl) i10 hi10
  refine Yn (len:=a1.length) ZLf sc2.size (tr rfl hv10) rfl (ZLc _) (ZLv.2 hi10) (Yo (vI (a1.getD i10 ZC7)) (Ye (hC.getP 0 rfl) hv10 i10 hi10) sc2 rfl (Zd (v:=vI (i10:Int)) rfl (Zd (v:=vI (a1.getD i10 ZC7)) rfl (dn (Zh (Za (v:=vI s10) rfl (Za (v:=vI (a1.getD i10 ZC7)) rfl (Za (v:=vI (i10:Int)) rfl ?_))))))))
  obtain ⟨⟨h10,h11⟩,h⟩:=h
  refine Xx i10 ZLj sc3.size rfl rfl h10 h11 (by omega) (Yb hC 0 (vI (a0.get i10)) rfl sc3 rfl (ZK9 _ _ (show i10 < 8 by omega)) (Zao rfl rfl (Zq rfl rfl (Zd (v:=vI (ZFm.wrap (s10+(ZFm.wrap ((a1.getD i10 ZC7) * (a0.get i10)))))) rfl (done (Zr (Ze (Zh (Zq rfl rfl (Za (v:=vI (ZFm.wrap ((i10:Int)+1))) rfl (done ?_)))))))))))
  exact hK10 (ZFm.wrap (s10+(ZFm.wrap ((a1.getD i10 ZC7) * (a0.get i10))))) _ _ ⟨(sl ⟨rfl,rfl,rfl,rfl,(tr rfl (congrArg _ (Z5 hi10 hN10))),trivial⟩),hC⟩ h
 ·clear hC h
  rintro s10 e_ w11 K10 ⟨hS_,hC⟩ h
  rw [ue hS_]
  refine sr (Zp rfl rfl (dn (ZKw (Z2 rfl (decide_eq_false (by omega)) ?_))))
  refine ZLa (Zj (Zj (Z0 ?_)))
  refine Ze (sr (Za (v:=vI s10) rfl (Zd (v:=vI s10) rfl (dn (ZK4 ?_)))))
  refine Zi (fn:=Tryz.f183) rfl ?_ ⟨s10,rfl,h,hC.below⟩ (.inl rfl)
  exact Zf rfl
 ·skip
  exact⟨(sl ⟨rfl,rfl,rfl,rfl,rfl,trivial⟩),hC⟩
def Zha (a0:List Int) (a1:ZKy) (K:Int→Bool→Prop):Prop :=
 Yc (fun i10 (s10:Int) nx10=>Zdx ((a1.terms.getD i10 ZC7).mono) (fun r11=>Zg9 r11 a0 (fun r10=>(if s10≥0 then(if r10≠s10 then K 0 false else nx10 r10) else nx10 r10)))) (fun (s10:Int)=>K s10 true) a1.terms.length 0 (-1)
theorem Zu7 (a0:List Int) (a1:ZKy)  {K:Int→Bool→Prop} (h:Zha a0 a1 K) (w0:World) (q0:ZNz.rep a0 [u0_0] fp0 w0) (q1:ZLi.rep a1 [u1_0] fp1 w0) :
  Calls ZKz 132 #[u0_0,.agg #[u1_0]] w0 fun e w'=>∃ (r0:Int) (r1:Bool),
   e=.returned (.tuple #[vI r0,.bool r1])∧K r0 r1∧Bel w0 w':=by
 unfold Zha at h
 refine cof Tryz.func132 rfl 32 Tryz.ntmps132 ?_
 have hC:=ZLh (X:=Nox) w0 [ZKv TInts a0 [u0_0] fp0,ZKv TForm a1 [u1_0] fp1] (alc q0 (al1 q1))
 have hp3:=(hC.getP 1 rfl)
 replace hC:=hC.derive 1 rfl (ZKv ZKx.ty.sl a1.terms [u1_0] fp1) (fun _=>(Xm hp3)) (fun _ hb_=>hb_)
 refine sr (Yi (v:=.agg #[u1_0]) hC [u1_0] rfl rfl fun b5 w7 hB_ hC=>Zd (v:=vI 0) rfl (Zd (v:=.bool false) rfl (dn (sr (Zd (v:=vI (-1)) rfl (dn (ZKw (sr (Z1 0 ZK3 rfl sc53.size rfl rfl (Yb hC 0 (u1_0) rfl sc53 rfl rfl ?_))))))))))
 obtain ⟨Ad8,c9,hv11⟩:=Zu (hC.getP 0 rfl)
 refine Zt ZK6 (tr rfl hv11) (Za (v:=vI 0) rfl (dn (ZK2 ?_)))
 have hN10:a1.terms.length≤9223372036854775807:=Y2 (hC.getP 0 rfl)
 refine Yk (S:=Int) _ _ (fun i10 s10 e_ w_=>Zv e_ [(0,u0_0),(6,vI s10),(11,u1_0),(12,vI (a1.terms.length:Int)),(13,vI (i10:Int))]∧Ctx Nox w0 w_ [] [ZKv ZKx.ty.sl a1.terms [u1_0] fp1,ZKv TInts a0 [u0_0] fp0,ZKv TForm a1 [u1_0] fp1]) a1.terms.length ?_ ?_ (s0:=(-1)) ?_ h
 ·clear hC h
  rintro i10 s10 e_ w10 nx10 K10 hi10 ⟨hS_,hC⟩ h hK10
  rw [ue hS_]
  refine sr (Zp rfl rfl (dn (ZKw (Z6 rfl (decide_eq_true (by omega)) (ZK0 (Ze (ZKw (ZK2 (sr ?_)))))))))
  obtain ⟨Ad10,c10,hv10⟩:=Zx (hC.getP 0 rfl) i10 hi10
  refine Yn (len:=a1.terms.length) ZK6 ag162.size (tr rfl hv10) rfl (ZLc _) (ZLv.2 hi10) (Ji (ZK7 (a1.terms.getD i10 ZC7)) (Ye (hC.getP 0 rfl) hv10 i10 hi10) ag162 rfl rfl (Ys hC (ZK7 (⟨ZK1,0⟩:Term)) Zfl rfl fun b10 w11 hB_ hC=>Z4 (v:=.agg (ZKu (ZK7 (a1.terms.getD i10 ZC7)))) hC 0 (ZK7 (a1.terms.getD i10 ZC7)) (ZK7 (a1.terms.getD i10 ZC7)) rfl ag162.size rfl rfl rfl rfl rfl (ZK5 rfl) rfl fun w12 hC=>dn (sr (Z1 0 ZLb rfl ag136.size rfl rfl (Yw hC 0 (ZKt .u8 ((a1.terms.getD i10 ZC7).mono)) rfl ag136 rfl rfl rfl ?_)))))
  refine Zg [.agg (ZKu (ZKt .u8 ((a1.terms.getD i10 ZC7).mono)))] _ ZOh rfl rfl rfl (Zjz ((a1.terms.getD i10 ZC7).mono) h _) (fun ret10 w13 hR10=>?_)
  obtain ⟨r11,rfl,h,hB10⟩:=hR10
  refine⟨_,rfl,?_⟩
  replace hC:=hC.grow hB10
  refine Za (v:=u0_0) rfl ?_
  refine Zg [.agg (ZKu (ZKt .i64 r11)),u0_0] _ Tryz.func183 rfl rfl rfl (Zu6 r11 a0 h _ (hC.getP 1 rfl)) (fun ret11 w14 hR11=>?_)
  obtain ⟨r10,rfl,h,hB11⟩:=hR11
  refine⟨_,rfl,?_⟩
  replace hC:=hC.grow hB11
  refine Zd (v:=vI r10) rfl (dn (ZKw (sr (Za (v:=vI s10) rfl (J7 rfl rfl (Za (v:=.bool (decide (s10≥0))) rfl ?_))))))
  refine Y8 (decide (s10≥0)) (fun hb10=>?_) (fun hb10=>?_)
  ·replace h:=ift h (ct hb10)
   refine Zm 2 24 rfl rfl hb10 (Za (v:=vI r10) rfl (Zm 2 24 rfl rfl hb10 (Za (v:=vI s10) rfl (Zm 2 24 rfl rfl hb10 (Y5 rfl rfl (Z3 (v:=.bool (decide (r10≠s10))) (b:=true) (tr rfl (congrArg _ hb10)) rfl (dn ?_)))))))
   refine Zs rfl (fun hb11=>?_) (fun hb11=>?_)
   ·replace h:=ift h (ct hb11)
    refine sr (Zd (v:=vI 0) rfl (Zd (v:=.bool false) rfl (dn ?_)))
    refine ZK4 (Zn (Z9 (Zn (Zn (Z9 (Zn ?_))))))
    refine Y7 (fn:=Tryz.f132) rfl ?_ ?_ ⟨0,false,rfl,h,hC.below⟩ (.inl rfl)
    ·exact Zf rfl
    ·exact Zf rfl
   ·replace h:=Zl h (cf hb11)
    refine ZK0 (Ze (Zh (Za (v:=vI r10) rfl (Zd (v:=vI r10) rfl (done (Zr (Ze (Zh (Zq rfl rfl (Za (v:=vI (ZFm.wrap ((i10:Int)+1))) rfl (done ?_)))))))))))
    exact hK10 r10 _ _ ⟨(sl ⟨rfl,rfl,rfl,rfl,(tr rfl (congrArg _ (Z5 hi10 hN10))),trivial⟩),(hC.xM [] rfl)⟩ h
  ·replace h:=Zl h (cf hb10)
   refine Zk (b:=false) 2 24 rfl (tr rfl (congrArg _ hb10)) (by decide) (Zk (b:=false) 2 24 rfl (tr rfl (congrArg _ hb10)) (by decide) (Zk (b:=false) 2 24 rfl (tr rfl (congrArg _ hb10)) (by decide) (Z3 (v:=.bool false) (b:=false) (tr rfl (congrArg _ hb10)) rfl (dn (Z2 rfl rfl (ZK0 (Ze (Zh (Za (v:=vI r10) rfl (Zd (v:=vI r10) rfl (done ?_)))))))))))
   refine Zr (Ze (Zh (Zq rfl rfl (Za (v:=vI (ZFm.wrap ((i10:Int)+1))) rfl (done ?_)))))
   exact hK10 r10 _ _ ⟨(sl ⟨rfl,rfl,rfl,rfl,(tr rfl (congrArg _ (Z5 hi10 hN10))),trivial⟩),(hC.xM [] rfl)⟩ h
 ·clear hC h
  rintro s10 e_ w15 K10 ⟨hS_,hC⟩ h
  rw [ue hS_]
  refine sr (Zp rfl rfl (dn (ZKw (Z2 rfl (decide_eq_false (by omega)) ?_))))
  refine ZLa (Zj (Zj (Z0 ?_)))
  refine Ze (sr (Za (v:=vI s10) rfl (Zd (v:=vI s10) rfl (Zd (v:=.bool true) rfl (dn (ZK4 ?_))))))
  refine Y7 (fn:=Tryz.f132) rfl ?_ ?_ ⟨s10,true,rfl,h,hC.below⟩ (.inl rfl)
  ·exact Zf rfl
  ·exact Zf rfl
 ·skip
  exact⟨(sl ⟨rfl,rfl,rfl,rfl,rfl,trivial⟩),(hC.xM [] rfl)⟩
def Zhb (a0:List Int) (a1:ZKy) (a2:Int) (K:Bool→Prop):Prop :=
 Zha a0 a1 (fun r10 r11=>(if r11=true then(if r10=(-1) then K true else K (decide (r10=a2))) else K false))
theorem Zu8 (a0:List Int) (a1:ZKy) (a2:Int)  {K:Bool→Prop} (h:Zhb a0 a1 a2 K) (w0:World) (q0:ZNz.rep a0 [u0_0] fp0 w0) (q1:ZLi.rep a1 [u1_0] fp1 w0) :
  Calls ZKz 152 #[u0_0,.agg #[u1_0],vI a2] w0 fun e w'=>∃ (r0:Bool),
   e=.returned (.bool r0)∧K r0∧Bel w0 w':=by
 unfold Zhb at h
 refine cof Tryz.func152 rfl 25 Tryz.ntmps152 ?_
 have hC:=ZLh (X:=Nox) w0 [ZKv TInts a0 [u0_0] fp0,ZKv TForm a1 [u1_0] fp1] (alc q0 (al1 q1))
 have hp3:=(hC.getP 1 rfl)
 replace hC:=hC.derive 1 rfl (ZKv ZKx.ty.sl a1.terms [u1_0] fp1) (fun _=>(Xm hp3)) (fun _ hb_=>hb_)
 refine sr (Yi (v:=.agg #[u1_0]) hC [u1_0] rfl rfl fun b5 w7 hB_ hC=>Zd (v:=.bool false) rfl (dn (sr (Za (v:=u0_0) rfl (Yw hC 0 [u1_0] rfl ag55 rfl rfl rfl ?_)))))
 refine Zg [u0_0,.agg #[u1_0]] _ Tryz.func132 rfl rfl rfl (Zu7 a0 a1 h _ (hC.getP 1 rfl) (Y3 (hC.getP 0 rfl))) (fun ret8 w10 hR9=>?_)
 obtain ⟨r10,r11,rfl,h,hB10⟩:=hR9
 refine⟨_,rfl,?_⟩
 replace hC:=hC.grow hB10
 refine Za (v:=.tuple #[vI r10,.bool r11]) rfl (Ym (v:=vI r10) rfl rfl (Ym (v:=.bool r11) rfl rfl (Zd (v:=vI r10) rfl (Zd (v:=.bool r11) rfl (dn (sr (Za (v:=.bool r11) rfl (Za (v:=.bool r11) rfl ?_))))))))
 refine Y8 r11 (fun hb10=>?_) (fun hb10=>?_)
 ·replace h:=ift h (hb10)
  refine Zm 1 16 rfl rfl hb10 (Za (v:=vI r10) rfl (Zm 1 16 rfl rfl hb10 (Xu rfl rfl (Zm 1 16 rfl rfl hb10 (Za (v:=.bool (decide (r10=(-1)))) rfl ?_)))))
  refine Y8 (decide (r10=(-1))) (fun hb11=>?_) (fun hb11=>?_)
  ·replace h:=ift h (ct hb11)
   refine Zk (b:=true) 4 19 rfl (tr rfl (congrArg _ hb11)) (by decide) (Zk (b:=true) 4 19 rfl (tr rfl (congrArg _ hb11)) (by decide) (Zk (b:=true) 4 19 rfl (tr rfl (congrArg _ hb11)) (by decide) (Zm 1 16 rfl rfl hb10 (Z3 (v:=.bool true) (b:=true) (tr rfl (congrArg _ hb11)) rfl (Z3 (v:=.bool true) (b:=true) (tr rfl (congrArg _ hb10)) rfl (Zd (v:=.bool true) rfl (dn (ZK4 ?_))))))))
   refine Zi (fn:=Tryz.f152) rfl ?_ ⟨true,rfl,h,hC.below⟩ (.inl rfl)
   exact Zf rfl
  ·replace h:=Zl h (cf hb11)
   refine Zm 4 19 rfl rfl hb11 (Za (v:=vI r10) rfl (Zm 4 19 rfl rfl hb11 (Za (v:=vI a2) rfl (Zm 4 19 rfl rfl hb11 (Xu rfl rfl (Zm 1 16 rfl rfl hb10 (Z3 (v:=.bool (decide (r10=a2))) (b:=false) (tr rfl (congrArg _ hb11)) rfl (Z3 (v:=.bool (decide (r10=a2))) (b:=true) (tr rfl (congrArg _ hb10)) rfl (Zd (v:=.bool (decide (r10=a2))) rfl (dn (ZK4 ?_)))))))))))
   refine Zi (fn:=Tryz.f152) rfl ?_ ⟨decide (r10=a2),rfl,h,hC.below⟩ (.inl rfl)
   exact Zf rfl
 ·replace h:=Zl h (Y4 hb10)
  refine Zk (b:=false) 1 16 rfl (tr rfl (congrArg _ hb10)) (by decide) (Zk (b:=false) 1 16 rfl (tr rfl (congrArg _ hb10)) (by decide) (Zk (b:=false) 1 16 rfl (tr rfl (congrArg _ hb10)) (by decide) (Jr 4 19 rfl rfl (Jr 4 19 rfl rfl (Jr 4 19 rfl rfl (Zk (b:=false) 1 16 rfl (tr rfl (congrArg _ hb10)) (by decide) (Z3 (v:=.bool false) (b:=false) (tr rfl (congrArg _ hb10)) rfl (Zd (v:=.bool false) rfl (dn (ZK4 ?_))))))))))
  refine Zi (fn:=Tryz.f152) rfl ?_ ⟨false,rfl,h,hC.below⟩ (.inl rfl)
  exact Zf rfl
def Zhc (a0:Alg) (K:List (Option (List (A8×Int)))→Prop):Prop :=
 Yc (fun i10 (s10:(List (Option (List (A8×Int))))) nx10=>Zei (a0.images.getD i10 ZC7) (fun r10=>((0≤(i10:Int)∧(i10:Int) < 8)∧nx10 (s10.set i10 (some r10))))) (fun (s10:(List (Option (List (A8×Int)))))=>K s10) a0.images.length 0 (ZC2 8 none:List (Option (List (A8×Int))))
theorem Zu9 (a0:Alg)  {K:List (Option (List (A8×Int)))→Prop} (h:Zhc a0 K) (w0:World) (q0:TAlg.rep a0 [u0_0,u0_1] fp0 w0) (qb0:(blk b0 32 [u0_0,u0_1]).holds w0) :
  Calls ZKz 191 #[vQ b0] w0 fun e w'=>∃ (r0:List (Option (List (A8×Int)))) (zc0:List Value) (fz0:List Nat),
   e=.returned (.agg (ZKu zc0))∧K r0∧(Zaa (kvA .i64) (vvI .i64) 8).rep r0 zc0 fz0 w'∧(∀ b,b∈fz0→w0.heap.size≤b)∧Bel w0 w':=by
 unfold Zhc at h
 refine cof Tryz.func191 rfl 23 Tryz.ntmps191 ?_
 have hC:=ZLh (X:=Nox) w0 [ZKv TAlg a0 [u0_0,u0_1] fp0,blk b0 32 [u0_0,u0_1]] (alc q0 (al1 qb0))
 replace hC:=hC.dAlg 0 rfl
 refine sr (Ys hC (ZC2 8 (ZNy none)) Zmn rfl fun b5 w7 hB_ hC=>dn (sr (J0 (v:=.agg (ZKu (ZC2 8 (ZNy none)))) [] rfl (Zut _) (Ys hC (ZC2 8 (ZNy none)) Zmn rfl fun b8 w10 hB_ hC=>?_))))
 replace hC:=hC.pushE (ZKv (Zaa (kvA .i64) (vvI .i64) 8) (ZC2 8 none:List (Option (List (A8×Int)))) (ZC2 8 (ZNy none)) []) (Zjx (kvA .i64) (vvI .i64) 8 _) rfl
 replace hC:=hC.pushE (ZKv (Zaa (kvA .i64) (vvI .i64) 8) (ZC2 8 none:List (Option (List (A8×Int)))) (ZC2 8 (ZNy none)) []) (Zjx (kvA .i64) (vvI .i64) 8 _) rfl
 have hl10:=Zc6 (hC.getP 1 rfl)
 have hl11:=Zc6 (hC.getP 0 rfl)
 refine Z4 (v:=.agg (ZKu (ZC2 8 (ZNy none)))) hC 0 (ZC2 8 (ZNy none)) (ZC2 8 (ZNy none)) rfl ag211.size rfl rfl rfl hl11 (Zmj (hC.getP 0 rfl)) (by rw [hl10]; exact ZC6 _) (Zmk (hl11.trans hl10.symm)) fun w11 hC=>dn (ZKw (sr (Za (v:=vQ b0) rfl (Xl rfl (Z1 1 ZLg rfl sc30.size rfl rfl (Zce (u0_1) (hC.getP 5 rfl) sc30 rfl rfl ?_))))))
 obtain ⟨Ad10,c10,hv11⟩:=Zu (hC.getP 2 rfl)
 refine Zt ZLk (tr rfl hv11) (Za (v:=vI 0) rfl (dn (ZK2 ?_)))
 have hN10:a0.images.length≤9223372036854775807:=Y2 (hC.getP 2 rfl)
 refine Yk (S:=(List (Option (List (A8×Int))))) _ _ (fun i10 s10 e_ w_=>∃ (v10:List Value),∃ (f10:List Nat),Zv e_ [(2,vQ b5),(3,vQ b8),(10,u0_1),(11,vI (a0.images.length:Int)),(12,vI (i10:Int))]∧(∀ b,b∈f10→w0.heap.size≤b)∧Ctx Nox w0 w_ [blk b8 211 v10,blk b5 211 (ZC2 8 (ZNy none))] [ZKv (Zaa (kvA .i64) (vvI .i64) 8) s10 v10 f10,ZKv ZLi.sl a0.images [u0_1] fp0,ZKv TInts a0.degrees [u0_0] fp0,ZKv TAlg a0 [u0_0,u0_1] fp0,blk b0 32 [u0_0,u0_1]]) a0.images.length ?_ ?_ (s0:=(ZC2 8 none:List (Option (List (A8×Int))))) ?_ h
 ·clear hC h
  rintro i10 s10 e_ w12 nx10 K10 hi10 ⟨v10,f10,hS_,hq10,hC⟩ h hK10
  rw [ue hS_]
  refine sr (Zp rfl rfl (dn (ZKw (Z6 rfl (decide_eq_true (by omega)) (ZK0 (Ze (ZKw (ZK2 (sr (Za (v:=vI (i10:Int)) rfl ?_))))))))))
  obtain ⟨Ad11,c11,hv10⟩:=Zx (hC.getP 1 rfl) i10 hi10
  refine Yn (len:=a0.images.length) ZLk ag55.size (tr rfl hv10) rfl (ZLc _) (ZLv.2 hi10) ?_
  obtain ⟨cs_,hl12,hc10,hr10⟩:=Xh (hC.getP 1 rfl) hv10 i10 hi10
  obtain ⟨u10,rfl⟩:=ZLt.1 hl12
  clear hl12
  rw [Xg _ _ hi10] at hr10
  have hp10:=hr10
  replace hC:=hC.derive 1 rfl (ZKv ZKx.ty.sl ((a0.images.getD i10 ZC7).terms) [u10] fp0) (fun _=>(Xm hp10)) (fun _ hb_=>hb_)
  refine Ji [u10] hc10 ag55 rfl rfl (Ys hC [.slice none 0 0] z55 rfl fun b11 w13 hB_ hC=>Zd (v:=vI (i10:Int)) rfl (Z4 (v:=.agg #[u10]) hC 0 [u10] [u10] rfl ag55.size rfl rfl rfl rfl (Xr (Zdq (hC.getP 0 rfl)) rfl) (ZK5 rfl) rfl fun w14 hC=>dn (Zh (Za (v:=vI (i10:Int)) rfl (Yw hC 0 [u10] rfl ag55 rfl rfl rfl ?_)))))
  refine Zg [.agg #[u10]] _ Tryz.func78 rfl rfl rfl (Zmt (a0.images.getD i10 ZC7) h _ (Y3 (hC.getP 0 rfl))) (fun ret10 w15 hR10=>?_)
  obtain ⟨r10,b10,rfl,h,hr11,hf10,hB10⟩:=hR10
  refine⟨_,rfl,?_⟩
  replace hC:=hC.push hB10 (mapS b10 r10) hr11 (fun b_ hb_=>by obtain rfl:=ZEf.1 hb_; exact hf10)
  obtain ⟨⟨h10,h11⟩,h⟩:=h
  refine Xx i10 Tryz.underlying211 sc115.size rfl rfl h10 h11 (by omega) ?_
  have hf11:=Zgn hC 0 rfl
  replace hC:=hC.thaw 0 rfl (mapS b10 r10) id (fun _ hb_=>hb_)
  replace hC:=hC.joinP 0 2 rfl rfl (ZKv (Zaa (kvA .i64) (vvI .i64) 8) (s10.set i10 (some r10)) (v10.set i10 (ZNy (some b10))) (b10::f10)) (fun a_ b_=>Zug b_ a_) (fun c_ hc_=>(ZC3.1 hc_).elim (fun h_=>.inl (by rw [h_]; exact ZEf.2 rfl)) .inr)
  have hs10:∀ b,b∈(b10::f10)→w0.heap.size≤b:=(fun b hb=>(ZC3.1 hb).elim (fun h_=>by rw [h_]; exact hf11) (fun hb=>hq10 b hb))
  have hl13:=Zc6 (hC.getP 3 rfl)
  refine Z4 (v:=.map (some b10)) hC 1 [.map (some b10)] (v10.set i10 (ZNy (some b10))) rfl sc115.size rfl rfl rfl rfl rfl (by rw [hl13]; omega) (Zpw (by rw [hl13]; omega) (by omega)) fun w16 hC=>done (Zr (Ze (Zh (Zq rfl rfl (Za (v:=vI (ZFm.wrap ((i10:Int)+1))) rfl (done ?_))))))
  exact hK10 (s10.set i10 (some r10)) _ _ ⟨v10.set i10 (ZNy (some b10)),(b10::f10),(sl ⟨rfl,rfl,rfl,rfl,(tr rfl (congrArg _ (Z5 hi10 hN10))),trivial⟩),hs10,((hC.xM [1,2] rfl).sP [0,4,5,6,7] rfl)⟩ h
 ·clear hC h
  rintro s10 e_ w17 K10 ⟨v10,f10,hS_,hq10,hC⟩ h
  rw [ue hS_]
  refine sr (Zp rfl rfl (dn (ZKw (Z2 rfl (decide_eq_false (by omega)) ?_))))
  refine ZLa (Zj (Zj (Z0 ?_)))
  refine Ze (sr ?_)
  have hl14:=Zc6 (hC.getP 0 rfl)
  refine Yw hC 0 v10 rfl ag211 rfl (Zui hl14) hl14 ?_
  replace hC:=hC.pushE (ZKv (Zaa (kvA .i64) (vvI .i64) 8) (ZC2 8 none:List (Option (List (A8×Int)))) (ZC2 8 (ZNy none)) []) (Zjx (kvA .i64) (vvI .i64) 8 _) rfl
  have hl15:=Zc6 (hC.getP 0 rfl)
  have hl16:=Zc6 (hC.getP 1 rfl)
  refine Z4 (v:=.agg (ZKu v10)) hC 1 v10 v10 rfl ag211.size rfl rfl rfl hl16 (Zmj (hC.getP 1 rfl)) (by rw [hl15]; exact ZC6 _) (Zmk (hl16.trans hl15.symm)) fun w18 hC=>dn (ZK4 ?_)
  refine Zi (fn:=Tryz.f191) rfl ?_ ⟨s10,v10,f10,rfl,h,(hC.getP 1 rfl),(fun b hb=>hq10 b hb),hC.below⟩ (.inl rfl)
  exact J8 hC 1 rfl ag211 rfl (Zc6 (hC.getP 1 rfl))
 ·skip
  exact⟨ZC2 8 (ZNy none),[],(sl ⟨rfl,rfl,rfl,rfl,rfl,trivial⟩),(fun b hb=>absurd hb (by simp)),(hC.sP [0,2,3,4,5] rfl)⟩
def Zdz (a0:Alg) (a1:List (A8×Int)) (K:List (A8×Int)→Prop):Prop :=
 Zhc a0 (fun r11=>Zb1 (fun (q10:A8×Int) (s12:(List (A8×Int))) nx11=>Yc (fun i10 (s10:A8×(List (A8×Int))×Int) nx10=>(if q10.1.get i10 > 0 then X5 (fun (s11:A8×Int) nx12=>(if s11.2 < ZFm.wrap ((i10:Int)+1) then((0≤s11.2∧s11.2 < 8)∧nx12 (s11.1.set s11.2.toNat 0,ZFm.wrap (s11.2+1))) else(∃ ml10,r11[i10]? = some (some ml10)∧Zck (Yt ([]:List (A8×Int)) (s10.1.set i10 (ZFm.wrap ((q10.1.get i10) - 1))) 1) a0.degrees ml10 (fun r13=>Zck r13 a0.degrees (Yt ([]:List (A8×Int)) s11.1 1) (fun r14=>Zc9 (ZFm.wrap ((ZFm.wrap (s10.2.2 * q10.2)) * (q10.1.get i10))) (fun r12=>Zej s10.2.1 r14 r12 (fun m10=>(if(i10:Int) < (a0.degrees.length:Int) then((0≤(i10:Int)∧(i10:Int) < (a0.degrees.length:Int))∧(if ZDy (a0.degrees.getD i10 ZC7) 2=1 then(if ZDy (q10.1.get i10) 2=1 then nx10 (s10.1.set i10 (q10.1.get i10),m10,ZFm.wrap (0 - s10.2.2)) else nx10 (s10.1.set i10 (q10.1.get i10),m10,s10.2.2)) else nx10 (s10.1.set i10 (q10.1.get i10),m10,s10.2.2))) else nx10 (s10.1.set i10 (q10.1.get i10),m10,s10.2.2))))))))) (q10.1,0) else(if(i10:Int) < (a0.degrees.length:Int) then((0≤(i10:Int)∧(i10:Int) < (a0.degrees.length:Int))∧(if ZDy (a0.degrees.getD i10 ZC7) 2=1 then(if ZDy (q10.1.get i10) 2=1 then nx10 (s10.1.set i10 (q10.1.get i10),s10.2.1,ZFm.wrap (0 - s10.2.2)) else nx10 (s10.1.set i10 (q10.1.get i10),s10.2.1,s10.2.2)) else nx10 (s10.1.set i10 (q10.1.get i10),s10.2.1,s10.2.2))) else nx10 (s10.1.set i10 (q10.1.get i10),s10.2.1,s10.2.2)))) (fun (s10:A8×(List (A8×Int))×Int)=>nx11 s10.2.1) 8 0 (ZK1,s12,1)) (fun (s12:(List (A8×Int)))=>K s12) a1.length a1 ([]:List (A8×Int)))
theorem Zmu (a0 : Alg) (a1 : List (A8 × Int))  {K : List (A8 × Int) → Prop} (h : Zdz a0 a1 K) (w0 : World) (q0 : TAlg.rep a0 [u0_0, u0_1] fp0 w0) (qb0 : (blk b0 32 [u0_0, u0_1]).holds w0) (q1 : (mapS b1 a1).holds w0) :
  Calls ZKz 154 #[vQ b0,.map (some b1)] w0 fun e w'=>∃ (r0:List (A8×Int)) (zb0:Nat),
   e=.returned (.map (some zb0))∧K r0∧(mapS zb0 r0).holds w'∧w0.heap.size≤zb0∧Bel w0 w':=by
 unfold Zdz at h
 refine cof Tryz.func154 rfl 107 Tryz.ntmps154 ?_
 have hC:=ZLh (X:=Nox) w0 [ZKv TAlg a0 [u0_0,u0_1] fp0,blk b0 32 [u0_0,u0_1],mapS b1 a1] (alc q0 (alc qb0 (al1 q1)))
 replace hC:=hC.dAlg 0 rfl
 refine sr (Zd (v:=.map none) rfl (dn (sr (Zee hC (kvA .i64) (vvI .i64) fun b6 w8 hB_ hC=>Za (v:=vQ b0) rfl ?_))))
 refine Zg [vQ b0] _ Tryz.func191 rfl rfl rfl (Zu9 a0 h _ (Yp (hC.getP 1 rfl) (hC.getP 0 rfl)) (hC.getP 3 rfl)) (fun ret9 w11 hR10=>?_)
 obtain ⟨r11,cs10,f10,rfl,h,hr10,hf10,hB10⟩:=hR10
 refine⟨_,rfl,?_⟩
 have hs10:=Zl8 hC.size hf10
 replace hC:=hC.pushR hB10 (ZKv (Zaa (kvA .i64) (vvI .i64) 8) r11 cs10 f10) hr10 (fun b hb=>.inl (hf10 b hb))
 refine Ys hC (ZC2 8 (ZNy none)) Zmn rfl fun b11 w12 hB_ hC=>Zd (v:=.map (some b6)) rfl ?_
 replace hC:=hC.pushE (ZKv (Zaa (kvA .i64) (vvI .i64) 8) (ZC2 8 none:List (Option (List (A8×Int)))) (ZC2 8 (ZNy none)) []) (Zjx (kvA .i64) (vvI .i64) 8 _) rfl
 have hl10:=Zc6 (hC.getP 0 rfl)
 have hl11:=Zc6 (hC.getP 1 rfl)
 refine Z4 (v:=.agg (ZKu cs10)) hC 0 cs10 cs10 rfl ag211.size rfl rfl rfl hl11 (Zmj (hC.getP 1 rfl)) (by rw [hl10]; exact ZC6 _) (Zmk (hl11.trans hl10.symm)) fun w13 hC=>dn (ZKw (sr (Za (v:=.map (some b1)) rfl (Zgo hC 6 rfl ZLu rfl fun r10 es10 ck10 w14 hB_ hn10 hbn10 hC=>dn (ZK2 ?_)))))
 refine Zgs (S:=(List (A8×Int))) _ _ (fun l11 s12 e_ w_=>∃ (la10:Option MapEntry),Zv e_ [(0,vQ b0),(5,.map (some b6)),(6,vQ b11),(21,vQ r10)]∧Ctx Nox w0 w_ [itI (kvA .i64) (vvI .i64) r10 b1 es10 ck10 la10 l11,blk b11 211 cs10,mapS b6 s12] [Zba b1 es10 ck10,ZKv (Zaa (kvA .i64) (vvI .i64) 8) r11 cs10 f10,ZKv ZLi.sl a0.images [u0_1] fp0,ZKv TInts a0.degrees [u0_0] fp0,ZKv TAlg a0 [u0_0,u0_1] fp0,blk b0 32 [u0_0,u0_1],mapS b1 a1]) ?_ (l0:=a1) (s0:=([]:List (A8×Int))) ?_ h
 ·clear hC h
  rintro l11 s12 e_ w15 nx11 K11 ⟨la10,hS_,hC⟩ h hK11
  rw [ue hS_]
  refine sr ?_
  refine Zgp hC 0 0 rfl rfl hn10 hbn10 rfl (fun hr11=>?_) (fun q10 l10 ent10 w16 hp10 hk10 hv12 hC=>?_)
  ·replace h:=h.1 hr11
   refine Ym (v:=.bool false) rfl rfl (dn (ZKw (Z2 rfl rfl ?_)))
   refine ZLa (Zj (Zj (Z0 ?_)))
   refine Ze (sr (Za (v:=.map (some b6)) rfl (Zd (v:=.map (some b6)) rfl (dn (ZK4 ?_)))))
   refine Zi (fn:=Tryz.f154) rfl ?_ ⟨s12,b6,rfl,h,(hC.getM 2 rfl),(Zgn hC 2 rfl),hC.below⟩ (.inl rfl)
   exact Zf rfl
  ·replace h := h.2 q10 l10 hp10
   refine Ym (v:=.bool true) rfl rfl (dn (ZKw (Z6 rfl rfl (ZK0 (Ze (ZK2 (sr (Zgq hC 0 0 q10 rfl rfl hn10 rfl hk10 hv12 (Ym (v:=.agg (ZKu (ZKt .i64 q10.1))) rfl rfl (Ym (v:=vI q10.2) rfl rfl (Ys hC (ZKt .i64 ZK1) z73 rfl fun b14 w17 hB_ hC=>?_)))))))))))
   refine Z4 (v:=.agg (ZKu (ZKt .i64 q10.1))) hC 0 (ZKt .i64 q10.1) (ZKt .i64 q10.1) rfl ag73.size rfl rfl rfl rfl rfl (ZK5 rfl) rfl fun w18 hC=>Zd (v:=vI q10.2) rfl (dn (sr (J0 [] rfl (Zgw   _) (Ys hC (ZKt .i64 ZK1) z73 rfl fun b15 w19 hB_ hC=>Z4 (v:=.agg (ZKu (ZKt .i64 ZK1))) hC 0 (ZKt .i64 ZK1) (ZKt .i64 ZK1) rfl ag73.size rfl rfl rfl rfl rfl (ZK5 rfl) rfl fun w20 hC=>Zd (v:=vI 1) rfl (dn (sr (Yw hC 1 (ZKt .i64 q10.1) rfl ag73 rfl rfl rfl (Za (v:=vI 0) rfl ?_))))))))
   refine dn (ZK2 ?_)
   refine Yk (S:=A8×(List (A8×Int))×Int) _ _ (fun i10 s10 e_ w_=>Zv e_ [(0,vQ b0),(5,.map (some b6)),(6,vQ b11),(7,vQ b14),(8,vI q10.2),(9,vQ b15),(10,vI s10.2.2),(21,vQ r10),(28,.agg (ZKu (ZKt .i64 q10.1))),(29,vI (i10:Int))]∧Ctx Nox w0 w_ [blk b15 73 (ZKt .i64 s10.1),blk b14 73 (ZKt .i64 q10.1),itI (kvA .i64) (vvI .i64) r10 b1 es10 ck10 (some ent10) l10,blk b11 211 cs10,mapS b6 s10.2.1] [Zba b1 es10 ck10,ZKv (Zaa (kvA .i64) (vvI .i64) 8) r11 cs10 f10,ZKv ZLi.sl a0.images [u0_1] fp0,ZKv TInts a0.degrees [u0_0] fp0,ZKv TAlg a0 [u0_0,u0_1] fp0,blk b0 32 [u0_0,u0_1],mapS b1 a1]) 8 ?_ ?_ (s0:=(ZK1,s12,1)) ?_ h
   ·clear hC h
    rintro i10 s10 e_ w21 nx10 K10 hi10 ⟨hS_,hC⟩ h hK10
    rw [ue hS_]
    refine sr (Zp rfl rfl (dn (ZKw (Z6 rfl (decide_eq_true (by omega)) (ZK0 (Ze (ZKw (ZK2 (sr (Za (v:=vI (i10:Int)) rfl (Zjc (vI (q10.1.get i10)) ZLj rfl rfl (ZLc _) (by omega) sc3 (ZK9 _ _ hi10) ?_)))))))))))
    refine Zd (v:=vI (i10:Int)) rfl (Zd (v:=vI (q10.1.get i10)) rfl (dn (ZKw (sr (Za (v:=vI (q10.1.get i10)) rfl (Jg rfl rfl (dn ?_)))))))
    refine Zs rfl (fun hb14=>?_) (fun hb14=>?_)
    ·replace h:=ift h (ct hb14)
     refine sr (Yw hC 1 (ZKt .i64 q10.1) rfl ag73 rfl rfl rfl (Ys hC (ZKt .i64 ZK1) z73 rfl fun b30 w22 hB_ hC=>Z4 (v:=.agg (ZKu (ZKt .i64 q10.1))) hC 0 (ZKt .i64 q10.1) (ZKt .i64 q10.1) rfl ag73.size rfl rfl rfl rfl rfl (ZK5 rfl) rfl fun w23 hC=>dn (ZKw (sr (Za (v:=vI (i10:Int)) rfl (Zq rfl rfl (Za (v:=vI 0) rfl (dn (ZK2 ?_)))))))))
     refine Jh (S:=A8×Int) _ (fun s11 e_ w_=>Zv e_ [(0,vQ b0),(5,.map (some b6)),(6,vQ b11),(7,vQ b14),(8,vI q10.2),(9,vQ b15),(10,vI s10.2.2),(11,vI (i10:Int)),(12,vI (q10.1.get i10)),(13,vQ b30),(21,vQ r10),(28,.agg (ZKu (ZKt .i64 q10.1))),(29,vI (i10:Int)),(37,vI (ZFm.wrap ((i10:Int)+1))),(38,vI s11.2)]∧Ctx Nox w0 w_ [blk b30 73 (ZKt .i64 s11.1),blk b15 73 (ZKt .i64 s10.1),blk b14 73 (ZKt .i64 q10.1),itI (kvA .i64) (vvI .i64) r10 b1 es10 ck10 (some ent10) l10,blk b11 211 cs10,mapS b6 s10.2.1] [Zba b1 es10 ck10,ZKv (Zaa (kvA .i64) (vvI .i64) 8) r11 cs10 f10,ZKv ZLi.sl a0.images [u0_1] fp0,ZKv TInts a0.degrees [u0_0] fp0,ZKv TAlg a0 [u0_0,u0_1] fp0,blk b0 32 [u0_0,u0_1],mapS b1 a1]) ?_ (s0:=(q10.1,0)) ?_ h
     ·clear hC h
      rintro s11 e_ w24 nx12 K12 ⟨hS_,hC⟩ h hK12
      rw [ue hS_]
      refine sr (Zp rfl rfl (dn (ZKw ?_)))
      refine Zs rfl (fun hb15=>?_) (fun hb15=>?_)
      ·replace h:=ift h (ct hb15)
       refine ZK0 (Ze (ZKw (ZK2 (sr (Za (v:=vI s11.2) rfl (Zd (v:=vI s11.2) rfl (dn (Zh (Za (v:=vI s11.2) rfl ?_)))))))))
       obtain ⟨⟨h10,h11⟩,h⟩:=h
       refine Xx s11.2.toNat ZLj sc3.size rfl rfl h10 h11 (by omega) (Z4 (v:=vI 0) hC 0 [vI 0] (ZKt .i64 (s11.1.set s11.2.toNat 0)) rfl sc3.size rfl rfl rfl rfl rfl (show s11.2.toNat < 8 by omega) (ZLq _ _ _ (show s11.2.toNat < 8 by omega)) fun w25 hC=>done (Zr (Ze (Zh (Zq rfl rfl (Za (v:=vI (ZFm.wrap (s11.2+1))) rfl (done ?_)))))))
       exact hK12 (s11.1.set s11.2.toNat 0,ZFm.wrap (s11.2+1)) _ _ ⟨(sl ⟨rfl,rfl,rfl,rfl,rfl,rfl,rfl,rfl,rfl,rfl,rfl,rfl,rfl,rfl,rfl,trivial⟩),hC⟩ h
      ·replace h:=Zl h (cf hb15)
       refine ZLa (Zj (Zj (Z0 ?_)))
       refine Ze (sr (Yw hC 1 (ZKt .i64 s10.1) rfl ag73 rfl rfl rfl (Ys hC (ZKt .i64 ZK1) z73 rfl fun b43 w26 hB_ hC=>Z4 (v:=.agg (ZKu (ZKt .i64 s10.1))) hC 0 (ZKt .i64 s10.1) (ZKt .i64 s10.1) rfl ag73.size rfl rfl rfl rfl rfl (ZK5 rfl) rfl fun w27 hC=>dn (sr (Za (v:=vI (i10:Int)) rfl (Za (v:=vI (q10.1.get i10)) rfl (X0 rfl rfl (Xx i10 ZLj sc3.size rfl rfl (ZLc _) (by omega) (by omega) (Z4 (v:=vI (ZFm.wrap ((q10.1.get i10) - 1))) hC 0 [vI (ZFm.wrap ((q10.1.get i10) - 1))] (ZKt .i64 (s10.1.set i10 (ZFm.wrap ((q10.1.get i10) - 1)))) rfl sc3.size rfl rfl rfl rfl rfl hi10 (ZLq _ _ _ hi10) fun w28 hC=>?_)))))))))
       refine dn (ZKw ?_)
       refine Zl2 20 Yl [0,0,3,7,0,16,48,112,0,256,768,2047,0,4096,12288,28672,0,0,196608,458752,1048575,2097151] [1,7,9,10,15,17] [3,4,5,6,8,12,13,14,19] (by kernel_rfl) (by kernel_rfl) (by kernel_rfl) (fun hM11 hM10 w10 hB_=>?_)
       replace hC:=hC.grow hB_
       have hN_:w10.heap.size≤w10.heap.size:=ZC6 _
       refine Za7 (Xf _) 1 (.agg (ZKu (ZKt .i64 (s10.1.set i10 (ZFm.wrap ((q10.1.get i10) - 1)))))) rfl rfl (by kernel_rfl) (hM11 1 rfl) (fun w_ hB_=>.inl ⟨rfl,by exact Xc (hC.grow (Zcj hB_)) 0 (ZKt .i64 (s10.1.set i10 (ZFm.wrap ((q10.1.get i10) - 1)))) rfl ag73 rfl rfl rfl⟩) (l9:=(Zc 22 2)) (by kernel_rfl) (bMR (Xf _) 4 (vQ b0) rfl hM10 (Zc 22 18) (Zw (Xf _) 5 (vQ b0) rfl rfl (by kernel_rfl) (hM10 5 rfl) (fun w_=>.inl ⟨rfl,by exact Zau rfl⟩) (l9:=(Zc 22 50)) (by kernel_rfl) (Zw (Xf _) 6 (vQ b0) rfl rfl (by kernel_rfl) (hM10 6 rfl) (fun w_=>.inl ⟨rfl,by exact Yr 0 ZLg rfl sc22.size rfl rfl⟩) (l9:=(Zc 22 114)) (by kernel_rfl) (Za7 (Xf _) 7 (u0_0) rfl rfl (by kernel_rfl) (hM11 7 rfl) (fun w_ hB_=>.inl ⟨rfl,by exact Zc3 (u0_0) ((hC.grow (Zcj hB_)).getP 5 rfl) sc22 rfl rfl⟩) (l9:=(Zc 22 242)) (by kernel_rfl) (bMR (Xf _) 8 (vI (i10:Int)) rfl hM10 (Zc 22 498) (Za7 (Xf _) 9 (.pointer (some ⟨b11,i10,none⟩)) rfl rfl (by kernel_rfl) (hM11 9 rfl) (fun w_ hB_=>.inl ⟨rfl,by exact Zaf i10 Tryz.underlying211 sc115.size rfl rfl (ZLc _) (by omega) (by omega)⟩) (l9:=(Zc 22 1010)) (by kernel_rfl) ?_))))))
       obtain ⟨ml10,hl12,h⟩:=h
       obtain ⟨b10,hb18,hbf10,hm10⟩:=Zuh (hC.getP 1 rfl) hl12
       replace hC:=hC.derive 1 rfl (mapS b10 ml10) (fun _=>hm10) (fun c_ hc_=>by obtain rfl:=ZEf.1 hc_; exact hbf10)
       refine Za7 (Xf _) 10 (.map (some b10)) rfl rfl (by kernel_rfl) (hM11 10 rfl) (fun w_ hB_=>.inl ⟨rfl,by exact Yg (hC.grow (Zcj hB_)) 5 (.map (some b10)) rfl sc115 rfl (Zuj hb18 (by omega))⟩) (l9:=(Zc 22 2034)) (by kernel_rfl) (bMR (Xf _) 12 (vQ b0) rfl hM10 (Zc 22 6130) (Zw (Xf _) 13 (vQ b0) rfl rfl (by kernel_rfl) (hM10 13 rfl) (fun w_=>.inl ⟨rfl,by exact Zau rfl⟩) (l9:=(Zc 22 14322)) (by kernel_rfl) (Zw (Xf _) 14 (vQ b0) rfl rfl (by kernel_rfl) (hM10 14 rfl) (fun w_=>.inl ⟨rfl,by exact Yr 0 ZLg rfl sc22.size rfl rfl⟩) (l9:=(Zc 22 30706)) (by kernel_rfl) (Za7 (Xf _) 15 (u0_0) rfl rfl (by kernel_rfl) (hM11 15 rfl) (fun w_ hB_=>.inl ⟨rfl,by exact Zc3 (u0_0) ((hC.grow (Zcj hB_)).getP 6 rfl) sc22 rfl rfl⟩) (l9:=(Zc 22 63474)) (by kernel_rfl) (Za7 (Xf _) 17 (.agg (ZKu (ZKt .i64 s11.1))) rfl rfl (by kernel_rfl) (hM11 17 rfl) (fun w_ hB_=>.inl ⟨rfl,by exact Xc (hC.grow (Zcj hB_)) 1 (ZKt .i64 s11.1) rfl ag73 rfl rfl rfl⟩) (l9:=(Zc 22 194546)) (by kernel_rfl) ?_)))))
       refine Zdp (fun e_ w_=>∃ (b17:Nat),∃ (r15:List (A8×Int)),Zv e_ [(0,vQ b0),(5,.map (some b6)),(6,vQ b11),(7,vQ b14),(8,vI q10.2),(9,vQ b15),(10,vI s10.2.2),(11,vI (i10:Int)),(12,vI (q10.1.get i10)),(16,.map (some b17)),(21,vQ r10),(28,.agg (ZKu (ZKt .i64 q10.1))),(29,vI (i10:Int))]∧Ctx Nox w0 w_ [mapS b17 r15,blk b15 73 (ZKt .i64 s10.1),blk b14 73 (ZKt .i64 q10.1),itI (kvA .i64) (vvI .i64) r10 b1 es10 ck10 (some ent10) l10,blk b11 211 cs10,mapS b6 s10.2.1] [Zba b1 es10 ck10,ZKv (Zaa (kvA .i64) (vvI .i64) 8) r11 cs10 f10,ZKv ZLi.sl a0.images [u0_1] fp0,ZKv TInts a0.degrees [u0_0] fp0,ZKv TAlg a0 [u0_0,u0_1] fp0,blk b0 32 [u0_0,u0_1],mapS b1 a1]∧(Zc9 (ZFm.wrap ((ZFm.wrap (s10.2.2 * q10.2)) * (q10.1.get i10))) (fun r12=>Zej s10.2.1 r15 r12 (fun m10=>(if(i10:Int) < (a0.degrees.length:Int) then((0≤(i10:Int)∧(i10:Int) < (a0.degrees.length:Int))∧(if ZDy (a0.degrees.getD i10 ZC7) 2=1 then(if ZDy (q10.1.get i10) 2=1 then nx10 (s10.1.set i10 (q10.1.get i10),m10,ZFm.wrap (0 - s10.2.2)) else nx10 (s10.1.set i10 (q10.1.get i10),m10,s10.2.2)) else nx10 (s10.1.set i10 (q10.1.get i10),m10,s10.2.2))) else nx10 (s10.1.set i10 (q10.1.get i10),m10,s10.2.2)))))) ?_ ?_
       ·clear hC h
        rintro e_ w29 ⟨b17,r15,hS_,hC,h⟩
        rw [ue hS_]
        refine Ze (Zh (Za (v:=.map (some b6)) rfl (Za (v:=.map (some b17)) rfl (Za (v:=vI s10.2.2) rfl (Za (v:=vI q10.2) rfl (Zao rfl rfl (Za (v:=vI (q10.1.get i10)) rfl (Zao rfl rfl ?_))))))))
        refine Zg [vI (ZFm.wrap ((ZFm.wrap (s10.2.2 * q10.2)) * (q10.1.get i10)))] _ Tryz.func187 rfl rfl rfl (Zmr (ZFm.wrap ((ZFm.wrap (s10.2.2 * q10.2)) * (q10.1.get i10))) h _) (fun ret10 w30 hR11=>?_)
        obtain ⟨r12,rfl,h,hB11⟩:=hR11
        refine⟨_,rfl,?_⟩
        replace hC:=hC.grow hB11
        refine Zg [.map (some b6),.map (some b17),vI r12] _ Tryz.func165 rfl rfl rfl (Zu1 s10.2.1 r15 r12 h _ (hC.getM 5 rfl) (fun c_ hc_ e_=>hC.mm 0 5 rfl rfl (by decide) c_ hc_ (ZEf.2 e_)) (hC.getM 0 rfl)) (fun ret11 w31 hR12=>?_)
        obtain ⟨m10,rfl,h,hm11,hB12⟩:=hR12
        refine⟨_,rfl,?_⟩
        replace hC:=hC.turnB 5 rfl hB12 rfl rfl hm11
        refine dn (sr (Za (v:=vI (i10:Int)) rfl (Za (v:=vI (q10.1.get i10)) rfl (Xx i10 ZLj sc3.size rfl rfl (ZLc _) (by omega) (by omega) (Z4 (v:=vI (q10.1.get i10)) hC 1 [vI (q10.1.get i10)] (ZKt .i64 (s10.1.set i10 (q10.1.get i10))) rfl sc3.size rfl rfl rfl rfl rfl hi10 (ZLq _ _ _ hi10) fun w32 hC=>dn (sr (Za (v:=vI (i10:Int)) rfl (Za (v:=vQ b0) rfl (Xl rfl (Z1 0 ZLg rfl sc22.size rfl rfl ?_))))))))))
        refine Zce (u0_0) (hC.getP 5 rfl) sc22 rfl rfl ?_
        obtain ⟨Ad10,c10,hv13⟩:=Zu (hC.getP 3 rfl)
        refine Zt ZLf (tr rfl hv13) (Zp rfl rfl (Za (v:=.bool (decide ((i10:Int) < (a0.degrees.length:Int)))) rfl ?_))
        refine Y8 (decide ((i10:Int) < (a0.degrees.length:Int))) (fun hb10=>?_) (fun hb10=>?_)
        ·replace h:=ift h (ct hb10)
         refine Zm 7 87 rfl rfl hb10 (Za (v:=vQ b0) rfl (Zm 7 87 rfl rfl hb10 (Xl rfl (Zm 7 87 rfl rfl hb10 (Z1 0 ZLg rfl sc22.size rfl rfl (Zm 7 87 rfl rfl hb10 (Zce (u0_0) (hC.getP 5 rfl) sc22 rfl rfl (Zm 7 87 rfl rfl hb10 (Za (v:=vI (i10:Int)) rfl (Zm 7 87 rfl rfl hb10 ?_))))))))))
         obtain ⟨⟨h12,h13⟩,h⟩:=h
         obtain ⟨Ad11,c11,hv10⟩:=Zx (hC.getP 3 rfl) i10 (show i10 < a0.degrees.length by omega)
         refine Yn (len:=a0.degrees.length) ZLf sc2.size (tr rfl hv10) rfl h12 h13 (Zm 7 87 rfl rfl hb10 (Yo (vI (a0.degrees.getD i10 ZC7)) (Ye (hC.getP 3 rfl) hv10 i10 (show i10 < a0.degrees.length by omega)) sc2 rfl (Zm 7 87 rfl rfl hb10 (Ja rfl rfl (by decide) (Zm 7 87 rfl rfl hb10 (Xu rfl rfl (Z3 (v:=.bool (decide (ZDy (a0.degrees.getD i10 ZC7) 2=1))) (b:=true) (tr rfl (congrArg _ hb10)) rfl (Za (v:=.bool (decide (ZDy (a0.degrees.getD i10 ZC7) 2=1))) rfl ?_))))))))
         refine Y8 (decide (ZDy (a0.degrees.getD i10 ZC7) 2=1)) (fun hb12=>?_) (fun hb12=>?_)
         ·replace h:=ift h (ct hb12)
          refine Zm 18 98 rfl rfl hb12 (Za (v:=vI (q10.1.get i10)) rfl (Zm 18 98 rfl rfl hb12 (Ja rfl rfl (by decide) (Zm 18 98 rfl rfl hb12 (Xu rfl rfl (Z3 (v:=.bool (decide (ZDy (q10.1.get i10) 2=1))) (b:=true) (tr rfl (congrArg _ hb12)) rfl (dn ?_)))))))
          refine Zs rfl (fun hb16=>?_) (fun hb16=>?_)
          ·replace h:=ift h (ct hb16)
           refine Zh (Za (v:=vI s10.2.2) rfl (Zja rfl (Zd (v:=vI (ZFm.wrap (0 - s10.2.2))) rfl (done (Zr (Ze (Zh (Zq rfl rfl (Za (v:=vI (ZFm.wrap ((i10:Int)+1))) rfl (done ?_))))))))))
           exact hK10 (s10.1.set i10 (q10.1.get i10),m10,ZFm.wrap (0 - s10.2.2)) _ _ ⟨(sl ⟨rfl,rfl,rfl,rfl,rfl,rfl,rfl,rfl,rfl,(tr rfl (congrArg _ (Z5 hi10 (by decide)))),trivial⟩),(hC.xM [1,2,3,4,5] rfl)⟩ h
          ·replace h:=Zl h (cf hb16)
           refine ZK0 (Zr (Ze (Zh (Zq rfl rfl (Za (v:=vI (ZFm.wrap ((i10:Int)+1))) rfl (done ?_))))))
           exact hK10 (s10.1.set i10 (q10.1.get i10),m10,s10.2.2) _ _ ⟨(sl ⟨rfl,rfl,rfl,rfl,rfl,rfl,rfl,rfl,rfl,(tr rfl (congrArg _ (Z5 hi10 (by decide)))),trivial⟩),(hC.xM [1,2,3,4,5] rfl)⟩ h
         ·replace h:=Zl h (cf hb12)
          refine Zk (b:=false) 18 98 rfl (tr rfl (congrArg _ hb12)) (by decide) (Zk (b:=false) 18 98 rfl (tr rfl (congrArg _ hb12)) (by decide) (Zk (b:=false) 18 98 rfl (tr rfl (congrArg _ hb12)) (by decide) (Z3 (v:=.bool false) (b:=false) (tr rfl (congrArg _ hb12)) rfl (dn (Z2 rfl rfl (ZK0 (Zr (Ze (Zh (Zq rfl rfl (Za (v:=vI (ZFm.wrap ((i10:Int)+1))) rfl ?_)))))))))))
          refine done ?_
          exact hK10 (s10.1.set i10 (q10.1.get i10),m10,s10.2.2) _ _ ⟨(sl ⟨rfl,rfl,rfl,rfl,rfl,rfl,rfl,rfl,rfl,(tr rfl (congrArg _ (Z5 hi10 (by decide)))),trivial⟩),(hC.xM [1,2,3,4,5] rfl)⟩ h
        ·replace h:=Zl h (cf hb10)
         refine Zk (b:=false) 7 87 rfl (tr rfl (congrArg _ hb10)) (by decide) (Zk (b:=false) 7 87 rfl (tr rfl (congrArg _ hb10)) (by decide) (Zk (b:=false) 7 87 rfl (tr rfl (congrArg _ hb10)) (by decide) (Zk (b:=false) 7 87 rfl (tr rfl (congrArg _ hb10)) (by decide) (Zk (b:=false) 7 87 rfl (tr rfl (congrArg _ hb10)) (by decide) (Zk (b:=false) 7 87 rfl (tr rfl (congrArg _ hb10)) (by decide) (Zk (b:=false) 7 87 rfl (tr rfl (congrArg _ hb10)) (by decide) (Zk (b:=false) 7 87 rfl (tr rfl (congrArg _ hb10)) (by decide) (Zk (b:=false) 7 87 rfl (tr rfl (congrArg _ hb10)) (by decide) (Z3 (v:=.bool false) (b:=false) (tr rfl (congrArg _ hb10)) rfl (Za (v:=.bool false) rfl (Zk (b:=false) 18 98 rfl (tr rfl (congrArg _ rfl)) (by decide) ?_)))))))))))
         refine Zk (b:=false) 18 98 rfl (tr rfl (congrArg _ rfl)) (by decide) (Zk (b:=false) 18 98 rfl (tr rfl (congrArg _ rfl)) (by decide) (Z3 (v:=.bool false) (b:=false) rfl rfl (dn (Z2 rfl rfl (ZK0 (Zr (Ze (Zh (Zq rfl rfl (Za (v:=vI (ZFm.wrap ((i10:Int)+1))) rfl (done ?_)))))))))))
         exact hK10 (s10.1.set i10 (q10.1.get i10),m10,s10.2.2) _ _ ⟨(sl ⟨rfl,rfl,rfl,rfl,rfl,rfl,rfl,rfl,rfl,(tr rfl (congrArg _ (Z5 hi10 (by decide)))),trivial⟩),(hC.xM [1,2,3,4,5] rfl)⟩ h
       refine Jx 0 16 rfl rfl (by kernel_rfl) ?_ ?_
       ·skip
        refine Zds hC (kvA .i64) (vvI .i64) fun b12 w33 hn_ hB_ hC=>?_
        have hnb_b12975:=ZDa hN_ hn_
        refine done ?_
        refine Xd (Jk hN_ (by assumption)) hN_ (l9:=(Zc 22 194547)) (by kernel_rfl) (fun hN_=>?_)
        refine Jx 2 16 rfl rfl (by kernel_rfl) ?_ ?_
        ·skip
         refine Zap hC 0 (s10.1.set i10 (ZFm.wrap ((q10.1.get i10) - 1))) 1 rfl Jt ZLu rfl rfl rfl (fun w34 hBB_ hC=>?_) (.inr rfl)
         refine done ?_
         refine Xd (Zab hN_ hnb_b12975 hBB_) hN_ (l9:=(Zc 22 194551)) (by kernel_rfl) (fun hN_=>?_)
         refine bMR (Xf _) 3 (.map (some b12)) rfl hM10 (Zc 22 194559) ?_
         refine Jx 11 16 rfl rfl (by kernel_rfl) ?_ ?_
         ·skip
          refine Zg [.map (some b12),u0_0,.map (some b10)] _ ZNx rfl rfl rfl (J5 (Yt ([]:List (A8×Int)) (s10.1.set i10 (ZFm.wrap ((q10.1.get i10) - 1))) 1) a0.degrees ml10 h _ (hC.getM 0 rfl) (hC.getP 4 rfl) (hC.getP 0 rfl)) (fun ret12 w35 hR13=>?_)
          obtain ⟨r13,b31,rfl,h,hr12,hf11,hB13⟩:=hR13
          refine⟨_,rfl,?_⟩
          replace hC:=hC.push hB13 (mapS b31 r13) hr12 (fun b_ hb_=>by obtain rfl:=ZEf.1 hb_; exact hf11)
          refine done ?_
          refine Xd (Jk hN_ (by assumption)) hN_ (l9:=(Zc 22 196607)) (by kernel_rfl) (fun hN_=>?_)
          refine aO 16 rfl (Zds hC (kvA .i64) (vvI .i64) fun b32 w36 hn_ hB_ hC=>?_)
          have hnb_b12988:=ZDa hN_ hn_
          refine done ?_
          refine Xd (Jk hN_ (by assumption)) hN_ (l9:=(Zc 22 262143)) (by kernel_rfl) (fun hN_=>?_)
          refine aO 18 rfl ?_
          refine Zap hC 0 s11.1 1 rfl Jt ZLu rfl rfl rfl (fun w37 hBB_ hC=>?_) (.inr rfl)
          refine done ?_
          refine Xd (Zab hN_ hnb_b12988 hBB_) hN_ (l9:=(Zc 22 524287)) (by kernel_rfl) (fun hN_=>?_)
          refine bMR (Xf _) 19 (.map (some b32)) rfl hM10 (Zc 22 1048575) (Z7 20 (by decide) (by decide) (by kernel_rfl) (by kernel_rfl) rfl ?_)
          refine Zg [.map (some b31),u0_0,.map (some b32)] _ ZNx rfl rfl rfl (J5 r13 a0.degrees (Yt ([]:List (A8×Int)) s11.1 1) h _ (hC.getM 1 rfl) (hC.getP 4 rfl) (hC.getM 0 rfl)) (fun ret13 w38 hR14=>?_)
          obtain ⟨r14,b20,rfl,h,hr13,hf12,hB14⟩:=hR14
          refine⟨_,rfl,?_⟩
          replace hC:=hC.push hB14 (mapS b20 r14) hr13 (fun b_ hb_=>by obtain rfl:=ZEf.1 hb_; exact hf12)
          refine Zd (v:=.map (some b20)) rfl (done (Z8 ?_))
          exact⟨rfl,_,rfl,⟨b20,r14,(sl ⟨rfl,rfl,rfl,rfl,rfl,rfl,rfl,rfl,rfl,rfl,rfl,rfl,rfl,trivial⟩),((hC.xM [0,6,7,8,9,10] rfl).sP [1,2,3,4,5,6,7] rfl),h⟩⟩
         ·skip
          refine Zds hC (kvA .i64) (vvI .i64) fun b19 w39 hn_ hB_ hC=>?_
          have hnb_b13001:=ZDa hN_ hn_
          refine done ?_
          refine Xd (Jk hN_ (by assumption)) hN_ (l9:=(Zc 22 260095)) (by kernel_rfl) (fun hN_=>?_)
          refine Jx 11 18 rfl rfl (by kernel_rfl) ?_ ?_
          ·skip
           refine Zg [.map (some b12),u0_0,.map (some b10)] _ ZNx rfl rfl rfl (J5 (Yt ([]:List (A8×Int)) (s10.1.set i10 (ZFm.wrap ((q10.1.get i10) - 1))) 1) a0.degrees ml10 h _ (hC.getM 1 rfl) (hC.getP 4 rfl) (hC.getP 0 rfl)) (fun ret14 w40 hR15=>?_)
           obtain ⟨r16,b33,rfl,h,hr14,hf13,hB15⟩:=hR15
           refine⟨_,rfl,?_⟩
           replace hC:=hC.push hB15 (mapS b33 r16) hr14 (fun b_ hb_=>by obtain rfl:=ZEf.1 hb_; exact hf13)
           refine done ?_
           refine Xd (Jk hN_ (by assumption)) hN_ (l9:=(Zc 22 262143)) (by kernel_rfl) (fun hN_=>?_)
           refine aO 18 rfl ?_
           refine Zap hC 1 s11.1 1 rfl Jt ZLu rfl rfl rfl (fun w41 hBB_ hC=>?_) (.inr rfl)
           refine done ?_
           refine Xd (Zab hN_ hnb_b13001 hBB_) hN_ (l9:=(Zc 22 524287)) (by kernel_rfl) (fun hN_=>?_)
           refine bMR (Xf _) 19 (.map (some b19)) rfl hM10 (Zc 22 1048575) (Z7 20 (by decide) (by decide) (by kernel_rfl) (by kernel_rfl) rfl ?_)
           refine Zg [.map (some b33),u0_0,.map (some b19)] _ ZNx rfl rfl rfl (J5 r16 a0.degrees (Yt ([]:List (A8×Int)) s11.1 1) h _ (hC.getM 0 rfl) (hC.getP 4 rfl) (hC.getM 1 rfl)) (fun ret15 w42 hR16=>?_)
           obtain ⟨r17,b21,rfl,h,hr15,hf14,hB16⟩:=hR16
           refine⟨_,rfl,?_⟩
           replace hC:=hC.push hB16 (mapS b21 r17) hr15 (fun b_ hb_=>by obtain rfl:=ZEf.1 hb_; exact hf14)
           refine Zd (v:=.map (some b21)) rfl (done (Z8 ?_))
           exact⟨rfl,_,rfl,⟨b21,r17,(sl ⟨rfl,rfl,rfl,rfl,rfl,rfl,rfl,rfl,rfl,rfl,rfl,rfl,rfl,trivial⟩),((hC.xM [0,6,7,8,9,10] rfl).sP [1,2,3,4,5,6,7] rfl),h⟩⟩
          ·skip
           refine Zap hC 0 s11.1 1 rfl Jt ZLu rfl rfl rfl (fun w43 hBB_ hC=>?_) (.inr rfl)
           refine done ?_
           refine Xd (Zab hN_ hnb_b13001 hBB_) hN_ (l9:=(Zc 22 522239)) (by kernel_rfl) (fun hN_=>?_)
           refine bMR (Xf _) 19 (.map (some b19)) rfl hM10 (Zc 22 1046527) (aO 11 rfl ?_)
           refine Zg [.map (some b12),u0_0,.map (some b10)] _ ZNx rfl rfl rfl (J5 (Yt ([]:List (A8×Int)) (s10.1.set i10 (ZFm.wrap ((q10.1.get i10) - 1))) 1) a0.degrees ml10 h _ (hC.getM 1 rfl) (hC.getP 4 rfl) (hC.getP 0 rfl)) (fun ret16 w44 hR17=>?_)
           obtain ⟨r18,b34,rfl,h,hr16,hf15,hB17⟩:=hR17
           refine⟨_,rfl,?_⟩
           replace hC:=hC.push hB17 (mapS b34 r18) hr16 (fun b_ hb_=>by obtain rfl:=ZEf.1 hb_; exact hf15)
           refine done ?_
           refine Xd (Jk hN_ (by assumption)) hN_ (l9:=(Zc 22 1048575)) (by kernel_rfl) (fun hN_=>?_)
           refine Z7 20 (by decide) (by decide) (by kernel_rfl) (by kernel_rfl) rfl ?_
           refine Zg [.map (some b34),u0_0,.map (some b19)] _ ZNx rfl rfl rfl (J5 r18 a0.degrees (Yt ([]:List (A8×Int)) s11.1 1) h _ (hC.getM 0 rfl) (hC.getP 4 rfl) (hC.getM 1 rfl)) (fun ret17 w45 hR18=>?_)
           obtain ⟨r19,b22,rfl,h,hr17,hf16,hB18⟩:=hR18
           refine⟨_,rfl,?_⟩
           replace hC:=hC.push hB18 (mapS b22 r19) hr17 (fun b_ hb_=>by obtain rfl:=ZEf.1 hb_; exact hf16)
           refine Zd (v:=.map (some b22)) rfl (done (Z8 ?_))
           exact⟨rfl,_,rfl,⟨b22,r19,(sl ⟨rfl,rfl,rfl,rfl,rfl,rfl,rfl,rfl,rfl,rfl,rfl,rfl,rfl,trivial⟩),((hC.xM [0,6,7,8,9,10] rfl).sP [1,2,3,4,5,6,7] rfl),h⟩⟩
        ·skip
         refine Zds hC (kvA .i64) (vvI .i64) fun b16 w46 hn_ hB_ hC=>?_
         have hnb_b13042:=ZDa hN_ hn_
         refine done ?_
         refine Xd (Jk hN_ (by assumption)) hN_ (l9:=(Zc 22 260083)) (by kernel_rfl) (fun hN_=>?_)
         refine Jx 2 18 rfl rfl (by kernel_rfl) ?_ ?_
         ·skip
          refine Zap hC 1 (s10.1.set i10 (ZFm.wrap ((q10.1.get i10) - 1))) 1 rfl Jt ZLu rfl rfl rfl (fun w47 hBB_ hC=>?_) (.inr rfl)
          refine done ?_
          refine Xd (Zab hN_ hnb_b12975 hBB_) hN_ (l9:=(Zc 22 260087)) (by kernel_rfl) (fun hN_=>?_)
          refine bMR (Xf _) 3 (.map (some b12)) rfl hM10 (Zc 22 260095) ?_
          refine Jx 11 18 rfl rfl (by kernel_rfl) ?_ ?_
          ·skip
           refine Zg [.map (some b12),u0_0,.map (some b10)] _ ZNx rfl rfl rfl (J5 (Yt ([]:List (A8×Int)) (s10.1.set i10 (ZFm.wrap ((q10.1.get i10) - 1))) 1) a0.degrees ml10 h _ (hC.getM 1 rfl) (hC.getP 4 rfl) (hC.getP 0 rfl)) (fun ret18 w48 hR19=>?_)
           obtain ⟨r20,b35,rfl,h,hr18,hf17,hB19⟩:=hR19
           refine⟨_,rfl,?_⟩
           replace hC:=hC.push hB19 (mapS b35 r20) hr18 (fun b_ hb_=>by obtain rfl:=ZEf.1 hb_; exact hf17)
           refine done ?_
           refine Xd (Jk hN_ (by assumption)) hN_ (l9:=(Zc 22 262143)) (by kernel_rfl) (fun hN_=>?_)
           refine aO 18 rfl ?_
           refine Zap hC 1 s11.1 1 rfl Jt ZLu rfl rfl rfl (fun w49 hBB_ hC=>?_) (.inr rfl)
           refine done ?_
           refine Xd (Zab hN_ hnb_b13042 hBB_) hN_ (l9:=(Zc 22 524287)) (by kernel_rfl) (fun hN_=>?_)
           refine bMR (Xf _) 19 (.map (some b16)) rfl hM10 (Zc 22 1048575) (Z7 20 (by decide) (by decide) (by kernel_rfl) (by kernel_rfl) rfl ?_)
           refine Zg [.map (some b35),u0_0,.map (some b16)] _ ZNx rfl rfl rfl (J5 r20 a0.degrees (Yt ([]:List (A8×Int)) s11.1 1) h _ (hC.getM 0 rfl) (hC.getP 4 rfl) (hC.getM 1 rfl)) (fun ret19 w50 hR20=>?_)
           obtain ⟨r21,b23,rfl,h,hr19,hf18,hB20⟩:=hR20
           refine⟨_,rfl,?_⟩
           replace hC:=hC.push hB20 (mapS b23 r21) hr19 (fun b_ hb_=>by obtain rfl:=ZEf.1 hb_; exact hf18)
           refine Zd (v:=.map (some b23)) rfl (done (Z8 ?_))
           exact⟨rfl,_,rfl,⟨b23,r21,(sl ⟨rfl,rfl,rfl,rfl,rfl,rfl,rfl,rfl,rfl,rfl,rfl,rfl,rfl,trivial⟩),((hC.xM [0,6,7,8,9,10] rfl).sP [1,2,3,4,5,6,7] rfl),h⟩⟩
          ·skip
           refine Zap hC 0 s11.1 1 rfl Jt ZLu rfl rfl rfl (fun w51 hBB_ hC=>?_) (.inr rfl)
           refine done ?_
           refine Xd (Zab hN_ hnb_b13042 hBB_) hN_ (l9:=(Zc 22 522239)) (by kernel_rfl) (fun hN_=>?_)
           refine bMR (Xf _) 19 (.map (some b16)) rfl hM10 (Zc 22 1046527) (aO 11 rfl ?_)
           refine Zg [.map (some b12),u0_0,.map (some b10)] _ ZNx rfl rfl rfl (J5 (Yt ([]:List (A8×Int)) (s10.1.set i10 (ZFm.wrap ((q10.1.get i10) - 1))) 1) a0.degrees ml10 h _ (hC.getM 1 rfl) (hC.getP 4 rfl) (hC.getP 0 rfl)) (fun ret20 w52 hR21=>?_)
           obtain ⟨r22,b36,rfl,h,hr20,hf19,hB21⟩:=hR21
           refine⟨_,rfl,?_⟩
           replace hC:=hC.push hB21 (mapS b36 r22) hr20 (fun b_ hb_=>by obtain rfl:=ZEf.1 hb_; exact hf19)
           refine done ?_
           refine Xd (Jk hN_ (by assumption)) hN_ (l9:=(Zc 22 1048575)) (by kernel_rfl) (fun hN_=>?_)
           refine Z7 20 (by decide) (by decide) (by kernel_rfl) (by kernel_rfl) rfl ?_
           refine Zg [.map (some b36),u0_0,.map (some b16)] _ ZNx rfl rfl rfl (J5 r22 a0.degrees (Yt ([]:List (A8×Int)) s11.1 1) h _ (hC.getM 0 rfl) (hC.getP 4 rfl) (hC.getM 1 rfl)) (fun ret21 w53 hR22=>?_)
           obtain ⟨r23,b24,rfl,h,hr21,hf20,hB22⟩:=hR22
           refine⟨_,rfl,?_⟩
           replace hC:=hC.push hB22 (mapS b24 r23) hr21 (fun b_ hb_=>by obtain rfl:=ZEf.1 hb_; exact hf20)
           refine Zd (v:=.map (some b24)) rfl (done (Z8 ?_))
           exact⟨rfl,_,rfl,⟨b24,r23,(sl ⟨rfl,rfl,rfl,rfl,rfl,rfl,rfl,rfl,rfl,rfl,rfl,rfl,rfl,trivial⟩),((hC.xM [0,6,7,8,9,10] rfl).sP [1,2,3,4,5,6,7] rfl),h⟩⟩
         ·skip
          refine Zap hC 0 s11.1 1 rfl Jt ZLu rfl rfl rfl (fun w54 hBB_ hC=>?_) (.inr rfl)
          refine done ?_
          refine Xd (Zab hN_ hnb_b13042 hBB_) hN_ (l9:=(Zc 22 522227)) (by kernel_rfl) (fun hN_=>?_)
          refine bMR (Xf _) 19 (.map (some b16)) rfl hM10 (Zc 22 1046515) (aO 2 rfl ?_)
          refine Zap hC 1 (s10.1.set i10 (ZFm.wrap ((q10.1.get i10) - 1))) 1 rfl Jt ZLu rfl rfl rfl (fun w55 hBB_ hC=>?_) (.inr rfl)
          refine done ?_
          refine Xd (Zab hN_ hnb_b12975 hBB_) hN_ (l9:=(Zc 22 1046519)) (by kernel_rfl) (fun hN_=>?_)
          refine bMR (Xf _) 3 (.map (some b12)) rfl hM10 (Zc 22 1046527) (aO 11 rfl ?_)
          refine Zg [.map (some b12),u0_0,.map (some b10)] _ ZNx rfl rfl rfl (J5 (Yt ([]:List (A8×Int)) (s10.1.set i10 (ZFm.wrap ((q10.1.get i10) - 1))) 1) a0.degrees ml10 h _ (hC.getM 1 rfl) (hC.getP 4 rfl) (hC.getP 0 rfl)) (fun ret22 w56 hR23=>?_)
          obtain ⟨r24,b37,rfl,h,hr22,hf21,hB23⟩:=hR23
          refine⟨_,rfl,?_⟩
          replace hC:=hC.push hB23 (mapS b37 r24) hr22 (fun b_ hb_=>by obtain rfl:=ZEf.1 hb_; exact hf21)
          refine done ?_
          refine Xd (Jk hN_ (by assumption)) hN_ (l9:=(Zc 22 1048575)) (by kernel_rfl) (fun hN_=>?_)
          refine Z7 20 (by decide) (by decide) (by kernel_rfl) (by kernel_rfl) rfl ?_
          refine Zg [.map (some b37),u0_0,.map (some b16)] _ ZNx rfl rfl rfl (J5 r24 a0.degrees (Yt ([]:List (A8×Int)) s11.1 1) h _ (hC.getM 0 rfl) (hC.getP 4 rfl) (hC.getM 1 rfl)) (fun ret23 w57 hR24=>?_)
          obtain ⟨r25,b25,rfl,h,hr23,hf22,hB24⟩:=hR24
          refine⟨_,rfl,?_⟩
          replace hC:=hC.push hB24 (mapS b25 r25) hr23 (fun b_ hb_=>by obtain rfl:=ZEf.1 hb_; exact hf22)
          refine Zd (v:=.map (some b25)) rfl (done (Z8 ?_))
          exact⟨rfl,_,rfl,⟨b25,r25,(sl ⟨rfl,rfl,rfl,rfl,rfl,rfl,rfl,rfl,rfl,rfl,rfl,rfl,rfl,trivial⟩),((hC.xM [0,6,7,8,9,10] rfl).sP [1,2,3,4,5,6,7] rfl),h⟩⟩
       ·skip
        refine Zds hC (kvA .i64) (vvI .i64) fun b13 w58 hn_ hB_ hC=>?_
        have hnb_b13104:=ZDa hN_ hn_
        refine done ?_
        refine Xd (Jk hN_ (by assumption)) hN_ (l9:=(Zc 22 260082)) (by kernel_rfl) (fun hN_=>?_)
        refine Jx 0 18 rfl rfl (by kernel_rfl) ?_ ?_
        ·skip
         refine Zds hC (kvA .i64) (vvI .i64) fun b18 w59 hn_ hB_ hC=>?_
         have hnb_b13107:=ZDa hN_ hn_
         refine done ?_
         refine Xd (Jk hN_ (by assumption)) hN_ (l9:=(Zc 22 260083)) (by kernel_rfl) (fun hN_=>?_)
         refine Jx 2 18 rfl rfl (by kernel_rfl) ?_ ?_
         ·skip
          refine Zap hC 0 (s10.1.set i10 (ZFm.wrap ((q10.1.get i10) - 1))) 1 rfl Jt ZLu rfl rfl rfl (fun w60 hBB_ hC=>?_) (.inr rfl)
          refine done ?_
          refine Xd (Zab hN_ hnb_b13107 hBB_) hN_ (l9:=(Zc 22 260087)) (by kernel_rfl) (fun hN_=>?_)
          refine bMR (Xf _) 3 (.map (some b18)) rfl hM10 (Zc 22 260095) ?_
          refine Jx 11 18 rfl rfl (by kernel_rfl) ?_ ?_
          ·skip
           refine Zg [.map (some b18),u0_0,.map (some b10)] _ ZNx rfl rfl rfl (J5 (Yt ([]:List (A8×Int)) (s10.1.set i10 (ZFm.wrap ((q10.1.get i10) - 1))) 1) a0.degrees ml10 h _ (hC.getM 0 rfl) (hC.getP 4 rfl) (hC.getP 0 rfl)) (fun ret24 w61 hR25=>?_)
           obtain ⟨r26,b38,rfl,h,hr24,hf23,hB25⟩:=hR25
           refine⟨_,rfl,?_⟩
           replace hC:=hC.push hB25 (mapS b38 r26) hr24 (fun b_ hb_=>by obtain rfl:=ZEf.1 hb_; exact hf23)
           refine done ?_
           refine Xd (Jk hN_ (by assumption)) hN_ (l9:=(Zc 22 262143)) (by kernel_rfl) (fun hN_=>?_)
           refine aO 18 rfl ?_
           refine Zap hC 2 s11.1 1 rfl Jt ZLu rfl rfl rfl (fun w62 hBB_ hC=>?_) (.inr rfl)
           refine done ?_
           refine Xd (Zab hN_ hnb_b13104 hBB_) hN_ (l9:=(Zc 22 524287)) (by kernel_rfl) (fun hN_=>?_)
           refine bMR (Xf _) 19 (.map (some b13)) rfl hM10 (Zc 22 1048575) (Z7 20 (by decide) (by decide) (by kernel_rfl) (by kernel_rfl) rfl ?_)
           refine Zg [.map (some b38),u0_0,.map (some b13)] _ ZNx rfl rfl rfl (J5 r26 a0.degrees (Yt ([]:List (A8×Int)) s11.1 1) h _ (hC.getM 0 rfl) (hC.getP 4 rfl) (hC.getM 2 rfl)) (fun ret25 w63 hR26=>?_)
           obtain ⟨r27,b26,rfl,h,hr25,hf24,hB26⟩:=hR26
           refine⟨_,rfl,?_⟩
           replace hC:=hC.push hB26 (mapS b26 r27) hr25 (fun b_ hb_=>by obtain rfl:=ZEf.1 hb_; exact hf24)
           refine Zd (v:=.map (some b26)) rfl (done (Z8 ?_))
           exact⟨rfl,_,rfl,⟨b26,r27,(sl ⟨rfl,rfl,rfl,rfl,rfl,rfl,rfl,rfl,rfl,rfl,rfl,rfl,rfl,trivial⟩),((hC.xM [0,6,7,8,9,10] rfl).sP [1,2,3,4,5,6,7] rfl),h⟩⟩
          ·skip
           refine Zap hC 1 s11.1 1 rfl Jt ZLu rfl rfl rfl (fun w64 hBB_ hC=>?_) (.inr rfl)
           refine done ?_
           refine Xd (Zab hN_ hnb_b13104 hBB_) hN_ (l9:=(Zc 22 522239)) (by kernel_rfl) (fun hN_=>?_)
           refine bMR (Xf _) 19 (.map (some b13)) rfl hM10 (Zc 22 1046527) (aO 11 rfl ?_)
           refine Zg [.map (some b18),u0_0,.map (some b10)] _ ZNx rfl rfl rfl (J5 (Yt ([]:List (A8×Int)) (s10.1.set i10 (ZFm.wrap ((q10.1.get i10) - 1))) 1) a0.degrees ml10 h _ (hC.getM 0 rfl) (hC.getP 4 rfl) (hC.getP 0 rfl)) (fun ret26 w65 hR27=>?_)
           obtain ⟨r28,b39,rfl,h,hr26,hf25,hB27⟩:=hR27
           refine⟨_,rfl,?_⟩
           replace hC:=hC.push hB27 (mapS b39 r28) hr26 (fun b_ hb_=>by obtain rfl:=ZEf.1 hb_; exact hf25)
           refine done ?_
           refine Xd (Jk hN_ (by assumption)) hN_ (l9:=(Zc 22 1048575)) (by kernel_rfl) (fun hN_=>?_)
           refine Z7 20 (by decide) (by decide) (by kernel_rfl) (by kernel_rfl) rfl ?_
           refine Zg [.map (some b39),u0_0,.map (some b13)] _ ZNx rfl rfl rfl (J5 r28 a0.degrees (Yt ([]:List (A8×Int)) s11.1 1) h _ (hC.getM 0 rfl) (hC.getP 4 rfl) (hC.getM 2 rfl)) (fun ret27 w66 hR28=>?_)
           obtain ⟨r29,b27,rfl,h,hr27,hf26,hB28⟩:=hR28
           refine⟨_,rfl,?_⟩
           replace hC:=hC.push hB28 (mapS b27 r29) hr27 (fun b_ hb_=>by obtain rfl:=ZEf.1 hb_; exact hf26)
           refine Zd (v:=.map (some b27)) rfl (done (Z8 ?_))
           exact⟨rfl,_,rfl,⟨b27,r29,(sl ⟨rfl,rfl,rfl,rfl,rfl,rfl,rfl,rfl,rfl,rfl,rfl,rfl,rfl,trivial⟩),((hC.xM [0,6,7,8,9,10] rfl).sP [1,2,3,4,5,6,7] rfl),h⟩⟩
         ·skip
          refine Zap hC 1 s11.1 1 rfl Jt ZLu rfl rfl rfl (fun w67 hBB_ hC=>?_) (.inr rfl)
          refine done ?_
          refine Xd (Zab hN_ hnb_b13104 hBB_) hN_ (l9:=(Zc 22 522227)) (by kernel_rfl) (fun hN_=>?_)
          refine bMR (Xf _) 19 (.map (some b13)) rfl hM10 (Zc 22 1046515) (aO 2 rfl ?_)
          refine Zap hC 0 (s10.1.set i10 (ZFm.wrap ((q10.1.get i10) - 1))) 1 rfl Jt ZLu rfl rfl rfl (fun w68 hBB_ hC=>?_) (.inr rfl)
          refine done ?_
          refine Xd (Zab hN_ hnb_b13107 hBB_) hN_ (l9:=(Zc 22 1046519)) (by kernel_rfl) (fun hN_=>?_)
          refine bMR (Xf _) 3 (.map (some b18)) rfl hM10 (Zc 22 1046527) (aO 11 rfl ?_)
          refine Zg [.map (some b18),u0_0,.map (some b10)] _ ZNx rfl rfl rfl (J5 (Yt ([]:List (A8×Int)) (s10.1.set i10 (ZFm.wrap ((q10.1.get i10) - 1))) 1) a0.degrees ml10 h _ (hC.getM 0 rfl) (hC.getP 4 rfl) (hC.getP 0 rfl)) (fun ret28 w69 hR29=>?_)
          obtain ⟨r30,b40,rfl,h,hr28,hf27,hB29⟩:=hR29
          refine⟨_,rfl,?_⟩
          replace hC:=hC.push hB29 (mapS b40 r30) hr28 (fun b_ hb_=>by obtain rfl:=ZEf.1 hb_; exact hf27)
          refine done ?_
          refine Xd (Jk hN_ (by assumption)) hN_ (l9:=(Zc 22 1048575)) (by kernel_rfl) (fun hN_=>?_)
          refine Z7 20 (by decide) (by decide) (by kernel_rfl) (by kernel_rfl) rfl ?_
          refine Zg [.map (some b40),u0_0,.map (some b13)] _ ZNx rfl rfl rfl (J5 r30 a0.degrees (Yt ([]:List (A8×Int)) s11.1 1) h _ (hC.getM 0 rfl) (hC.getP 4 rfl) (hC.getM 2 rfl)) (fun ret29 w70 hR30=>?_)
          obtain ⟨r31,b28,rfl,h,hr29,hf28,hB30⟩:=hR30
          refine⟨_,rfl,?_⟩
          replace hC:=hC.push hB30 (mapS b28 r31) hr29 (fun b_ hb_=>by obtain rfl:=ZEf.1 hb_; exact hf28)
          refine Zd (v:=.map (some b28)) rfl (done (Z8 ?_))
          exact⟨rfl,_,rfl,⟨b28,r31,(sl ⟨rfl,rfl,rfl,rfl,rfl,rfl,rfl,rfl,rfl,rfl,rfl,rfl,rfl,trivial⟩),((hC.xM [0,6,7,8,9,10] rfl).sP [1,2,3,4,5,6,7] rfl),h⟩⟩
        ·skip
         refine Zap hC 0 s11.1 1 rfl Jt ZLu rfl rfl rfl (fun w71 hBB_ hC=>?_) (.inr rfl)
         refine done ?_
         refine Xd (Zab hN_ hnb_b13104 hBB_) hN_ (l9:=(Zc 22 522226)) (by kernel_rfl) (fun hN_=>?_)
         refine bMR (Xf _) 19 (.map (some b13)) rfl hM10 (Zc 22 1046514) (aO 0 rfl (Zds hC (kvA .i64) (vvI .i64) fun b41 w72 hn_ hB_ hC=>?_))
         have hnb_b13170:=ZDa hN_ hn_
         refine done ?_
         refine Xd (Jk hN_ (by assumption)) hN_ (l9:=(Zc 22 1046515)) (by kernel_rfl) (fun hN_=>?_)
         refine aO 2 rfl ?_
         refine Zap hC 0 (s10.1.set i10 (ZFm.wrap ((q10.1.get i10) - 1))) 1 rfl Jt ZLu rfl rfl rfl (fun w73 hBB_ hC=>?_) (.inr rfl)
         refine done ?_
         refine Xd (Zab hN_ hnb_b13170 hBB_) hN_ (l9:=(Zc 22 1046519)) (by kernel_rfl) (fun hN_=>?_)
         refine bMR (Xf _) 3 (.map (some b41)) rfl hM10 (Zc 22 1046527) (aO 11 rfl ?_)
         refine Zg [.map (some b41),u0_0,.map (some b10)] _ ZNx rfl rfl rfl (J5 (Yt ([]:List (A8×Int)) (s10.1.set i10 (ZFm.wrap ((q10.1.get i10) - 1))) 1) a0.degrees ml10 h _ (hC.getM 0 rfl) (hC.getP 4 rfl) (hC.getP 0 rfl)) (fun ret30 w74 hR31=>?_)
         obtain ⟨r32,b42,rfl,h,hr30,hf29,hB31⟩:=hR31
         refine⟨_,rfl,?_⟩
         replace hC:=hC.push hB31 (mapS b42 r32) hr30 (fun b_ hb_=>by obtain rfl:=ZEf.1 hb_; exact hf29)
         refine done ?_
         refine Xd (Jk hN_ (by assumption)) hN_ (l9:=(Zc 22 1048575)) (by kernel_rfl) (fun hN_=>?_)
         refine Z7 20 (by decide) (by decide) (by kernel_rfl) (by kernel_rfl) rfl ?_
         refine Zg [.map (some b42),u0_0,.map (some b13)] _ ZNx rfl rfl rfl (J5 r32 a0.degrees (Yt ([]:List (A8×Int)) s11.1 1) h _ (hC.getM 0 rfl) (hC.getP 4 rfl) (hC.getM 2 rfl)) (fun ret31 w75 hR32=>?_)
         obtain ⟨r33,b29,rfl,h,hr31,hf30,hB32⟩:=hR32
         refine⟨_,rfl,?_⟩
         replace hC:=hC.push hB32 (mapS b29 r33) hr31 (fun b_ hb_=>by obtain rfl:=ZEf.1 hb_; exact hf30)
         refine Zd (v:=.map (some b29)) rfl (done (Z8 ?_))
         exact⟨rfl,_,rfl,⟨b29,r33,(sl ⟨rfl,rfl,rfl,rfl,rfl,rfl,rfl,rfl,rfl,rfl,rfl,rfl,rfl,trivial⟩),((hC.xM [0,6,7,8,9,10] rfl).sP [1,2,3,4,5,6,7] rfl),h⟩⟩
     ·skip
      exact⟨(sl ⟨rfl,rfl,rfl,rfl,rfl,rfl,rfl,rfl,rfl,rfl,rfl,rfl,rfl,rfl,rfl,trivial⟩),hC⟩
    ·replace h:=Zl h (cf hb14)
     refine ZK0 (Ze (sr (Za (v:=vI (i10:Int)) rfl (Za (v:=vI (q10.1.get i10)) rfl (Xx i10 ZLj sc3.size rfl rfl (ZLc _) (by omega) (by omega) (Z4 (v:=vI (q10.1.get i10)) hC 0 [vI (q10.1.get i10)] (ZKt .i64 (s10.1.set i10 (q10.1.get i10))) rfl sc3.size rfl rfl rfl rfl rfl hi10 (ZLq _ _ _ hi10) fun w76 hC=>dn (sr (Za (v:=vI (i10:Int)) rfl (Za (v:=vQ b0) rfl (Xl rfl ?_))))))))))
     refine Z1 0 ZLg rfl sc22.size rfl rfl (Zce (u0_0) (hC.getP 5 rfl) sc22 rfl rfl ?_)
     obtain ⟨Ad12,c12,hv14⟩:=Zu (hC.getP 3 rfl)
     refine Zt ZLf (tr rfl hv14) (Zp rfl rfl (Za (v:=.bool (decide ((i10:Int) < (a0.degrees.length:Int)))) rfl ?_))
     refine Y8 (decide ((i10:Int) < (a0.degrees.length:Int))) (fun hb11=>?_) (fun hb11=>?_)
     ·replace h:=ift h (ct hb11)
      refine Zm 7 87 rfl rfl hb11 (Za (v:=vQ b0) rfl (Zm 7 87 rfl rfl hb11 (Xl rfl (Zm 7 87 rfl rfl hb11 (Z1 0 ZLg rfl sc22.size rfl rfl (Zm 7 87 rfl rfl hb11 (Zce (u0_0) (hC.getP 5 rfl) sc22 rfl rfl (Zm 7 87 rfl rfl hb11 (Za (v:=vI (i10:Int)) rfl (Zm 7 87 rfl rfl hb11 ?_))))))))))
      obtain ⟨⟨h14,h15⟩,h⟩:=h
      obtain ⟨Ad13,c13,hv11⟩:=Zx (hC.getP 3 rfl) i10 (show i10 < a0.degrees.length by omega)
      refine Yn (len:=a0.degrees.length) ZLf sc2.size (tr rfl hv11) rfl h14 h15 (Zm 7 87 rfl rfl hb11 (Yo (vI (a0.degrees.getD i10 ZC7)) (Ye (hC.getP 3 rfl) hv11 i10 (show i10 < a0.degrees.length by omega)) sc2 rfl (Zm 7 87 rfl rfl hb11 (Ja rfl rfl (by decide) (Zm 7 87 rfl rfl hb11 (Xu rfl rfl (Z3 (v:=.bool (decide (ZDy (a0.degrees.getD i10 ZC7) 2=1))) (b:=true) (tr rfl (congrArg _ hb11)) rfl (Za (v:=.bool (decide (ZDy (a0.degrees.getD i10 ZC7) 2=1))) rfl ?_))))))))
      refine Y8 (decide (ZDy (a0.degrees.getD i10 ZC7) 2=1)) (fun hb13=>?_) (fun hb13=>?_)
      ·replace h:=ift h (ct hb13)
       refine Zm 18 98 rfl rfl hb13 (Za (v:=vI (q10.1.get i10)) rfl (Zm 18 98 rfl rfl hb13 (Ja rfl rfl (by decide) (Zm 18 98 rfl rfl hb13 (Xu rfl rfl (Z3 (v:=.bool (decide (ZDy (q10.1.get i10) 2=1))) (b:=true) (tr rfl (congrArg _ hb13)) rfl (dn ?_)))))))
       refine Zs rfl (fun hb17=>?_) (fun hb17=>?_)
       ·replace h:=ift h (ct hb17)
        refine Zh (Za (v:=vI s10.2.2) rfl (Zja rfl (Zd (v:=vI (ZFm.wrap (0 - s10.2.2))) rfl (done (Zr (Ze (Zh (Zq rfl rfl (Za (v:=vI (ZFm.wrap ((i10:Int)+1))) rfl (done ?_))))))))))
        exact hK10 (s10.1.set i10 (q10.1.get i10),s10.2.1,ZFm.wrap (0 - s10.2.2)) _ _ ⟨(sl ⟨rfl,rfl,rfl,rfl,rfl,rfl,rfl,rfl,rfl,(tr rfl (congrArg _ (Z5 hi10 (by decide)))),trivial⟩),hC⟩ h
       ·replace h:=Zl h (cf hb17)
        refine ZK0 (Zr (Ze (Zh (Zq rfl rfl (Za (v:=vI (ZFm.wrap ((i10:Int)+1))) rfl (done ?_))))))
        exact hK10 (s10.1.set i10 (q10.1.get i10),s10.2.1,s10.2.2) _ _ ⟨(sl ⟨rfl,rfl,rfl,rfl,rfl,rfl,rfl,rfl,rfl,(tr rfl (congrArg _ (Z5 hi10 (by decide)))),trivial⟩),hC⟩ h
      ·replace h:=Zl h (cf hb13)
       refine Zk (b:=false) 18 98 rfl (tr rfl (congrArg _ hb13)) (by decide) (Zk (b:=false) 18 98 rfl (tr rfl (congrArg _ hb13)) (by decide) (Zk (b:=false) 18 98 rfl (tr rfl (congrArg _ hb13)) (by decide) (Z3 (v:=.bool false) (b:=false) (tr rfl (congrArg _ hb13)) rfl (dn (Z2 rfl rfl (ZK0 (Zr (Ze (Zh (Zq rfl rfl (Za (v:=vI (ZFm.wrap ((i10:Int)+1))) rfl ?_)))))))))))
       refine done ?_
       exact hK10 (s10.1.set i10 (q10.1.get i10),s10.2.1,s10.2.2) _ _ ⟨(sl ⟨rfl,rfl,rfl,rfl,rfl,rfl,rfl,rfl,rfl,(tr rfl (congrArg _ (Z5 hi10 (by decide)))),trivial⟩),hC⟩ h
     ·replace h:=Zl h (cf hb11)
      refine Zk (b:=false) 7 87 rfl (tr rfl (congrArg _ hb11)) (by decide) (Zk (b:=false) 7 87 rfl (tr rfl (congrArg _ hb11)) (by decide) (Zk (b:=false) 7 87 rfl (tr rfl (congrArg _ hb11)) (by decide) (Zk (b:=false) 7 87 rfl (tr rfl (congrArg _ hb11)) (by decide) (Zk (b:=false) 7 87 rfl (tr rfl (congrArg _ hb11)) (by decide) (Zk (b:=false) 7 87 rfl (tr rfl (congrArg _ hb11)) (by decide) (Zk (b:=false) 7 87 rfl (tr rfl (congrArg _ hb11)) (by decide) (Zk (b:=false) 7 87 rfl (tr rfl (congrArg _ hb11)) (by decide) (Zk (b:=false) 7 87 rfl (tr rfl (congrArg _ hb11)) (by decide) (Z3 (v:=.bool false) (b:=false) (tr rfl (congrArg _ hb11)) rfl (Za (v:=.bool false) rfl (Zk (b:=false) 18 98 rfl (tr rfl (congrArg _ rfl)) (by decide) ?_)))))))))))
      refine Zk (b:=false) 18 98 rfl (tr rfl (congrArg _ rfl)) (by decide) (Zk (b:=false) 18 98 rfl (tr rfl (congrArg _ rfl)) (by decide) (Z3 (v:=.bool false) (b:=false) rfl rfl (dn (Z2 rfl rfl (ZK0 (Zr (Ze (Zh (Zq rfl rfl (Za (v:=vI (ZFm.wrap ((i10:Int)+1))) rfl (done ?_)))))))))))
      exact hK10 (s10.1.set i10 (q10.1.get i10),s10.2.1,s10.2.2) _ _ ⟨(sl ⟨rfl,rfl,rfl,rfl,rfl,rfl,rfl,rfl,rfl,(tr rfl (congrArg _ (Z5 hi10 (by decide)))),trivial⟩),hC⟩ h
   ·clear hC h
    rintro s10 e_ w77 K10 ⟨hS_,hC⟩ h
    rw [ue hS_]
    refine sr (Zp rfl rfl (dn (ZKw (Z2 rfl (decide_eq_false (by omega)) ?_))))
    refine ZLa (Zj (Zj (Z0 ?_)))
    refine Zr ?_
    exact hK11 q10 l10 s10.2.1 _ _ hp10 ⟨(some ent10),(sl ⟨rfl,rfl,rfl,rfl,trivial⟩),(hC.xM [2,3,4] rfl)⟩ h
   ·skip
    exact⟨(sl ⟨rfl,rfl,rfl,rfl,rfl,rfl,rfl,rfl,rfl,rfl,trivial⟩),hC⟩
 ·skip
  exact⟨none,(sl ⟨rfl,rfl,rfl,rfl,trivial⟩),(hC.sP [0,2,3,4,5,6,7] rfl)⟩
def Zhd (a0:A8) (K:A8→Prop):Prop :=
 Yc (fun i10 (s10:A8) nx10=>nx10 (s10.set i10 (a0.get i10))) (fun (s10:A8)=>K s10) 8 0 ZK1
theorem Zva (a0:A8)  {K:A8→Prop} (h:Zhd a0 K) (w0:World)  :
  Calls ZKz 177 #[.agg (ZKu (ZKt .u8 a0))] w0 fun e w'=>∃ (r0:A8),
   e=.returned (.agg (ZKu (ZKt .u8 r0)))∧K r0∧Bel w0 w':=by
 unfold Zhd at h
 refine cof Tryz.func177 rfl 15 Tryz.ntmps177 ?_
 have hC:=ZLh (X:=Nox) w0 [] (by simp)
 refine sr (Yi (v:=.agg (ZKu (ZKt .u8 a0))) hC (ZKt .u8 a0) rfl rfl fun b1 w3 hB_ hC=>Ys hC (ZKt .u8 ZK1) Zbl rfl fun b4 w6 hB_ hC=>dn (sr (Ys hC (ZKt .u8 ZK1) Zbl rfl fun b7 w9 hB_ hC=>dn (ZKw (sr (Zd (v:=vI 0) rfl (dn (ZK2 ?_))))))))
 refine Yk (S:=A8) _ _ (fun i10 s10 e_ w_=>Zv e_ [(1,vQ b1),(2,vQ b4),(3,vQ b7),(4,vI (i10:Int))]∧Ctx Nox w0 w_ [blk b7 136 (ZKt .u8 s10),blk b4 136 (ZKt .u8 ZK1),blk b1 135 (ZKt .u8 a0)] []) 8 ?_ ?_ (s0:=ZK1) ?_ h
 ·clear hC h
  rintro i10 s10 e_ w10 nx10 K10 hi10 ⟨hS_,hC⟩ h hK10
  rw [ue hS_]
  refine ZKw (sr (Za (v:=vI (i10:Int)) rfl (Zp rfl rfl (dn (Z6 rfl (decide_eq_true (by omega)) (ZK0 (Ze (ZKw (ZK2 (Zh (Za (v:=vI (i10:Int)) rfl ?_)))))))))))
  refine Za (v:=vI (i10:Int)) rfl (Xx i10 Tryz.underlying135 sc5.size rfl rfl (ZLc _) (by omega) (by omega) (Yb hC 2 (.int .u8 (a0.get i10)) rfl sc5 rfl (ZK9 _ _ hi10) (Xx i10 ZLe sc5.size rfl rfl (ZLc _) (by omega) (by omega) (Z4 (v:=.int .u8 (a0.get i10)) hC 0 [.int .u8 (a0.get i10)] (ZKt .u8 (s10.set i10 (a0.get i10))) rfl sc5.size rfl rfl rfl rfl rfl hi10 (ZLq _ _ _ hi10) fun w11 hC=>done (Zr (Ze (Zh (Za (v:=vI (i10:Int)) rfl (Zq rfl rfl (Zd (v:=vI (ZFm.wrap ((i10:Int)+1))) rfl ?_))))))))))
  refine done ?_
  exact hK10 (s10.set i10 (a0.get i10)) _ _ ⟨(sl ⟨rfl,rfl,rfl,(tr rfl (congrArg _ (Z5 hi10 (by decide)))),trivial⟩),hC⟩ h
 ·clear hC h
  rintro s10 e_ w12 K10 ⟨hS_,hC⟩ h
  rw [ue hS_]
  refine ZKw (sr (Za (v:=vI 8) rfl (Zp rfl rfl (dn (Z2 rfl (decide_eq_false (by omega)) ?_)))))
  refine ZLa (Zj (Zj (Z0 ?_)))
  refine Ze (sr (Yw hC 0 (ZKt .u8 s10) rfl ag136 rfl rfl rfl (Z4 (v:=.agg (ZKu (ZKt .u8 s10))) hC 1 (ZKt .u8 s10) (ZKt .u8 s10) rfl ag136.size rfl rfl rfl rfl rfl (ZK5 rfl) rfl fun w13 hC=>dn (ZK4 ?_))))
  refine Zi (fn:=Tryz.f177) rfl ?_ ⟨s10,rfl,h,hC.below⟩ (.inl rfl)
  exact J8 hC 1 rfl ag136 rfl rfl
 ·skip
  exact⟨(sl ⟨rfl,rfl,rfl,rfl,trivial⟩),hC⟩
def Zhe (a0:List Int) (K:List Int→Prop):Prop :=
 ((0≤(a0.length:Int)∧(a0.length:Int) * 8≤281474976710656)∧Yc (fun i10 (s10:(List Int)) nx10=>((0≤(i10:Int)∧(i10:Int) < (s10.length:Int))∧nx10 (s10.set i10 (a0.getD i10 ZC7)))) (fun (s10:(List Int))=>K s10) a0.length 0 (ZC2 ((a0.length:Int).toNat) (0:Int)))
theorem Zvb (a0:List Int)  {K:List Int→Prop} (h:Zhe a0 K) (w0:World) (q0:ZNz.rep a0 [u0_0] fp0 w0) :
  Calls ZKz 41 #[u0_0] w0 fun e w'=>∃ (r0:List Int) (z0_0:Value) (fz0:List Nat),
   e=.returned (z0_0)∧K r0∧(ZLd (Tr.sl 2 (eI.tr)) r0 [z0_0] fz0).holds w'∧(∀ b,b∈fz0→w0.heap.size≤b)∧Bel w0 w':=by
 unfold Zhe at h
 refine cof Tryz.func41 rfl 22 Tryz.ntmps41 ?_
 have hC:=ZLh (X:=Nox) w0 [ZKv TInts a0 [u0_0] fp0] (al1 q0)
 refine sr (Zd (v:=.slice none 0 0) rfl (dn (sr (Za (v:=u0_0) rfl ?_))))
 obtain ⟨Ad2,c3,hv4⟩:=Zu (hC.getP 0 rfl)
 refine Zt ZLf (tr rfl hv4) ?_
 obtain ⟨hm7,h⟩:=h
 refine Zbz (sz:=1) hC (eI.encs (ZC2 ((a0.length:Int).toNat) (0:Int))) ZLf el2 (tr rfl (congrArg (ZN5 .i64) (ZN6 hm7.1).symm)) (tr rfl (congrArg (ZN5 .i64) (ZN6 hm7.1).symm)) (by omega) (by omega) (Zbh (E:=eI) _ _) fun v5 w6 hB_ hC=>?_
 replace hC:=Y9 hC 0 ((ZC2 ((a0.length:Int).toNat) (0:Int)).length) (eI.encs (ZC2 ((a0.length:Int).toNat) (0:Int))) rfl (by simp) rfl
 refine Zd (v:=v5) rfl (dn (ZKw (sr (Zd (v:=vI 0) rfl (dn (ZK2 ?_))))))
 have hN10:a0.length≤9223372036854775807:=Y2 (hC.getP 0 rfl)
 refine Yk (S:=(List Int)) _ _ (fun i10 s10 e_ w_=>∃ (v10:Value),Zv e_ [(0,u0_0),(3,v10),(4,vI (i10:Int))]∧Ctx Nox w0 w_ [own 2 1 v10 s10.length (eI.encs s10)] [ZKv TInts a0 [u0_0] fp0]) a0.length ?_ ?_ (s0:=(ZC2 ((a0.length:Int).toNat) (0:Int))) ?_ h
 ·clear hC h
  rintro i10 s10 e_ w10 nx10 K10 hi10 ⟨v10,hS_,hC⟩ h hK10
  rw [ue hS_]
  refine ZKw (sr (Za (v:=vI (i10:Int)) rfl (Za (v:=u0_0) rfl ?_)))
  obtain ⟨Ad10,c10,hv12⟩:=Zu (hC.getP 0 rfl)
  refine Zt ZLf (tr rfl hv12) (Zp rfl rfl (dn (Z6 rfl (decide_eq_true (by omega)) (ZK0 (Ze (ZKw (ZK2 (Zh (Za (v:=v10) rfl (Za (v:=vI (i10:Int)) rfl (Za (v:=u0_0) rfl ?_)))))))))))
  refine Za (v:=vI (i10:Int)) rfl ?_
  obtain ⟨Ad11,c11,hv10⟩:=Zx (hC.getP 0 rfl) i10 hi10
  refine Yn (len:=a0.length) ZLf sc2.size (tr rfl hv10) rfl (ZLc _) (ZLv.2 hi10) (Yo (vI (a0.getD i10 ZC7)) (Ye (hC.getP 0 rfl) hv10 i10 hi10) sc2 rfl ?_)
  obtain ⟨⟨h10,h11⟩,h⟩:=h
  obtain ⟨Ad12,c12,hv11⟩:=Xz (hC.getM 0 rfl) (ZOj (Nat.zero_le _) (show i10 < s10.length by omega))
  refine X6 (i10 * 1) ZLf sc2.size (tr rfl hv11) rfl h10 h11 rfl (Zcc (v:=vI (a0.getD i10 ZC7)) hC 0 [vI (a0.getD i10 ZC7)] (eI.encs (s10.set i10 (a0.getD i10 ZC7))) rfl hv11 sc2.size rfl rfl rfl rfl rfl (by rw [Enc.encs_len]; exact Zav (sz:=1) (show i10 < s10.length by omega)) (Zcd _ _ _ (show i10 < s10.length by omega)) fun w11 hC=>?_)
  replace hC:=Y9 hC 0 ((s10.set i10 (a0.getD i10 ZC7)).length) (eI.encs (s10.set i10 (a0.getD i10 ZC7))) rfl (by simp) rfl
  refine done (Zr (Ze (Zh (Za (v:=vI (i10:Int)) rfl (Zq rfl rfl (Zd (v:=vI (ZFm.wrap ((i10:Int)+1))) rfl (done ?_)))))))
  exact hK10 (s10.set i10 (a0.getD i10 ZC7)) _ _ ⟨v10,(sl ⟨rfl,rfl,(tr rfl (congrArg _ (Z5 hi10 hN10))),trivial⟩),hC⟩ h
 ·clear hC h
  rintro s10 e_ w12 K10 ⟨v10,hS_,hC⟩ h
  rw [ue hS_]
  refine ZKw (sr (Za (v:=vI (a0.length:Int)) rfl (Za (v:=u0_0) rfl ?_)))
  obtain ⟨Ad13,c13,hv13⟩:=Zu (hC.getP 0 rfl)
  refine Zt ZLf (tr rfl hv13) (Zp rfl rfl (dn (Z2 rfl (decide_eq_false (by omega)) ?_)))
  refine ZLa (Zj (Zj (Z0 ?_)))
  refine Ze (sr (Za (v:=v10) rfl (Zd (v:=v10) rfl (dn (ZK4 ?_)))))
  refine Zi (fn:=Tryz.f41) rfl ?_ ⟨s10,v10,(ZLw (ZD0 v10)),rfl,h,(Xq (hC.getM 0 rfl)),(Xi hC 0 rfl),hC.below⟩ (.inl rfl)
  exact Zf rfl
 ·skip
  exact⟨v5,(sl ⟨rfl,rfl,rfl,trivial⟩),hC⟩
def Zhf (a0:A8) (a1:A8) (K:Bool→Prop):Prop :=
 Yc (fun i10 (s10:Unit) nx10=>(if a0.get i10≠a1.get i10 then K false else nx10 ())) (fun (s10:Unit)=>K true) 8 0 ()
theorem Zvc (a0:A8) (a1:A8)  {K:Bool→Prop} (h:Zhf a0 a1 K) (w0:World)  :
  Calls ZKz 188 #[.agg (ZKu (ZKt .u8 a0)),.agg (ZKu (ZKt .u8 a1))] w0 fun e w'=>∃ (r0:Bool),
   e=.returned (.bool r0)∧K r0∧Bel w0 w':=by
 unfold Zhf at h
 refine cof Tryz.func188 rfl 17 Tryz.ntmps188 ?_
 have hC:=ZLh (X:=Nox) w0 [] (by simp)
 refine sr (Yi (v:=.agg (ZKu (ZKt .u8 a0))) hC (ZKt .u8 a0) rfl rfl fun b1 w3 hB_ hC=>Yi (v:=.agg (ZKu (ZKt .u8 a1))) hC (ZKt .u8 a1) rfl rfl fun b4 w6 hB_ hC=>Zd (v:=.bool false) rfl (dn (ZKw (sr (Zd (v:=vI 0) rfl (dn (ZK2 ?_)))))))
 refine Yk (S:=Unit) _ _ (fun i10 s10 e_ w_=>Zv e_ [(2,vQ b1),(3,vQ b4),(5,vI (i10:Int))]∧Ctx Nox w0 w_ [blk b4 136 (ZKt .u8 a1),blk b1 136 (ZKt .u8 a0)] []) 8 ?_ ?_ (s0:=()) ?_ h
 ·clear hC h
  rintro i10 s10 e_ w10 nx10 K10 hi10 ⟨hS_,hC⟩ h hK10
  rw [ue hS_]
  refine ZKw (sr (Za (v:=vI (i10:Int)) rfl (Zp rfl rfl (dn (Z6 rfl (decide_eq_true (by omega)) (ZK0 (Ze (ZKw (ZK2 (ZKw ?_))))))))))
  refine Yq 6 Yl [0,1,3,0,8,24,63] [1,2,4,5] [0,3] (by kernel_rfl) (by kernel_rfl) (by kernel_rfl) (fun hM10 hM11 w11 hB_=>?_)
  replace hC:=hC.grow hB_
  refine bM 0 (vI (i10:Int)) rfl hM11 (Zc 7 1) (bL 1 (.pointer (some ⟨b1,i10,none⟩)) rfl rfl hM10 (fun _ hB_=>by exact Zaf i10 ZLe sc5.size rfl rfl (ZLc _) (by omega) (by omega)) (Zc 7 3) (bL 2 (.int .u8 (a0.get i10)) rfl rfl hM10 (fun _ hB_=>by exact Yg (hC.grow hB_) 1 (.int .u8 (a0.get i10)) rfl sc5 rfl (ZK9 _ _ hi10)) (Zc 7 7) (bM 3 (vI (i10:Int)) rfl hM11 (Zc 7 15) (bL 4 (.pointer (some ⟨b4,i10,none⟩)) rfl rfl hM10 (fun _ hB_=>by exact Zaf i10 ZLe sc5.size rfl rfl (ZLc _) (by omega) (by omega)) (Zc 7 31) (bL 5 (.int .u8 (a1.get i10)) rfl rfl hM10 (fun _ hB_=>by exact Yg (hC.grow hB_) 0 (.int .u8 (a1.get i10)) rfl sc5 rfl (ZK9 _ _ hi10)) (Zc 7 63) (Z7 6 (by decide) (by decide) (by kernel_rfl) (by kernel_rfl) rfl (Y5 rfl rfl (done (Z8 (Ze ?_))))))))))
  refine Zs rfl (fun hb10=>?_) (fun hb10=>?_)
  ·replace h:=ift h (ct hb10)
   refine sr (Zd (v:=.bool false) rfl (dn ?_))
   refine ZK4 (Z9 (Zn (Zn (Z9 (Zn ?_)))))
   refine Zi (fn:=Tryz.f188) rfl ?_ ⟨false,rfl,h,hC.below⟩ (.inl rfl)
   exact Zf rfl
  ·replace h:=Zl h (cf hb10)
   refine ZK0 (Zr (Ze (Zh (Za (v:=vI (i10:Int)) rfl (Zq rfl rfl (Zd (v:=vI (ZFm.wrap ((i10:Int)+1))) rfl (done ?_)))))))
   exact hK10 () _ _ ⟨(sl ⟨rfl,rfl,(tr rfl (congrArg _ (Z5 hi10 (by decide)))),trivial⟩),hC⟩ h
 ·clear hC h
  rintro s10 e_ w12 K10 ⟨hS_,hC⟩ h
  rw [ue hS_]
  refine ZKw (sr (Za (v:=vI 8) rfl (Zp rfl rfl (dn (Z2 rfl (decide_eq_false (by omega)) ?_)))))
  refine ZLa (Zj (Zj (Z0 ?_)))
  refine Ze (sr (Zd (v:=.bool true) rfl (dn (ZK4 ?_))))
  refine Zi (fn:=Tryz.f188) rfl ?_ ⟨true,rfl,h,hC.below⟩ (.inl rfl)
  exact Zf rfl
 ·skip
  exact⟨(sl ⟨rfl,rfl,rfl,trivial⟩),hC⟩
def Zhg (a0:List Int) (a1:List Int) (K:Bool→Prop):Prop :=
 (if(a0.length:Int)≠(a1.length:Int) then K false else Yc (fun i10 (s10:Unit) nx10=>((0≤(i10:Int)∧(i10:Int) < (a1.length:Int))∧(if a0.getD i10 ZC7≠a1.getD i10 ZC7 then K false else nx10 ()))) (fun (s10:Unit)=>K true) a0.length 0 ())
theorem Zvd (a0:List Int) (a1:List Int)  {K:Bool→Prop} (h:Zhg a0 a1 K) (w0:World) (q0:ZNz.rep a0 [u0_0] fp0 w0) (q1:ZNz.rep a1 [u1_0] fp1 w0) :
  Calls ZKz 25 #[u0_0,u1_0] w0 fun e w'=>∃ (r0:Bool),
   e=.returned (.bool r0)∧K r0∧Bel w0 w':=by
 unfold Zhg at h
 refine cof Tryz.func25 rfl 26 Tryz.ntmps25 ?_
 have hC:=ZLh (X:=Nox) w0 [ZKv TInts a0 [u0_0] fp0,ZKv TInts a1 [u1_0] fp1] (alc q0 (al1 q1))
 refine sr (Zd (v:=.bool false) rfl (dn (ZKw (sr (Za (v:=u0_0) rfl ?_)))))
 obtain ⟨Ad3,c4,hv5⟩:=Zu (hC.getP 0 rfl)
 refine Zt ZLf (tr rfl hv5) (Za (v:=u1_0) rfl ?_)
 obtain ⟨Ad6,c7,hv8⟩:=Zu (hC.getP 1 rfl)
 refine Zt ZLf (tr rfl hv8) (Y5 rfl rfl (dn ?_))
 refine Zs rfl (fun hb9=>?_) (fun hb9=>?_)
 ·replace h:=ift h (ct hb9)
  refine sr (Zd (v:=.bool false) rfl (dn ?_))
  refine ZK4 (Zn ?_)
  refine Zi (fn:=Tryz.f25) rfl ?_ ⟨false,rfl,h,hC.below⟩ (.inl rfl)
  exact Zf rfl
 ·replace h:=Zl h (cf hb9)
  refine ZK0 (Ze (ZKw (sr (Zd (v:=vI 0) rfl (dn (ZK2 ?_))))))
  have hN10:a0.length≤9223372036854775807:=Y2 (hC.getP 0 rfl)
  refine Yk (S:=Unit) _ _ (fun i10 s10 e_ w_=>Zv e_ [(0,u0_0),(1,u1_0),(5,vI (i10:Int))]∧Ctx Nox w0 w_ [] [ZKv TInts a0 [u0_0] fp0,ZKv TInts a1 [u1_0] fp1]) a0.length ?_ ?_ (s0:=()) ?_ h
  ·clear hC h
   rintro i10 s10 e_ w10 nx10 K10 hi10 ⟨hS_,hC⟩ h hK10
   rw [ue hS_]
   refine ZKw (sr (Za (v:=vI (i10:Int)) rfl (Za (v:=u0_0) rfl ?_)))
   obtain ⟨Ad12,c10,hv12⟩:=Zu (hC.getP 0 rfl)
   refine Zt ZLf (tr rfl hv12) (Zp rfl rfl (dn (Z6 rfl (decide_eq_true (by omega)) (ZK0 (Ze (ZKw (ZK2 (ZKw ?_))))))))
   refine Yq 8 Yl [0,0,3,7,0,0,48,112,255] [2,3,6,7] [0,1,4,5] (by kernel_rfl) (by kernel_rfl) (by kernel_rfl) (fun hM10 hM11 w11 hB_=>?_)
   replace hC:=hC.grow hB_
   refine bM 0 (u0_0) rfl hM11 (Zc 9 1) (bM 1 (vI (i10:Int)) rfl hM11 (Zc 9 3) ?_)
   obtain ⟨Ad10,c11,hv10⟩:=Zx (hC.getP 0 rfl) i10 hi10
   refine bL 2 (.pointer (some (Ad10.add (i10 * 1)))) rfl rfl hM10 (fun _ hB_=>by exact Y1 (len:=a0.length) ZLf sc2.size (by exact tr rfl hv10) rfl (ZLc _) (ZLv.2 hi10)) (Zc 9 7) (bL 3 (vI (a0.getD i10 ZC7)) rfl rfl hM10 (fun _ hB_=>by exact Xp (vI (a0.getD i10 ZC7)) (Ye ((hC.grow hB_).getP 0 rfl) hv10 i10 hi10) sc2 rfl) (Zc 9 15) (bM 4 (u1_0) rfl hM11 (Zc 9 31) (bM 5 (vI (i10:Int)) rfl hM11 (Zc 9 63) ?_)))
   obtain ⟨⟨h10,h11⟩,h⟩:=h
   obtain ⟨Ad11,c12,hv11⟩:=Zx (hC.getP 1 rfl) i10 (show i10 < a1.length by omega)
   refine bL 6 (.pointer (some (Ad11.add (i10 * 1)))) rfl rfl hM10 (fun _ hB_=>by exact Y1 (len:=a1.length) ZLf sc2.size (by exact tr rfl hv11) rfl h10 h11) (Zc 9 127) (bL 7 (vI (a1.getD i10 ZC7)) rfl rfl hM10 (fun _ hB_=>by exact Xp (vI (a1.getD i10 ZC7)) (Ye ((hC.grow hB_).getP 1 rfl) hv11 i10 (show i10 < a1.length by omega)) sc2 rfl) (Zc 9 255) (Z7 8 (by decide) (by decide) (by kernel_rfl) (by kernel_rfl) rfl (Y5 rfl rfl (done (Z8 (Ze ?_))))))
   refine Zs rfl (fun hb10=>?_) (fun hb10=>?_)
   ·replace h:=ift h (ct hb10)
    refine sr (Zd (v:=.bool false) rfl (dn ?_))
    refine ZK4 (Z9 (Zn (Zn (Z9 (Zn ?_)))))
    refine Zi (fn:=Tryz.f25) rfl ?_ ⟨false,rfl,h,hC.below⟩ (.inl rfl)
    exact Zf rfl
   ·replace h:=Zl h (cf hb10)
    refine ZK0 (Zr (Ze (Zh (Za (v:=vI (i10:Int)) rfl (Zq rfl rfl (Zd (v:=vI (ZFm.wrap ((i10:Int)+1))) rfl (done ?_)))))))
    exact hK10 () _ _ ⟨(sl ⟨rfl,rfl,(tr rfl (congrArg _ (Z5 hi10 hN10))),trivial⟩),hC⟩ h
  ·clear hC h
   rintro s10 e_ w12 K10 ⟨hS_,hC⟩ h
   rw [ue hS_]
   refine ZKw (sr (Za (v:=vI (a0.length:Int)) rfl (Za (v:=u0_0) rfl ?_)))
   obtain ⟨Ad13,c13,hv13⟩:=Zu (hC.getP 0 rfl)
   refine Zt ZLf (tr rfl hv13) (Zp rfl rfl (dn (Z2 rfl (decide_eq_false (by omega)) ?_)))
   refine ZLa (Zj (Zj (Z0 ?_)))
   refine Ze (sr (Zd (v:=.bool true) rfl (dn (ZK4 ?_))))
   refine Zi (fn:=Tryz.f25) rfl ?_ ⟨true,rfl,h,hC.below⟩ (.inl rfl)
   exact Zf rfl
  ·skip
   exact⟨(sl ⟨rfl,rfl,rfl,trivial⟩),hC⟩
def Zhh (a0:Term) (K:Term→Prop):Prop :=
 Zhd a0.mono (fun r10=>K (⟨r10,a0.factor⟩:Term))
theorem Zve (a0:Term)  {K:Term→Prop} (h:Zhh a0 K) (w0:World)  :
  Calls ZKz 130 #[.agg (ZKu (ZK7 a0))] w0 fun e w'=>∃ (r0:Term),
   e=.returned (.agg (ZKu (ZK7 r0)))∧K r0∧Bel w0 w':=by
 unfold Zhh at h
 refine cof Tryz.func130 rfl 12 Tryz.ntmps130 ?_
 have hC:=ZLh (X:=Nox) w0 [] (by simp)
 refine sr (Yi (v:=.agg (ZKu (ZK7 a0))) hC (ZK7 a0) rfl rfl fun b1 w3 hB_ hC=>Ys hC (ZK7 (⟨ZK1,0⟩:Term)) Zfl rfl fun b4 w6 hB_ hC=>dn (sr (Ys hC (ZK7 (⟨ZK1,0⟩:Term)) Zfl rfl fun b7 w9 hB_ hC=>dn (sr (Z1 0 Tryz.underlying170 rfl ag135.size rfl rfl (Yw hC 2 (ZKt .u8 a0.mono) rfl ag135 rfl rfl rfl ?_))))))
 refine Zg [.agg (ZKu (ZKt .u8 a0.mono))] _ Tryz.func177 rfl rfl rfl (Zva a0.mono h _) (fun ret10 w10 hR10=>?_)
 obtain ⟨r10,rfl,h,hB10⟩:=hR10
 refine⟨_,rfl,?_⟩
 replace hC:=hC.grow hB10
 refine Z1 0 ZLb rfl ag136.size rfl rfl (Z4 (v:=.agg (ZKu (ZKt .u8 r10))) hC 0 (ZKt .u8 r10) (ZK7 (⟨r10,0⟩:Term)) rfl ag136.size rfl rfl rfl rfl rfl (ZK5 rfl) rfl fun w11 hC=>dn (sr (Z1 8 Tryz.underlying170 rfl sc2.size rfl rfl (Yb hC 2 (vI a0.factor) rfl sc2 rfl rfl (Z1 8 ZLb rfl sc2.size rfl rfl (Z4 (v:=vI a0.factor) hC 0 [vI a0.factor] (ZK7 (⟨r10,a0.factor⟩:Term)) rfl sc2.size rfl rfl rfl rfl rfl (ZK5 rfl) rfl fun w12 hC=>dn (sr (Yw hC 0 (ZK7 (⟨r10,a0.factor⟩:Term)) rfl ag162 rfl rfl rfl (Z4 (v:=.agg (ZKu (ZK7 (⟨r10,a0.factor⟩:Term)))) hC 1 (ZK7 (⟨r10,a0.factor⟩:Term)) (ZK7 (⟨r10,a0.factor⟩:Term)) rfl ag162.size rfl rfl rfl rfl rfl (ZK5 rfl) rfl fun w13 hC=>?_)))))))))
 refine dn (ZK4 ?_)
 refine Zi (fn:=Tryz.f130) rfl ?_ ⟨(⟨r10,a0.factor⟩:Term),rfl,h,hC.below⟩ (.inl rfl)
 exact J8 hC 1 rfl ag162 rfl rfl
def Zhi (a0:List Term) (K:List Term→Prop):Prop :=
 ((0≤(a0.length:Int)∧(a0.length:Int) * 16≤281474976710656)∧Yc (fun i10 (s10:(List Term)) nx10=>Zhh (a0.getD i10 ZC7) (fun r10=>((0≤(i10:Int)∧(i10:Int) < (s10.length:Int))∧nx10 (s10.set i10 r10)))) (fun (s10:(List Term))=>K s10) a0.length 0 (ZC2 ((a0.length:Int).toNat) ((⟨ZK1,0⟩:Term):Term)))
theorem Zvf (a0:List Term)  {K:List Term→Prop} (h:Zhi a0 K) (w0:World) (q0:ZKx.ty.sl.rep a0 [u0_0] fp0 w0) :
  Calls ZKz 74 #[u0_0] w0 fun e w'=>∃ (r0:List Term) (z0_0:Value) (fz0:List Nat),
   e=.returned (z0_0)∧K r0∧(ZLd (Tr.sl 162 ZKx.tr) r0 [z0_0] fz0).holds w'∧(∀ b,b∈fz0→w0.heap.size≤b)∧Bel w0 w':=by
 unfold Zhi at h
 refine cof Tryz.func74 rfl 23 Tryz.ntmps74 ?_
 have hC:=ZLh (X:=Nox) w0 [ZKv ZKx.ty.sl a0 [u0_0] fp0] (al1 q0)
 refine sr (Zd (v:=.slice none 0 0) rfl (dn (sr (Za (v:=u0_0) rfl ?_))))
 obtain ⟨Ad2,c3,hv4⟩:=Zu (hC.getP 0 rfl)
 refine Zt ZN8 (tr rfl hv4) ?_
 obtain ⟨hm7,h⟩:=h
 refine Zbz (sz:=9) hC (ZKx.encs (ZC2 ((a0.length:Int).toNat) ((⟨ZK1,0⟩:Term):Term))) ZK6 Zfk (tr rfl (congrArg (ZN5 .i64) (ZN6 hm7.1).symm)) (tr rfl (congrArg (ZN5 .i64) (ZN6 hm7.1).symm)) (by omega) (by omega) (Zbh (E:=ETerm) _ _) fun v5 w6 hB_ hC=>?_
 replace hC:=Y9 hC 0 ((ZC2 ((a0.length:Int).toNat) ((⟨ZK1,0⟩:Term):Term)).length) (ZKx.encs (ZC2 ((a0.length:Int).toNat) ((⟨ZK1,0⟩:Term):Term))) rfl (by simp) rfl
 refine Zd (v:=v5) rfl (dn (ZKw (sr (Zd (v:=vI 0) rfl (dn (ZK2 ?_))))))
 have hN10:a0.length≤9223372036854775807:=Y2 (hC.getP 0 rfl)
 refine Yk (S:=(List Term)) _ _ (fun i10 s10 e_ w_=>∃ (v10:Value),Zv e_ [(0,u0_0),(3,v10),(4,vI (i10:Int))]∧Ctx Nox w0 w_ [own 162 9 v10 s10.length (ZKx.encs s10)] [ZKv ZKx.ty.sl a0 [u0_0] fp0]) a0.length ?_ ?_ (s0:=(ZC2 ((a0.length:Int).toNat) ((⟨ZK1,0⟩:Term):Term))) ?_ h
 ·clear hC h
  rintro i10 s10 e_ w10 nx10 K10 hi10 ⟨v10,hS_,hC⟩ h hK10
  rw [ue hS_]
  refine ZKw (sr (Za (v:=vI (i10:Int)) rfl (Za (v:=u0_0) rfl ?_)))
  obtain ⟨Ad10,c10,hv12⟩:=Zu (hC.getP 0 rfl)
  refine Zt ZN8 (tr rfl hv12) (Zp rfl rfl (dn (Z6 rfl (decide_eq_true (by omega)) (ZK0 (Ze (ZKw (ZK2 (Zh (Za (v:=v10) rfl (Za (v:=vI (i10:Int)) rfl (Za (v:=u0_0) rfl ?_)))))))))))
  refine Za (v:=vI (i10:Int)) rfl ?_
  obtain ⟨Ad11,c11,hv10⟩:=Zx (hC.getP 0 rfl) i10 hi10
  refine Yn (len:=a0.length) ZN8 ag170.size (tr rfl hv10) rfl (ZLc _) (ZLv.2 hi10) (Ji (ZK7 (a0.getD i10 ZC7)) (Ye (hC.getP 0 rfl) hv10 i10 hi10) ag170 rfl rfl ?_)
  refine Zg [.agg (ZKu (ZK7 (a0.getD i10 ZC7)))] _ Tryz.func130 rfl rfl rfl (Zve (a0.getD i10 ZC7) h _) (fun ret10 w11 hR10=>?_)
  obtain ⟨r10,rfl,h,hB10⟩:=hR10
  refine⟨_,rfl,?_⟩
  replace hC:=hC.grow hB10
  obtain ⟨⟨h10,h11⟩,h⟩:=h
  obtain ⟨Ad12,c12,hv11⟩:=Xz (hC.getM 0 rfl) (ZOj (Nat.zero_le _) (show i10 < s10.length by omega))
  refine X6 (i10 * 9) ZK6 ag162.size (tr rfl hv11) rfl h10 h11 rfl (Zcc (v:=.agg (ZKu (ZK7 r10))) hC 0 (ZK7 r10) (ZKx.encs (s10.set i10 r10)) rfl hv11 ag162.size rfl rfl rfl rfl rfl (by rw [Enc.encs_len]; exact Zav (sz:=9) (show i10 < s10.length by omega)) (Zcd _ _ _ (show i10 < s10.length by omega)) fun w12 hC=>?_)
  replace hC:=Y9 hC 0 ((s10.set i10 r10).length) (ZKx.encs (s10.set i10 r10)) rfl (by simp) rfl
  refine done (Zr (Ze (Zh (Za (v:=vI (i10:Int)) rfl (Zq rfl rfl (Zd (v:=vI (ZFm.wrap ((i10:Int)+1))) rfl (done ?_)))))))
  exact hK10 (s10.set i10 r10) _ _ ⟨v10,(sl ⟨rfl,rfl,(tr rfl (congrArg _ (Z5 hi10 hN10))),trivial⟩),hC⟩ h
 ·clear hC h
  rintro s10 e_ w13 K10 ⟨v10,hS_,hC⟩ h
  rw [ue hS_]
  refine ZKw (sr (Za (v:=vI (a0.length:Int)) rfl (Za (v:=u0_0) rfl ?_)))
  obtain ⟨Ad13,c13,hv13⟩:=Zu (hC.getP 0 rfl)
  refine Zt ZN8 (tr rfl hv13) (Zp rfl rfl (dn (Z2 rfl (decide_eq_false (by omega)) ?_)))
  refine ZLa (Zj (Zj (Z0 ?_)))
  refine Ze (sr (Za (v:=v10) rfl (Zd (v:=v10) rfl (dn (ZK4 ?_)))))
  refine Zi (fn:=Tryz.f74) rfl ?_ ⟨s10,v10,(ZLw (ZD0 v10)),rfl,h,(Xq (hC.getM 0 rfl)),(Xi hC 0 rfl),hC.below⟩ (.inl rfl)
  exact Zf rfl
 ·skip
  exact⟨v5,(sl ⟨rfl,rfl,rfl,trivial⟩),hC⟩
def Zhj (a0:ZKy) (K:ZKy→Prop):Prop :=
 Zhi a0.terms (fun r10=>K (⟨r10⟩:ZKy))
theorem Zvg (a0:ZKy)  {K:ZKy→Prop} (h:Zhj a0 K) (w0:World) (q0:ZLi.rep a0 [u0_0] fp0 w0) :
  Calls ZKz 30 #[.agg #[u0_0]] w0 fun e w'=>∃ (r0:ZKy) (z0_0:Value) (fz0:List Nat),
   e=.returned (.agg #[z0_0])∧K r0∧(ZLd (Yy 162) r0 [z0_0] fz0).holds w'∧(∀ b,b∈fz0→w0.heap.size≤b)∧Bel w0 w':=by
 unfold Zhj at h
 refine cof Tryz.func30 rfl 9 Tryz.ntmps30 ?_
 have hC:=ZLh (X:=Nox) w0 [ZKv TForm a0 [u0_0] fp0] (al1 q0)
 have hp2:=(hC.getP 0 rfl)
 replace hC:=hC.derive 0 rfl (ZKv ZKx.ty.sl a0.terms [u0_0] fp0) (fun _=>(Xm hp2)) (fun _ hb_=>hb_)
 refine sr (Yi (v:=.agg #[u0_0]) hC [u0_0] rfl rfl fun b4 w6 hB_ hC=>Ys hC [.slice none 0 0] z55 rfl fun b7 w9 hB_ hC=>dn (sr (Ys hC [.slice none 0 0] z55 rfl fun b10 w10 hB_ hC=>dn (sr (Z1 0 ZOl rfl sc48.size rfl rfl (Yb hC 2 (u0_0) rfl sc48 rfl rfl ?_))))))
 refine Zg [u0_0] _ Tryz.func74 rfl rfl rfl (Zvf a0.terms h _ (hC.getP 0 rfl)) (fun ret10 w11 hR10=>?_)
 obtain ⟨r10,u10,f10,rfl,h,hr10,hf10,hB10⟩:=hR10
 refine⟨_,rfl,?_⟩
 replace hC:=hC.push hB10 (ZLd (Tr.sl 162 ZKx.tr) r10 [u10] f10) hr10 hf10
 obtain ⟨ho10,hf11⟩:=Y6 (hC.getM 0 rfl).1
 subst hf11
 replace hC:=hC.recast (c:=own 162 9 u10 r10.length (ZKx.encs r10)) (fun _ h_=>h_) (fun _=>ho10)
 refine Z1 0 ZK3 rfl sc53.size rfl rfl (Z4 (v:=u10) hC 1 [u10] [u10] rfl sc53.size rfl rfl (Zb0 (hC.getM 0 rfl)) rfl (Xr (X7 (hC.getM 0 rfl)) rfl) (ZK5 rfl) rfl fun w12 hC=>dn (sr (Yw hC 1 [u10] rfl ag55 rfl rfl rfl (Z4 (v:=.agg #[u10]) hC 2 [u10] [u10] rfl ag55.size rfl rfl rfl rfl (Xr (X7 (hC.getM 0 rfl)) rfl) (ZK5 rfl) rfl fun w13 hC=>dn (ZK4 ?_)))))
 refine Zi (fn:=Tryz.f30) rfl ?_ ⟨(⟨r10⟩:ZKy),u10,(ZLw (ZD0 u10)),rfl,h,(Zch (Xq (hC.getM 0 rfl))),(Xi hC 0 rfl),hC.below⟩ (.inl rfl)
 exact J8 hC 2 rfl ag55 rfl rfl
def Zhk (a0:Term) (a1:Term) (K:Bool→Prop):Prop :=
 Zhf a0.mono a1.mono (fun r10=>(if¬ (r10=true) then K false else(if a0.factor≠a1.factor then K false else K true)))
theorem Zvh (a0:Term) (a1:Term)  {K:Bool→Prop} (h:Zhk a0 a1 K) (w0:World)  :
  Calls ZKz 144 #[.agg (ZKu (ZK7 a0)),.agg (ZKu (ZK7 a1))] w0 fun e w'=>∃ (r0:Bool),
   e=.returned (.bool r0)∧K r0∧Bel w0 w':=by
 unfold Zhk at h
 refine cof Tryz.func144 rfl 16 Tryz.ntmps144 ?_
 have hC:=ZLh (X:=Nox) w0 [] (by simp)
 refine sr (Yi (v:=.agg (ZKu (ZK7 a0))) hC (ZK7 a0) rfl rfl fun b1 w3 hB_ hC=>Yi (v:=.agg (ZKu (ZK7 a1))) hC (ZK7 a1) rfl rfl fun b4 w6 hB_ hC=>Zd (v:=.bool false) rfl (dn (ZKw (sr (Z1 0 ZLb rfl ag136.size rfl rfl (Yw hC 1 (ZKt .u8 a0.mono) rfl ag136 rfl rfl rfl (Z1 0 ZLb rfl ag136.size rfl rfl (Yw hC 0 (ZKt .u8 a1.mono) rfl ag136 rfl rfl rfl ?_))))))))
 refine Zg [.agg (ZKu (ZKt .u8 a0.mono)),.agg (ZKu (ZKt .u8 a1.mono))] _ Tryz.func188 rfl rfl rfl (Zvc a0.mono a1.mono h _) (fun ret7 w9 hR8=>?_)
 obtain ⟨r10,rfl,h,hB10⟩:=hR8
 refine⟨_,rfl,?_⟩
 replace hC:=hC.grow hB10
 refine Xe rfl (dn ?_)
 refine Zs rfl (fun hb10=>?_) (fun hb10=>?_)
 ·replace h:=ift h (Y4 (Xj hb10))
  refine sr (Zd (v:=.bool false) rfl (dn ?_))
  refine ZK4 (Zn ?_)
  refine Zi (fn:=Tryz.f144) rfl ?_ ⟨false,rfl,h,hC.below⟩ (.inl rfl)
  exact Zf rfl
 ·replace h:=Zl h (not_not_intro ((Xk hb10)))
  refine ZK0 (Ze (ZKw (sr (Z1 8 ZLb rfl sc2.size rfl rfl (Yb hC 1 (vI a0.factor) rfl sc2 rfl rfl (Z1 8 ZLb rfl sc2.size rfl rfl (Yb hC 0 (vI a1.factor) rfl sc2 rfl rfl (Y5 rfl rfl (dn ?_)))))))))
  refine Zs rfl (fun hb11=>?_) (fun hb11=>?_)
  ·replace h:=ift h (ct hb11)
   refine sr (Zd (v:=.bool false) rfl (dn ?_))
   refine ZK4 (Zn ?_)
   refine Zi (fn:=Tryz.f144) rfl ?_ ⟨false,rfl,h,hC.below⟩ (.inl rfl)
   exact Zf rfl
  ·replace h:=Zl h (cf hb11)
   refine ZK0 (Ze (sr (Zd (v:=.bool true) rfl (dn (ZK4 ?_)))))
   refine Zi (fn:=Tryz.f144) rfl ?_ ⟨true,rfl,h,hC.below⟩ (.inl rfl)
   exact Zf rfl
def Zj3 (a0:List Term) (a1:List Term) (K:Bool→Prop):Prop :=
 (if(a0.length:Int)≠(a1.length:Int) then K false else Yc (fun i10 (s10:Unit) nx10=>((0≤(i10:Int)∧(i10:Int) < (a1.length:Int))∧Zhk (a0.getD i10 ZC7) (a1.getD i10 ZC7) (fun r10=>(if¬ (r10=true) then K false else nx10 ())))) (fun (s10:Unit)=>K true) a0.length 0 ())
theorem Zvi (a0:List Term) (a1:List Term)  {K:Bool→Prop} (h:Zj3 a0 a1 K) (w0:World) (q0:ZKx.ty.sl.rep a0 [u0_0] fp0 w0) (q1:ZKx.ty.sl.rep a1 [u1_0] fp1 w0) :
  Calls ZKz 87 #[u0_0,u1_0] w0 fun e w'=>∃ (r0:Bool),
   e=.returned (.bool r0)∧K r0∧Bel w0 w':=by
 unfold Zj3 at h
 refine cof Tryz.func87 rfl 27 Tryz.ntmps87 ?_
 have hC:=ZLh (X:=Nox) w0 [ZKv ZKx.ty.sl a0 [u0_0] fp0,ZKv ZKx.ty.sl a1 [u1_0] fp1] (alc q0 (al1 q1))
 refine sr (Zd (v:=.bool false) rfl (dn (ZKw (sr (Za (v:=u0_0) rfl ?_)))))
 obtain ⟨Ad3,c4,hv5⟩:=Zu (hC.getP 0 rfl)
 refine Zt ZK6 (tr rfl hv5) (Za (v:=u1_0) rfl ?_)
 obtain ⟨Ad6,c7,hv8⟩:=Zu (hC.getP 1 rfl)
 refine Zt ZK6 (tr rfl hv8) (Y5 rfl rfl (dn ?_))
 refine Zs rfl (fun hb9=>?_) (fun hb9=>?_)
 ·replace h:=ift h (ct hb9)
  refine sr (Zd (v:=.bool false) rfl (dn ?_))
  refine ZK4 (Zn ?_)
  refine Zi (fn:=Tryz.f87) rfl ?_ ⟨false,rfl,h,hC.below⟩ (.inl rfl)
  exact Zf rfl
 ·replace h:=Zl h (cf hb9)
  refine ZK0 (Ze (ZKw (sr (Zd (v:=vI 0) rfl (dn (ZK2 ?_))))))
  have hN10:a0.length≤9223372036854775807:=Y2 (hC.getP 0 rfl)
  refine Yk (S:=Unit) _ _ (fun i10 s10 e_ w_=>Zv e_ [(0,u0_0),(1,u1_0),(5,vI (i10:Int))]∧Ctx Nox w0 w_ [] [ZKv ZKx.ty.sl a0 [u0_0] fp0,ZKv ZKx.ty.sl a1 [u1_0] fp1]) a0.length ?_ ?_ (s0:=()) ?_ h
  ·clear hC h
   rintro i10 s10 e_ w10 nx10 K10 hi10 ⟨hS_,hC⟩ h hK10
   rw [ue hS_]
   refine ZKw (sr (Za (v:=vI (i10:Int)) rfl (Za (v:=u0_0) rfl ?_)))
   obtain ⟨Ad12,c10,hv12⟩:=Zu (hC.getP 0 rfl)
   refine Zt ZK6 (tr rfl hv12) (Zp rfl rfl (dn (Z6 rfl (decide_eq_true (by omega)) (ZK0 (Ze (ZKw (ZK2 (ZKw ?_))))))))
   refine Yq 8 Yl [0,0,3,7,0,0,48,112,255,511] [2,3,6,7] [0,1,4,5] (by kernel_rfl) (by kernel_rfl) (by kernel_rfl) (fun hM10 hM11 w11 hB_=>?_)
   replace hC:=hC.grow hB_
   refine bM 0 (u0_0) rfl hM11 (Zc 10 1) (bM 1 (vI (i10:Int)) rfl hM11 (Zc 10 3) ?_)
   obtain ⟨Ad10,c11,hv10⟩:=Zx (hC.getP 0 rfl) i10 hi10
   refine bL 2 (.pointer (some (Ad10.add (i10 * 9)))) rfl rfl hM10 (fun _ hB_=>by exact Y1 (len:=a0.length) ZK6 ag162.size (by exact tr rfl hv10) rfl (ZLc _) (ZLv.2 hi10)) (Zc 10 7) (bL 3 (.agg (ZKu (ZK7 (a0.getD i10 ZC7)))) rfl rfl hM10 (fun _ hB_=>by exact Jm (ZK7 (a0.getD i10 ZC7)) (Ye ((hC.grow hB_).getP 0 rfl) hv10 i10 hi10) ag162 rfl rfl) (Zc 10 15) (bM 4 (u1_0) rfl hM11 (Zc 10 31) (bM 5 (vI (i10:Int)) rfl hM11 (Zc 10 63) ?_)))
   obtain ⟨⟨h10,h11⟩,h⟩:=h
   obtain ⟨Ad11,c12,hv11⟩:=Zx (hC.getP 1 rfl) i10 (show i10 < a1.length by omega)
   refine bL 6 (.pointer (some (Ad11.add (i10 * 9)))) rfl rfl hM10 (fun _ hB_=>by exact Y1 (len:=a1.length) ZK6 ag162.size (by exact tr rfl hv11) rfl h10 h11) (Zc 10 127) (bL 7 (.agg (ZKu (ZK7 (a1.getD i10 ZC7)))) rfl rfl hM10 (fun _ hB_=>by exact Jm (ZK7 (a1.getD i10 ZC7)) (Ye ((hC.grow hB_).getP 1 rfl) hv11 i10 (show i10 < a1.length by omega)) ag162 rfl rfl) (Zc 10 255) (Z7 8 (by decide) (by decide) (by kernel_rfl) (by kernel_rfl) rfl ?_))
   refine Zg [.agg (ZKu (ZK7 (a0.getD i10 ZC7))),.agg (ZKu (ZK7 (a1.getD i10 ZC7)))] _ Tryz.func144 rfl rfl rfl (Zvh (a0.getD i10 ZC7) (a1.getD i10 ZC7) h _) (fun ret10 w12 hR10=>?_)
   obtain ⟨r10,rfl,h,hB10⟩:=hR10
   refine⟨_,rfl,?_⟩
   replace hC:=hC.grow hB10
   refine Xe rfl (done (Z8 (Ze ?_)))
   refine Zs rfl (fun hb10=>?_) (fun hb10=>?_)
   ·replace h:=ift h (Y4 (Xj hb10))
    refine sr (Zd (v:=.bool false) rfl (dn ?_))
    refine ZK4 (Z9 (Zn (Zn (Z9 (Zn ?_)))))
    refine Zi (fn:=Tryz.f87) rfl ?_ ⟨false,rfl,h,hC.below⟩ (.inl rfl)
    exact Zf rfl
   ·replace h:=Zl h (not_not_intro ((Xk hb10)))
    refine ZK0 (Zr (Ze (Zh (Za (v:=vI (i10:Int)) rfl (Zq rfl rfl (Zd (v:=vI (ZFm.wrap ((i10:Int)+1))) rfl (done ?_)))))))
    exact hK10 () _ _ ⟨(sl ⟨rfl,rfl,(tr rfl (congrArg _ (Z5 hi10 hN10))),trivial⟩),hC⟩ h
  ·clear hC h
   rintro s10 e_ w13 K10 ⟨hS_,hC⟩ h
   rw [ue hS_]
   refine ZKw (sr (Za (v:=vI (a0.length:Int)) rfl (Za (v:=u0_0) rfl ?_)))
   obtain ⟨Ad13,c13,hv13⟩:=Zu (hC.getP 0 rfl)
   refine Zt ZK6 (tr rfl hv13) (Zp rfl rfl (dn (Z2 rfl (decide_eq_false (by omega)) ?_)))
   refine ZLa (Zj (Zj (Z0 ?_)))
   refine Ze (sr (Zd (v:=.bool true) rfl (dn (ZK4 ?_))))
   refine Zi (fn:=Tryz.f87) rfl ?_ ⟨true,rfl,h,hC.below⟩ (.inl rfl)
   exact Zf rfl
  ·skip
   exact⟨(sl ⟨rfl,rfl,rfl,trivial⟩),hC⟩
def Zhl (a0:ZKy) (a1:ZKy) (K:Bool→Prop):Prop :=
 Zj3 a0.terms a1.terms (fun r10=>(if¬ (r10=true) then K false else K true))
theorem Zvj (a0:ZKy) (a1:ZKy)  {K:Bool→Prop} (h:Zhl a0 a1 K) (w0:World) (q0:ZLi.rep a0 [u0_0] fp0 w0) (q1:ZLi.rep a1 [u1_0] fp1 w0) :
  Calls ZKz 32 #[.agg #[u0_0],.agg #[u1_0]] w0 fun e w'=>∃ (r0:Bool),
   e=.returned (.bool r0)∧K r0∧Bel w0 w':=by
 unfold Zhl at h
 refine cof Tryz.func32 rfl 11 Tryz.ntmps32 ?_
 have hC:=ZLh (X:=Nox) w0 [ZKv TForm a0 [u0_0] fp0,ZKv TForm a1 [u1_0] fp1] (alc q0 (al1 q1))
 have hp3:=(hC.getP 0 rfl)
 replace hC:=hC.derive 0 rfl (ZKv ZKx.ty.sl a0.terms [u0_0] fp0) (fun _=>(Xm hp3)) (fun _ hb_=>hb_)
 have hp5:=(hC.getP 2 rfl)
 replace hC:=hC.derive 2 rfl (ZKv ZKx.ty.sl a1.terms [u1_0] fp1) (fun _=>(Xm hp5)) (fun _ hb_=>hb_)
 refine sr (Yi (v:=.agg #[u0_0]) hC [u0_0] rfl rfl fun b7 w9 hB_ hC=>Yi (v:=.agg #[u1_0]) hC [u1_0] rfl rfl fun b10 w10 hB_ hC=>Zd (v:=.bool false) rfl (dn (ZKw (sr (Z1 0 ZK3 rfl sc53.size rfl rfl (Yb hC 1 (u0_0) rfl sc53 rfl rfl (Z1 0 ZK3 rfl sc53.size rfl rfl (Yb hC 0 (u1_0) rfl sc53 rfl rfl ?_))))))))
 refine Zg [u0_0,u1_0] _ Tryz.func87 rfl rfl rfl (Zvi a0.terms a1.terms h _ (hC.getP 1 rfl) (hC.getP 0 rfl)) (fun ret10 w11 hR10=>?_)
 obtain ⟨r10,rfl,h,hB10⟩:=hR10
 refine⟨_,rfl,?_⟩
 replace hC:=hC.grow hB10
 refine Xe rfl (dn ?_)
 refine Zs rfl (fun hb10=>?_) (fun hb10=>?_)
 ·replace h:=ift h (Y4 (Xj hb10))
  refine sr (Zd (v:=.bool false) rfl (dn ?_))
  refine ZK4 (Zn ?_)
  refine Zi (fn:=Tryz.f32) rfl ?_ ⟨false,rfl,h,hC.below⟩ (.inl rfl)
  exact Zf rfl
 ·replace h:=Zl h (not_not_intro ((Xk hb10)))
  refine ZK0 (Ze (sr (Zd (v:=.bool true) rfl (dn (ZK4 ?_)))))
  refine Zi (fn:=Tryz.f32) rfl ?_ ⟨true,rfl,h,hC.below⟩ (.inl rfl)
  exact Zf rfl
def Zj4 (a0:List ZKy) (a1:List ZKy) (K:Bool→Prop):Prop :=
 (if(a0.length:Int)≠(a1.length:Int) then K false else Yc (fun i10 (s10:Unit) nx10=>((0≤(i10:Int)∧(i10:Int) < (a1.length:Int))∧Zhl (a0.getD i10 ZC7) (a1.getD i10 ZC7) (fun r10=>(if¬ (r10=true) then K false else nx10 ())))) (fun (s10:Unit)=>K true) a0.length 0 ())
theorem Zvk (a0:List ZKy) (a1:List ZKy)  {K:Bool→Prop} (h:Zj4 a0 a1 K) (w0:World) (q0:ZLi.sl.rep a0 [u0_0] fp0 w0) (q1:ZLi.sl.rep a1 [u1_0] fp1 w0) :
  Calls ZKz 51 #[u0_0,u1_0] w0 fun e w'=>∃ (r0:Bool),
   e=.returned (.bool r0)∧K r0∧Bel w0 w':=by
 unfold Zj4 at h
 refine cof Tryz.func51 rfl 27 Tryz.ntmps51 ?_
 have hC:=ZLh (X:=Nox) w0 [ZKv ZLi.sl a0 [u0_0] fp0,ZKv ZLi.sl a1 [u1_0] fp1] (alc q0 (al1 q1))
 refine sr (Zd (v:=.bool false) rfl (dn (ZKw (sr (Za (v:=u0_0) rfl ?_)))))
 obtain ⟨Ad3,c4,hv5⟩:=Zu (hC.getP 0 rfl)
 refine Zt ZLk (tr rfl hv5) (Za (v:=u1_0) rfl ?_)
 obtain ⟨Ad6,c7,hv8⟩:=Zu (hC.getP 1 rfl)
 refine Zt ZLk (tr rfl hv8) (Y5 rfl rfl (dn ?_))
 refine Zs rfl (fun hb9=>?_) (fun hb9=>?_)
 ·replace h:=ift h (ct hb9)
  refine sr (Zd (v:=.bool false) rfl (dn ?_))
  refine ZK4 (Zn ?_)
  refine Zi (fn:=Tryz.f51) rfl ?_ ⟨false,rfl,h,hC.below⟩ (.inl rfl)
  exact Zf rfl
 ·replace h:=Zl h (cf hb9)
  refine ZK0 (Ze (ZKw (sr (Zd (v:=vI 0) rfl (dn (ZK2 ?_))))))
  have hN10:a0.length≤9223372036854775807:=Y2 (hC.getP 0 rfl)
  refine Yk (S:=Unit) _ _ (fun i10 s10 e_ w_=>Zv e_ [(0,u0_0),(1,u1_0),(5,vI (i10:Int))]∧Ctx Nox w0 w_ [] [ZKv ZLi.sl a0 [u0_0] fp0,ZKv ZLi.sl a1 [u1_0] fp1]) a0.length ?_ ?_ (s0:=()) ?_ h
  ·clear hC h
   rintro i10 s10 e_ w10 nx10 K10 hi10 ⟨hS_,hC⟩ h hK10
   rw [ue hS_]
   refine ZKw (sr (Za (v:=vI (i10:Int)) rfl (Za (v:=u0_0) rfl ?_)))
   obtain ⟨Ad12,c10,hv12⟩:=Zu (hC.getP 0 rfl)
   refine Zt ZLk (tr rfl hv12) (Zp rfl rfl (dn (Z6 rfl (decide_eq_true (by omega)) (ZK0 (Ze (ZKw (ZK2 (ZKw ?_))))))))
   refine Yq 8 Yl [0,0,3,7,0,0,48,112,255,511] [2,3,6,7] [0,1,4,5] (by kernel_rfl) (by kernel_rfl) (by kernel_rfl) (fun hM10 hM11 w11 hB_=>?_)
   replace hC:=hC.grow hB_
   refine bM 0 (u0_0) rfl hM11 (Zc 10 1) (bM 1 (vI (i10:Int)) rfl hM11 (Zc 10 3) ?_)
   obtain ⟨Ad10,c11,hv10⟩:=Zx (hC.getP 0 rfl) i10 hi10
   refine bL 2 (.pointer (some (Ad10.add (i10 * 1)))) rfl rfl hM10 (fun _ hB_=>by exact Y1 (len:=a0.length) ZLk ag55.size (by exact tr rfl hv10) rfl (ZLc _) (ZLv.2 hi10)) (Zc 10 7) ?_
   obtain ⟨cs_,hl10,hc10,hr10⟩:=Xh (hC.getP 0 rfl) hv10 i10 hi10
   obtain ⟨u10,rfl⟩:=ZLt.1 hl10
   clear hl10
   rw [Xg _ _ hi10] at hr10
   have hp10:=hr10
   replace hC:=hC.derive 0 rfl (ZKv ZKx.ty.sl ((a0.getD i10 ZC7).terms) [u10] fp0) (fun _=>(Xm hp10)) (fun _ hb_=>hb_)
   refine bL 3 (.agg #[u10]) rfl rfl hM10 (fun _ hB_=>by exact Jm [u10] (Za1 hB_ hc10) ag55 rfl rfl) (Zc 10 15) (bM 4 (u1_0) rfl hM11 (Zc 10 31) (bM 5 (vI (i10:Int)) rfl hM11 (Zc 10 63) ?_))
   obtain ⟨⟨h10,h11⟩,h⟩:=h
   obtain ⟨Ad11,c12,hv11⟩:=Zx (hC.getP 2 rfl) i10 (show i10 < a1.length by omega)
   refine bL 6 (.pointer (some (Ad11.add (i10 * 1)))) rfl rfl hM10 (fun _ hB_=>by exact Y1 (len:=a1.length) ZLk ag55.size (by exact tr rfl hv11) rfl h10 h11) (Zc 10 127) ?_
   obtain ⟨cs_,hl11,hc11,hr11⟩:=Xh (hC.getP 2 rfl) hv11 i10 (show i10 < a1.length by omega)
   obtain ⟨u11,rfl⟩:=ZLt.1 hl11
   clear hl11
   rw [Xg _ _ (show i10 < a1.length by omega)] at hr11
   have hp11:=hr11
   replace hC:=hC.derive 2 rfl (ZKv ZKx.ty.sl ((a1.getD i10 ZC7).terms) [u11] fp1) (fun _=>(Xm hp11)) (fun _ hb_=>hb_)
   refine bL 7 (.agg #[u11]) rfl rfl hM10 (fun _ hB_=>by exact Jm [u11] (Za1 hB_ hc11) ag55 rfl rfl) (Zc 10 255) (Z7 8 (by decide) (by decide) (by kernel_rfl) (by kernel_rfl) rfl ?_)
   refine Zg [.agg #[u10],.agg #[u11]] _ Tryz.func32 rfl rfl rfl (Zvj (a0.getD i10 ZC7) (a1.getD i10 ZC7) h _ (Y3 (hC.getP 1 rfl)) (Y3 (hC.getP 0 rfl))) (fun ret10 w12 hR10=>?_)
   obtain ⟨r10,rfl,h,hB10⟩:=hR10
   refine⟨_,rfl,?_⟩
   replace hC:=hC.grow hB10
   refine Xe rfl (done (Z8 (Ze ?_)))
   refine Zs rfl (fun hb10=>?_) (fun hb10=>?_)
   ·replace h:=ift h (Y4 (Xj hb10))
    refine sr (Zd (v:=.bool false) rfl (dn ?_))
    refine ZK4 (Z9 (Zn (Zn (Z9 (Zn ?_)))))
    refine Zi (fn:=Tryz.f51) rfl ?_ ⟨false,rfl,h,hC.below⟩ (.inl rfl)
    exact Zf rfl
   ·replace h:=Zl h (not_not_intro ((Xk hb10)))
    refine ZK0 (Zr (Ze (Zh (Za (v:=vI (i10:Int)) rfl (Zq rfl rfl (Zd (v:=vI (ZFm.wrap ((i10:Int)+1))) rfl (done ?_)))))))
    exact hK10 () _ _ ⟨(sl ⟨rfl,rfl,(tr rfl (congrArg _ (Z5 hi10 hN10))),trivial⟩),(hC.sP [2,3] rfl)⟩ h
  ·clear hC h
   rintro s10 e_ w13 K10 ⟨hS_,hC⟩ h
   rw [ue hS_]
   refine ZKw (sr (Za (v:=vI (a0.length:Int)) rfl (Za (v:=u0_0) rfl ?_)))
   obtain ⟨Ad13,c13,hv13⟩:=Zu (hC.getP 0 rfl)
   refine Zt ZLk (tr rfl hv13) (Zp rfl rfl (dn (Z2 rfl (decide_eq_false (by omega)) ?_)))
   refine ZLa (Zj (Zj (Z0 ?_)))
   refine Ze (sr (Zd (v:=.bool true) rfl (dn (ZK4 ?_))))
   refine Zi (fn:=Tryz.f51) rfl ?_ ⟨true,rfl,h,hC.below⟩ (.inl rfl)
   exact Zf rfl
  ·skip
   exact⟨(sl ⟨rfl,rfl,rfl,trivial⟩),hC⟩
def Zda (a0:Bool) (a1:Int) (K:Int→Prop):Prop :=
 (if a0=true then K a1 else K 0)
theorem Zhm (a0:Bool) (a1:Int)  {K:Int→Prop} (h:Zda a0 a1 K) (w0:World)  :
  Calls ZKz 45 #[.bool a0,vI a1] w0 fun e w'=>∃ (r0:Int),
   e=.returned (vI r0)∧K r0∧Bel w0 w':=by
 unfold Zda at h
 refine cof Tryz.func45 rfl 7 Tryz.ntmps45 ?_
 have hC:=ZLh (X:=Nox) w0 [] (by simp)
 refine sr (Zd (v:=vI 0) rfl (dn (ZKw (sr (Za (v:=.bool a0) rfl (dn ?_))))))
 refine Zs rfl (fun hb1=>?_) (fun hb1=>?_)
 ·replace h:=ift h (hb1)
  refine sr (Za (v:=vI a1) rfl (Zd (v:=vI a1) rfl (dn ?_)))
  refine ZK4 (Zn ?_)
  refine Zi (fn:=Tryz.f45) rfl ?_ ⟨a1,rfl,h,hC.below⟩ (.inl rfl)
  exact Zf rfl
 ·replace h:=Zl h (Y4 hb1)
  refine ZK0 (Ze (sr (Zd (v:=vI 0) rfl (dn (ZK4 ?_)))))
  refine Zi (fn:=Tryz.f45) rfl ?_ ⟨0,rfl,h,hC.below⟩ (.inl rfl)
  exact Zf rfl
end Go.Proofs.YtaagfepgbofmlaaGreat
namespace Go.Proofs.YtaagfepgbofmlaaGreat
open Go Vc
theorem Zhn {a b c:Int} {K:Bool→Prop} (h:K (decide (b≤a∧a≤c))):Zc7 a b c K:=by
  unfold Zc7
  split
  · rename_i h1; simpa [show b≤a from h1] using h
  · rename_i h1; simpa [show ¬ b≤a from h1] using h
theorem Zvl {ds:List Int} {K:Bool→Prop} (h:K (decide (OkDeg ds))):Zgy ds K:=by
  unfold Zgy
  refine Yu (fun i _=>∀ j,j < i→1≤ds.getD j ZC7∧ds.getD j ZC7≤12) ds.length ?_ ?_ _ _ _ (by omega) (by intro j hj; omega)
  · intro i s next hi hI hn
    refine Zhn ?_
    split
    · rename_i h1
      have:¬ OkDeg ds:=fun hd=>h1 (by simpa using hd.2 i hi)
      simpa [this] using h
    · rename_i h1
      refine hn _ fun j hj=>?_
      by_cases hji:j=i
      · subst hji; simpa using h1
      · exact hI j (by omega)
  · intro s hI
    have:(decide ((ds.length:Int)≤8))=decide (OkDeg ds):=by
      rw [decide_eq_decide]; unfold OkDeg
      constructor
      · intro h8; exact⟨by omega,hI⟩
      · intro h8; have:=h8.1; omega
    rw [this]; exact h
theorem Zvm {ds : List Int} {a : A8} {K : Bool → Prop} (ha : ∀ i, i < 8 → 0 ≤ a.get i) (hl : ds.length ≤ 8) (h : K (decide (OkMono ds a))) : Zgz ds a K := by
  unfold Zgz
  refine Yu (fun i _=>∀ j,j < i→(j < ds.length→a.get j≤20∧(ZDy (ds.getD j ZC7) 2≠0→a.get j≤1))∧(ds.length≤j→a.get j=0)) 8 ?_ ?_ _ _ _ (by omega) (by intro j hj; omega)
  · intro i s next hi hI hn
    have no:¬ ((i < ds.length→a.get i≤20∧(ZDy (ds.getD i ZC7) 2≠0→a.get i≤1))∧(ds.length≤i→a.get i=0))→K false:=by
      intro hno
      have:¬ OkMono ds a:=fun hm=>hno (hm i hi)
      simpa [this] using h
    have yes:((i < ds.length→a.get i≤20∧(ZDy (ds.getD i ZC7) 2≠0→a.get i≤1))∧(ds.length≤i→a.get i=0))→next ():=by
      intro hy
      refine hn _ fun j hj=>?_
      by_cases hji:j=i
      · subst hji; exact hy
      · exact hI j (by omega)
    split
    · split
      · exact no (by intro q; have:=q.2 (by omega); contradiction)
      · rename_i q
        exact yes ⟨by omega,by intro _; simpa using q⟩
    · split
      · exact no (by intro q; have:=(q.1 (by omega)).1; omega)
      · refine⟨by omega,?_⟩
        split
        · split
          · exact no (by intro q; rename_i q1 q2; have:=(q.1 (by omega)).2 q1; omega)
          · exact yes ⟨fun _=>⟨by omega,fun _=>by omega⟩,by omega⟩
        · rename_i q1
          exact yes ⟨fun _=>⟨by omega,fun q2=>absurd q2 q1⟩,by omega⟩
  · intro s hI
    have:OkMono ds a:=fun i hi=>hI i hi
    simpa [this] using h
theorem Zvn {ds : List Int} {a : A8} {K : Bool → Prop} (hd : OkDeg ds) (ha : ∀ i, i < 8 → 0 ≤ a.get i) (h : K (decide (OkMono ds a))) : Zg8 ds a K := by
  unfold Zg8
  refine Yu (fun i _=>∀ j,j < i→(j < ds.length→a.get j≤20∧(ZDy (ds.getD j ZC7) 2≠0→a.get j≤1))∧(ds.length≤j→a.get j=0)) 8 ?_ ?_ _ _ _ (by omega) (by intro j hj; omega)
  · intro i s next hi hI hn
    have hai:=ha i hi
    have no:¬ ((i < ds.length→a.get i≤20∧(ZDy (ds.getD i ZC7) 2≠0→a.get i≤1))∧(ds.length≤i→a.get i=0))→K false:=by
      intro hno
      have:¬ OkMono ds a:=fun hm=>hno (hm i hi)
      simpa [this] using h
    have yes:((i < ds.length→a.get i≤20∧(ZDy (ds.getD i ZC7) 2≠0→a.get i≤1))∧(ds.length≤i→a.get i=0))→next ():=by
      intro hy
      refine hn _ fun j hj=>?_
      by_cases hji:j=i
      · subst hji; exact hy
      · exact hI j (by omega)
    split
    · refine⟨by omega,?_⟩
      rename_i hl
      have hod:=hd.odd (show i < ds.length by omega)
      split
      · rename_i h1
        split
        · exact no (by intro q; have:=(q.1 (by omega)).2 (by omega); omega)
        · exact yes ⟨fun _=>⟨by omega,fun _=>by omega⟩,by omega⟩
      · rename_i h1
        split
        · exact no (by intro q; have:=(q.1 (by omega)).1; omega)
        · exact yes ⟨fun _=>⟨by omega,fun q=>by omega⟩,by omega⟩
    · split
      · exact no (by intro q; have:=q.2 (by omega); omega)
      · exact yes ⟨by omega,fun _=>by omega⟩
  · intro s hI
    have:OkMono ds a:=fun i hi=>hI i hi
    simpa [this] using h
theorem Zho {a b c:Int} {K:Bool→Prop} (h:K (decide (b≤a∧a≤c))):Zdy a b c K:=by
  unfold Zdy
  split
  · rename_i h1; simpa [show b≤a from h1] using h
  · rename_i h1; simpa [show ¬ b≤a from h1] using h
theorem Zvo {ds : List Int} {K : Bool → Prop} (h : K (decide (OkDeg ds))) : Zg7 ds K := by
  unfold Zg7
  split
  · rename_i h8
    unfold Zfn Zek
    refine Yu (fun i _=>∀ j,j < i→1≤ds.getD j ZC7∧ds.getD j ZC7≤12) ds.length ?_ ?_ _ _ _ (by omega) (by intro j hj; omega)
    · intro i s next hi hI hn
      unfold Zg6
      refine Zho ?_
      dsimp only
      split
      · rename_i h1
        have:¬ OkDeg ds:=fun hd=>by have:=hd.2 i hi; simp only [Bool.not_eq_true',decide_eq_false_iff_not] at h1; exact h1 this
        simpa [this,show (i:Int)≥0 by omega] using h
      · rename_i h1
        refine hn _ fun j hj=>?_
        by_cases hji:j=i
        · subst hji; simp only [Bool.not_eq_true',decide_eq_false_iff_not,ZPw] at h1; exact h1
        · exact hI j (by omega)
    · intro s hI
      have:OkDeg ds:=⟨by omega,hI⟩
      simpa [this] using h
  · have:¬ OkDeg ds:=fun hd=>by have:=hd.1; omega
    simpa [this] using h
theorem Zj5 {a:A8} {K:A8→Prop} (ha:Za2 .u8 a) (h:K a):Zdx a K:=by
  unfold Zdx
  refine Yu (fun i (s:A8)=>∀ j,j < 8→s.get j=if j < i then a.get j else 0) 8 ?_ ?_ _ _ _ (by omega) (by intro j hj; simp [A8.get_zero])
  · intro i s next hi hI hn
    have:=Zmd (Zme ha hi)
    rw [i64_in _ (by omega)]
    refine hn _ fun j hj=>?_
    rw [ZN9 hi]
    by_cases hji:j=i
    · subst hji; simp
    · rw [if_neg hji,hI j hj]
      by_cases hj2:j < i
      · rw [if_pos hj2,if_pos (by omega)]
      · rw [if_neg hj2,if_neg (by omega)]
  · intro s hI
    have:s=a:=ZOa fun i hi=>by rw [hI i hi,if_pos hi]
    rw [this]; exact h
theorem Zvp {a:A8} {K:A8→Prop} (h:K a):Zhd a K:=by
  unfold Zhd
  refine Yu (fun i (s:A8)=>∀ j,j < 8→s.get j=if j < i then a.get j else 0) 8 ?_ ?_ _ _ _ (by omega) (by intro j hj; simp [A8.get_zero])
  · intro i s next hi hI hn
    refine hn _ fun j hj=>?_
    rw [ZN9 hi]
    by_cases hji:j=i
    · subst hji; simp
    · rw [if_neg hji,hI j hj]
      by_cases hj2:j < i
      · rw [if_pos hj2,if_pos (by omega)]
      · rw [if_neg hj2,if_neg (by omega)]
  · intro s hI
    have:s=a:=ZOa fun i hi=>by rw [hI i hi,if_pos hi]
    rw [this]; exact h
theorem Zvq {ds:List Int} {K:List Int→Prop} (hl:ds.length≤1048576) (h:K ds):Zhe ds K:=by
  unfold Zhe
  refine⟨by omega,?_⟩
  refine Yu (fun i (s:List Int)=>s.length=ds.length∧∀ j,j < i→s.getD j ZC7=ds.getD j ZC7) ds.length ?_ ?_ _ _ _ (by omega) (by simp)
  · intro i s next hi hI hn
    refine⟨by omega,hn _ ⟨by simpa using hI.1,fun j hj=>?_⟩⟩
    by_cases hji:j=i
    · subst hji; simp [ZDo,hI.1,hi]
    · rw [← hI.2 j (by omega)]; simp [ZDo,List.getElem?_set_ne (fun e=>hji e.symm)]
  · intro s hI
    have:s=ds:=by
      apply List.ext_getElem hI.1
      intro i h1 h2
      have:=hI.2 i h2
      simpa [ZDo,h1,h2] using this
    rw [this]; exact h
theorem Zvr {a b:A8} {K:Bool→Prop} (h:K (decide (a=b))):Zhf a b K:=by
  unfold Zhf
  refine Yu (fun i _=>∀ j,j < i→a.get j=b.get j) 8 ?_ ?_ _ _ _ (by omega) (by intro j hj; omega)
  · intro i s next hi hI hn
    split
    · rename_i h1
      have:¬ a=b:=fun e=>h1 (by rw [e])
      simpa [this] using h
    · rename_i h1
      refine hn _ fun j hj=>?_
      by_cases hji:j=i
      · subst hji; simpa using h1
      · exact hI j (by omega)
  · intro s hI
    have:a=b:=ZOa hI
    simpa [this] using h
theorem Zvs {a b : List Int} {K : Bool → Prop} (h : K (decide (a = b))) : Zhg a b K := by
  unfold Zhg
  split
  · rename_i h1
    have:¬ a=b:=fun e=>h1 (by rw [e])
    simpa [this] using h
  · rename_i h1
    have hl:a.length=b.length:=by omega
    refine Yu (fun i _=>∀ j,j < i→a.getD j ZC7=b.getD j ZC7) a.length ?_ ?_ _ _ _ (by omega) (by intro j hj; omega)
    · intro i s next hi hI hn
      refine⟨by omega,?_⟩
      split
      · rename_i h1
        have:¬ a=b:=fun e=>h1 (by rw [e])
        simpa [this] using h
      · rename_i h1
        refine hn _ fun j hj=>?_
        by_cases hji:j=i
        · subst hji; simpa using h1
        · exact hI j (by omega)
    · intro s hI
      have:a=b:=by
        apply List.ext_getElem hl
        intro i h1 h2
        have:=hI i h1
        simpa [ZDo,h1,h2] using this
      simpa [this] using h
end Go.Proofs.YtaagfepgbofmlaaGreat
namespace Go.Proofs.YtaagfepgbofmlaaGreat
open Go Vc
theorem Zj6 {ds:List Int} {a:A8} (h:Jj ds a) (hl:ds.length≤8) {i:Nat} (hi:i < ds.length) (ho:ZDy (ds.getD i ZC7) 2≠0):a.get i≤1:=((h i (by omega)).1 hi).2 ho
theorem Zvt {ds:List Int} {a b s:A8} (ha:Jj ds a) (hb:Jj ds b) (hl:ds.length≤8) (h:∀ j,j < 8→s.get j=if j < ds.length then a.get j+b.get j else 0):s=a.add b:=by
  refine ZOa fun i hi=>?_
  rw [h i hi,A8.get_add]
  split
  · rfl
  · rw [(ha i hi).2 (by omega),(hb i hi).2 (by omega)]; rfl
theorem Zvu {ds : List Int} {a b : A8} {K : A8 → Int → Prop} (hd : OkDeg ds) (ha : Jj ds a) (hb : Jj ds b) (pa : ∀ i, i < 8 → 0 ≤ a.get i) (pb : ∀ i, i < 8 → 0 ≤ b.get i)
    (h:K (Xn ds a b).1 (Xn ds a b).2):Zg0 ds a b K:=by
  have h8:=hd.1
  unfold Zg0
  refine Yu (fun i (s:A8×Int)=>(∀ j,j < i→j < ds.length→ZDy (ds.getD j ZC7) 2≠0→¬ (0 < a.get j∧0 < b.get j))∧(∀ j,j < 8→s.1.get j=if j < i then a.get j+b.get j else 0)∧(s.2=1∨s.2=-1)∧s.2 * sg (Zcg ds a b (ds.length - i) i)=sg (Zcg ds a b ds.length 0)) ds.length ?_ ?_ _ _ _ (by omega) ⟨by intro j hj; omega,by intro j hj; simp [A8.get_zero],by simp,by simp⟩
  · rintro i ⟨s1,s2⟩ next hi ⟨h1,h2,h3,h4⟩ hn
    have hi8:i < 8:=by omega
    have pai:=pa i hi8
    have pbi:=pb i hi8
    have a20:=((ha i hi8).1 hi).1
    have b20:=((hb i hi8).1 hi).1
    have hr:ds.length - i=(ds.length - (i+1))+1:=by omega
    rw [hr] at h4
    simp only [Zcg] at h4
    dsimp only at h1 h2 h3 h4 ⊢
    have hw:IntKind.u8.wrap (a.get i+b.get i)=a.get i+b.get i:=Zmf _ (by omega)
    rw [hw]
    have hset:∀ j,j < 8→(s1.set i (a.get i+b.get i)).get j=if j < i+1 then a.get j+b.get j else 0:=by
      intro j hj
      rw [ZN9 hi8]
      by_cases hji:j=i
      · subst hji; simp
      · rw [if_neg hji,h2 j hj]
        by_cases hj2:j < i
        · rw [if_pos hj2,if_pos (by omega)]
        · rw [if_neg hj2,if_neg (by omega)]
    refine⟨by omega,by omega,by omega,?_⟩
    split
    · rename_i he
      rw [if_pos (.inl he),ZN0] at h4
      refine hn _ ⟨fun j hj hjl ho=>?_,hset,h3,h4⟩
      by_cases hji:j=i
      · subst hji; exact absurd he ho
      · exact h1 j (by omega) hjl ho
    · rename_i he
      have a1:=Zj6 ha h8 hi he
      have b1:=Zj6 hb h8 hi he
      refine⟨by omega,?_⟩
      rw [ZN9 hi8,if_pos rfl]
      split
      · rename_i hc
        have:Clash ds a b:=⟨i,hi,he,by omega,by omega⟩
        simpa [Xn,this] using h
      · rename_i hc
        have hnc:∀ j,j < i+1→j < ds.length→ZDy (ds.getD j ZC7) 2≠0→¬ (0 < a.get j∧0 < b.get j):=by
          intro j hj hjl ho
          by_cases hji:j=i
          · subst hji; omega
          · exact h1 j (by omega) hjl ho
        rw [i64_in _ (by omega)]
        refine Js (fun (t:Int×Int)=>((i:Int)+1≤t.1∧t.1≤ds.length)∧(t.2=1∨t.2=-1)∧(b.get i=1→t.2 * sg (Zcf ds a (ds.length - t.1.toNat) t.1.toNat)=s2 * sg (Zcf ds a (ds.length - (i+1)) (i+1)))∧(b.get i≠1→t.2=s2)) (fun t=>ds.length - t.1.toNat) ?_ ⟨by omega,h3,fun _=>by rw [show ((i:Int)+1).toNat=i+1 by omega],fun _=>rfl⟩
        rintro ⟨j,c⟩ next' ⟨⟨q1,q2⟩,q3,q4,q5⟩ hn'
        dsimp only at q1 q2 q3 q4 q5 ⊢
        split
        · rename_i hj
          refine⟨by omega,?_⟩
          split
          · rename_i hb1
            have hjn:j.toNat < ds.length:=by omega
            refine⟨by omega,?_⟩
            have q4:=q4 hb1
            have hr2:ds.length - j.toNat=(ds.length - (j.toNat+1))+1:=by omega
            rw [hr2] at q4
            simp only [Zcf] at q4
            have hj1:(j+1).toNat=j.toNat+1:=by omega
            rw [i64_in (j+1) (by omega)]
            have pj:=pa j.toNat (by omega)
            split
            · rename_i ho
              have aj:=Zj6 ha h8 hjn ho
              have od:=hd.odd hjn
              have od1:ZDy (ds.getD j.toNat ZC7) 2=1:=by omega
              rw [od1,Int.one_mul] at q4
              refine⟨by omega,?_⟩
              split
              · rename_i haj
                rw [haj,Int.add_comm,Zt3] at q4
                rw [i64_in (0 - c) (by omega)]
                refine hn' _ ⟨⟨by dsimp only; omega,by dsimp only; omega⟩,by dsimp only; omega,fun _=>?_,fun hne=>absurd hb1 hne⟩ (by dsimp only; omega)
                dsimp only
                rw [hj1,Int.zero_sub,Int.neg_mul,← Int.mul_neg]; exact q4
              · rename_i haj
                rw [show a.get j.toNat=0 by omega,ZN0] at q4
                refine hn' _ ⟨⟨by dsimp only; omega,by dsimp only; omega⟩,q3,fun _=>?_,fun hne=>absurd hb1 hne⟩ (by dsimp only; omega)
                dsimp only
                rw [hj1]; exact q4
            · rename_i ho
              rw [show ZDy (ds.getD j.toNat ZC7) 2=0 by simpa using ho,Int.zero_mul,ZN0] at q4
              refine hn' _ ⟨⟨by dsimp only; omega,by dsimp only; omega⟩,q3,fun _=>?_,fun hne=>absurd hb1 hne⟩ (by dsimp only; omega)
              dsimp only
              rw [hj1]; exact q4
          · rename_i hb1
            refine hn _ ⟨hnc,hset,q3,?_⟩
            rw [if_pos (.inr (by omega)),ZN0] at h4
            dsimp only
            rw [q5 hb1]; exact h4
        · rename_i hj
          refine hn _ ⟨hnc,hset,q3,?_⟩
          dsimp only
          by_cases hb1:b.get i=1
          · have q4:=q4 hb1
            rw [show ds.length - j.toNat=0 by omega] at q4
            simp only [Zcf] at q4
            rw [show sg 0=1 from rfl,Int.mul_one] at q4
            rw [if_neg (by omega),Zjw,← Int.mul_assoc] at h4
            rw [q4]; exact h4
          · rw [if_pos (.inr (by omega)),ZN0] at h4
            rw [q5 hb1]; exact h4
  · rintro ⟨s1,s2⟩ ⟨h1,h2,h3,h4⟩
    have hnc:¬ Clash ds a b:=fun ⟨i,hi,ho,hp⟩=>h1 i hi hi ho hp
    rw [Nat.sub_self] at h4
    simp only [Zcg] at h4
    rw [show sg 0=1 from rfl,Int.mul_one] at h4
    have hs:s1=a.add b:=Zvt ha hb h8 h2
    dsimp only at h4 ⊢
    rw [hs,h4]
    simpa [Xn,hnc] using h
theorem Zvv {ds : List Int} {a b : A8} {K : A8 → Int → Prop} (hd : OkDeg ds) (ha : Jj ds a) (hb : Jj ds b) (pa : ∀ i, i < 8 → 0 ≤ a.get i) (pb : ∀ i, i < 8 → 0 ≤ b.get i)
    (h:K (Xn ds a b).1 (Xn ds a b).2):Zg5 a ds b K:=by
  have h8:=hd.1
  have bnd:∀ (x:A8),Jj ds x→∀ i,i < 8→x.get i≤100:=by
    intro x hx i hi
    by_cases hl:i < ds.length
    · exact((hx i hi).1 hl).1
    · rw [(hx i hi).2 (by omega)]; omega
  unfold Zg5
  refine Yu (fun i (c:Int)=>(∀ j,j < i→j < ds.length→ZDy (ds.getD j ZC7) 2≠0→¬ (0 < a.get j∧0 < b.get j))∧(0≤c∧c≤8 * i)∧c+Zcg ds a b (ds.length - i) i=Zcg ds a b ds.length 0) ds.length ?_ ?_ _ _ _ (by omega) ⟨by intro j hj; omega,by omega,by simp⟩
  · rintro i c next hi ⟨h1,h2,h4⟩ hn
    have hi8:i < 8:=by omega
    have pai:=pa i hi8
    have pbi:=pb i hi8
    have hr:ds.length - i=(ds.length - (i+1))+1:=by omega
    rw [hr] at h4
    simp only [Zcg] at h4
    split
    · rename_i he
      rw [if_pos (.inl he),ZN0] at h4
      refine hn _ ⟨fun j hj hjl ho=>?_,by omega,h4⟩
      by_cases hji:j=i
      · subst hji; exact absurd he ho
      · exact h1 j (by omega) hjl ho
    · rename_i he
      refine⟨by omega,?_⟩
      have hnc:¬ (0 < a.get i∧0 < b.get i)→∀ j,j < i+1→j < ds.length→ZDy (ds.getD j ZC7) 2≠0→¬ (0 < a.get j∧0 < b.get j):=by
        intro hno j hj hjl ho
        by_cases hji:j=i
        · subst hji; exact hno
        · exact h1 j (by omega) hjl ho
      split
      · rename_i hap
        refine⟨by omega,?_⟩
        split
        · rename_i hbp
          have:Clash ds a b:=⟨i,hi,he,by omega,by omega⟩
          simpa [Xn,this] using h
        · rename_i hbp
          rw [if_pos (.inr (by omega)),ZN0] at h4
          exact⟨by omega,hn _ ⟨hnc (by omega),by omega,h4⟩⟩
      · rename_i hap
        refine⟨by omega,?_⟩
        split
        · rename_i hbp
          have he0:¬ (ZDy (ds.getD i ZC7) 2=0∨b.get i≤0):=by rintro (q | q); exact he q; omega
          rw [if_neg he0] at h4
          rw [i64_in _ (by omega)]
          refine Js (fun (t:Int×Int)=>((i:Int)+1≤t.1∧t.1≤ds.length)∧(0≤t.2∧t.2≤8 * i+(t.1 - (i+1)))∧t.2+Zcf ds a (ds.length - t.1.toNat) t.1.toNat=c+Zcf ds a (ds.length - (i+1)) (i+1)) (fun t=>ds.length - t.1.toNat) ?_ ⟨by omega,by omega,by rw [show ((i:Int)+1).toNat=i+1 by omega]⟩
          rintro ⟨j,d⟩ next' ⟨⟨q1,q2⟩,q3,q4⟩ hn'
          dsimp only at q1 q2 q3 q4 ⊢
          split
          · rename_i hj
            have hjn:j.toNat < ds.length:=by omega
            refine⟨by omega,by omega,?_⟩
            have hr2:ds.length - j.toNat=(ds.length - (j.toNat+1))+1:=by omega
            rw [hr2] at q4
            simp only [Zcf] at q4
            have hj1:(j+1).toNat=j.toNat+1:=by omega
            have pj:=pa j.toNat (by omega)
            have hm:0≤ZDy (ds.getD j.toNat ZC7) 2 * a.get j.toNat∧ZDy (ds.getD j.toNat ZC7) 2 * a.get j.toNat≤1:=by
              rcases hd.odd hjn with od | od
              · rw [od]; omega
              · have:=Zj6 ha h8 hjn (by omega)
                rw [od]; omega
            rw [i64_in (ZDy (ds.getD j.toNat ZC7) 2 * a.get j.toNat) (by omega),i64_in (d+ZDy (ds.getD j.toNat ZC7) 2 * a.get j.toNat) (by omega),i64_in (j+1) (by omega)]
            refine hn' _ ⟨⟨by dsimp only; omega,by dsimp only; omega⟩,by dsimp only; omega,?_⟩ (by dsimp only; omega)
            dsimp only
            rw [hj1]; omega
          · rename_i hj
            rw [show ds.length - j.toNat=0 by omega] at q4
            simp only [Zcf] at q4
            refine hn _ ⟨hnc (by omega),by omega,by omega⟩
        · rename_i hbp
          rw [if_pos (.inr (by omega)),ZN0] at h4
          exact hn _ ⟨hnc (by omega),by omega,h4⟩
  · rintro c ⟨h1,h2,h4⟩
    have hnc:¬ Clash ds a b:=fun ⟨i,hi,ho,hp⟩=>h1 i hi hi ho hp
    rw [Nat.sub_self] at h4
    simp only [Zcg,Int.add_zero] at h4
    refine Yu (fun i (s:A8)=>∀ j,j < 8→s.get j=if j < i then a.get j+b.get j else a.get j) 8 ?_ ?_ _ _ _ (by omega) (by intro j hj; simp)
    · intro i s next hi hI hn
      have e1:=hI i hi
      rw [if_neg (by omega)] at e1
      have:=bnd a ha i hi
      have:=bnd b hb i hi
      have:=pa i hi
      have:=pb i hi
      rw [e1,i64_in _ (by omega)]
      refine hn _ fun j hj=>?_
      rw [ZN9 hi]
      by_cases hji:j=i
      · subst hji; simp
      · rw [if_neg hji,hI j hj]
        by_cases hj2:j < i
        · rw [if_pos hj2,if_pos (by omega)]
        · rw [if_neg hj2,if_neg (by omega)]
    · intro s hI
      have hs:s=a.add b:=ZOa fun i hi=>by rw [hI i hi,if_pos hi,A8.get_add]
      have hj:Xn ds a b=(a.add b,sg c):=by simp [Xn,hnc,h4]
      rw [hj] at h
      rw [hs]
      split
      · rename_i ho
        have:sg c=-1:=by unfold sg; rw [ZOb (by omega)] at ho; rw [if_neg (by omega)]
        rw [this] at h; exact h
      · rename_i ho
        have:sg c=1:=by unfold sg; rw [ZOb (by omega)] at ho; rw [if_pos (by omega)]
        rw [this] at h; exact h
end Go.Proofs.YtaagfepgbofmlaaGreat
namespace Go.Proofs.YtaagfepgbofmlaaGreat
open Go Vc
end Go.Proofs.YtaagfepgbofmlaaGreat
namespace Vc
open Go
theorem Zp3:∀ (xs ys:List Int),xs.length=ys.length→Jy xs ys=0→xs=ys
  | [],[],_,_=>rfl
  | x :: xs, y :: ys, h, h0 => by
    simp only [Jy] at h0
    split at h0
    · omega
    · rename_i he
      have he:x=y:=ZPw.1 he
      rw [he,Zp3 xs ys (by simpa using h) h0]
  | [],_::_,h,_=>by simp at h
  | _::_,[],h,_=>by simp at h
theorem Zp4:∀ (xs ys:List Int),Jy xs ys=- Jy ys xs
  | [],[]=>rfl
  | x :: xs, y :: ys => by
    simp only [Jy]
    have:=Zp4 xs ys
    split <;> split <;> omega
  | [],_::_=>rfl
  | _::_,[]=>rfl
theorem A8.list_inj {a b:A8} (h:a.list=b.list):a=b:=by
  cases a; cases b
  simpa [A8.list] using h
theorem Zhp (a:A8):pcmp a a=0:=Ztt _
theorem Zp5 (a b:A8):pcmp a b=- pcmp b a:=Zp4 _ _
theorem Zb2 {a b c:A8} (h1:pcmp a b < 0) (h2:pcmp b c < 0):pcmp a c < 0:=Zpl a.list b.list c.list rfl rfl h1 h2
theorem Zj7 {a b:A8} (h1:¬ pcmp a b < 0) (h2:¬ pcmp b a < 0):a=b :=
  A8.list_inj (Zp3 _ _ rfl (by have:=Zp5 a b; unfold pcmp at *; omega))
theorem Zbn {a b:A8} (h:pcmp a b < 0):a≠b:=by rintro rfl; rw [Zhp] at h; omega
theorem Zhq {a b:A8} (h:pcmp a b < 0):b≠a:=fun e=>Zbn h e.symm
theorem Zj8 {a b:A8} (h:pcmp a b < 0):¬ pcmp b a < 0:=by have:=Zp5 a b; omega
def tot {α:Type} (f:α→Int):List α→Int
  | []=>0
  | a::l=>f a+tot f l
theorem Zhr {α:Type} (f:α→Int) (l k:List α):tot f (l++k)=tot f l+tot f k:=by
  induction l with
  | nil=>simp [tot]
  | cons a l ih=>simp only [List.cons_append,tot,ih]; omega
theorem Zfp {α:Type} (f:α→Int) {l k:List α} (h:l.Perm k):tot f l=tot f k:=by
  induction h with
  | nil=>rfl
  | cons x _ ih=>simp only [tot,ih]
  | swap x y l=>simp only [tot]; omega
  | trans _ _ h1 h2=>exact h1.trans h2
theorem Zel {α β:Type} (f:β→Int) (g:α→β) (l:List α):tot f (l.map g)=tot (fun a=>f (g a)) l:=by
  induction l with
  | nil=>rfl
  | cons a l ih=>simp only [ZD7,tot,ih]
theorem Zhs {α:Type} {f g:α→Int} {l:List α} (h:∀ a,a∈l→f a=g a):tot f l=tot g l:=by
  induction l with
  | nil=>rfl
  | cons a l ih=>simp only [tot]; rw [h a (by simp),ih fun b hb=>h b (by simp [hb])]
theorem Zvw {α:Type} (f g:α→Int) (l:List α):tot (fun a=>f a+g a) l=tot f l+tot g l:=by
  induction l with
  | nil=>simp [tot]
  | cons a l ih=>simp only [tot,ih]; omega
theorem Zj9 {α:Type} {f:α→Int} {l:List α} (h:∀ a,a∈l→f a=0):tot f l=0:=by
  induction l with
  | nil=>rfl
  | cons a l ih=>simp only [tot]; rw [h a (by simp),ih fun b hb=>h b (by simp [hb])]; rfl
theorem Zvx {α:Type} {f g:α→Int} {l:List α} (h:∀ a,a∈l→f a % 10007=g a % 10007):tot f l % 10007=tot g l % 10007:=by
  induction l with
  | nil=>rfl
  | cons a l ih =>
    have h1:=h a (by simp)
    have h2:=ih fun b hb=>h b (by simp [hb])
    simp only [tot]; omega
def co (l:List (A8×Int)) (m:A8):Int:=tot (fun p=>if p.1=m then p.2 else 0) l
def coT (l:List Term) (m:A8):Int:=tot (fun t=>if t.mono=m then t.factor else 0) l
theorem Za9 (p:A8×Int) (l:List (A8×Int)) (m:A8):co (p::l) m=(if p.1=m then p.2 else 0)+co l m:=rfl
theorem Zbo (t:Term) (l:List Term) (m:A8):coT (t::l) m=(if t.mono=m then t.factor else 0)+coT l m:=rfl
theorem Zem (m:A8):coT [] m=0:=rfl
theorem Zfq (m:A8):co [] m=0:=rfl
theorem Zdb (l:List Term) (t:Term) (m:A8):coT (l++[t]) m=coT l m+(if t.mono=m then t.factor else 0):=by
  rw [coT,Zhr]; simp [tot,coT]
theorem Zcl {l:List Term} {m:A8} (h:∀ t,t∈l→t.mono≠m):coT l m=0:=Zj9 fun t ht=>if_neg (h t ht)
theorem Zdc {l:List (A8×Int)} {m:A8} (h:∀ t,t∈l→t.1≠m):co l m=0:=Zj9 fun t ht=>if_neg (h t ht)
def Canon (l:List Term):Prop:=l.Pairwise (fun a b=>pcmp a.mono b.mono < 0)∧∀ t,t∈l→1≤t.factor∧t.factor≤10006
theorem Canon.nil:Canon []:=⟨ZP1,by simp⟩
theorem Canon.tail {t:Term} {l:List Term} (h:Canon (t::l)):Canon l:=⟨(ZDt.1 h.1).2,fun s hs=>h.2 s (by simp [hs])⟩
theorem Canon.head {t:Term} {l:List Term} (h:Canon (t::l)):∀ s,s∈l→pcmp t.mono s.mono < 0:=(ZDt.1 h.1).1
theorem Canon.snoc {l:List Term} {t:Term} (h:Canon l) (hl:∀ s,s∈l→pcmp s.mono t.mono < 0) (hf:1≤t.factor∧t.factor≤10006):Canon (l++[t]):=by
  refine⟨ZP2.2 ⟨h.1,by simp,fun a ha b hb=>?_⟩,fun s hs=>?_⟩
  · obtain rfl:b=t:=by simpa using hb
    exact hl a ha
  · rcases ZDd.1 hs with q | q
    · exact h.2 s q
    · obtain rfl:s=t:=by simpa using q
      exact hf
theorem Canon.at_head {t:Term} {l:List Term} (h:Canon (t::l)):coT (t::l) t.mono=t.factor:=by
  rw [Zbo,if_pos rfl,Zcl fun s hs=>Zhq (h.head s hs),Int.add_zero]
theorem Canon.range {l:List Term} (h:Canon l) (m:A8):0≤coT l m∧coT l m≤10006:=by
  induction l with
  | nil=>simp [Zem]
  | cons t l ih =>
    by_cases hm:t.mono=m
    · subst hm
      rw [h.at_head]
      have:=h.2 t (by simp)
      omega
    · rw [Zbo,if_neg hm,ZN0]
      exact ih h.tail
theorem Zp6 : ∀ (A B : List Term), Canon A → Canon B → (∀ m, coT A m = coT B m) → A = B
  | [],[],_,_,_=>rfl
  | [], b :: B, _, hB, h => by
    have:=h b.mono
    rw [hB.at_head,Zem] at this
    have:=hB.2 b (by simp)
    omega
  | a :: A, [], hA, _, h => by
    have:=h a.mono
    rw [hA.at_head,Zem] at this
    have:=hA.2 a (by simp)
    omega
  | a :: A, b :: B, hA, hB, h => by
    have ha:=hA.2 a (by simp)
    have hb:=hB.2 b (by simp)
    by_cases h1:pcmp a.mono b.mono < 0
    · exfalso
      have:=h a.mono
      rw [hA.at_head,Zcl (l:=b::B)] at this
      · omega
      · intro t ht
        rcases ZC3.1 ht with rfl | ht
        · exact Zhq h1
        · exact Zhq (Zb2 h1 (hB.head t ht))
    · by_cases h2:pcmp b.mono a.mono < 0
      · exfalso
        have:=h b.mono
        rw [hB.at_head,Zcl (l:=a::A)] at this
        · omega
        · intro t ht
          rcases ZC3.1 ht with rfl | ht
          · exact Zhq h2
          · exact Zhq (Zb2 h2 (hA.head t ht))
      · have hm:a.mono=b.mono:=Zj7 h1 h2
        have hf:a.factor=b.factor:=by
          have:=h a.mono
          rw [hA.at_head,hm,hB.at_head] at this; exact this
        have hab:a=b:=by cases a; cases b; simp only at hm hf; rw [hm,hf]
        subst hab
        rw [Zp6 A B hA.tail hB.tail fun m=>?_]
        have:=h m
        rw [Zbo,Zbo] at this
        omega
theorem Zvy {A B:List Term} (hA:Canon A) (hB:Canon B) (h:∀ m,coT A m % 10007=coT B m % 10007):A=B :=
  Zp6 A B hA hB fun m=>by have:=h m; have:=hA.range m; have:=hB.range m; omega
theorem Zht (x:Int):-10007 < ZDy x 10007∧ZDy x 10007 < 10007:=by
  rcases Int.le_total 0 x with h | h
  · rw [ZOb h]; omega
  · have e:ZDy x 10007=- ZDy (-x) 10007:=by rw [Int.neg_tmod]; omega
    rw [e,ZOb (by omega)]; omega
theorem Zp7 (x:Int):ZDy (ZDy x 10007+10007) 10007=x % 10007:=by
  have h1:=Zht x
  rw [ZOb (by omega)]
  have h2:x=10007 * Int.tdiv x 10007+ZDy x 10007:=(ZP4 x 10007).symm
  omega
theorem Zp8 (x:Int):ZDy x 10007 % 10007=x % 10007:=by
  have h2:x=10007 * Int.tdiv x 10007+ZDy x 10007:=(ZP4 x 10007).symm
  omega
theorem Zvz {d e:Nat} (h:d * e=10007):d=1∨e=1:=by
  have key:∀ k,k < 101→k ∣ 10007→k≤1:=by decide
  by_cases hd:d < 101
  · left
    have:=key d hd ⟨e,h.symm⟩
    rcases Nat.eq_zero_or_pos d with rfl | q
    · simp at h
    · omega
  · by_cases he:e < 101
    · right
      have:=key e he ⟨d,by rw [Nat.mul_comm]; exact h.symm⟩
      rcases Nat.eq_zero_or_pos e with rfl | q
      · simp at h
      · omega
    · exfalso
      have:101 * 101≤d * e:=Nat.mul_le_mul (by omega) (by omega)
      omega
theorem Zv0 {a:Nat} (h1:1≤a) (h2:a≤10006):Nat.Coprime 10007 a:=by
  obtain ⟨e,he⟩:=Nat.gcd_dvd_left 10007 a
  rcases Zvz he.symm with q | q
  · exact q
  · exfalso
    rw [q,Nat.mul_one] at he
    have:=Nat.le_of_dvd (by omega) (Nat.gcd_dvd_right 10007 a)
    omega
theorem Zv1 {a b:Int} (ha:1≤a∧a≤10006) (hb:1≤b∧b≤10006):(a * b) % 10007≠0:=by
  obtain ⟨x,rfl⟩:=ZP7 (show 0≤a by omega)
  obtain ⟨y,rfl⟩:=ZP7 (show 0≤b by omega)
  intro h
  have h:(x * y) % 10007=0:=by
    have e:((x:Int) * (y:Int))=((x * y:Nat):Int):=(Int.natCast_mul x y).symm
    rw [e] at h; omega
  have:=(Zv0 (a:=x) (by omega) (by omega)).dvd_of_dvd_mul_left (Nat.dvd_of_mod_eq_zero h)
  have:=Nat.le_of_dvd (by omega) this
  omega
theorem Zv2 {s a b:Int} (hs:s=1∨s=-1) (ha:1≤a∧a≤10006) (hb:1≤b∧b≤10006):1≤(s * (a * b)) % 10007∧(s * (a * b)) % 10007≤10006:=by
  have:=Zv1 ha hb
  rcases hs with rfl | rfl <;> omega
theorem Zp9:∀ (a x y:List Int),a.length=x.length→x.length=y.length→Jy (List.zipWith (·+·) a x) (List.zipWith (·+·) a y)=Jy x y
  | [],[],[],_,_=>rfl
  | a :: ar, x :: xs, y :: ys, h1, h2 => by
    simp only [List.zipWith_cons_cons,Jy]
    have:=Zp9 ar xs ys (by simpa using h1) (by simpa using h2)
    by_cases h:x=y
    · subst h; simpa using this
    · rw [if_pos (by omega),if_pos h]; omega
  | [],_::_,_,h,_=>by simp at h
  | _::_,[],_,h,_=>by simp at h
  | _::_,_::_,[],_,h=>by simp at h
  | [],[],_::_,_,h=>by simp at h
theorem Zv3 (a x y:A8):pcmp (a.add x) (a.add y)=pcmp x y:=Zp9 a.list x.list y.list rfl rfl
theorem Xv {α:Type} [Inhabited α] {l:List α} {i:Nat} (h:i < l.length):l.take (i+1)=l.take i++[l.getD i ZC7]:=by
  rw [List.take_add_one]; simp [ZDo,h]
theorem Canon.at_lt {l:List Term} (h:Canon l) {i j:Nat} (hij:i < j) (hj:j < l.length):pcmp (l.getD i ZC7).mono (l.getD j ZC7).mono < 0:=by
  have:=(List.pairwise_iff_getElem.1 h.1) i j (by omega) hj hij
  simpa [ZDo,hj,show i < l.length by omega] using this
theorem Canon.at_range {l:List Term} (h:Canon l) {i:Nat} (hi:i < l.length):1≤(l.getD i ZC7).factor∧(l.getD i ZC7).factor≤10006:=h.2 _ (by simp [ZDo,hi])
theorem Xa {α:Type} [Inhabited α] {l:List α} {i:Nat} (h:i < l.length):l.getD i ZC7∈l:=by simp [ZDo,h]
structure AddI (f g:List Term) (k:Int) (out:List Term) (i j:Nat):Prop where
  hi:i≤f.length
  hj:j≤g.length
  can:Canon out
  cf:∀ m,coT out m % 10007=(coT (f.take i) m+k * coT (g.take j) m) % 10007
  bf:∀ x,x∈out→i < f.length→pcmp x.mono (f.getD i ZC7).mono < 0
  bg:∀ x,x∈out→j < g.length→pcmp x.mono (g.getD j ZC7).mono < 0
  mo:∀ x,x∈out→∃ y,(y∈f∨y∈g)∧y.mono=x.mono
  ln:out.length≤i+j
theorem AddI.zero (f g:List Term) (k:Int):AddI f g k [] 0 0 :=
  ⟨by omega,by omega,Canon.nil,by intro m; simp [Zem],by simp,by simp,by simp,by simp⟩
theorem Zcm {α:Type} {l:List α} {t x:α} (h:x∈l++[t]):x∈l∨x=t:=by simpa using h
theorem AddI.stepF {f g:List Term} {k:Int} {out:List Term} {i j:Nat} (h:AddI f g k out i j) (cf:Canon f) (cg:Canon g) (hi:i < f.length) (hb:j < g.length→pcmp (f.getD i ZC7).mono (g.getD j ZC7).mono < 0) :
    AddI f g k (out++[f.getD i ZC7]) (i+1) j where
  hi:=hi
  hj:=h.hj
  can:=h.can.snoc (fun s hs=>h.bf s hs hi) (cf.at_range hi)
  cf m:=by
    have:=h.cf m
    rw [Zdb,Xv hi,Zdb]
    omega
  bf x hx hl:=by
    rcases Zcm hx with q | rfl
    · exact Zb2 (h.bf x q hi) (cf.at_lt (by omega) hl)
    · exact cf.at_lt (by omega) hl
  bg x hx hl:=by
    rcases Zcm hx with q | rfl
    · exact h.bg x q hl
    · exact hb hl
  mo x hx:=by
    rcases Zcm hx with q | rfl
    · exact h.mo x q
    · exact⟨_,.inl (Xa hi),rfl⟩
  ln:=by have:=h.ln; simp; omega
theorem AddI.cfG {f g:List Term} {k:Int} {out:List Term} {i j:Nat} (h:AddI f g k out i j) (hj:j < g.length) (m:A8) :
    k * coT (g.take (j+1)) m=k * coT (g.take j) m+(if(g.getD j ZC7).mono=m then k * (g.getD j ZC7).factor else 0):=by
  rw [Xv hj,Zdb,Int.mul_add]
  split <;> simp
theorem AddI.stepG0 {f g:List Term} {k:Int} {out:List Term} {i j:Nat} (h:AddI f g k out i j) (cf:Canon f) (cg:Canon g) (hj:j < g.length)
    (hz:(k * (g.getD j ZC7).factor) % 10007=0):AddI f g k out i (j+1) where
  hi:=h.hi
  hj:=hj
  can:=h.can
  cf m:=by
    have:=h.cf m
    rw [h.cfG hj m]
    split <;> omega
  bf:=h.bf
  bg x hx hl:=Zb2 (h.bg x hx hj) (cg.at_lt (by omega) hl)
  mo:=h.mo
  ln:=by have:=h.ln; omega
theorem AddI.stepG1 {f g:List Term} {k:Int} {out:List Term} {i j:Nat} (h:AddI f g k out i j) (cf:Canon f) (cg:Canon g) (hj:j < g.length) (hb:i < f.length→pcmp (g.getD j ZC7).mono (f.getD i ZC7).mono < 0)
    {v:Int} (hv:v=(k * (g.getD j ZC7).factor) % 10007) (hz:v≠0):AddI f g k (out++[⟨(g.getD j ZC7).mono,v⟩]) i (j+1) where
  hi:=h.hi
  hj:=hj
  can:=h.can.snoc (fun s hs=>h.bg s hs hj) (by dsimp only; omega)
  cf m:=by
    have:=h.cf m
    rw [h.cfG hj m,Zdb]
    dsimp only
    split <;> omega
  bf x hx hl:=by
    rcases Zcm hx with q | rfl
    · exact h.bf x q hl
    · exact hb hl
  bg x hx hl:=by
    rcases Zcm hx with q | rfl
    · exact Zb2 (h.bg x q hj) (cg.at_lt (by omega) hl)
    · exact cg.at_lt (by omega) hl
  mo x hx:=by
    rcases Zcm hx with q | rfl
    · exact h.mo x q
    · exact⟨_,.inr (Xa hj),rfl⟩
  ln:=by have:=h.ln; simp; omega
theorem AddI.stepB0 {f g:List Term} {k:Int} {out:List Term} {i j:Nat} (h:AddI f g k out i j) (cf:Canon f) (cg:Canon g) (hi:i < f.length) (hj:j < g.length) (he:(f.getD i ZC7).mono=(g.getD j ZC7).mono)
    (hz:((f.getD i ZC7).factor+k * (g.getD j ZC7).factor) % 10007=0):AddI f g k out (i+1) (j+1) where
  hi:=hi
  hj:=hj
  can:=h.can
  cf m:=by
    have:=h.cf m
    rw [h.cfG hj m,Xv hi,Zdb,he]
    split <;> omega
  bf x hx hl:=Zb2 (h.bf x hx hi) (cf.at_lt (by omega) hl)
  bg x hx hl:=Zb2 (h.bg x hx hj) (cg.at_lt (by omega) hl)
  mo:=h.mo
  ln:=by have:=h.ln; omega
theorem AddI.stepB1 {f g:List Term} {k:Int} {out:List Term} {i j:Nat} (h:AddI f g k out i j) (cf:Canon f) (cg:Canon g) (hi:i < f.length) (hj:j < g.length) (he:(f.getD i ZC7).mono=(g.getD j ZC7).mono)
    {v:Int} (hv:v=((f.getD i ZC7).factor+k * (g.getD j ZC7).factor) % 10007) (hz:v≠0):AddI f g k (out++[⟨(f.getD i ZC7).mono,v⟩]) (i+1) (j+1) where
  hi:=hi
  hj:=hj
  can:=h.can.snoc (fun s hs=>h.bf s hs hi) (by dsimp only; omega)
  cf m:=by
    have:=h.cf m
    rw [h.cfG hj m,Xv hi,Zdb,Zdb,he]
    dsimp only
    split <;> omega
  bf x hx hl:=by
    rcases Zcm hx with q | rfl
    · exact Zb2 (h.bf x q hi) (cf.at_lt (by omega) hl)
    · exact cf.at_lt (by omega) hl
  bg x hx hl:=by
    rcases Zcm hx with q | rfl
    · exact Zb2 (h.bg x q hj) (cg.at_lt (by omega) hl)
    · dsimp only; rw [he]; exact cg.at_lt (by omega) hl
  mo x hx:=by
    rcases Zcm hx with q | rfl
    · exact h.mo x q
    · exact⟨_,.inl (Xa hi),rfl⟩
  ln:=by have:=h.ln; simp; omega
structure IsAdd (f g:List Term) (k:Int) (out:List Term):Prop where
  can:Canon out
  cf:∀ m,coT out m % 10007=(coT f m+k * coT g m) % 10007
  mo:∀ x,x∈out→∃ y,(y∈f∨y∈g)∧y.mono=x.mono
  ln:out.length≤f.length+g.length
theorem AddI.done {f g:List Term} {k:Int} {out:List Term} {i j:Nat} (h:AddI f g k out i j) (hi:¬ i < f.length) (hj:¬ j < g.length):IsAdd f g k out where
  can:=h.can
  cf m:=by have:=h.cf m; rwa [ZD5 (by omega),ZD5 (by omega)] at this
  mo:=h.mo
  ln:=by have:=h.ln; have:=h.hi; have:=h.hj; omega
def pr1 (ds:List Int) (a:A8) (n:Int) (b:A8) (m':Int) (m:A8):Int:=if(Xn ds a b).1=m then(Xn ds a b).2 * (n * m') else 0
def shC (ds:List Int) (t:Term) (g:List Term) (m:A8):Int:=tot (fun u=>pr1 ds t.mono t.factor u.mono u.factor m) g
def prC (ds:List Int) (f g:List Term) (m:A8):Int:=tot (fun t=>shC ds t g m) f
structure IsShift (ds:List Int) (t:Term) (g out:List Term):Prop where
  can:Canon out
  cf:∀ m,coT out m % 10007=shC ds t g m % 10007
  mo:∀ x,x∈out→∃ u,u∈g∧x.mono=t.mono.add u.mono∧¬ Clash ds t.mono u.mono
  ln:out.length≤g.length
theorem IsShift.nil (ds:List Int) (t:Term):IsShift ds t [] []:=⟨Canon.nil,by intro m; rfl,by simp,by simp⟩
theorem Zqa (ds:List Int) (t:Term) (g:List Term) (u:Term) (m:A8):shC ds t (g++[u]) m=shC ds t g m+pr1 ds t.mono t.factor u.mono u.factor m:=by
  rw [shC,Zhr]; simp [tot,shC]
theorem Canon.init {l:List Term} {u:Term} (h:Canon (l++[u])):Canon l∧∀ s,s∈l→pcmp s.mono u.mono < 0:=by
  have:=ZP2.1 h.1
  exact⟨⟨this.1,fun s hs=>h.2 s (by simp [hs])⟩,fun s hs=>this.2.2 s hs u (by simp)⟩
theorem IsShift.skip {ds:List Int} {t:Term} {g out:List Term} {u:Term} (h:IsShift ds t g out) (hs:(Xn ds t.mono u.mono).2=0):IsShift ds t (g++[u]) out where
  can:=h.can
  cf m:=by
    have:=h.cf m
    rw [Zqa,pr1,hs]
    split <;> simp [this]
  mo x hx:=by
    obtain ⟨u',hu,he⟩:=h.mo x hx
    exact⟨u',by simp [hu],he⟩
  ln:=by have:=h.ln; simp; omega
theorem Zhu {ds:List Int} {a b:A8} (h:(Xn ds a b).2≠0):¬ Clash ds a b∧(Xn ds a b).1=a.add b∧((Xn ds a b).2=1∨(Xn ds a b).2=-1):=by
  have hc:¬ Clash ds a b:=fun q=>h (by simp [Xn,q])
  refine⟨hc,by simp [Xn,hc],?_⟩
  simp only [Xn,hc,if_false]
  exact Zpo _
theorem IsShift.put {ds:List Int} {t:Term} {g out:List Term} {u:Term} (h:IsShift ds t g out) (cg:Canon (g++[u])) (ht:1≤t.factor∧t.factor≤10006) (hs:(Xn ds t.mono u.mono).2≠0) {v:Int} (hv:v=((Xn ds t.mono u.mono).2 * (t.factor * u.factor)) % 10007) :
    IsShift ds t (g++[u]) (out++[⟨(Xn ds t.mono u.mono).1,v⟩]):=by
  obtain ⟨hc,he,hsg⟩:=Zhu hs
  have hu:=cg.2 u (by simp)
  have hnz:=Zv2 hsg ht hu
  refine⟨h.can.snoc (fun s hs'=>?_) (by dsimp only; omega),fun m=>?_,fun x hx=>?_,by have:=h.ln; simp; omega⟩
  · obtain ⟨u',hu',he',_⟩:=h.mo s hs'
    dsimp only
    rw [he,he',Zv3]
    exact cg.init.2 u' hu'
  · have:=h.cf m
    rw [Zdb,Zqa,pr1]
    dsimp only
    split <;> omega
  · rcases Zcm hx with q | rfl
    · obtain ⟨u',hu',he'⟩:=h.mo x q
      exact⟨u',by simp [hu'],he'⟩
    · exact⟨u,by simp,he,hc⟩
structure IsProd (ds:List Int) (f g out:List Term):Prop where
  can:Canon out
  cf:∀ m,coT out m % 10007=prC ds f g m % 10007
  mo:∀ x,x∈out→∃ t u,t∈f∧u∈g∧x.mono=t.mono.add u.mono∧¬ Clash ds t.mono u.mono
  ln:out.length≤f.length * g.length
theorem IsProd.nil (ds:List Int) (g:List Term):IsProd ds [] g []:=⟨Canon.nil,by intro m; rfl,by simp,by simp⟩
theorem IsProd.step {ds:List Int} {f g out sh out':List Term} {t:Term} (h:IsProd ds f g out) (hs:IsShift ds t g sh) (ha:IsAdd out sh 1 out'):IsProd ds (f++[t]) g out' where
  can:=ha.can
  cf m:=by
    have h1:=h.cf m
    have h2:=hs.cf m
    have h3:=ha.cf m
    rw [prC,Zhr]
    simp only [tot]
    unfold prC at h1
    omega
  mo x hx:=by
    obtain ⟨y,hy | hy,he⟩:=ha.mo x hx
    · obtain ⟨a,u,h1,h2,h3,h4⟩:=h.mo y hy
      exact⟨a,u,by simp [h1],h2,he ▸ h3,h4⟩
    · obtain ⟨u,h2,h3,h4⟩:=hs.mo y hy
      exact⟨t,u,by simp,h2,he ▸ h3,h4⟩
  ln:=by
    have h1:=h.ln
    have h2:=hs.ln
    have h3:=ha.ln
    have:(f++[t]).length * g.length=f.length * g.length+g.length:=by simp [Nat.add_mul]
    omega
def MapOk (l:List (A8×Int)):Prop:=(l.map ZD9).Nodup∧∀ p,p∈l→1≤p.2∧p.2≤10006
theorem MapOk.nil:MapOk []:=⟨by simp,by simp⟩
theorem Zcn {l : List (A8 × Int)} (h : (l.map ZD9).Nodup) (m : A8) : (Xb l m).getD 0 = co l m := by
  induction l with
  | nil=>rfl
  | cons p l ih =>
    simp only [ZD7,ZN4] at h
    simp only [Xb,Za9]
    by_cases hm:m=p.1
    · subst hm
      rw [if_pos rfl,if_pos rfl,Zdc]
      · simp
      · intro t ht e
        exact h.1 (ZEh.2 ⟨t,ht,e⟩)
    · rw [if_neg hm,if_neg (fun e=>hm e.symm),ih h.2,ZN0]
theorem Zmv {l : List (A8 × Int)} (h : (l.map ZD9).Nodup) (x : A8) (v : Int) (m : A8) : co (Yt l x v) m = if m = x then v else co l m := by
  induction l with
  | nil => simp only [Yt, Za9, Zfq]; by_cases hm : m = x
           · subst hm; simp
           · rw [if_neg (fun e=>hm e.symm),if_neg hm]; rfl
  | cons p l ih =>
    simp only [ZD7,ZN4] at h
    simp only [Yt]
    split
    · rename_i hx
      rw [Za9,Za9]
      dsimp only
      by_cases hm:m=x
      · subst hm
        rw [if_pos rfl,if_pos rfl,Zdc]
        · simp
        · intro t ht e
          exact h.1 (ZEh.2 ⟨t,ht,by rw [e,hx]⟩)
      · rw [if_neg (fun e=>hm e.symm),if_neg hm,if_neg (fun e=>hm (by rw [hx,e]))]
    · rename_i hx
      rw [Za9,Za9,ih h.2]
      by_cases hm:m=x
      · subst hm; rw [if_pos rfl,if_pos rfl,if_neg (fun e=>hx e.symm)]; simp
      · rw [if_neg hm,if_neg hm]
theorem Zv4 {l : List (A8 × Int)} (h : (l.map ZD9).Nodup) (x : A8) (m : A8) : co (Jo l x) m = if m = x then 0 else co l m := by
  induction l with
  | nil=>simp [Jo,Zfq]
  | cons p l ih =>
    simp only [ZD7,ZN4] at h
    simp only [Jo]
    split
    · rename_i hx
      rw [Za9]
      by_cases hm:m=x
      · subst hm
        rw [if_pos rfl,Zdc]
        intro t ht e
        exact h.1 (ZEh.2 ⟨t,ht,by rw [e,hx]⟩)
      · rw [if_neg hm,if_neg (fun e=>hm (by rw [hx,e]))]; simp
    · rename_i hx
      rw [Za9,Za9,ih h.2]
      by_cases hm:m=x
      · subst hm; rw [if_pos rfl,if_pos rfl,if_neg (fun e=>hx e.symm)]; rfl
      · rw [if_neg hm,if_neg hm]
theorem Zmw {l:List (A8×Int)} {x:A8} {p:A8×Int} (h:p∈Jo l x):p∈l:=by
  induction l with
  | nil=>simp [Jo] at h
  | cons q l ih =>
    simp only [Jo] at h
    split at h
    · simp [h]
    · rcases ZC3.1 h with rfl | h
      · simp
      · simp [ih h]
theorem Zv5 {l:List (A8×Int)} (x:A8) (h:(l.map ZD9).Nodup):((Jo l x).map ZD9).Nodup:=by
  induction l with
  | nil=>simp [Jo]
  | cons q l ih =>
    simp only [ZD7,ZN4] at h
    simp only [Jo]
    split
    · exact h.2
    · simp only [ZD7,ZN4]
      refine⟨fun hq=>h.1 ?_,ih h.2⟩
      obtain ⟨p,hp,he⟩:=ZEh.1 hq
      exact ZEh.2 ⟨p,Zmw hp,he⟩
theorem Zmx {l : List (A8 × Int)} {x : A8} {v : Int} {p : A8 × Int} (h : p ∈ Yt l x v) : p = (x, v) ∨ p ∈ l := by
  induction l with
  | nil=>left; simpa [Yt] using h
  | cons q l ih =>
    simp only [Yt] at h
    split at h
    · rcases ZC3.1 h with rfl | h
      · exact .inl rfl
      · exact .inr (by simp [h])
    · rcases ZC3.1 h with rfl | h
      · exact .inr (by simp)
      · rcases ih h with e | e
        · exact .inl e
        · exact .inr (by simp [e])
theorem Zv6 (l:List (A8×Int)) (x:A8) (v:Int):(Yt l x v).length≤l.length+1:=by
  induction l with
  | nil=>simp [Yt]
  | cons q l ih=>simp only [Yt]; split <;> simp; omega
theorem Zv7 (l:List (A8×Int)) (x:A8):(Jo l x).length≤l.length:=by
  induction l with
  | nil=>simp [Jo]
  | cons q l ih=>simp only [Jo]; split <;> simp; omega
theorem MapOk.put {l:List (A8×Int)} (h:MapOk l) {x:A8} {v:Int} (hv:1≤v∧v≤10006):MapOk (Yt l x v) :=
  ⟨Zjs h.1,fun p hp=>by rcases Zmx hp with rfl | q; exact hv; exact h.2 p q⟩
theorem MapOk.del {l:List (A8×Int)} (h:MapOk l) (x:A8):MapOk (Jo l x):=⟨Zv5 x h.1,fun p hp=>h.2 p (Zmw hp)⟩
theorem MapOk.range {l : List (A8 × Int)} (h : MapOk l) (m : A8) : 0 ≤ co l m ∧ co l m ≤ 10006 := by
  rw [← Zcn h.1]
  cases hg:Xb l m with
  | none=>simp
  | some v =>
    have:(m,v)∈l:=by
      clear h
      induction l with
      | nil=>simp [Xb] at hg
      | cons p l ih =>
        simp only [Xb] at hg
        split at hg
        · rename_i e; injection hg with e2; subst e2; subst e; simp
        · simp [ih hg]
    have:=h.2 _ this
    simp only [Option.getD_some]
    dsimp only at this
    omega
structure IsPut (l:List (A8×Int)) (x:A8) (c:Int) (l':List (A8×Int)):Prop where
  ok:MapOk l'
  cf:∀ m,co l' m % 10007=(co l m+if x=m then c else 0) % 10007
  ks:∀ p,p∈l'→p.1=x∨∃ q,q∈l∧q.1=p.1
  ln:l'.length≤l.length+1
theorem IsPut.put {l:List (A8×Int)} (h:MapOk l) {x:A8} {c v:Int} (hv:v=(co l x+c) % 10007) (hz:v≠0):IsPut l x c (Yt l x v) where
  ok:=h.put (by omega)
  cf m:=by
    rw [Zmv h.1]
    by_cases hm:m=x
    · subst hm; rw [if_pos rfl,if_pos rfl]; omega
    · rw [if_neg hm,if_neg (fun e=>hm e.symm)]; simp
  ks p hp:=by
    rcases Zmx hp with rfl | q
    · exact .inl rfl
    · exact .inr ⟨p,q,rfl⟩
  ln:=Zv6 _ _ _
theorem IsPut.del {l:List (A8×Int)} (h:MapOk l) {x:A8} {c:Int} (hz:(co l x+c) % 10007=0):IsPut l x c (Jo l x) where
  ok:=h.del x
  cf m:=by
    rw [Zv4 h.1]
    by_cases hm:m=x
    · subst hm; rw [if_pos rfl,if_pos rfl]; omega
    · rw [if_neg hm,if_neg (fun e=>hm e.symm)]; simp
  ks p hp:=.inr ⟨p,Zmw hp,rfl⟩
  ln:=by have:=Zv7 l x; omega
theorem Zv8 {l : List (A8 × Int)} (h : MapOk l) {xs : List A8} (hp : xs.Perm (l.map ZD9)) (hw : xs.Pairwise (fun a b => ¬ pcmp b a < 0)) : Canon (xs.map fun x => ⟨x, (Xb l x).getD 0⟩) ∧ ∀ m, coT (xs.map fun x => ⟨x, (Xb l x).getD 0⟩) m = co l m := by
  have hnd:xs.Nodup:=hp.nodup_iff.2 h.1
  have hmem:∀ x,x∈xs→∃ v,(x,v)∈l∧(Xb l x).getD 0=v:=by
    intro x hx
    obtain ⟨p,hpl,rfl⟩:=ZEh.1 (hp.mem_iff.1 hx)
    refine⟨p.2,hpl,?_⟩
    rw [Zcn h.1]
    have h1:=h.1
    clear hp hx h
    induction l with
    | nil=>simp at hpl
    | cons q l ih =>
      simp only [ZD7,ZN4] at h1
      rw [Za9]
      rcases ZC3.1 hpl with rfl | hpl
      · rw [if_pos rfl,Zdc]
        · simp
        · intro t ht e; exact h1.1 (ZEh.2 ⟨t,ht,e⟩)
      · rw [if_neg (fun e=>h1.1 (ZEh.2 ⟨p,hpl,e.symm⟩)),ih hpl h1.2,ZN0]
  refine⟨⟨?_,fun t ht=>?_⟩,fun m=>?_⟩
  · rw [List.pairwise_map]
    have:xs.Pairwise (fun a b=>a≠b):=hnd
    refine(hw.and this).imp fun {a b} hab=>?_
    by_cases q:pcmp a b < 0
    · exact q
    · exact absurd (Zj7 q hab.1) hab.2
  · obtain ⟨x,hx,rfl⟩:=ZEh.1 ht
    obtain ⟨v,hv,he⟩:=hmem x hx
    dsimp only
    rw [he]
    exact h.2 _ hv
  · rw [coT,Zel]
    dsimp only
    rw [Zfp _ hp,Zel]
    refine Zhs fun p hpl=>?_
    obtain ⟨v,hv,he⟩:=hmem p.1 (hp.mem_iff.2 (ZEh.2 ⟨p,hpl,rfl⟩))
    have:v=p.2:=by
      rw [← he,Zcn h.1]
      have h1:=h.1
      clear hp h hmem he hv
      induction l with
      | nil=>simp at hpl
      | cons q l ih =>
        simp only [ZD7,ZN4] at h1
        rw [Za9]
        rcases ZC3.1 hpl with rfl | hpl
        · rw [if_pos rfl,Zdc]
          · simp
          · intro t ht e; exact h1.1 (ZEh.2 ⟨t,ht,e⟩)
        · rw [if_neg (fun e=>h1.1 (ZEh.2 ⟨p,hpl,e.symm⟩)),ih hpl h1.2,ZN0]
    rw [he,this]
def Zen (a:A8):List A8→List A8
  | []=>[a]
  | b::l=>if pcmp a b < 0 then a::b::l else b::Zen a l
theorem Zqb (a:A8) (l:List A8):(Zen a l).Perm (a::l):=by
  induction l with
  | nil=>exact ZOr _
  | cons b l ih =>
    simp only [Zen]
    split
    · exact ZOr _
    · exact(ih.cons b).trans (List.Perm.swap _ _ _)
theorem Zv9 {a b c:A8} (h1:¬ pcmp b a < 0) (h2:¬ pcmp c b < 0):¬ pcmp c a < 0:=fun h=>by
  by_cases q:pcmp a b < 0
  · exact h2 (Zb2 h q)
  · have:=Zj7 q h1
    subst this
    exact h2 h
theorem Zwa {a:A8} {l:List A8} (h:l.Pairwise (fun a b=>¬ pcmp b a < 0)):(Zen a l).Pairwise (fun a b=>¬ pcmp b a < 0):=by
  induction l with
  | nil=>simp [Zen]
  | cons b l ih =>
    simp only [Zen]
    have hb:=ZDt.1 h
    split
    · rename_i q
      refine ZDt.2 ⟨fun x hx=>?_,h⟩
      rcases ZC3.1 hx with rfl | hx
      · exact Zj8 q
      · exact Zv9 (Zj8 q) (hb.1 x hx)
    · rename_i q
      refine ZDt.2 ⟨fun x hx=>?_,ih hb.2⟩
      rcases ZC3.1 ((Zqb a l).mem_iff.1 hx) with rfl | hx
      · exact q
      · exact hb.1 x hx
theorem Zqc:∀ l:List A8,∃ xs:List A8,xs.Perm l∧xs.Pairwise (fun a b=>¬ pcmp b a < 0)
  | []=>⟨[],ZOr _,ZP1⟩
  | a :: l => by
    obtain ⟨xs,h1,h2⟩:=Zqc l
    exact⟨Zen a xs,(Zqb a xs).trans (h1.cons a),Zwa h2⟩
end Vc
namespace Vc
open Go Go.RowKit Go.ChangeShapes Go.WideShapes Go.ChangeAt
theorem Zd0 {α:Type} {t:Ty α} {x:α} {cs:List Value} {fp:List Nat} {w:World} (h:t.rep x cs fp w):t.all [x] cs fp w:=by
  have hl:=t.len h
  refine⟨t.low h,by rw [hl]; simp,t.one h,fun i hi=>?_⟩
  obtain rfl:i=0:=by simpa using hi
  rw [Nat.zero_mul,List.drop_zero,ZD5 (by omega)]
  exact h
section
variable {H:Type} {enc:TypeId×Value→H} {P:Program} {W:World}
end
end Vc
set_option maxRecDepth 4000
set_option maxHeartbeats 4000000
namespace Go.Proofs.YtaagfepgbofmlaaGreat
open Go Go.RowKit Vc
variable {b0 bp0 b1 bp1 b2 bp2 b3 bp3 b4 bp4 b5 bp5 b6 bp6 b7 bp7 mb0:Nat} {u0_0 u0_1 u0_2 u0_3 u0_4 u0_5 u1_0 u1_1 u1_2 u1_3 u1_4 u1_5 u2_0 u2_1 u2_2 u2_3 u2_4 u2_5 u3_0 u3_1 u3_2 u3_3 u3_4 u3_5 u4_0 u4_1 u4_2 u4_3 u4_4 u4_5 u5_0 u5_1 u5_2 u5_3 u5_4 u5_5 u6_0 u6_1 u6_2 u6_3 u6_4 u6_5 u7_0 u7_1 u7_2 u7_3 u7_4 u7_5:Value} {fp0 fp1 fp2 fp3 fp4 fp5 fp6 fp7 fp0_0 fp0_1 fp0_2 fp0_3 fp0_4 fp0_5 fp1_0 fp1_1 fp1_2 fp1_3 fp1_4 fp1_5 F0:List Nat}
theorem sc66:ScaT ZKz 66:=⟨⟨_,Tryz.underlying66,rfl⟩,by kernel_rfl⟩
theorem ag50:AggT ZKz 50 1:=⟨⟨_,ZOl,rfl⟩,by kernel_rfl⟩
theorem sc23:ScaT ZKz 23:=⟨⟨_,ZN3,rfl⟩,by kernel_rfl⟩
theorem Zwb:J4 ZKz 55 (.agg #[.slice none 0 0]) 1 24:=by unfold J4; kernel_rfl
theorem z32:X9 ZKz 32 (.agg #[.slice none 0 0,.slice none 0 0]):=by unfold X9; kernel_rfl
def Zhv (a0:ZKy) (a1:Alg) (K:Bool→Prop):Prop :=
 Zei a0 (fun r11=>Zdz a1 r11 (fun r10=>K (decide ((r10.length:Int) > 0))))
theorem Zwc (a0:ZKy) (a1:Alg)  {K:Bool→Prop} (h:Zhv a0 a1 K) (w0:World) (q0:ZLi.rep a0 [u0_0] fp0 w0) (q1:TAlg.rep a1 [u1_0,u1_1] fp1 w0) (qb1:(blk b1 32 [u1_0,u1_1]).holds w0) :
  Calls ZKz 153 #[.agg #[u0_0],vQ b1] w0 fun e w'=>∃ (r0:Bool),
   e=.returned (.bool r0)∧K r0∧Bel w0 w':=by
 unfold Zhv at h
 refine cof Tryz.func153 rfl 9 Tryz.ntmps153 ?_
 have hC:=ZLh (X:=Nox) w0 [ZKv TForm a0 [u0_0] fp0,ZKv TAlg a1 [u1_0,u1_1] fp1,blk b1 32 [u1_0,u1_1]] (alc q0 (alc q1 (al1 qb1)))
 have hp4:=(hC.getP 0 rfl)
 replace hC:=hC.derive 0 rfl (ZKv ZKx.ty.sl a0.terms [u0_0] fp0) (fun _=>(Xm hp4)) (fun _ hb_=>hb_)
 replace hC:=hC.dAlg 2 rfl
 refine sr (Yi (v:=.agg #[u0_0]) hC [u0_0] rfl rfl fun b8 w10 hB_ hC=>Zd (v:=.bool false) rfl (dn (sr (Yw hC 0 [u0_0] rfl ag55 rfl rfl rfl ?_))))
 refine Zg [.agg #[u0_0]] _ Tryz.func78 rfl rfl rfl (Zmt a0 h _ (Y3 (hC.getP 2 rfl))) (fun ret10 w11 hR10=>?_)
 obtain ⟨r11,b10,rfl,h,hr10,hf10,hB10⟩:=hR10
 refine⟨_,rfl,?_⟩
 replace hC:=hC.push hB10 (mapS b10 r11) hr10 (fun b_ hb_=>by obtain rfl:=ZEf.1 hb_; exact hf10)
 refine Zg [vQ b1,.map (some b10)] _ Tryz.func154 rfl rfl rfl (Zmu a1 r11 h _ (Yp (hC.getP 1 rfl) (hC.getP 0 rfl)) (hC.getP 5 rfl) (hC.getM 0 rfl)) (fun ret11 w12 hR11=>?_)
 obtain ⟨r10,b11,rfl,h,hr11,hf11,hB11⟩:=hR11
 refine⟨_,rfl,?_⟩
 replace hC:=hC.push hB11 (mapS b11 r10) hr11 (fun b_ hb_=>by obtain rfl:=ZEf.1 hb_; exact hf11)
 refine Ztq (hC.getM 0 rfl) ZLu rfl rfl (Jg rfl rfl (Zd (v:=.bool (decide ((r10.length:Int) > 0))) rfl (dn (ZK4 ?_))))
 refine Zi (fn:=Tryz.f153) rfl ?_ ⟨decide ((r10.length:Int) > 0),rfl,h,hC.below⟩ (.inl rfl)
 exact Zf rfl
def Zka (a0:List ZKy) (p1:ZKy→(Bool→Prop)→Prop) (K:Int→Prop):Prop :=
 Yc (fun i10 (s10:Unit) nx10=>p1 (a0.getD i10 ZC7) (fun r10=>(if r10=true then K (i10:Int) else nx10 ()))) (fun (s10:Unit)=>K (-1)) a0.length 0 ()
theorem Zwd (a0:List ZKy) (p1:ZKy→(Bool→Prop)→Prop)  {K:Int→Prop} (h:Zka a0 p1 K) (w0:World) (q0:ZLi.sl.rep a0 [u0_0] fp0 w0) {g1:Nat} {cp1:List Value} {fn1:Func} (hf1:ZKz.funcs[g1]? = some fn1) (hb1:fn1.body.isNone=false) (hn1:(fn1.name == "runtime.NumGoroutine")=false) (hp1:∀ (y0:ZKy) (yu0_0:Value) (yf0:List Nat) (K_:Bool→Prop) (w_:World),Bel w0 w_→ZLi.rep y0 [yu0_0] yf0 w_→p1 y0 K_→Calls ZKz g1 (ZKu ([.agg #[yu0_0]]++cp1)) w_ fun e w'=>∃ (z0:Bool),e=.returned (.bool z0)∧K_ z0∧Bel w_ w') :
  Calls ZKz 155 #[u0_0,.func (.func g1) #[] (ZKu cp1)] w0 fun e w'=>∃ (r0:Int),
   e=.returned (vI r0)∧K r0∧Bel w0 w':=by
 unfold Zka at h
 refine cof Tryz.func155 rfl 19 Tryz.ntmps155 ?_
 have hC:=ZLh (X:=Nox) w0 [ZKv ZLi.sl a0 [u0_0] fp0] (al1 q0)
 refine sr (Zd (v:=vI 0) rfl (dn (ZKw (sr (Za (v:=u0_0) rfl ?_)))))
 obtain ⟨Ad2,c3,hv4⟩:=Zu (hC.getP 0 rfl)
 refine Zt ZLk (tr rfl hv4) (Za (v:=vI 0) rfl (dn (ZK2 ?_)))
 have hN10:a0.length≤9223372036854775807:=Y2 (hC.getP 0 rfl)
 refine Yk (S:=Unit) _ _ (fun i10 s10 e_ w_=>Zv e_ [(0,u0_0),(1,.func (.func g1) #[] (ZKu cp1)),(7,vI (a0.length:Int)),(8,vI (i10:Int))]∧Ctx Nox w0 w_ [] [ZKv ZLi.sl a0 [u0_0] fp0]) a0.length ?_ ?_ (s0:=()) ?_ h
 ·clear hC h
  rintro i10 s10 e_ w10 nx10 K10 hi10 ⟨hS_,hC⟩ h hK10
  rw [ue hS_]
  refine sr (Zp rfl rfl (dn (ZKw (Z6 rfl (decide_eq_true (by omega)) (ZK0 (Ze (ZKw (ZK2 (sr (Za (v:=vI (i10:Int)) rfl (Zd (v:=vI (i10:Int)) rfl ?_)))))))))))
  refine dn (sr (Za (v:=.func (.func g1) #[] (ZKu cp1)) rfl (Za (v:=u0_0) rfl (Za (v:=vI (i10:Int)) rfl ?_))))
  obtain ⟨Ad10,c10,hv10⟩:=Zx (hC.getP 0 rfl) i10 hi10
  refine Yn (len:=a0.length) ZLk ag55.size (tr rfl hv10) rfl (ZLc _) (ZLv.2 hi10) ?_
  obtain ⟨cs_,hl10,hc10,hr10⟩:=Xh (hC.getP 0 rfl) hv10 i10 hi10
  obtain ⟨u10,rfl⟩:=ZLt.1 hl10
  clear hl10
  rw [Xg _ _ hi10] at hr10
  have hp10:=hr10
  replace hC:=hC.derive 0 rfl (ZKv ZKx.ty.sl ((a0.getD i10 ZC7).terms) [u10] fp0) (fun _=>(Xm hp10)) (fun _ hb_=>hb_)
  refine Ji [u10] hc10 ag55 rfl rfl ?_
  refine Zl4 [.agg #[u10]] _ rfl hf1 hb1 hn1 rfl (hp1 _ _ _ _ _ hC.below (Y3 (hC.getP 0 rfl)) h) (fun ret10 w11 hR10=>?_)
  obtain ⟨r10,rfl,h,hB10⟩:=hR10
  refine⟨_,rfl,?_⟩
  replace hC:=hC.grow hB10
  refine dn ?_
  refine Zs rfl (fun hb10=>?_) (fun hb10=>?_)
  ·replace h:=ift h (hb10)
   refine sr (Za (v:=vI (i10:Int)) rfl (Zd (v:=vI (i10:Int)) rfl (dn ?_)))
   refine ZK4 (Z9 (Zn (Zn (Z9 (Zn ?_)))))
   refine Zi (fn:=Tryz.f155) rfl ?_ ⟨(i10:Int),rfl,h,hC.below⟩ (.inl rfl)
   exact Zf rfl
  ·replace h:=Zl h (Y4 hb10)
   refine ZK0 (Zr (Ze (Zh (Zq rfl rfl (Za (v:=vI (ZFm.wrap ((i10:Int)+1))) rfl (done ?_))))))
   exact hK10 () _ _ ⟨(sl ⟨rfl,rfl,rfl,(tr rfl (congrArg _ (Z5 hi10 hN10))),trivial⟩),(hC.sP [1] rfl)⟩ h
 ·clear hC h
  rintro s10 e_ w12 K10 ⟨hS_,hC⟩ h
  rw [ue hS_]
  refine sr (Zp rfl rfl (dn (ZKw (Z2 rfl (decide_eq_false (by omega)) ?_))))
  refine ZLa (Zj (Zj (Z0 ?_)))
  refine Ze (sr (Zd (v:=vI (-1)) rfl (dn (ZK4 ?_))))
  refine Zi (fn:=Tryz.f155) rfl ?_ ⟨(-1),rfl,h,hC.below⟩ (.inl rfl)
  exact Zf rfl
 ·skip
  exact⟨(sl ⟨rfl,rfl,rfl,rfl,trivial⟩),hC⟩
def Zfr (a0:List ZKy) (p1:ZKy→(Bool→Prop)→Prop) (K:Bool→Prop):Prop :=
 Zka a0 p1 (fun r5=>K (decide (r5≥0)))
theorem Zqd (a0:List ZKy) (p1:ZKy→(Bool→Prop)→Prop)  {K:Bool→Prop} (h:Zfr a0 p1 K) (w0:World) (q0:ZLi.sl.rep a0 [u0_0] fp0 w0) {g1:Nat} {cp1:List Value} {fn1:Func} (hf1:ZKz.funcs[g1]? = some fn1) (hb1:fn1.body.isNone=false) (hn1:(fn1.name == "runtime.NumGoroutine")=false) (hp1:∀ (y0:ZKy) (yu0_0:Value) (yf0:List Nat) (K_:Bool→Prop) (w_:World),Bel w0 w_→ZLi.rep y0 [yu0_0] yf0 w_→p1 y0 K_→Calls ZKz g1 (ZKu ([.agg #[yu0_0]]++cp1)) w_ fun e w'=>∃ (z0:Bool),e=.returned (.bool z0)∧K_ z0∧Bel w_ w') :
  Calls ZKz 97 #[u0_0,.func (.func g1) #[] (ZKu cp1)] w0 fun e w'=>∃ (r0:Bool),
   e=.returned (.bool r0)∧K r0∧Bel w0 w':=by
 unfold Zfr at h
 refine cof Tryz.func97 rfl 9 Tryz.ntmps97 ?_
 have hC:=ZLh (X:=Nox) w0 [ZKv ZLi.sl a0 [u0_0] fp0] (al1 q0)
 refine sr (Zd (v:=.bool false) rfl (dn (sr (Za (v:=u0_0) rfl (Za (v:=.func (.func g1) #[] (ZKu cp1)) rfl ?_)))))
 refine Zg [u0_0,.func (.func g1) #[] (ZKu cp1)] _ Tryz.func155 rfl rfl rfl (Zwd a0 p1 h _ (hC.getP 0 rfl) hf1 hb1 hn1 (fun x0_ x1_ x2_ K_ w_ hb_=>hp1 x0_ x1_ x2_ K_ w_ (Zl7 hC.below hb_))) (fun Y7 w4 hR3=>?_)
 obtain ⟨r5,rfl,h,hB6⟩:=hR3
 refine⟨_,rfl,?_⟩
 replace hC:=hC.grow hB6
 refine J7 rfl rfl (Zd (v:=.bool (decide (r5≥0))) rfl (dn (ZK4 ?_)))
 refine Zi (fn:=Tryz.f97) rfl ?_ ⟨decide (r5≥0),rfl,h,hC.below⟩ (.inl rfl)
 exact Zf rfl
def Zhw (a0:Alg) (K:Bool→Prop):Prop :=
 Zg7 a0.degrees (fun r11=>(if¬ (r11=true) then K false else(if(a0.images.length:Int)≠(a0.degrees.length:Int) then K false else Yc (fun i10 (s10:Unit) nx10=>Zfo a0.degrees (a0.images.getD i10 ZC7) (fun r10=>(if¬ (r10=true) then K false else((0≤(i10:Int)∧(i10:Int) < (a0.degrees.length:Int))∧Zhb a0.degrees (a0.images.getD i10 ZC7) (ZFm.wrap ((a0.degrees.getD i10 ZC7)+1)) (fun r13=>(if¬ (r13=true) then K false else nx10 ())))))) (fun (s10:Unit)=>Zfr a0.images (fun y0_ K_=>Zhv y0_ a0 K_) (fun r12=>K (!r12))) a0.images.length 0 ())))
theorem Zwe (a0:Alg)  {K:Bool→Prop} (h:Zhw a0 K) (w0:World) (q0:TAlg.rep a0 [u0_0,u0_1] fp0 w0) :
  Calls ZKz 96 #[.agg #[u0_0,u0_1]] w0 fun e w'=>∃ (r0:Bool),
   e=.returned (.bool r0)∧K r0∧Bel w0 w':=by
 unfold Zhw at h
 refine cof Tryz.func96 rfl 50 Tryz.ntmps96 ?_
 have hC:=ZLh (X:=Nox) w0 [ZKv TAlg a0 [u0_0,u0_1] fp0] (al1 q0)
 replace hC:=hC.dAlg 0 rfl
 refine sr (Yi (v:=.agg #[u0_0,u0_1]) hC [u0_0,u0_1] rfl rfl fun b4 w6 hB_ hC=>Zd (v:=.bool false) rfl (dn (ZKw (sr (Z1 0 ZLg rfl sc22.size rfl rfl (Yb hC 0 (u0_0) rfl sc22 rfl rfl ?_))))))
 refine Zg [u0_0] _ Tryz.func151 rfl rfl rfl (Zu3 a0.degrees h _ (hC.getP 1 rfl)) (fun ret7 w9 hR8=>?_)
 obtain ⟨r11,rfl,h,hB10⟩:=hR8
 refine⟨_,rfl,?_⟩
 replace hC:=hC.grow hB10
 refine Xe rfl (Za (v:=.bool (!r11)) rfl ?_)
 refine Y8 (!r11) (fun hb11=>?_) (fun hb11=>?_)
 ·replace h:=ift h (Y4 (Xj hb11))
  refine Zk (b:=true) 4 9 rfl (tr rfl (congrArg _ hb11)) (by decide) (Zk (b:=true) 4 9 rfl (tr rfl (congrArg _ hb11)) (by decide) (Zk (b:=true) 4 9 rfl (tr rfl (congrArg _ hb11)) (by decide) (Zk (b:=true) 4 9 rfl (tr rfl (congrArg _ hb11)) (by decide) (Zk (b:=true) 4 9 rfl (tr rfl (congrArg _ hb11)) (by decide) (Zk (b:=true) 4 9 rfl (tr rfl (congrArg _ hb11)) (by decide) (Zk (b:=true) 4 9 rfl (tr rfl (congrArg _ hb11)) (by decide) (Z3 (v:=.bool true) (b:=true) (tr rfl (congrArg _ hb11)) rfl (dn (Z6 rfl rfl (sr (Zd (v:=.bool false) rfl ?_)))))))))))
  refine dn ?_
  refine ZK4 (Zn ?_)
  refine Zi (fn:=ZOc) rfl ?_ ⟨false,rfl,h,hC.below⟩ (.inl rfl)
  exact Zf rfl
 ·replace h:=Zl h (not_not_intro ((Xk hb11)))
  refine Zm 4 9 rfl rfl hb11 (Z1 1 ZLg rfl sc30.size rfl rfl (Zm 4 9 rfl rfl hb11 (Yb hC 0 (u0_1) rfl sc30 rfl rfl (Zm 4 9 rfl rfl hb11 ?_))))
  obtain ⟨Ad11,c10,hv12⟩:=Zu (hC.getP 0 rfl)
  refine Zt ZLk (tr rfl hv12) (Zm 4 9 rfl rfl hb11 (Z1 0 ZLg rfl sc22.size rfl rfl (Zm 4 9 rfl rfl hb11 (Yb hC 0 (u0_0) rfl sc22 rfl rfl (Zm 4 9 rfl rfl hb11 ?_)))))
  obtain ⟨Ad12,c11,hv13⟩:=Zu (hC.getP 1 rfl)
  refine Zt ZLf (tr rfl hv13) (Zm 4 9 rfl rfl hb11 (Y5 rfl rfl (Z3 (v:=.bool (decide ((a0.images.length:Int)≠(a0.degrees.length:Int)))) (b:=false) (tr rfl (congrArg _ hb11)) rfl (dn ?_))))
  refine Zs rfl (fun hb12=>?_) (fun hb12=>?_)
  ·replace h:=ift h (ct hb12)
   refine sr (Zd (v:=.bool false) rfl (dn ?_))
   refine ZK4 (Zn ?_)
   refine Zi (fn:=ZOc) rfl ?_ ⟨false,rfl,h,hC.below⟩ (.inl rfl)
   exact Zf rfl
  ·replace h:=Zl h (cf hb12)
   refine ZK0 (Ze (ZKw (sr (Z1 1 ZLg rfl sc30.size rfl rfl (Yb hC 0 (u0_1) rfl sc30 rfl rfl ?_)))))
   obtain ⟨Ad13,c12,hv14⟩:=Zu (hC.getP 0 rfl)
   refine Zt ZLk (tr rfl hv14) (Za (v:=vI 0) rfl (dn (ZK2 ?_)))
   have hN10:a0.images.length≤9223372036854775807:=Y2 (hC.getP 0 rfl)
   refine Yk (S:=Unit) _ _ (fun i10 s10 e_ w_=>Zv e_ [(1,vQ b4),(19,u0_1),(20,vI (a0.images.length:Int)),(21,vI (i10:Int))]∧Ctx Nox w0 w_ [blk b4 32 [u0_0,u0_1]] [ZKv ZLi.sl a0.images [u0_1] fp0,ZKv TInts a0.degrees [u0_0] fp0,ZKv TAlg a0 [u0_0,u0_1] fp0]) a0.images.length ?_ ?_ (s0:=()) ?_ h
   ·clear hC h
    rintro i10 s10 e_ w10 nx10 K10 hi10 ⟨hS_,hC⟩ h hK10
    rw [ue hS_]
    refine sr (Zp rfl rfl (dn (ZKw (Z6 rfl (decide_eq_true (by omega)) (ZK0 (Ze (ZKw (ZK2 (sr (Za (v:=vI (i10:Int)) rfl ?_))))))))))
    obtain ⟨Ad14,c13,hv10⟩:=Zx (hC.getP 0 rfl) i10 hi10
    refine Yn (len:=a0.images.length) ZLk ag55.size (tr rfl hv10) rfl (ZLc _) (ZLv.2 hi10) ?_
    obtain ⟨cs_,hl10,hc10,hr10⟩:=Xh (hC.getP 0 rfl) hv10 i10 hi10
    obtain ⟨u10,rfl⟩:=ZLt.1 hl10
    clear hl10
    rw [Xg _ _ hi10] at hr10
    have hp10:=hr10
    replace hC:=hC.derive 0 rfl (ZKv ZKx.ty.sl ((a0.images.getD i10 ZC7).terms) [u10] fp0) (fun _=>(Xm hp10)) (fun _ hb_=>hb_)
    refine Ji [u10] hc10 ag55 rfl rfl (Ys hC [.slice none 0 0] z55 rfl fun b10 w11 hB_ hC=>Zd (v:=vI (i10:Int)) rfl (Z4 (v:=.agg #[u10]) hC 0 [u10] [u10] rfl ag55.size rfl rfl rfl rfl (Xr (Zdq (hC.getP 0 rfl)) rfl) (ZK5 rfl) rfl fun w12 hC=>dn (ZKw ?_)))
    refine Yq 15 Yl [0,1,0,7,15,31,63,127,63,63,575,63,3647,7743,15935,32767,65535,131071] [1,2,7,8,10,12,13] [0,4,5,6,7,8,9,10,11,12,13,14] (by kernel_rfl) (by kernel_rfl) (by kernel_rfl) (fun hM11 hM10 w13 hB_=>?_)
    replace hC:=hC.grow hB_
    refine bF 0 (vQ b4) rfl rfl hM10 (fun _=>by exact Yr 0 ZLg rfl sc22.size rfl rfl) (Zc 18 1) (bL 1 (u0_0) rfl rfl hM11 (fun _ hB_=>by exact Yg (hC.grow hB_) 1 (u0_0) rfl sc22 rfl rfl) (Zc 18 3) (bL 2 (.agg #[u10]) rfl rfl hM11 (fun _ hB_=>by exact Xc (hC.grow hB_) 0 [u10] rfl ag55 rfl rfl rfl) (Zc 18 7) (aO 3 rfl ?_)))
    refine Zg [u0_0,.agg #[u10]] _ Tryz.func99 rfl rfl rfl (Zp2 a0.degrees (a0.images.getD i10 ZC7) h _ (hC.getP 2 rfl) (Y3 (hC.getP 0 rfl))) (fun ret10 w14 hR10=>?_)
    obtain ⟨r10,rfl,h,hB11⟩:=hR10
    refine⟨_,rfl,?_⟩
    replace hC:=hC.grow hB11
    refine done (aK (by assumption) (Zc 18 15) (bF 4 (.bool (!r10)) rfl rfl hM10 (fun _=>by exact Zlw rfl) (Zc 18 31) (bM 5 (.bool (!r10)) rfl hM10 (Zc 18 63) ?_)))
    refine Y8 (!r10) (fun hb10=>?_) (fun hb10=>?_)
    ·replace h:=ift h (Y4 (Xj hb10))
     refine Zw Zz 6 undef rfl rfl (by kernel_rfl) (hM10 6 rfl) (fun w_=>.inr ⟨Yf (b:=true) 5 31 rfl (tr rfl (congrArg _ hb10)) (by decide),rfl⟩) (l9:=(Zc 18 127)) (by kernel_rfl) (Zw Zz 7 undef rfl rfl (by kernel_rfl) (hM10 7 rfl) (fun w_=>.inr ⟨Yf (b:=true) 5 31 rfl (tr rfl (congrArg _ hb10)) (by decide),rfl⟩) (l9:=(Zc 18 255)) (by kernel_rfl) (Zw Zz 8 undef rfl rfl (by kernel_rfl) (hM10 8 rfl) (fun w_=>.inr ⟨Yf (b:=true) 5 31 rfl (tr rfl (congrArg _ hb10)) (by decide),rfl⟩) (l9:=(Zc 18 511)) (by kernel_rfl) (Zw Zz 9 undef rfl rfl (by kernel_rfl) (hM10 9 rfl) (fun w_=>.inr ⟨Yf (b:=true) 5 31 rfl (tr rfl (congrArg _ hb10)) (by decide),rfl⟩) (l9:=(Zc 18 1023)) (by kernel_rfl) (Zw Zz 10 undef rfl rfl (by kernel_rfl) (hM10 10 rfl) (fun w_=>.inr ⟨Yf (b:=true) 5 31 rfl (tr rfl (congrArg _ hb10)) (by decide),rfl⟩) (l9:=(Zc 18 2047)) (by kernel_rfl) (Zw Zz 11 undef rfl rfl (by kernel_rfl) (hM10 11 rfl) (fun w_=>.inr ⟨Yf (b:=true) 5 31 rfl (tr rfl (congrArg _ hb10)) (by decide),rfl⟩) (l9:=(Zc 18 4095)) (by kernel_rfl) (Zw Zz 12 undef rfl rfl (by kernel_rfl) (hM10 12 rfl) (fun w_=>.inr ⟨Yf (b:=true) 5 31 rfl (tr rfl (congrArg _ hb10)) (by decide),rfl⟩) (l9:=(Zc 18 8191)) (by kernel_rfl) (Zw Zz 13 undef rfl rfl (by kernel_rfl) (hM10 13 rfl) (fun w_=>.inr ⟨Yf (b:=true) 5 31 rfl (tr rfl (congrArg _ hb10)) (by decide),rfl⟩) (l9:=(Zc 18 16383)) (by kernel_rfl) ?_)))))))
     refine Zw Zz 14 undef rfl rfl (by kernel_rfl) (hM10 14 rfl) (fun w_=>.inr ⟨Yf (b:=true) 5 31 rfl (tr rfl (congrArg _ hb10)) (by decide),rfl⟩) (l9:=(Zc 18 32767)) (by kernel_rfl) (Z7 15 (by decide) (by decide) (by kernel_rfl) (by kernel_rfl) rfl (Zk (b:=true) 5 31 rfl (tr rfl (congrArg _ hb10)) (by decide) (Zk (b:=true) 5 31 rfl (tr rfl (congrArg _ hb10)) (by decide) (Z3 (v:=.bool true) (b:=true) (tr rfl (congrArg _ hb10)) rfl (done (Z8 (Ze (Z6 rfl rfl (sr (Zd (v:=.bool false) rfl (dn ?_)))))))))))
     refine ZK4 (Z9 (Zn (Zn (Z9 (Zn ?_)))))
     refine Zi (fn:=ZOc) rfl ?_ ⟨false,rfl,h,hC.below⟩ (.inl rfl)
     exact Zf rfl
    ·replace h:=Zl h (not_not_intro ((Xk hb10)))
     refine aF 6 (vQ b4) rfl rfl (hM10 6 rfl) (Yj 5 31 rfl rfl hb10) (fun _=>by exact Yr 0 ZLg rfl sc22.size rfl rfl) (Zc 18 127) (aL 7 (u0_0) rfl rfl (hM11 7 rfl) (Yj 5 31 rfl rfl hb10) (fun _ hB_=>by exact Yg (hC.grow hB_) 1 (u0_0) rfl sc22 rfl rfl) (Zc 18 255) (aL 8 (.agg #[u10]) rfl rfl (hM11 8 rfl) (Yj 5 31 rfl rfl hb10) (fun _ hB_=>by exact Xc (hC.grow hB_) 0 [u10] rfl ag55 rfl rfl rfl) (Zc 18 511) (aF 9 (vQ b4) rfl rfl (hM10 9 rfl) (Yj 5 31 rfl rfl hb10) (fun _=>by exact Yr 0 ZLg rfl sc22.size rfl rfl) (Zc 18 1023) (aL 10 (u0_0) rfl rfl (hM11 10 rfl) (Yj 5 31 rfl rfl hb10) (fun _ hB_=>by exact Yg (hC.grow hB_) 1 (u0_0) rfl sc22 rfl rfl) (Zc 18 2047) (aF 11 (vI (i10:Int)) rfl rfl (hM10 11 rfl) (Yj 5 31 rfl rfl hb10) (fun _=>by exact Za0 (v:=vI (i10:Int)) rfl) (Zc 18 4095) ?_)))))
     obtain ⟨⟨h10,h11⟩,h⟩:=h
     obtain ⟨Ad10,c14,hv11⟩:=Zx (hC.getP 2 rfl) i10 (show i10 < a0.degrees.length by omega)
     refine aL 12 (.pointer (some (Ad10.add (i10 * 1)))) rfl rfl (hM11 12 rfl) (Yj 5 31 rfl rfl hb10) (fun _ hB_=>by exact Y1 (len:=a0.degrees.length) ZLf sc2.size (by exact tr rfl hv11) rfl h10 h11) (Zc 18 8191) (aL 13 (vI (a0.degrees.getD i10 ZC7)) rfl rfl (hM11 13 rfl) (Yj 5 31 rfl rfl hb10) (fun _ hB_=>by exact Xp (vI (a0.degrees.getD i10 ZC7)) (Ye ((hC.grow hB_).getP 2 rfl) hv11 i10 (show i10 < a0.degrees.length by omega)) sc2 rfl) (Zc 18 16383) (aF 14 (vI (ZFm.wrap ((a0.degrees.getD i10 ZC7)+1))) rfl rfl (hM10 14 rfl) (Yj 5 31 rfl rfl hb10) (fun _=>by exact Zbx rfl rfl) (Zc 18 32767) (Z7 15 (by decide) (by decide) (by kernel_rfl) (by kernel_rfl) rfl (Zm 5 31 rfl rfl hb10 ?_))))
     refine Zg [u0_0,.agg #[u10],vI (ZFm.wrap ((a0.degrees.getD i10 ZC7)+1))] _ Tryz.func152 rfl rfl rfl (Zu8 a0.degrees (a0.images.getD i10 ZC7) (ZFm.wrap ((a0.degrees.getD i10 ZC7)+1)) h _ (hC.getP 2 rfl) (Y3 (hC.getP 0 rfl))) (fun ret11 w15 hR11=>?_)
     obtain ⟨r13,rfl,h,hB12⟩:=hR11
     refine⟨_,rfl,?_⟩
     replace hC:=hC.grow hB12
     refine Zm 5 31 rfl rfl hb10 (Xe rfl (Z3 (v:=.bool (!r13)) (b:=false) (tr rfl (congrArg _ hb10)) rfl (done (Z8 (Ze ?_)))))
     refine Zs rfl (fun hb13=>?_) (fun hb13=>?_)
     ·replace h:=ift h (Y4 (Xj hb13))
      refine sr (Zd (v:=.bool false) rfl (dn ?_))
      refine ZK4 (Z9 (Zn (Zn (Z9 (Zn ?_)))))
      refine Zi (fn:=ZOc) rfl ?_ ⟨false,rfl,h,hC.below⟩ (.inl rfl)
      exact Zf rfl
     ·replace h:=Zl h (not_not_intro ((Xk hb13)))
      refine ZK0 (Zr (Ze (Zh (Zq rfl rfl (Za (v:=vI (ZFm.wrap ((i10:Int)+1))) rfl (done ?_))))))
      exact hK10 () _ _ ⟨(sl ⟨rfl,rfl,rfl,(tr rfl (congrArg _ (Z5 hi10 hN10))),trivial⟩),((hC.xM [1] rfl).sP [1,2,3] rfl)⟩ h
   ·clear hC h
    rintro s10 e_ w16 K10 ⟨hS_,hC⟩ h
    rw [ue hS_]
    refine sr (Zp rfl rfl (dn (ZKw (Z2 rfl (decide_eq_false (by omega)) ?_))))
    refine ZLa (Zj (Zj (Z0 ?_)))
    refine Ze (sr (Z1 1 ZLg rfl sc30.size rfl rfl (Yb hC 0 (u0_1) rfl sc30 rfl rfl (Zl6 (g:=153) [vQ b4] (Zl5 rfl rfl) ?_))))
    refine Zg [u0_1,.func (.func 153) #[] (ZKu [vQ b4])] _ Tryz.func97 rfl rfl rfl (Zqd a0.images (fun y0_ K_=>Zhv y0_ a0 K_) h _ (hC.getP 0 rfl) Tryz.func153 rfl rfl (fun y0_ yu0_0_ yf0_ K_ w_ hb_ rq0_ hq_=>Zwc y0_ a0 hq_ w_ rq0_ (Yp ((hC.grow hb_).getP 1 rfl) ((hC.grow hb_).getP 0 rfl)) ((hC.grow hb_).getM 0 rfl))) (fun ret12 w17 hR12=>?_)
    obtain ⟨r12,rfl,h,hB13⟩:=hR12
    refine⟨_,rfl,?_⟩
    replace hC:=hC.grow hB13
    refine Xe rfl (Zd (v:=.bool (!r12)) rfl (dn (ZK4 ?_)))
    refine Zi (fn:=ZOc) rfl ?_ ⟨!r12,rfl,h,hC.below⟩ (.inl rfl)
    exact Zf rfl
   ·skip
    exact⟨(sl ⟨rfl,rfl,rfl,rfl,trivial⟩),hC⟩
def Zkb (a0:ZKy) (a1:Alg) (K:Bool→Prop):Prop :=
 Zfo a1.degrees a0 (fun r10=>K (!r10))
theorem Zwf (a0:ZKy) (a1:Alg)  {K:Bool→Prop} (h:Zkb a0 a1 K) (w0:World) (q0:ZLi.rep a0 [u0_0] fp0 w0) (q1:TAlg.rep a1 [u1_0,u1_1] fp1 w0) (qb1:(blk b1 32 [u1_0,u1_1]).holds w0) (qbp1:(blk bp1 66 [vQ b1]).holds w0) :
  Calls ZKz 98 #[.agg #[u0_0],vQ bp1] w0 fun e w'=>∃ (r0:Bool),
   e=.returned (.bool r0)∧K r0∧Bel w0 w':=by
 unfold Zkb at h
 refine cof Tryz.func98 rfl 11 Tryz.ntmps98 ?_
 have hC:=ZLh (X:=Nox) w0 [ZKv TForm a0 [u0_0] fp0,ZKv TAlg a1 [u1_0,u1_1] fp1,blk b1 32 [u1_0,u1_1],blk bp1 66 [vQ b1]] (alc q0 (alc q1 (alc qb1 (al1 qbp1))))
 have hp5:=(hC.getP 0 rfl)
 replace hC:=hC.derive 0 rfl (ZKv ZKx.ty.sl a0.terms [u0_0] fp0) (fun _=>(Xm hp5)) (fun _ hb_=>hb_)
 replace hC:=hC.dAlg 2 rfl
 refine sr (Yi (v:=.agg #[u0_0]) hC [u0_0] rfl rfl fun b9 w10 hB_ hC=>Zd (v:=.bool false) rfl (dn (ZKw ?_)))
 refine Yq 5 Yl [0,1,3,7,0,31,63,127] [0,3,4] [1,2] (by kernel_rfl) (by kernel_rfl) (by kernel_rfl) (fun hM10 hM11 w11 hB_=>?_)
 replace hC:=hC.grow hB_
 refine bL 0 (vQ b1) rfl rfl hM10 (fun _ hB_=>by exact Zc3 (vQ b1) ((hC.grow hB_).getP 6 rfl) sc66 rfl rfl) (Zc 8 1) (bF 1 (vQ b1) rfl rfl hM11 (fun _=>by exact Zau rfl) (Zc 8 3) (bF 2 (vQ b1) rfl rfl hM11 (fun _=>by exact Yr 0 ZLg rfl sc22.size rfl rfl) (Zc 8 7) (bL 3 (u1_0) rfl rfl hM10 (fun _ hB_=>by exact Zc3 (u1_0) ((hC.grow hB_).getP 5 rfl) sc22 rfl rfl) (Zc 8 15) (bL 4 (.agg #[u0_0]) rfl rfl hM10 (fun _ hB_=>by exact Xc (hC.grow hB_) 0 [u0_0] rfl ag55 rfl rfl rfl) (Zc 8 31) (Z7 5 (by decide) (by decide) (by kernel_rfl) (by kernel_rfl) rfl ?_)))))
 refine Zg [u1_0,.agg #[u0_0]] _ Tryz.func99 rfl rfl rfl (Zp2 a1.degrees a0 h _ (hC.getP 1 rfl) (Y3 (hC.getP 2 rfl))) (fun ret10 w12 hR10=>?_)
 obtain ⟨r10,rfl,h,hB10⟩:=hR10
 refine⟨_,rfl,?_⟩
 replace hC:=hC.grow hB10
 refine Xe rfl (Zd (v:=.bool (!r10)) rfl (done (Z8 (Ze (ZK4 ?_)))))
 refine Zi (fn:=Tryz.f98) rfl ?_ ⟨!r10,rfl,h,hC.below⟩ (.inl rfl)
 exact Zf rfl
def Zhx (a0:Alg) (a1:List ZKy) (K:Int→Prop):Prop :=
 Zhw a0 (fun r11=>(if¬ (r11=true) then Zda true 1 (fun r12=>K r12) else Zfr a1 (fun y0_ K_=>Zkb y0_ a0 K_) (fun r10=>Zda r10 1 (fun r13=>K r13))))
theorem Zwg (a0:Alg) (a1:List ZKy)  {K:Int→Prop} (h:Zhx a0 a1 K) (w0:World) (q0:TAlg.rep a0 [u0_0,u0_1] fp0 w0) (qb0:(blk b0 32 [u0_0,u0_1]).holds w0) (q1:ZLi.sl.rep a1 [u1_0] fp1 w0) :
  Calls ZKz 44 #[vQ b0,u1_0] w0 fun e w'=>∃ (r0:Int),
   e=.returned (vI r0)∧K r0∧Bel w0 w':=by
 unfold Zhx at h
 refine cof Tryz.func44 rfl 18 Tryz.ntmps44 ?_
 have hC:=ZLh (X:=Nox) w0 [ZKv TAlg a0 [u0_0,u0_1] fp0,ZKv ZLi.sl a1 [u1_0] fp1,blk b0 32 [u0_0,u0_1]] (alc q0 (alc q1 (al1 qb0)))
 replace hC:=hC.dAlg 0 rfl
 refine sr (Yi (v:=vQ b0) hC [vQ b0] rfl rfl fun b6 w8 hB_ hC=>Zd (v:=vI 0) rfl (dn (sr (Yb hC 0 (vQ b0) rfl sc66 rfl rfl (Xl rfl (Zti [u0_0,u0_1] (hC.getP 4 rfl) ag32 rfl rfl rfl ?_))))))
 refine Zg [.agg #[u0_0,u0_1]] _ Tryz.func96 rfl rfl rfl (Zwe a0 h _ (Yp (hC.getP 1 rfl) (hC.getP 0 rfl))) (fun ret9 w10 hR10=>?_)
 obtain ⟨r11,rfl,h,hB10⟩:=hR10
 refine⟨_,rfl,?_⟩
 replace hC:=hC.grow hB10
 refine Xe rfl (Za (v:=.bool (!r11)) rfl ?_)
 refine Y8 (!r11) (fun hb10=>?_) (fun hb10=>?_)
 ·replace h:=ift h (Y4 (Xj hb10))
  refine Zk (b:=true) 5 11 rfl (tr rfl (congrArg _ hb10)) (by decide) (Zk (b:=true) 5 11 rfl (tr rfl (congrArg _ hb10)) (by decide) (Zk (b:=true) 5 11 rfl (tr rfl (congrArg _ hb10)) (by decide) (Z3 (v:=.bool true) (b:=true) (tr rfl (congrArg _ hb10)) rfl (Zd (v:=.bool true) rfl (dn (sr (Za (v:=.bool true) rfl ?_)))))))
  refine Zg [.bool true,vI 1] _ Tryz.func45 rfl rfl rfl (Zhm true 1 h _) (fun ret10 w11 hR11=>?_)
  obtain ⟨r12,rfl,h,hB11⟩:=hR11
  refine⟨_,rfl,?_⟩
  replace hC:=hC.grow hB11
  refine Zd (v:=vI r12) rfl (dn (ZK4 ?_))
  refine Zi (fn:=Tryz.f44) rfl ?_ ⟨r12,rfl,h,hC.below⟩ (.inl rfl)
  exact Zf rfl
 ·replace h:=Zl h (not_not_intro ((Xk hb10)))
  refine Zm 5 11 rfl rfl hb10 (Za (v:=u1_0) rfl (Zm 5 11 rfl rfl hb10 (Zl6 (g:=98) [vQ b6] (Zl5 rfl rfl) (Zm 5 11 rfl rfl hb10 ?_))))
  refine Zg [u1_0,.func (.func 98) #[] (ZKu [vQ b6])] _ Tryz.func97 rfl rfl rfl (Zqd a1 (fun y0_ K_=>Zkb y0_ a0 K_) h _ (hC.getP 3 rfl) Tryz.func98 rfl rfl (fun y0_ yu0_0_ yf0_ K_ w_ hb_ rq0_ hq_=>Zwf y0_ a0 hq_ w_ rq0_ (Yp ((hC.grow hb_).getP 1 rfl) ((hC.grow hb_).getP 0 rfl)) ((hC.grow hb_).getP 4 rfl) ((hC.grow hb_).getM 0 rfl))) (fun ret11 w12 hR12=>?_)
  obtain ⟨r10,rfl,h,hB12⟩:=hR12
  refine⟨_,rfl,?_⟩
  replace hC:=hC.grow hB12
  refine Z3 (v:=.bool r10) (b:=false) (tr rfl (congrArg _ hb10)) rfl (Zd (v:=.bool r10) rfl (dn (sr (Za (v:=.bool r10) rfl ?_))))
  refine Zg [.bool r10,vI 1] _ Tryz.func45 rfl rfl rfl (Zhm r10 1 h _) (fun ret12 w13 hR13=>?_)
  obtain ⟨r13,rfl,h,hB13⟩:=hR13
  refine⟨_,rfl,?_⟩
  replace hC:=hC.grow hB13
  refine Zd (v:=vI r13) rfl (dn (ZK4 ?_))
  refine Zi (fn:=Tryz.f44) rfl ?_ ⟨r13,rfl,h,hC.below⟩ (.inl rfl)
  exact Zf rfl
def Zkc (a0:List Term) (a1:Int) (K:Int→Prop):Prop :=
 (if ZFm.wrap (a1 - (a0.length:Int)) < 0 then K (-1) else K (ZFm.wrap (a1 - (a0.length:Int))))
theorem Zwh (a0:List Term) (a1:Int)  {K:Int→Prop} (h:Zkc a0 a1 K) (w0:World) (q0:ZKx.ty.sl.rep a0 [u0_0] fp0 w0) :
  Calls ZKz 67 #[u0_0,vI a1] w0 fun e w'=>∃ (r0:Int),
   e=.returned (vI r0)∧K r0∧Bel w0 w':=by
 unfold Zkc at h
 refine cof Tryz.func67 rfl 12 Tryz.ntmps67 ?_
 have hC:=ZLh (X:=Nox) w0 [ZKv ZKx.ty.sl a0 [u0_0] fp0] (al1 q0)
 refine sr (Zd (v:=vI 0) rfl (dn (sr (Za (v:=vI a1) rfl (Za (v:=u0_0) rfl ?_)))))
 obtain ⟨Ad2,c3,hv4⟩:=Zu (hC.getP 0 rfl)
 refine Zt ZN8 (tr rfl hv4) (X0 rfl rfl (Zd (v:=vI (ZFm.wrap (a1 - (a0.length:Int)))) rfl (dn (ZKw (sr (Za (v:=vI (ZFm.wrap (a1 - (a0.length:Int)))) rfl (Zp rfl rfl (dn ?_))))))))
 refine Zs rfl (fun hb5=>?_) (fun hb5=>?_)
 ·replace h:=ift h (ct hb5)
  refine sr (Zd (v:=vI (-1)) rfl (dn ?_))
  refine ZK4 (Zn ?_)
  refine Zi (fn:=Tryz.f67) rfl ?_ ⟨(-1),rfl,h,hC.below⟩ (.inl rfl)
  exact Zf rfl
 ·replace h:=Zl h (cf hb5)
  refine ZK0 (Ze (sr (Za (v:=vI (ZFm.wrap (a1 - (a0.length:Int)))) rfl (Zd (v:=vI (ZFm.wrap (a1 - (a0.length:Int)))) rfl (dn (ZK4 ?_))))))
  refine Zi (fn:=Tryz.f67) rfl ?_ ⟨ZFm.wrap (a1 - (a0.length:Int)),rfl,h,hC.below⟩ (.inl rfl)
  exact Zf rfl
def Zfs (a0:ZKy) (a1:Int) (K:Int→Prop):Prop :=
 Zkc a0.terms a1 (fun r10=>(if r10 < 0 then K (-1) else K r10))
theorem Zwi (a0:ZKy) (a1:Int)  {K:Int→Prop} (h:Zfs a0 a1 K) (w0:World) (q0:ZLi.rep a0 [u0_0] fp0 w0) :
  Calls ZKz 28 #[.agg #[u0_0],vI a1] w0 fun e w'=>∃ (r0:Int),
   e=.returned (vI r0)∧K r0∧Bel w0 w':=by
 unfold Zfs at h
 refine cof Tryz.func28 rfl 12 Tryz.ntmps28 ?_
 have hC:=ZLh (X:=Nox) w0 [ZKv TForm a0 [u0_0] fp0] (al1 q0)
 have hp2:=(hC.getP 0 rfl)
 replace hC:=hC.derive 0 rfl (ZKv ZKx.ty.sl a0.terms [u0_0] fp0) (fun _=>(Xm hp2)) (fun _ hb_=>hb_)
 refine sr (Yi (v:=.agg #[u0_0]) hC [u0_0] rfl rfl fun b4 w6 hB_ hC=>Zd (v:=vI 0) rfl (dn (sr (Z1 0 ZOl rfl sc48.size rfl rfl (Yb hC 0 (u0_0) rfl sc48 rfl rfl (Za (v:=vI a1) rfl ?_))))))
 refine Zg [u0_0,vI a1] _ Tryz.func67 rfl rfl rfl (Zwh a0.terms a1 h _ (hC.getP 0 rfl)) (fun ret7 w9 hR8=>?_)
 obtain ⟨r10,rfl,h,hB10⟩:=hR8
 refine⟨_,rfl,?_⟩
 replace hC:=hC.grow hB10
 refine Zd (v:=vI r10) rfl (dn (ZKw (sr (Za (v:=vI r10) rfl (Zp rfl rfl (dn ?_))))))
 refine Zs rfl (fun hb10=>?_) (fun hb10=>?_)
 ·replace h:=ift h (ct hb10)
  refine sr (Zd (v:=vI (-1)) rfl (dn ?_))
  refine ZK4 (Zn ?_)
  refine Zi (fn:=Tryz.f28) rfl ?_ ⟨(-1),rfl,h,hC.below⟩ (.inl rfl)
  exact Zf rfl
 ·replace h:=Zl h (cf hb10)
  refine ZK0 (Ze (sr (Za (v:=vI r10) rfl (Zd (v:=vI r10) rfl (dn (ZK4 ?_))))))
  refine Zi (fn:=Tryz.f28) rfl ?_ ⟨r10,rfl,h,hC.below⟩ (.inl rfl)
  exact Zf rfl
def Zhy (a0:List ZKy) (a1:Int) (K:Int→Prop):Prop :=
 (if ZFm.wrap (a1 - (a0.length:Int)) < 0 then K (-1) else Yc (fun i10 (s10:Int) nx10=>Zfs (a0.getD i10 ZC7) s10 (fun r10=>(if r10 < 0 then K (-1) else nx10 r10))) (fun (s10:Int)=>K s10) a0.length 0 (ZFm.wrap (a1 - (a0.length:Int))))
theorem Zwj (a0:List ZKy) (a1:Int)  {K:Int→Prop} (h:Zhy a0 a1 K) (w0:World) (q0:ZLi.sl.rep a0 [u0_0] fp0 w0) :
  Calls ZKz 38 #[u0_0,vI a1] w0 fun e w'=>∃ (r0:Int),
   e=.returned (vI r0)∧K r0∧Bel w0 w':=by
 unfold Zhy at h
 refine cof Tryz.func38 rfl 27 Tryz.ntmps38 ?_
 have hC:=ZLh (X:=Nox) w0 [ZKv ZLi.sl a0 [u0_0] fp0] (al1 q0)
 refine sr (Zd (v:=vI 0) rfl (dn (sr (Za (v:=vI a1) rfl (Za (v:=u0_0) rfl ?_)))))
 obtain ⟨Ad2,c3,hv4⟩:=Zu (hC.getP 0 rfl)
 refine Zt ZN3 (tr rfl hv4) (X0 rfl rfl (Zd (v:=vI (ZFm.wrap (a1 - (a0.length:Int)))) rfl (dn (ZKw (sr (Za (v:=vI (ZFm.wrap (a1 - (a0.length:Int)))) rfl (Zp rfl rfl (dn ?_))))))))
 refine Zs rfl (fun hb5=>?_) (fun hb5=>?_)
 ·replace h:=ift h (ct hb5)
  refine sr (Zd (v:=vI (-1)) rfl (dn ?_))
  refine ZK4 (Zn ?_)
  refine Zi (fn:=Tryz.f38) rfl ?_ ⟨(-1),rfl,h,hC.below⟩ (.inl rfl)
  exact Zf rfl
 ·replace h:=Zl h (cf hb5)
  refine ZK0 (Ze (ZKw (sr (Zd (v:=vI 0) rfl (dn (ZK2 ?_))))))
  have hN10:a0.length≤9223372036854775807:=Y2 (hC.getP 0 rfl)
  refine Yk (S:=Int) _ _ (fun i10 s10 e_ w_=>Zv e_ [(0,u0_0),(1,vI s10),(5,vI (i10:Int))]∧Ctx Nox w0 w_ [] [ZKv ZLi.sl a0 [u0_0] fp0]) a0.length ?_ ?_ (s0:=(ZFm.wrap (a1 - (a0.length:Int)))) ?_ h
  ·clear hC h
   rintro i10 s10 e_ w10 nx10 K10 hi10 ⟨hS_,hC⟩ h hK10
   rw [ue hS_]
   refine ZKw (sr (Za (v:=vI (i10:Int)) rfl (Za (v:=u0_0) rfl ?_)))
   obtain ⟨Ad10,c10,hv11⟩:=Zu (hC.getP 0 rfl)
   refine Zt ZN3 (tr rfl hv11) (Zp rfl rfl (dn (Z6 rfl (decide_eq_true (by omega)) (ZK0 (Ze (ZKw (ZK2 (sr (Za (v:=u0_0) rfl (Za (v:=vI (i10:Int)) rfl ?_))))))))))
   obtain ⟨Ad11,c11,hv10⟩:=Zx (hC.getP 0 rfl) i10 hi10
   refine Yn (len:=a0.length) ZN3 ag50.size (tr rfl hv10) rfl (ZLc _) (ZLv.2 hi10) ?_
   obtain ⟨cs_,hl10,hc10,hr10⟩:=Xh (hC.getP 0 rfl) hv10 i10 hi10
   obtain ⟨u10,rfl⟩:=ZLt.1 hl10
   clear hl10
   rw [Xg _ _ hi10] at hr10
   have hp10:=hr10
   replace hC:=hC.derive 0 rfl (ZKv ZKx.ty.sl ((a0.getD i10 ZC7).terms) [u10] fp0) (fun _=>(Xm hp10)) (fun _ hb_=>hb_)
   refine Ji [u10] hc10 ag50 rfl rfl (Za (v:=vI s10) rfl ?_)
   refine Zg [.agg #[u10],vI s10] _ Tryz.func28 rfl rfl rfl (Zwi (a0.getD i10 ZC7) s10 h _ (Y3 (hC.getP 0 rfl))) (fun ret10 w11 hR10=>?_)
   obtain ⟨r10,rfl,h,hB10⟩:=hR10
   refine⟨_,rfl,?_⟩
   replace hC:=hC.grow hB10
   refine Zd (v:=vI r10) rfl (dn (sr (Za (v:=vI r10) rfl (Zp rfl rfl (dn ?_)))))
   refine Zs rfl (fun hb10=>?_) (fun hb10=>?_)
   ·replace h:=ift h (ct hb10)
    refine sr (Zd (v:=vI (-1)) rfl (dn ?_))
    refine ZK4 (Z9 (Zn (Zn (Z9 (Zn ?_)))))
    refine Zi (fn:=Tryz.f38) rfl ?_ ⟨(-1),rfl,h,hC.below⟩ (.inl rfl)
    exact Zf rfl
   ·replace h:=Zl h (cf hb10)
    refine ZK0 (Zr (Ze (Zh (Za (v:=vI (i10:Int)) rfl (Zq rfl rfl (Zd (v:=vI (ZFm.wrap ((i10:Int)+1))) rfl (done ?_)))))))
    exact hK10 r10 _ _ ⟨(sl ⟨rfl,rfl,(tr rfl (congrArg _ (Z5 hi10 hN10))),trivial⟩),(hC.sP [1] rfl)⟩ h
  ·clear hC h
   rintro s10 e_ w12 K10 ⟨hS_,hC⟩ h
   rw [ue hS_]
   refine ZKw (sr (Za (v:=vI (a0.length:Int)) rfl (Za (v:=u0_0) rfl ?_)))
   obtain ⟨Ad12,c12,hv12⟩:=Zu (hC.getP 0 rfl)
   refine Zt ZN3 (tr rfl hv12) (Zp rfl rfl (dn (Z2 rfl (decide_eq_false (by omega)) ?_)))
   refine ZLa (Zj (Zj (Z0 ?_)))
   refine Ze (sr (Za (v:=vI s10) rfl (Zd (v:=vI s10) rfl (dn (ZK4 ?_)))))
   refine Zi (fn:=Tryz.f38) rfl ?_ ⟨s10,rfl,h,hC.below⟩ (.inl rfl)
   exact Zf rfl
  ·skip
   exact⟨(sl ⟨rfl,rfl,rfl,trivial⟩),hC⟩
def Zkd (a0:List Int) (a1:Int) (K:Int→Prop):Prop :=
 (if ZFm.wrap (a1 - (a0.length:Int)) < 0 then K (-1) else K (ZFm.wrap (a1 - (a0.length:Int))))
theorem Zwk (a0:List Int) (a1:Int)  {K:Int→Prop} (h:Zkd a0 a1 K) (w0:World) (q0:ZNz.rep a0 [u0_0] fp0 w0) :
  Calls ZKz 37 #[u0_0,vI a1] w0 fun e w'=>∃ (r0:Int),
   e=.returned (vI r0)∧K r0∧Bel w0 w':=by
 unfold Zkd at h
 refine cof Tryz.func37 rfl 12 Tryz.ntmps37 ?_
 have hC:=ZLh (X:=Nox) w0 [ZKv TInts a0 [u0_0] fp0] (al1 q0)
 refine sr (Zd (v:=vI 0) rfl (dn (sr (Za (v:=vI a1) rfl (Za (v:=u0_0) rfl ?_)))))
 obtain ⟨Ad2,c3,hv4⟩:=Zu (hC.getP 0 rfl)
 refine Zt ZLf (tr rfl hv4) (X0 rfl rfl (Zd (v:=vI (ZFm.wrap (a1 - (a0.length:Int)))) rfl (dn (ZKw (sr (Za (v:=vI (ZFm.wrap (a1 - (a0.length:Int)))) rfl (Zp rfl rfl (dn ?_))))))))
 refine Zs rfl (fun hb5=>?_) (fun hb5=>?_)
 ·replace h:=ift h (ct hb5)
  refine sr (Zd (v:=vI (-1)) rfl (dn ?_))
  refine ZK4 (Zn ?_)
  refine Zi (fn:=Tryz.f37) rfl ?_ ⟨(-1),rfl,h,hC.below⟩ (.inl rfl)
  exact Zf rfl
 ·replace h:=Zl h (cf hb5)
  refine ZK0 (Ze (sr (Za (v:=vI (ZFm.wrap (a1 - (a0.length:Int)))) rfl (Zd (v:=vI (ZFm.wrap (a1 - (a0.length:Int)))) rfl (dn (ZK4 ?_))))))
  refine Zi (fn:=Tryz.f37) rfl ?_ ⟨ZFm.wrap (a1 - (a0.length:Int)),rfl,h,hC.below⟩ (.inl rfl)
  exact Zf rfl
def Zhz (a0:Alg) (a1:Int) (K:Int→Prop):Prop :=
 Zkd a0.degrees a1 (fun r10=>(if r10 < 0 then K (-1) else Zhy a0.images r10 (fun r11=>(if r11 < 0 then K (-1) else K r11))))
theorem Zwl (a0:Alg) (a1:Int)  {K:Int→Prop} (h:Zhz a0 a1 K) (w0:World) (q0:TAlg.rep a0 [u0_0,u0_1] fp0 w0) :
  Calls ZKz 10 #[.agg #[u0_0,u0_1],vI a1] w0 fun e w'=>∃ (r0:Int),
   e=.returned (vI r0)∧K r0∧Bel w0 w':=by
 unfold Zhz at h
 refine cof Tryz.func10 rfl 18 Tryz.ntmps10 ?_
 have hC:=ZLh (X:=Nox) w0 [ZKv TAlg a0 [u0_0,u0_1] fp0] (al1 q0)
 replace hC:=hC.dAlg 0 rfl
 refine sr (Yi (v:=.agg #[u0_0,u0_1]) hC [u0_0,u0_1] rfl rfl fun b4 w6 hB_ hC=>Zd (v:=vI 0) rfl (dn (sr (Z1 0 ZOe rfl sc22.size rfl rfl (Yb hC 0 (u0_0) rfl sc22 rfl rfl (Za (v:=vI a1) rfl ?_))))))
 refine Zg [u0_0,vI a1] _ Tryz.func37 rfl rfl rfl (Zwk a0.degrees a1 h _ (hC.getP 1 rfl)) (fun ret7 w9 hR8=>?_)
 obtain ⟨r10,rfl,h,hB10⟩:=hR8
 refine⟨_,rfl,?_⟩
 replace hC:=hC.grow hB10
 refine Zd (v:=vI r10) rfl (dn (ZKw (sr (Za (v:=vI r10) rfl (Zp rfl rfl (dn ?_))))))
 refine Zs rfl (fun hb10=>?_) (fun hb10=>?_)
 ·replace h:=ift h (ct hb10)
  refine sr (Zd (v:=vI (-1)) rfl (dn ?_))
  refine ZK4 (Zn ?_)
  refine Zi (fn:=Tryz.f10) rfl ?_ ⟨(-1),rfl,h,hC.below⟩ (.inl rfl)
  exact Zf rfl
 ·replace h:=Zl h (cf hb10)
  refine ZK0 (Ze (sr (Z1 1 ZOe rfl sc23.size rfl rfl (Yb hC 0 (u0_1) rfl sc23 rfl rfl (Za (v:=vI r10) rfl ?_)))))
  refine Zg [u0_1,vI r10] _ Tryz.func38 rfl rfl rfl (Zwj a0.images r10 h _ (hC.getP 0 rfl)) (fun ret10 w10 hR10=>?_)
  obtain ⟨r11,rfl,h,hB11⟩:=hR10
  refine⟨_,rfl,?_⟩
  replace hC:=hC.grow hB11
  refine Zd (v:=vI r11) rfl (dn (ZKw (sr (Za (v:=vI r11) rfl (Zp rfl rfl (dn ?_))))))
  refine Zs rfl (fun hb11=>?_) (fun hb11=>?_)
  ·replace h:=ift h (ct hb11)
   refine sr (Zd (v:=vI (-1)) rfl (dn ?_))
   refine ZK4 (Zn ?_)
   refine Zi (fn:=Tryz.f10) rfl ?_ ⟨(-1),rfl,h,hC.below⟩ (.inl rfl)
   exact Zf rfl
  ·replace h:=Zl h (cf hb11)
   refine ZK0 (Ze (sr (Za (v:=vI r11) rfl (Zd (v:=vI r11) rfl (dn (ZK4 ?_))))))
   refine Zi (fn:=Tryz.f10) rfl ?_ ⟨r11,rfl,h,hC.below⟩ (.inl rfl)
   exact Zf rfl
def Zh0 (a0:List ZKy) (K:List ZKy→Prop):Prop :=
 ((0≤(a0.length:Int)∧(a0.length:Int) * 24≤281474976710656)∧Yc (fun i10 (s10:(List ZKy)) nx10=>Zhj (a0.getD i10 ZC7) (fun r10=>((0≤(i10:Int)∧(i10:Int) < (s10.length:Int))∧nx10 (s10.set i10 r10)))) (fun (s10:(List ZKy))=>K s10) a0.length 0 (ZC2 ((a0.length:Int).toNat) ((⟨[]⟩:ZKy):ZKy)))
theorem Zwm (a0:List ZKy)  {K:List ZKy→Prop} (h:Zh0 a0 K) (w0:World) (q0:ZLi.sl.rep a0 [u0_0] fp0 w0) :
  Calls ZKz 42 #[u0_0] w0 fun e w'=>∃ (r0:List ZKy) (z0_0:Value) (fz0:List Nat),
   e=.returned (z0_0)∧K r0∧(ZLd (Tr.sl 55 (Yy 162)) r0 [z0_0] fz0).holds w'∧(∀ b,b∈fz0→w0.heap.size≤b)∧Bel w0 w':=by
 unfold Zh0 at h
 refine cof Tryz.func42 rfl 23 Tryz.ntmps42 ?_
 have hC:=ZLh (X:=Nox) w0 [ZKv ZLi.sl a0 [u0_0] fp0] (al1 q0)
 refine sr (Zd (v:=.slice none 0 0) rfl (dn (sr (Za (v:=u0_0) rfl ?_))))
 obtain ⟨Ad2,c3,hv4⟩:=Zu (hC.getP 0 rfl)
 refine Zt ZN3 (tr rfl hv4) ?_
 obtain ⟨hm7,h⟩:=h
 refine Zbz (sz:=1) hC (ZC2 ((a0.length:Int).toNat) (.slice none 0 0)) ZLk Zwb (tr rfl (congrArg (ZN5 .i64) (ZN6 hm7.1).symm)) (tr rfl (congrArg (ZN5 .i64) (ZN6 hm7.1).symm)) (by omega) (by omega) (Zt8 _) fun v5 w6 hB_ hC=>?_
 replace hC:=hC.pushM0 (Ya (Yy 162) (ZC2 ((a0.length:Int).toNat) ((⟨[]⟩:ZKy):ZKy)) (ZC2 ((a0.length:Int).toNat) (.slice none 0 0)) (ZC2 ((a0.length:Int).toNat) [])) (Zua (Zch (Zfh _ _ _)) rfl _) (Zt9 _)
 replace hC:=hC.gather (c:=ZLd (Tr.sl 55 (Yy 162)) (ZC2 ((a0.length:Int).toNat) ((⟨[]⟩:ZKy):ZKy)) [v5] ((ZLw (ZD0 v5))++(ZC2 ((a0.length:Int).toNat) ([]:List Nat)).flatten)) (fun x_ hx_=>(ZDd.1 hx_).symm) (fun h1_ h2_ hd_=>X3 (by rw [List.length_replicate]; exact h2_) h1_ (fun b_ hb_ hb2_=>hd_ b_ hb2_ hb_))
 refine Zd (v:=v5) rfl (dn (ZKw (sr (Zd (v:=vI 0) rfl (dn (ZK2 ?_))))))
 have hN10:a0.length≤9223372036854775807:=Y2 (hC.getP 0 rfl)
 refine Yk (S:=(List ZKy)) _ _ (fun i10 s10 e_ w_=>∃ (v10:Value),∃ (f10:List Nat),Zv e_ [(0,u0_0),(3,v10),(4,vI (i10:Int))]∧Ctx Nox w0 w_ [ZLd (Tr.sl 55 (Yy 162)) s10 [v10] f10] [ZKv ZLi.sl a0 [u0_0] fp0]) a0.length ?_ ?_ (s0:=(ZC2 ((a0.length:Int).toNat) ((⟨[]⟩:ZKy):ZKy))) ?_ h
 ·clear hC h
  rintro i10 s10 e_ w10 nx10 K10 hi10 ⟨v10,f10,hS_,hC⟩ h hK10
  rw [ue hS_]
  refine ZKw (sr (Za (v:=vI (i10:Int)) rfl (Za (v:=u0_0) rfl ?_)))
  obtain ⟨Ad10,c10,hv12⟩:=Zu (hC.getP 0 rfl)
  refine Zt ZN3 (tr rfl hv12) (Zp rfl rfl (dn (Z6 rfl (decide_eq_true (by omega)) (ZK0 (Ze (ZKw (ZK2 (Zh (Za (v:=v10) rfl (Za (v:=vI (i10:Int)) rfl (Za (v:=u0_0) rfl ?_)))))))))))
  refine Za (v:=vI (i10:Int)) rfl ?_
  obtain ⟨Ad11,c11,hv10⟩:=Zx (hC.getP 0 rfl) i10 hi10
  refine Yn (len:=a0.length) ZN3 ag50.size (tr rfl hv10) rfl (ZLc _) (ZLv.2 hi10) ?_
  obtain ⟨cs_,hl10,hc10,hr10⟩:=Xh (hC.getP 0 rfl) hv10 i10 hi10
  obtain ⟨u11,rfl⟩:=ZLt.1 hl10
  clear hl10
  rw [Xg _ _ hi10] at hr10
  have hp10:=hr10
  replace hC:=hC.derive 0 rfl (ZKv ZKx.ty.sl ((a0.getD i10 ZC7).terms) [u11] fp0) (fun _=>(Xm hp10)) (fun _ hb_=>hb_)
  refine Ji [u11] hc10 ag50 rfl rfl ?_
  refine Zg [.agg #[u11]] _ Tryz.func30 rfl rfl rfl (Zvg (a0.getD i10 ZC7) h _ (Y3 (hC.getP 0 rfl))) (fun ret10 w11 hR10=>?_)
  obtain ⟨r10,u10,f11,rfl,h,hr11,hf10,hB10⟩:=hR10
  refine⟨_,rfl,?_⟩
  replace hC:=hC.push hB10 (ZLd (Yy 162) r10 [u10] f11) hr11 hf10
  obtain ⟨ho10,hf11⟩:=X8 (hC.getM 0 rfl)
  subst hf11
  replace hC:=hC.recast (c:=own 162 9 u10 r10.terms.length (ZKx.encs r10.terms)) (fun _ h_=>h_) (fun _=>ho10)
  obtain ⟨⟨h10,h11⟩,h⟩:=h
  obtain ⟨g10,cap10,hv11⟩:=Zuo (hC.getM 1 rfl) (ZOj (Nat.zero_le _) (show i10 < s10.length by omega))
  refine X6 (i10 * 1) ZLk ag55.size (tr rfl hv11) rfl h10 h11 rfl ?_
  replace hC:=hC.recast (c:=ZLd (Yy 162) r10 [u10] (ZLw (ZD0 u10))) (fun _ h_=>h_) (fun h_=>Zch (Xq h_))
  replace hC:=hC.sM [1,0] (M':=[ZLd (Tr.sl 55 (Yy 162)) s10 [v10] f10,ZLd (Yy 162) r10 [u10] (ZLw (ZD0 u10))]) (by decide) rfl
  refine Zup (u:=.agg #[u10]) hC (show i10 < s10.length by omega) hv11 ag55.size rfl rfl rfl rfl fun f12 w12 hC=>done (Zr (Ze (Zh (Za (v:=vI (i10:Int)) rfl (Zq rfl rfl (Zd (v:=vI (ZFm.wrap ((i10:Int)+1))) rfl (done ?_)))))))
  exact hK10 (s10.set i10 r10) _ _ ⟨v10,f12,(sl ⟨rfl,rfl,(tr rfl (congrArg _ (Z5 hi10 hN10))),trivial⟩),(hC.sP [1] rfl)⟩ h
 ·clear hC h
  rintro s10 e_ w13 K10 ⟨v10,f10,hS_,hC⟩ h
  rw [ue hS_]
  refine ZKw (sr (Za (v:=vI (a0.length:Int)) rfl (Za (v:=u0_0) rfl ?_)))
  obtain ⟨Ad12,c12,hv13⟩:=Zu (hC.getP 0 rfl)
  refine Zt ZN3 (tr rfl hv13) (Zp rfl rfl (dn (Z2 rfl (decide_eq_false (by omega)) ?_)))
  refine ZLa (Zj (Zj (Z0 ?_)))
  refine Ze (sr (Za (v:=v10) rfl (Zd (v:=v10) rfl (dn (ZK4 ?_)))))
  refine Zi (fn:=Tryz.f42) rfl ?_ ⟨s10,v10,f10,rfl,h,(hC.getM 0 rfl),(Zai hC 0 rfl),hC.below⟩ (.inl rfl)
  exact Zf rfl
 ·skip
  exact⟨v5,((ZLw (ZD0 v5))++(ZC2 ((a0.length:Int).toNat) ([]:List Nat)).flatten),(sl ⟨rfl,rfl,rfl,trivial⟩),hC⟩
def Zeo (a0:Alg) (K:Alg→Prop):Prop :=
 Zhe a0.degrees (fun r10=>Zh0 a0.images (fun r11=>K (⟨r10,r11⟩:Alg)))
theorem Zmy (a0:Alg)  {K:Alg→Prop} (h:Zeo a0 K) (w0:World) (q0:TAlg.rep a0 [u0_0,u0_1] fp0 w0) :
  Calls ZKz 12 #[.agg #[u0_0,u0_1]] w0 fun e w'=>∃ (r0:Alg) (z0_0:Value) (z0_1:Value) (fz0:List Nat),
   e=.returned (.agg #[z0_0,z0_1])∧K r0∧(ZLd (Zfg 2 162 55) r0 [z0_0,z0_1] fz0).holds w'∧(∀ b,b∈fz0→w0.heap.size≤b)∧Bel w0 w':=by
 unfold Zeo at h
 refine cof Tryz.func12 rfl 13 Tryz.ntmps12 ?_
 have hC:=ZLh (X:=Nox) w0 [ZKv TAlg a0 [u0_0,u0_1] fp0] (al1 q0)
 replace hC:=hC.dAlg 0 rfl
 refine sr (Yi (v:=.agg #[u0_0,u0_1]) hC [u0_0,u0_1] rfl rfl fun b4 w6 hB_ hC=>Ys hC [.slice none 0 0,.slice none 0 0] z32 rfl fun b7 w9 hB_ hC=>dn (sr (Ys hC [.slice none 0 0,.slice none 0 0] z32 rfl fun b10 w10 hB_ hC=>dn (sr (Z1 0 ZOe rfl sc22.size rfl rfl (Yb hC 2 (u0_0) rfl sc22 rfl rfl ?_))))))
 refine Zg [u0_0] _ Tryz.func41 rfl rfl rfl (Zvb a0.degrees h _ (hC.getP 1 rfl)) (fun ret10 w11 hR10=>?_)
 obtain ⟨r10,u10,f11,rfl,h,hr10,hf10,hB10⟩:=hR10
 refine⟨_,rfl,?_⟩
 replace hC:=hC.push hB10 (ZLd (Tr.sl 2 (eI.tr)) r10 [u10] f11) hr10 hf10
 obtain ⟨ho10,hf11⟩:=Y6 (hC.getM 0 rfl).1
 subst hf11
 replace hC:=hC.recast (c:=own 2 1 u10 r10.length (eI.encs r10)) (fun _ h_=>h_) (fun _=>ho10)
 refine Z1 0 ZLg rfl sc22.size rfl rfl (Z4 (v:=u10) hC 1 [u10] [u10,.slice none 0 0] rfl sc22.size rfl rfl (Zb0 (hC.getM 0 rfl)) rfl (Xr (X7 (hC.getM 0 rfl)) rfl) (ZK5 rfl) rfl fun w12 hC=>dn (sr (Z1 1 ZOe rfl sc23.size rfl rfl (Yb hC 3 (u0_1) rfl sc23 rfl rfl ?_))))
 refine Zg [u0_1] _ Tryz.func42 rfl rfl rfl (Zwm a0.images h _ (hC.getP 0 rfl)) (fun ret11 w13 hR11=>?_)
 obtain ⟨r11,u11,f10,rfl,h,hr11,hf12,hB11⟩:=hR11
 refine⟨_,rfl,?_⟩
 replace hC:=hC.push hB11 (ZLd (Tr.sl 55 (Yy 162)) r11 [u11] f10) hr11 hf12
 refine Z1 1 ZLg rfl sc30.size rfl rfl (Z4 (v:=u11) hC 2 [u11] [u10,u11] rfl sc30.size rfl rfl (Zl9 (Tr.trep _ (hC.getM 0 rfl).1)) rfl (Xr (Zdq (Tr.trep _ (hC.getM 0 rfl).1)) rfl) (ZK5 rfl) rfl fun w14 hC=>dn (sr (Yw hC 2 [u10,u11] rfl ag32 rfl rfl rfl (Z4 (v:=.agg #[u10,u11]) hC 3 [u10,u11] [u10,u11] rfl ag32.size rfl rfl rfl rfl (Xr (X7 (hC.getM 1 rfl)) (Xr (Zdq (Tr.trep _ (hC.getM 0 rfl).1)) rfl)) (ZK5 rfl) rfl fun w15 hC=>dn (ZK4 ?_)))))
 refine Zi (fn:=Tryz.f12) rfl ?_ ⟨(⟨r10,r11⟩:Alg),u10,u11,((ZLw (ZD0 u10))++f10),rfl,h,(Zt7 (Xq (hC.getM 1 rfl)) (hC.getM 0 rfl) (fun x hx hx'=>hC.mm 1 0 rfl rfl (by decide) x hx hx')),(fun b hb=>(ZDd.1 hb).elim (fun hb=>(Xi hC 1 rfl) b hb) (fun hb=>(Zai hC 0 rfl) b hb)),hC.below⟩ (.inl rfl)
 exact J8 hC 3 rfl ag32 rfl rfl
def Zft (a0:Alg) (a1:Alg) (K:Bool→Prop):Prop :=
 Zhg a0.degrees a1.degrees (fun r10=>(if¬ (r10=true) then K false else Zj4 a0.images a1.images (fun r11=>(if¬ (r11=true) then K false else K true))))
theorem Zwn (a0:Alg) (a1:Alg)  {K:Bool→Prop} (h:Zft a0 a1 K) (w0:World) (q0:TAlg.rep a0 [u0_0,u0_1] fp0 w0) (q1:TAlg.rep a1 [u1_0,u1_1] fp1 w0) :
  Calls ZKz 15 #[.agg #[u0_0,u0_1],.agg #[u1_0,u1_1]] w0 fun e w'=>∃ (r0:Bool),
   e=.returned (.bool r0)∧K r0∧Bel w0 w':=by
 unfold Zft at h
 refine cof Tryz.func15 rfl 17 Tryz.ntmps15 ?_
 have hC:=ZLh (X:=Nox) w0 [ZKv TAlg a0 [u0_0,u0_1] fp0,ZKv TAlg a1 [u1_0,u1_1] fp1] (alc q0 (al1 q1))
 replace hC:=hC.dAlg 0 rfl
 replace hC:=hC.dAlg 3 rfl
 refine sr (Yi (v:=.agg #[u0_0,u0_1]) hC [u0_0,u0_1] rfl rfl fun b7 w9 hB_ hC=>Yi (v:=.agg #[u1_0,u1_1]) hC [u1_0,u1_1] rfl rfl fun b10 w10 hB_ hC=>Zd (v:=.bool false) rfl (dn (ZKw (sr (Z1 0 ZLg rfl sc22.size rfl rfl (Yb hC 1 (u0_0) rfl sc22 rfl rfl (Z1 0 ZLg rfl sc22.size rfl rfl (Yb hC 0 (u1_0) rfl sc22 rfl rfl ?_))))))))
 refine Zg [u0_0,u1_0] _ Tryz.func25 rfl rfl rfl (Zvd a0.degrees a1.degrees h _ (hC.getP 3 rfl) (hC.getP 1 rfl)) (fun ret10 w11 hR10=>?_)
 obtain ⟨r10,rfl,h,hB10⟩:=hR10
 refine⟨_,rfl,?_⟩
 replace hC:=hC.grow hB10
 refine Xe rfl (dn ?_)
 refine Zs rfl (fun hb10=>?_) (fun hb10=>?_)
 ·replace h:=ift h (Y4 (Xj hb10))
  refine sr (Zd (v:=.bool false) rfl (dn ?_))
  refine ZK4 (Zn ?_)
  refine Zi (fn:=Tryz.f15) rfl ?_ ⟨false,rfl,h,hC.below⟩ (.inl rfl)
  exact Zf rfl
 ·replace h:=Zl h (not_not_intro ((Xk hb10)))
  refine ZK0 (Ze (ZKw (sr (Z1 1 ZLg rfl sc30.size rfl rfl (Yb hC 1 (u0_1) rfl sc30 rfl rfl (Z1 1 ZLg rfl sc30.size rfl rfl (Yb hC 0 (u1_1) rfl sc30 rfl rfl ?_)))))))
  refine Zg [u0_1,u1_1] _ Tryz.func51 rfl rfl rfl (Zvk a0.images a1.images h _ (hC.getP 2 rfl) (hC.getP 0 rfl)) (fun ret11 w12 hR11=>?_)
  obtain ⟨r11,rfl,h,hB11⟩:=hR11
  refine⟨_,rfl,?_⟩
  replace hC:=hC.grow hB11
  refine Xe rfl (dn ?_)
  refine Zs rfl (fun hb11=>?_) (fun hb11=>?_)
  ·replace h:=ift h (Y4 (Xj hb11))
   refine sr (Zd (v:=.bool false) rfl (dn ?_))
   refine ZK4 (Zn ?_)
   refine Zi (fn:=Tryz.f15) rfl ?_ ⟨false,rfl,h,hC.below⟩ (.inl rfl)
   exact Zf rfl
  ·replace h:=Zl h (not_not_intro ((Xk hb11)))
   refine ZK0 (Ze (sr (Zd (v:=.bool true) rfl (dn (ZK4 ?_)))))
   refine Zi (fn:=Tryz.f15) rfl ?_ ⟨true,rfl,h,hC.below⟩ (.inl rfl)
   exact Zf rfl
def Zep (a0:List Int) (K:Int→Prop):Prop :=
 Yc (fun i10 (s10:Unit) nx10=>(if a0.getD i10 ZC7≠0 then K (a0.getD i10 ZC7) else nx10 ())) (fun (s10:Unit)=>K 0) a0.length 0 ()
theorem Zmz (a0:List Int)  {K:Int→Prop} (h:Zep a0 K) (w0:World) (q0:ZNz.rep a0 [u0_0] fp0 w0) :
  Calls ZKz 43 #[u0_0] w0 fun e w'=>∃ (r0:Int),
   e=.returned (vI r0)∧K r0∧Bel w0 w':=by
 unfold Zep at h
 refine cof Tryz.func43 rfl 15 Tryz.ntmps43 ?_
 have hC:=ZLh (X:=Nox) w0 [ZKv TInts a0 [u0_0] fp0] (al1 q0)
 refine sr (Zd (v:=vI 0) rfl (dn (ZKw (sr (Za (v:=u0_0) rfl ?_)))))
 obtain ⟨Ad2,c3,hv4⟩:=Zu (hC.getP 0 rfl)
 refine Zt ZLf (tr rfl hv4) (Za (v:=vI 0) rfl (dn (ZK2 ?_)))
 have hN10:a0.length≤9223372036854775807:=Y2 (hC.getP 0 rfl)
 refine Yk (S:=Unit) _ _ (fun i10 s10 e_ w_=>Zv e_ [(5,u0_0),(6,vI (a0.length:Int)),(7,vI (i10:Int))]∧Ctx Nox w0 w_ [] [ZKv TInts a0 [u0_0] fp0]) a0.length ?_ ?_ (s0:=()) ?_ h
 ·clear hC h
  rintro i10 s10 e_ w10 nx10 K10 hi10 ⟨hS_,hC⟩ h hK10
  rw [ue hS_]
  refine sr (Zp rfl rfl (dn (ZKw (Z6 rfl (decide_eq_true (by omega)) (ZK0 (Ze (ZKw (ZK2 (sr ?_)))))))))
  obtain ⟨Ad10,c10,hv10⟩:=Zx (hC.getP 0 rfl) i10 hi10
  refine Yn (len:=a0.length) ZLf sc2.size (tr rfl hv10) rfl (ZLc _) (ZLv.2 hi10) (Yo (vI (a0.getD i10 ZC7)) (Ye (hC.getP 0 rfl) hv10 i10 hi10) sc2 rfl (Zd (v:=vI (a0.getD i10 ZC7)) rfl (dn (sr (Za (v:=vI (a0.getD i10 ZC7)) rfl (Y5 rfl rfl (dn ?_)))))))
  refine Zs rfl (fun hb10=>?_) (fun hb10=>?_)
  ·replace h:=ift h (ct hb10)
   refine sr (Za (v:=vI (a0.getD i10 ZC7)) rfl (Zd (v:=vI (a0.getD i10 ZC7)) rfl (dn ?_)))
   refine ZK4 (Z9 (Zn (Zn (Z9 (Zn ?_)))))
   refine Zi (fn:=Tryz.f43) rfl ?_ ⟨a0.getD i10 ZC7,rfl,h,hC.below⟩ (.inl rfl)
   exact Zf rfl
  ·replace h:=Zl h (cf hb10)
   refine ZK0 (Zr (Ze (Zh (Zq rfl rfl (Za (v:=vI (ZFm.wrap ((i10:Int)+1))) rfl (done ?_))))))
   exact hK10 () _ _ ⟨(sl ⟨rfl,rfl,(tr rfl (congrArg _ (Z5 hi10 hN10))),trivial⟩),hC⟩ h
 ·clear hC h
  rintro s10 e_ w11 K10 ⟨hS_,hC⟩ h
  rw [ue hS_]
  refine sr (Zp rfl rfl (dn (ZKw (Z2 rfl (decide_eq_false (by omega)) ?_))))
  refine ZLa (Zj (Zj (Z0 ?_)))
  refine Ze (sr (Zd (v:=vI 0) rfl (dn (ZK4 ?_))))
  refine Zi (fn:=Tryz.f43) rfl ?_ ⟨0,rfl,h,hC.below⟩ (.inl rfl)
  exact Zf rfl
 ·skip
  exact⟨(sl ⟨rfl,rfl,rfl,trivial⟩),hC⟩
end Go.Proofs.YtaagfepgbofmlaaGreat
