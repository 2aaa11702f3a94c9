import Derived.Test.YtaagfepgbofmlaaGreatQ1
set_option linter.unusedSectionVars false
set_option linter.unusedSimpArgs false
set_option linter.unusedVariables false
open Decidable renaming not_not→ZQk
open Go renaming wp_seq→ZMn,wp_ret→ZMv,wp_skip→ZMr,wp_block→ZMt,wp_exit→ZM1
open Go.IntKind renaming i64→ZHd
open Go.Proofs.Tryz renaming prog→ZMq,underlying22→ZM6,underlying32→ZM7,underlying115→ZNk,func192→ZO3,underlying30→ZNb,underlying53→ZMx,underlying162→ZM2,underlying23→ZO9,underlying55→ZMu,underlying73→ZNa,underlying48→ZPd,underlying136→ZM5,underlying25→ZPh,func134→ZPk,underlying50→ZPm
open Go.Value renaming map→ZO4,ownBlock→ZFq,int→ZPb
open Inhabited renaming default→ZEx
open Int renaming tmod→ZFo,natCast_nonneg→ZM3,ofNat_lt→ZNl,zero_add→ZO6,toNat_of_nonneg→ZPc,tmod_eq_emod_of_nonneg→ZPg,mul_tdiv_add_tmod→ZQt,eq_ofNat_of_zero_le→ZQw
open List renaming toArray→ZMl,replicate→ZEs,mem_singleton→ZF6,mem_cons→ZEt,mem_map→ZF9,getD→ZFf,map_cons→ZFy,length_eq_one_iff→ZNj,nodup_cons→ZPa,pairwise_cons→ZFk,mem_append→ZE4,take_of_length_le→ZFw,pairwise_append→ZQr
open List.Pairwise renaming nil→ZQq
open List.Perm renaming refl→ZPp
open Nat renaming le_of_ble_eq_true→ZMw,le_trans→ZEy,le_refl→ZEw,lt_of_le_of_lt→ZPl
open Option renaming toList→ZNm
open Prod renaming fst→ZFz
open Vc renaming Form→ZMp,ETerm→ZMo,TForm→ZM9,TInts→ZO5
open Vc.A8 renaming enc→ZMk,zero→ZMs,enc_get→ZM0,enc_set→ZNh,get_set→ZPe,ext_get→ZPf
open Vc.Ctx renaming start→ZM8
open Vc.Term renaming enc→ZMy
open Vc.Tr renaming item→ZM4
open Vc.Ty renaming item→ZMm
set_option maxRecDepth 4000
set_option maxHeartbeats 4000000
namespace Go.Proofs.YtaagfepgbofmlaaGreat
open Go Go.RowKit Vc
variable {b0 bp0 b1 bp1 b2 bp2 b3 bp3 b4 bp4 b5 bp5 b6 bp6 b7 bp7 mb0:Nat} {u0_0 u0_1 u0_2 u0_3 u0_4 u0_5 u1_0 u1_1 u1_2 u1_3 u1_4 u1_5 u2_0 u2_1 u2_2 u2_3 u2_4 u2_5 u3_0 u3_1 u3_2 u3_3 u3_4 u3_5 u4_0 u4_1 u4_2 u4_3 u4_4 u4_5 u5_0 u5_1 u5_2 u5_3 u5_4 u5_5 u6_0 u6_1 u6_2 u6_3 u6_4 u6_5 u7_0 u7_1 u7_2 u7_3 u7_4 u7_5:Value} {fp0 fp1 fp2 fp3 fp4 fp5 fp6 fp7 fp0_0 fp0_1 fp0_2 fp0_3 fp0_4 fp0_5 fp1_0 fp1_1 fp1_2 fp1_3 fp1_4 fp1_5 F0:List Nat}
def Zd6 (a0:List (A8×Int)) (a1:List (A8×Int)) (a2:Int) (K:List (A8×Int)→Prop):Prop :=
 Zbv (fun (q10:A8×Int) (s10:(List (A8×Int))) nx10=>Ze9 s10 q10.1 (ZFo (ZHd.wrap (q10.2 * a2)) 10007) (fun m10=>nx10 m10)) (fun (s10:(List (A8×Int)))=>K s10) a1.length a1 a0
theorem Zv9 (a0:List (A8×Int)) (a1:List (A8×Int)) (a2:Int)  {K:List (A8×Int)→Prop} (h:Zd6 a0 a1 a2 K) (w0:World) (q0:(mapS b0 a0).holds w0) (d1:∀ c,c∈[b1]→c≠b0) (q1:(mapS b1 a1).holds w0) :
  Calls ZMq 165 #[.map (some b0),.map (some b1),vI a2] w0 fun e w'=>∃ (m0:List (A8×Int)),
   e=.returned (.tuple #[])∧K m0∧(mapS b0 m0).holds w'∧BelB b0 w0 w':=by
 unfold Zd6 at h
 refine cof Tryz.func165 rfl 22 Tryz.ntmps165 ?_
 have hC:=Ctx.start1 w0 b0 (it:=mapS b0 a0) rfl [mapS b1 a1] q0 (by simp only [ZEt,List.not_mem_nil,or_false,forall_eq_or_imp,forall_eq]; exact q1) (by simp only [ZEt,List.not_mem_nil,or_false,forall_eq_or_imp,forall_eq]; exact d1)
 refine sr (Za (v:=.map (some b1)) rfl (Zga hC 0 rfl ZNk rfl fun r3 es4 ck5 w10 hB_ hn6 hbn7 hC=>dn (ZMt ?_)))
 refine Zge (S:=(List (A8×Int))) _ _ (fun l10 s10 e_ w_=>∃ (la10:Option MapEntry),Zt e_ [(0,.map (some b0)),(2,vI a2),(9,vQ r3)]∧Ctx (fun c_=>c_=b0) w0 w_ [itI (kvA .i64) (vvI .i64) r3 b1 es4 ck5 la10 l10,mapS b0 s10] [Zaz b1 es4 ck5,mapS b1 a1]) ?_ (l0:=a1) (s0:=a0) ?_ h
 ·clear hC h
  rintro l10 s10 e_ w11 nx10 K10 ⟨la10,hS_,hC⟩ h hK10
  rw [ue hS_]
  refine sr ?_
  refine Zgb hC 0 0 rfl rfl hn6 hbn7 rfl (fun hr10=>?_) (fun q10 l11 ent10 w12 hp10 hk10 hv10 hC=>?_)
  ·replace h:=h.1 hr10
   refine Yr (v:=.bool false) rfl rfl (dn (ZMn (Z2 rfl rfl ?_)))
   refine ZM1 (Zh (Zh (Zy ?_)))
   exact Zck rfl  ⟨s10,rfl,h,(hC.getM 1 rfl),hC.belB⟩ (.inr rfl)
  ·replace h:=h.2 q10 l11 hp10
   refine Yr (v:=.bool true) rfl rfl (dn (ZMn (Yc rfl rfl (ZMr (Zd (ZMt (sr (Zgc hC 0 0 q10 rfl rfl hn6 rfl hk10 hv10 (Yr (v:=.agg (ZMl (ZMk .i64 q10.1))) rfl rfl (Yr (v:=vI q10.2) rfl rfl (Yk hC (ZMk .i64 ZMs) z73 rfl fun b10 w13 hB_ hC=>Zx (v:=.agg (ZMl (ZMk .i64 q10.1))) hC 0 (ZMk .i64 q10.1) (ZMk .i64 q10.1) rfl ag73.size rfl rfl rfl rfl rfl (ZMw rfl) rfl fun w14 hC=>Zc (v:=vI q10.2) rfl (dn (Zg (Za (v:=.map (some b0)) rfl (Yp hC 0 (ZMk .i64 q10.1) rfl ag73 rfl rfl rfl (Za (v:=vI q10.2) rfl (Za (v:=vI a2) rfl (Js rfl rfl (Xr rfl rfl (by decide) (Zf [.map (some b0),.agg (ZMl (ZMk .i64 q10.1)),vI (ZFo (ZHd.wrap (q10.2 * a2)) 10007)] _ Tryz.func195 rfl rfl rfl (Zpn s10 q10.1 (ZFo (ZHd.wrap (q10.2 * a2)) 10007) h _ (hC.getM 2 rfl)) ?_))))))))))))))))))))
   rintro _ w15 ⟨m10,rfl,h,hm10,hB10⟩
   refine rt ?_
   replace hC:=hC.turnB 2 rfl hB10 rfl rfl hm10
   refine done (Zq ?_)
   exact hK10 q10 l11 m10 _ _ hp10 ⟨(some ent10),(slq rfl),(hC.xM [1,2] rfl)⟩ h
 ·skip
  exact⟨none,(slq rfl),hC⟩
def Zb8 (a0:List (A8×Int)) (a1:List Int) (a2:List (A8×Int)) (K:List (A8×Int)→Prop):Prop :=
 Zbv (fun (q10:A8×Int) (s11:(List (A8×Int))) nx11=>Zbv (fun (q11:A8×Int) (s10:(List (A8×Int))) nx10=>Zgt q10.1 a1 q11.1 (fun r10 r11=>(if r11≠0 then Ze9 s10 r10 (ZFo (ZHd.wrap ((ZHd.wrap (r11 * q10.2)) * q11.2)) 10007) (fun m10=>nx10 m10) else nx10 s10))) (fun (s10:(List (A8×Int)))=>nx11 s10) a2.length a2 s11) (fun (s11:(List (A8×Int)))=>K s11) a0.length a0 ([]:List (A8×Int))
theorem Jv (a0:List (A8×Int)) (a1:List Int) (a2:List (A8×Int))  {K:List (A8×Int)→Prop} (h:Zb8 a0 a1 a2 K) (w0:World) (q0:(mapS b0 a0).holds w0) (q1:ZO5.rep a1 [u1_0] fp1 w0) (q2:(mapS b2 a2).holds w0) :
  Calls ZMq 192 #[.map (some b0),u1_0,.map (some b2)] w0 fun e w'=>∃ (r0:List (A8×Int)) (zb0:Nat),
   e=.returned (.map (some zb0))∧K r0∧(mapS zb0 r0).holds w'∧w0.heap.size≤zb0∧Bel w0 w':=by
 unfold Zb8 at h
 refine cof ZO3 rfl 48 Tryz.ntmps192 ?_
 have hC:=ZM8 (X:=Nox) w0 [ZMm TInts a1 [u1_0] fp1,mapS b0 a0,mapS b2 a2] (alc q1 (alc q0 (al1 q2)))
 refine sr (Zc (v:=.map none) rfl (dn (sr (Zf9 hC (kvA .i64) (vvI .i64) fun b4 w6 hB_ hC=>Zc (v:=.map (some b4)) rfl (dn (ZMn (sr (Za (v:=.map (some b0)) rfl (Zga hC 1 rfl ZNk rfl fun r7 es8 ck9 w10 hB_ hn10 hbn10 hC=>dn (ZMt ?_))))))))))
 refine Zge (S:=(List (A8×Int))) _ _ (fun l12 s11 e_ w_=>∃ (la10:Option MapEntry),Zt e_ [(1,u1_0),(2,.map (some b2)),(7,.map (some b4)),(16,vQ r7)]∧Ctx Nox w0 w_ [itI (kvA .i64) (vvI .i64) r7 b0 es8 ck9 la10 l12,mapS b4 s11] [Zaz b0 es8 ck9,ZMm TInts a1 [u1_0] fp1,mapS b0 a0,mapS b2 a2]) ?_ (l0:=a0) (s0:=([]:List (A8×Int))) ?_ h
 ·clear hC h
  rintro l12 s11 e_ w11 nx11 K10 ⟨la10,hS_,hC⟩ h hK11
  rw [ue hS_]
  refine sr ?_
  refine Zgb hC 0 0 rfl rfl hn10 hbn10 rfl (fun hr10=>?_) (fun q10 l10 ent10 w12 hp11 hk10 hv10 hC=>?_)
  ·replace h:=h.1 hr10
   refine Yr (v:=.bool false) rfl rfl (dn (ZMn (Z2 rfl rfl ?_)))
   refine ZM1 (Zh (Zh (Zy ?_)))
   refine Zd (sr (Za (v:=.map (some b4)) rfl (Zc (v:=.map (some b4)) rfl (dn (ZMv ?_)))))
   exact Zi rfl (Ze rfl) ⟨s11,b4,rfl,h,(hC.getM 1 rfl),(Ziz hC 1 rfl),hC.below⟩ (.inl rfl)
  ·replace h:=h.2 q10 l10 hp11
   refine Yr (v:=.bool true) rfl rfl (dn (ZMn (Yc rfl rfl (ZMr (Zd (ZMt (sr (Zgc hC 0 0 q10 rfl rfl hn10 rfl hk10 hv10 (Yr (v:=.agg (ZMl (ZMk .i64 q10.1))) rfl rfl (Yr (v:=vI q10.2) rfl rfl (Yk hC (ZMk .i64 ZMs) z73 rfl fun b10 w13 hB_ hC=>Zx (v:=.agg (ZMl (ZMk .i64 q10.1))) hC 0 (ZMk .i64 q10.1) (ZMk .i64 q10.1) rfl ag73.size rfl rfl rfl rfl rfl (ZMw rfl) rfl fun w14 hC=>Zc (v:=vI q10.2) rfl (dn (sr (Za (v:=.map (some b2)) rfl (Zga hC 3 rfl ZNk rfl fun r12 es10 ck10 w15 hB_ hn11 hbn11 hC=>dn (ZMt ?_))))))))))))))))
   refine Zge (S:=(List (A8×Int))) _ _ (fun l13 s10 e_ w_=>∃ (la11:Option MapEntry),Zt e_ [(1,u1_0),(2,.map (some b2)),(7,.map (some b4)),(8,vQ b10),(9,vI q10.2),(16,vQ r7),(23,vQ r12)]∧Ctx Nox w0 w_ [itI (kvA .i64) (vvI .i64) r12 b2 es10 ck10 la11 l13,blk b10 73 (ZMk .i64 q10.1),itI (kvA .i64) (vvI .i64) r7 b0 es8 ck9 (some ent10) l10,mapS b4 s10] [Zaz b2 es10 ck10,Zaz b0 es8 ck9,ZMm TInts a1 [u1_0] fp1,mapS b0 a0,mapS b2 a2]) ?_ (l0:=a2) (s0:=s11) ?_ h
   ·clear hC h
    rintro l13 s10 e_ w16 nx10 K11 ⟨la11,hS_,hC⟩ h hK10
    rw [ue hS_]
    refine sr ?_
    refine Zgb hC 0 0 rfl rfl hn11 hbn11 rfl (fun hr11=>?_) (fun q11 l11 ent11 w17 hp10 hk11 hv11 hC=>?_)
    ·replace h:=h.1 hr11
     refine Yr (v:=.bool false) rfl rfl (dn (ZMn (Z2 rfl rfl ?_)))
     refine ZM1 (Zh (Zh (Zy ?_)))
     refine Zq ?_
     exact hK11 q10 l10 s10 _ _ hp11 ⟨(some ent10),(slq rfl),((hC.xM [2,3] rfl).sP [1,2,3,4] rfl)⟩ h
    ·replace h:=h.2 q11 l11 hp10
     refine Yr (v:=.bool true) rfl rfl (dn (ZMn (Yc rfl rfl (ZMr (Zd (ZMt (sr (Zgc hC 0 0 q11 rfl rfl hn11 rfl hk11 hv11 (Yr (v:=.agg (ZMl (ZMk .i64 q11.1))) rfl rfl (Yr (v:=vI q11.2) rfl rfl (Yk hC (ZMk .i64 ZMs) z73 rfl fun b11 w18 hB_ hC=>Zx (v:=.agg (ZMl (ZMk .i64 q11.1))) hC 0 (ZMk .i64 q11.1) (ZMk .i64 q11.1) rfl ag73.size rfl rfl rfl rfl rfl (ZMw rfl) rfl fun w19 hC=>Zc (v:=vI q11.2) rfl (dn (sr (Yp hC 2 (ZMk .i64 q10.1) rfl ag73 rfl rfl rfl (Za (v:=u1_0) rfl (Yp hC 0 (ZMk .i64 q11.1) rfl ag73 rfl rfl rfl (Zf [.agg (ZMl (ZMk .i64 q10.1)),u1_0,.agg (ZMl (ZMk .i64 q11.1))] _ Tryz.func199 rfl rfl rfl (Zv7 q10.1 a1 q11.1 h _ (hC.getP 2 rfl)) ?_)))))))))))))))))
     rintro _ w20 ⟨r10,r11,rfl,h,hB10⟩
     refine rt ?_
     replace hC:=hC.grow hB10
     refine Za (v:=.tuple #[.agg (ZMl (ZMk .i64 r10)),vI r11]) rfl (Yr (v:=.agg (ZMl (ZMk .i64 r10))) rfl rfl (Yr (v:=vI r11) rfl rfl (Yk hC (ZMk .i64 ZMs) z73 rfl fun b12 w21 hB_ hC=>Zx (v:=.agg (ZMl (ZMk .i64 r10))) hC 0 (ZMk .i64 r10) (ZMk .i64 r10) rfl ag73.size rfl rfl rfl rfl rfl (ZMw rfl) rfl fun w22 hC=>Zc (v:=vI r11) rfl (dn (sr (Za (v:=vI r11) rfl (Y2 rfl rfl (dn ?_))))))))
     refine Zp rfl (fun hb10=>?_) (fun hb10=>?_)
     ·replace h:=ift h (ct hb10)
      refine Zg (Za (v:=.map (some b4)) rfl (Yp hC 0 (ZMk .i64 r10) rfl ag73 rfl rfl rfl (Za (v:=vI r11) rfl (Za (v:=vI q10.2) rfl (Js rfl rfl (Za (v:=vI q11.2) rfl (Js rfl rfl (Xr rfl rfl (by decide) (Zf [.map (some b4),.agg (ZMl (ZMk .i64 r10)),vI (ZFo (ZHd.wrap ((ZHd.wrap (r11 * q10.2)) * q11.2)) 10007)] _ Tryz.func195 rfl rfl rfl (Zpn s10 r10 (ZFo (ZHd.wrap ((ZHd.wrap (r11 * q10.2)) * q11.2)) 10007) h _ (hC.getM 5 rfl)) ?_)))))))))
      rintro _ w23 ⟨m10,rfl,h,hm10,hB11⟩
      refine rt ?_
      replace hC:=hC.turnB 5 rfl hB11 rfl rfl hm10
      refine done (Zq ?_)
      exact hK10 q11 l11 m10 _ _ hp10 ⟨(some ent11),(slq rfl),(hC.xM [2,3,4,5] rfl)⟩ h
     ·replace h:=Zj h (cf hb10)
      refine ZMr (Zq ?_)
      exact hK10 q11 l11 s10 _ _ hp10 ⟨(some ent11),(slq rfl),(hC.xM [2,3,4,5] rfl)⟩ h
   ·skip
    exact⟨none,(slq rfl),hC⟩
 ·skip
  exact⟨none,(slq rfl),hC⟩
def Zd7 (a0:Int) (a1:Int) (a2:Int) (K:Bool→Prop):Prop :=
 (if a0≥a1 then K (decide (a0≤a2)) else K false)
theorem Zl2 (a0:Int) (a1:Int) (a2:Int)  {K:Bool→Prop} (h:Zd7 a0 a1 a2 K) (w0:World)  :
  Calls ZMq 46 #[vI a0,vI a1,vI a2] w0 fun e w'=>∃ (r0:Bool),
   e=.returned (.bool r0)∧K r0∧Bel w0 w':=by
 unfold Zd7 at h
 refine cof Tryz.func46 rfl 15 Tryz.ntmps46 ?_
 have hC:=ZM8 (X:=Nox) w0 [] (by simp)
 refine sr (Zc (v:=.bool false) rfl (dn (sr (Za (v:=vI a0) rfl (Za (v:=vI a1) rfl (Zay rfl rfl (Za (v:=.bool (decide (a0≥a1))) rfl ?_)))))))
 refine Y5 (decide (a0≥a1)) (fun hb1=>?_) (fun hb1=>?_)
 ·replace h:=ift h (ct hb1)
  refine Zl 3 10 rfl rfl hb1 (Za (v:=vI a0) rfl (Zl 3 10 rfl rfl hb1 (Za (v:=vI a2) rfl (Zl 3 10 rfl rfl hb1 (Zbt rfl rfl (Z3 (v:=.bool (decide (a0≤a2))) (b:=true) (tr rfl (congrArg _ hb1)) rfl (Zc (v:=.bool (decide (a0≤a2))) rfl (dn (ZMv ?_)))))))))
  exact Zi rfl (Ze rfl) ⟨decide (a0≤a2),rfl,h,hC.below⟩ (.inl rfl)
 ·replace h:=Zj h (cf hb1)
  refine Zm (b:=false) 3 10 rfl (tr rfl (congrArg _ hb1)) (by decide) (Zm (b:=false) 3 10 rfl (tr rfl (congrArg _ hb1)) (by decide) (Zm (b:=false) 3 10 rfl (tr rfl (congrArg _ hb1)) (by decide) (Z3 (v:=.bool false) (b:=false) (tr rfl (congrArg _ hb1)) rfl (Zc (v:=.bool false) rfl (dn (ZMv ?_))))))
  exact Zi rfl (Ze rfl) ⟨false,rfl,h,hC.below⟩ (.inl rfl)
def Zd8 (a0:List Int) (p1:Int→(Bool→Prop)→Prop) (K:Int→Prop):Prop :=
 Yb (fun i10 (s10:Unit) nx10=>p1 (a0.getD i10 ZEx) (fun r10=>(if r10=true then K (i10:Int) else nx10 ()))) (fun (s10:Unit)=>K (-1)) a0.length 0 ()
theorem Zpp (a0:List Int) (p1:Int→(Bool→Prop)→Prop)  {K:Int→Prop} (h:Zd8 a0 p1 K) (w0:World) (q0:ZO5.rep a0 [u0_0] fp0 w0) {g1:Nat} {cp1:List Value} {fn1:Func} (hf1:ZMq.funcs[g1]? = some fn1) (hb1:fn1.body.isNone=false) (hn1:(fn1.name == "runtime.NumGoroutine")=false) (hp1:∀ (y0:Int) (K_:Bool→Prop) (w_:World),Bel w0 w_→p1 y0 K_→Calls ZMq g1 (ZMl ([vI y0]++cp1)) w_ fun e w'=>∃ (z0:Bool),e=.returned (.bool z0)∧K_ z0∧Bel w_ w') :
  Calls ZMq 185 #[u0_0,.func (.func g1) #[] (ZMl cp1)] w0 fun e w'=>∃ (r0:Int),
   e=.returned (vI r0)∧K r0∧Bel w0 w':=by
 unfold Zd8 at h
 refine cof Tryz.func185 rfl 19 Tryz.ntmps185 ?_
 have hC:=ZM8 (X:=Nox) w0 [ZMm TInts a0 [u0_0] fp0] (al1 q0)
 refine sr (Zc (v:=vI 0) rfl (dn (ZMn (sr (Za (v:=u0_0) rfl (Zv hC 0 rfl ZM6 rfl (Za (v:=vI 0) rfl (dn (ZMt ?_)))))))))
 have hN10:a0.length≤9223372036854775807:=Yx (hC.getP 0 rfl)
 refine Yn (S:=Unit) _ _ (fun i10 s10 e_ w_=>Zt e_ [(0,u0_0),(1,.func (.func g1) #[] (ZMl cp1)),(7,vI (a0.length:Int)),(8,vI (i10:Int))]∧Ctx Nox w0 w_ [] [ZMm TInts a0 [u0_0] fp0]) a0.length ?_ ?_ (s0:=()) ?_ h
 ·clear hC h
  rintro i10 s10 e_ w10 nx10 K10 hi10 ⟨hS_,hC⟩ h hK10
  rw [ue hS_]
  refine sr (Zn rfl rfl (dn (ZMn (Yc rfl (decide_eq_true (by omega)) (ZMr (Zd (ZMn (ZMt (sr (Za (v:=vI (i10:Int)) rfl (Zc (v:=vI (i10:Int)) rfl (dn (sr (Za (v:=.func (.func g1) #[] (ZMl cp1)) rfl (Za (v:=u0_0) rfl (Za (v:=vI (i10:Int)) rfl ?_))))))))))))))))
  obtain ⟨Ad10,c10,hv10⟩:=Zw (hC.getP 0 rfl) i10 hi10
  refine Yo (len:=a0.length) ZM6 sc2.size (tr rfl hv10) rfl (ZM3 _) (ZNl.2 hi10) (Yl (vI (a0.getD i10 ZEx)) (Ye (hC.getP 0 rfl) hv10 i10 hi10) sc2 rfl ?_)
  refine Zle [vI (a0.getD i10 ZEx)] _ rfl hf1 hb1 hn1 rfl (hp1 _ _ _ hC.below  h) (fun ret10 w11 hR10=>?_)
  obtain ⟨r10,rfl,h,hB10⟩:=hR10
  refine⟨_,rfl,?_⟩
  replace hC:=hC.grow hB10
  refine dn ?_
  refine Zp rfl (fun hb10=>?_) (fun hb10=>?_)
  ·replace h:=ift h (hb10)
   refine sr (Za (v:=vI (i10:Int)) rfl (Zc (v:=vI (i10:Int)) rfl (dn ?_)))
   refine ZMv (Z4 (Zk (Zk (Z4 (Zk ?_)))))
   exact Zi rfl (Ze rfl) ⟨(i10:Int),rfl,h,hC.below⟩ (.inl rfl)
  ·replace h:=Zj h (Xa hb10)
   refine ZMr (Zq (Zd (Zg (Zo rfl rfl (Za (v:=vI (ZHd.wrap ((i10:Int)+1))) rfl (done ?_))))))
   exact hK10 () _ _ ⟨(sl ⟨rfl,rfl,rfl,(tr rfl (congrArg _ (Z6 hi10 hN10))),trivial⟩),hC⟩ h
 ·clear hC h
  rintro s10 e_ w12 K10 ⟨hS_,hC⟩ h
  rw [ue hS_]
  refine sr (Zn rfl rfl (dn (ZMn (Z2 rfl (decide_eq_false (by omega)) ?_))))
  refine ZM1 (Zh (Zh (Zy ?_)))
  refine Zd (sr (Zc (v:=vI (-1)) rfl (dn (ZMv ?_))))
  exact Zi rfl (Ze rfl) ⟨(-1),rfl,h,hC.below⟩ (.inl rfl)
 ·skip
  exact⟨(slq rfl),hC⟩
def Zjb (a0:List Int) (p1:Int→(Bool→Prop)→Prop) (K:Bool→Prop):Prop :=
 Zd8 a0 p1 (fun r5=>K (decide (r5≥0)))
theorem Zwa (a0:List Int) (p1:Int→(Bool→Prop)→Prop)  {K:Bool→Prop} (h:Zjb a0 p1 K) (w0:World) (q0:ZO5.rep a0 [u0_0] fp0 w0) {g1:Nat} {cp1:List Value} {fn1:Func} (hf1:ZMq.funcs[g1]? = some fn1) (hb1:fn1.body.isNone=false) (hn1:(fn1.name == "runtime.NumGoroutine")=false) (hp1:∀ (y0:Int) (K_:Bool→Prop) (w_:World),Bel w0 w_→p1 y0 K_→Calls ZMq g1 (ZMl ([vI y0]++cp1)) w_ fun e w'=>∃ (z0:Bool),e=.returned (.bool z0)∧K_ z0∧Bel w_ w') :
  Calls ZMq 181 #[u0_0,.func (.func g1) #[] (ZMl cp1)] w0 fun e w'=>∃ (r0:Bool),
   e=.returned (.bool r0)∧K r0∧Bel w0 w':=by
 unfold Zjb at h
 refine cof Tryz.func181 rfl 9 Tryz.ntmps181 ?_
 have hC:=ZM8 (X:=Nox) w0 [ZMm TInts a0 [u0_0] fp0] (al1 q0)
 refine sr (Zc (v:=.bool false) rfl (dn (sr (Za (v:=u0_0) rfl (Za (v:=.func (.func g1) #[] (ZMl cp1)) rfl (Zf [u0_0,.func (.func g1) #[] (ZMl cp1)] _ Tryz.func185 rfl rfl rfl (Zpp a0 p1 h _ (hC.getP 0 rfl) hf1 hb1 hn1 (fun x0_ K_ w_ hb_=>hp1 x0_ K_ w_ (Zow hC.below hb_))) ?_))))))
 rintro _ w4 ⟨r5,rfl,h,hB6⟩
 refine rt ?_
 replace hC:=hC.grow hB6
 refine Zay rfl rfl (Zc (v:=.bool (decide (r5≥0))) rfl (dn (ZMv ?_)))
 exact Zi rfl (Ze rfl) ⟨decide (r5≥0),rfl,h,hC.below⟩ (.inl rfl)
def Zgu (a0:Int) (K:Bool→Prop):Prop :=
 Zd7 a0 1 12 (fun r4=>K (!r4))
theorem Zwb (a0:Int)  {K:Bool→Prop} (h:Zgu a0 K) (w0:World)  :
  Calls ZMq 190 #[vI a0] w0 fun e w'=>∃ (r0:Bool),
   e=.returned (.bool r0)∧K r0∧Bel w0 w':=by
 unfold Zgu at h
 refine cof Tryz.func190 rfl 6 Tryz.ntmps190 ?_
 have hC:=ZM8 (X:=Nox) w0 [] (by simp)
 refine sr (Zc (v:=.bool false) rfl (dn (sr (Za (v:=vI a0) rfl (Zf [vI a0,vI 1,vI 12] _ Tryz.func46 rfl rfl rfl (Zl2 a0 1 12 h _) ?_)))))
 rintro _ w3 ⟨r4,rfl,h,hB5⟩
 refine rt ?_
 replace hC:=hC.grow hB5
 refine Xu rfl (Zc (v:=.bool (!r4)) rfl (dn (ZMv ?_)))
 exact Zi rfl (Ze rfl) ⟨!r4,rfl,h,hC.below⟩ (.inl rfl)
def Zgv (a0:List Int) (K:Bool→Prop):Prop :=
 (if(a0.length:Int)≤8 then Zjb a0 Zgu (fun r9=>K (!r9)) else K false)
theorem Zwc (a0:List Int)  {K:Bool→Prop} (h:Zgv a0 K) (w0:World) (q0:ZO5.rep a0 [u0_0] fp0 w0) :
  Calls ZMq 151 #[u0_0] w0 fun e w'=>∃ (r0:Bool),
   e=.returned (.bool r0)∧K r0∧Bel w0 w':=by
 unfold Zgv at h
 refine cof Tryz.func151 rfl 11 Tryz.ntmps151 ?_
 have hC:=ZM8 (X:=Nox) w0 [ZMm TInts a0 [u0_0] fp0] (al1 q0)
 refine sr (Zc (v:=.bool false) rfl (dn (sr (Za (v:=u0_0) rfl (Zv hC 0 rfl ZM6 rfl (Zbt rfl rfl (Za (v:=.bool (decide ((a0.length:Int)≤8))) rfl ?_)))))))
 refine Y5 (decide ((a0.length:Int)≤8)) (fun hb5=>?_) (fun hb5=>?_)
 ·replace h:=ift h (ct hb5)
  refine Zl 3 6 rfl rfl hb5 (Za (v:=u0_0) rfl (Zl 3 6 rfl rfl hb5 (Zf [u0_0,.func (.func 190) #[] (ZMl [])] _ Tryz.func181 rfl rfl rfl (Zwa a0 Zgu h _ (hC.getP 0 rfl) Tryz.func190 rfl rfl (fun x0_ K_ w_ _ hq_=>Zwb x0_ hq_ w_)) ?_)))
  rintro _ w8 ⟨r9,rfl,h,hB10⟩
  refine rt ?_
  replace hC:=hC.grow hB10
  refine Zl 3 6 rfl rfl hb5 (Xu rfl (Z3 (v:=.bool (!r9)) (b:=true) (tr rfl (congrArg _ hb5)) rfl (Zc (v:=.bool (!r9)) rfl (dn (ZMv ?_)))))
  exact Zi rfl (Ze rfl) ⟨!r9,rfl,h,hC.below⟩ (.inl rfl)
 ·replace h:=Zj h (cf hb5)
  refine Zm (b:=false) 3 6 rfl (tr rfl (congrArg _ hb5)) (by decide) (Zm (b:=false) 3 6 rfl (tr rfl (congrArg _ hb5)) (by decide) (Zm (b:=false) 3 6 rfl (tr rfl (congrArg _ hb5)) (by decide) (Z3 (v:=.bool false) (b:=false) (tr rfl (congrArg _ hb5)) rfl (Zc (v:=.bool false) rfl (dn (ZMv ?_))))))
  exact Zi rfl (Ze rfl) ⟨false,rfl,h,hC.below⟩ (.inl rfl)
def Zgw (a0:List Int) (a1:A8) (K:Bool→Prop):Prop :=
 Yb (fun i10 (s10:Unit) nx10=>(if(i10:Int) < (a0.length:Int) then((0≤(i10:Int)∧(i10:Int) < (a0.length:Int))∧(if ZFo (a0.getD i10 ZEx) 2=1 then(if a1.get i10 > 1 then K false else nx10 ()) else(if a1.get i10 > 20 then K false else nx10 ()))) else(if a1.get i10 > 0 then K false else nx10 ()))) (fun (s10:Unit)=>K true) 8 0 ()
theorem Zwd (a0:List Int) (a1:A8)  {K:Bool→Prop} (h:Zgw a0 a1 K) (w0:World) (q0:ZO5.rep a0 [u0_0] fp0 w0) :
  Calls ZMq 156 #[u0_0,.agg (ZMl (ZMk .u8 a1))] w0 fun e w'=>∃ (r0:Bool),
   e=.returned (.bool r0)∧K r0∧Bel w0 w':=by
 unfold Zgw at h
 refine cof Tryz.func156 rfl 27 Tryz.ntmps156 ?_
 have hC:=ZM8 (X:=Nox) w0 [ZMm TInts a0 [u0_0] fp0] (al1 q0)
 refine sr (Yg (v:=.agg (ZMl (ZMk .u8 a1))) hC (ZMk .u8 a1) rfl rfl fun b2 w4 hB_ hC=>Zc (v:=.bool false) rfl (dn (ZMn (sr (Yp hC 0 (ZMk .u8 a1) rfl ag136 rfl rfl rfl (Za (v:=vI 0) rfl (dn (ZMt ?_))))))))
 refine Yn (S:=Unit) _ _ (fun i10 s10 e_ w_=>Zt e_ [(0,u0_0),(8,.agg (ZMl (ZMk .u8 a1))),(9,vI (i10:Int))]∧Ctx Nox w0 w_ [] [ZMm TInts a0 [u0_0] fp0]) 8 ?_ ?_ (s0:=()) ?_ h
 ·clear hC h
  rintro i10 s10 e_ w10 nx10 K10 hi10 ⟨hS_,hC⟩ h hK10
  rw [ue hS_]
  refine sr (Zn rfl rfl (dn (ZMn (Yc rfl (decide_eq_true (by omega)) (ZMr (Zd (ZMn (ZMt (sr (Za (v:=vI (i10:Int)) rfl (Zk3 (.int .u8 (a1.get i10)) ZM5 rfl rfl (ZM3 _) (by omega) sc5 (ZM0 _ _ hi10) (Zc (v:=vI (i10:Int)) rfl (Zc (v:=.int .u8 (a1.get i10)) rfl (dn (sr (Zc (v:=.int .u8 0) rfl (dn (ZMn (sr (Za (v:=vI (i10:Int)) rfl (Za (v:=u0_0) rfl (Zv hC 0 rfl ZM6 rfl (Zn rfl rfl (dn ?_))))))))))))))))))))))))
  refine Zp rfl (fun hb10=>?_) (fun hb10=>?_)
  ·replace h:=ift h (ct hb10)
   refine sr (Zc (v:=.int .u8 20) rfl (dn (sr (Za (v:=u0_0) rfl (Za (v:=vI (i10:Int)) rfl ?_)))))
   obtain ⟨⟨h10,h11⟩,h⟩:=h
   obtain ⟨Ad10,c10,hv10⟩:=Zw (hC.getP 0 rfl) i10 (show i10 < a0.length by omega)
   refine Yo (len:=a0.length) ZM6 sc2.size (tr rfl hv10) rfl h10 h11 (Yl (vI (a0.getD i10 ZEx)) (Ye (hC.getP 0 rfl) hv10 i10 (show i10 < a0.length by omega)) sc2 rfl (Xr rfl rfl (by decide) (Jg rfl rfl (dn ?_))))
   refine Zp rfl (fun hb11=>?_) (fun hb11=>?_)
   ·replace h:=ift h (ct hb11)
    refine Zg (Zc (v:=.int .u8 1) rfl (dn (sr (Za (v:=.int .u8 (a1.get i10)) rfl (Za (v:=.int .u8 1) rfl (Jh rfl rfl (dn ?_)))))))
    refine Zp rfl (fun hb12=>?_) (fun hb12=>?_)
    ·replace h:=ift h (ct hb12)
     refine sr (Zc (v:=.bool false) rfl (dn ?_))
     refine ZMv (Z4 (Zk (Zk (Z4 (Zk ?_)))))
     exact Zi rfl (Ze rfl) ⟨false,rfl,h,hC.below⟩ (.inl rfl)
    ·replace h:=Zj h (cf hb12)
     refine ZMr (Zq (Zd (Zg (Zo rfl rfl (Za (v:=vI (ZHd.wrap ((i10:Int)+1))) rfl (done ?_))))))
     exact hK10 () _ _ ⟨(sl ⟨rfl,rfl,(tr rfl (congrArg _ (Z6 hi10 (by decide)))),trivial⟩),hC⟩ h
   ·replace h:=Zj h (cf hb11)
    refine ZMr (Zd (sr (Za (v:=.int .u8 (a1.get i10)) rfl (Za (v:=.int .u8 20) rfl (Jh rfl rfl (dn ?_))))))
    refine Zp rfl (fun hb13=>?_) (fun hb13=>?_)
    ·replace h:=ift h (ct hb13)
     refine sr (Zc (v:=.bool false) rfl (dn ?_))
     refine ZMv (Z4 (Zk (Zk (Z4 (Zk ?_)))))
     exact Zi rfl (Ze rfl) ⟨false,rfl,h,hC.below⟩ (.inl rfl)
    ·replace h:=Zj h (cf hb13)
     refine ZMr (Zq (Zd (Zg (Zo rfl rfl (Za (v:=vI (ZHd.wrap ((i10:Int)+1))) rfl (done ?_))))))
     exact hK10 () _ _ ⟨(sl ⟨rfl,rfl,(tr rfl (congrArg _ (Z6 hi10 (by decide)))),trivial⟩),hC⟩ h
  ·replace h:=Zj h (cf hb10)
   refine ZMr (Zd (sr (Za (v:=.int .u8 (a1.get i10)) rfl (Za (v:=.int .u8 0) rfl (Jh rfl rfl (dn ?_))))))
   refine Zp rfl (fun hb14=>?_) (fun hb14=>?_)
   ·replace h:=ift h (ct hb14)
    refine sr (Zc (v:=.bool false) rfl (dn ?_))
    refine ZMv (Z4 (Zk (Zk (Z4 (Zk ?_)))))
    exact Zi rfl (Ze rfl) ⟨false,rfl,h,hC.below⟩ (.inl rfl)
   ·replace h:=Zj h (cf hb14)
    refine ZMr (Zq (Zd (Zg (Zo rfl rfl (Za (v:=vI (ZHd.wrap ((i10:Int)+1))) rfl (done ?_))))))
    exact hK10 () _ _ ⟨(sl ⟨rfl,rfl,(tr rfl (congrArg _ (Z6 hi10 (by decide)))),trivial⟩),hC⟩ h
 ·clear hC h
  rintro s10 e_ w11 K10 ⟨hS_,hC⟩ h
  rw [ue hS_]
  refine sr (Zn rfl rfl (dn (ZMn (Z2 rfl (decide_eq_false (by omega)) ?_))))
  refine ZM1 (Zh (Zh (Zy ?_)))
  refine Zd (sr (Zc (v:=.bool true) rfl (dn (ZMv ?_))))
  exact Zi rfl (Ze rfl) ⟨true,rfl,h,hC.below⟩ (.inl rfl)
 ·skip
  exact⟨(slq rfl),(hC.xM [] rfl)⟩
def Zjc (a0:Int) (K:Bool→Prop):Prop :=
 Zd7 a0 1 10006 (fun r4=>K r4)
theorem Zwe (a0:Int)  {K:Bool→Prop} (h:Zjc a0 K) (w0:World)  :
  Calls ZMq 157 #[vI a0] w0 fun e w'=>∃ (r0:Bool),
   e=.returned (.bool r0)∧K r0∧Bel w0 w':=by
 unfold Zjc at h
 refine cof Tryz.func157 rfl 5 Tryz.ntmps157 ?_
 have hC:=ZM8 (X:=Nox) w0 [] (by simp)
 refine sr (Zc (v:=.bool false) rfl (dn (sr (Za (v:=vI a0) rfl (Zf [vI a0,vI 1,vI 10006] _ Tryz.func46 rfl rfl rfl (Zl2 a0 1 10006 h _) ?_)))))
 rintro _ w3 ⟨r4,rfl,h,hB5⟩
 refine rt ?_
 replace hC:=hC.grow hB5
 refine Zc (v:=.bool r4) rfl (dn (ZMv ?_))
 exact Zi rfl (Ze rfl) ⟨r4,rfl,h,hC.below⟩ (.inl rfl)
def Zfb (a0:List Int) (a1:ZMp) (K:Bool→Prop):Prop :=
 (if(a1.terms.length:Int) > 400 then K false else Yb (fun i10 (s10:Unit) nx10=>Zgw a0 ((a1.terms.getD i10 ZEx).mono) (fun r10=>(if¬ (r10=true) then K false else Zjc ((a1.terms.getD i10 ZEx).factor) (fun r13=>(if¬ (r13=true) then K false else(if(i10:Int) > 0 then((0≤ZHd.wrap ((i10:Int) - 1)∧ZHd.wrap ((i10:Int) - 1) < (a1.terms.length:Int))∧Zdf ((a1.terms.getD ((ZHd.wrap ((i10:Int) - 1)).toNat) ZEx).mono) (fun r11=>Zdf ((a1.terms.getD i10 ZEx).mono) (fun r12=>Zja r11 r12 (fun r14=>(if r14≥0 then K false else nx10 ()))))) else nx10 ())))))) (fun (s10:Unit)=>K true) a1.terms.length 0 ())
theorem Zpq (a0:List Int) (a1:ZMp)  {K:Bool→Prop} (h:Zfb a0 a1 K) (w0:World) (q0:ZO5.rep a0 [u0_0] fp0 w0) (q1:ZM9.rep a1 [u1_0] fp1 w0) :
  Calls ZMq 99 #[u0_0,.agg #[u1_0]] w0 fun e w'=>∃ (r0:Bool),
   e=.returned (.bool r0)∧K r0∧Bel w0 w':=by
 unfold Zfb at h
 refine cof Tryz.func99 rfl 48 Tryz.ntmps99 ?_
 have hC:=ZM8 (X:=Nox) w0 [ZMm TInts a0 [u0_0] fp0,ZMm TForm a1 [u1_0] fp1] (alc q0 (al1 q1))
 have hp3:=(hC.getP 1 rfl)
 replace hC:=hC.derive 1 rfl (ZMm ZMo.ty.sl a1.terms [u1_0] fp1) (fun _=>(Xi hp3)) (fun _ hb_=>hb_)
 refine sr (Yg (v:=.agg #[u1_0]) hC [u1_0] rfl rfl fun b5 w7 hB_ hC=>Zc (v:=.bool false) rfl (dn (ZMn (sr (Zu 0 ZMu rfl sc53.size rfl rfl (Z5 hC 0 (u1_0) rfl sc53 rfl rfl (Zv hC 0 rfl ZMx rfl (Jh rfl rfl (dn ?_)))))))))
 refine Zp rfl (fun hb12=>?_) (fun hb12=>?_)
 ·replace h:=ift h (ct hb12)
  refine sr (Zc (v:=.bool false) rfl (dn ?_))
  refine ZMv (Zk ?_)
  exact Zi rfl (Ze rfl) ⟨false,rfl,h,hC.below⟩ (.inl rfl)
 ·replace h:=Zj h (cf hb12)
  refine ZMr (Zd (ZMn (sr (Zu 0 ZMu rfl sc53.size rfl rfl (Z5 hC 0 (u1_0) rfl sc53 rfl rfl (Zv hC 0 rfl ZMx rfl (Za (v:=vI 0) rfl (dn (ZMt ?_)))))))))
  have hN10:a1.terms.length≤9223372036854775807:=Yx (hC.getP 0 rfl)
  refine Yn (S:=Unit) _ _ (fun i10 s10 e_ w_=>Zt e_ [(0,u0_0),(3,vQ b5),(12,u1_0),(13,vI (a1.terms.length:Int)),(14,vI (i10:Int))]∧Ctx Nox w0 w_ [blk b5 55 [u1_0]] [ZMm ZMo.ty.sl a1.terms [u1_0] fp1,ZMm TInts a0 [u0_0] fp0,ZMm TForm a1 [u1_0] fp1]) a1.terms.length ?_ ?_ (s0:=()) ?_ h
  ·clear hC h
   rintro i10 s10 e_ w10 nx10 K10 hi10 ⟨hS_,hC⟩ h hK10
   rw [ue hS_]
   refine sr (Zn rfl rfl (dn (ZMn (Yc rfl (decide_eq_true (by omega)) (ZMr (Zd (ZMn (ZMt (sr (Za (v:=vI (i10:Int)) rfl ?_))))))))))
   obtain ⟨Ad11,c10,hv10⟩:=Zw (hC.getP 0 rfl) i10 hi10
   refine Yo (len:=a1.terms.length) ZMx ag162.size (tr rfl hv10) rfl (ZM3 _) (ZNl.2 hi10) (Zak (ZMy (a1.terms.getD i10 ZEx)) (Ye (hC.getP 0 rfl) hv10 i10 hi10) ag162 rfl rfl (Yk hC (ZMy (⟨ZMs,0⟩:Term)) Ze8 rfl fun b10 w11 hB_ hC=>Zc (v:=vI (i10:Int)) rfl (Zx (v:=.agg (ZMl (ZMy (a1.terms.getD i10 ZEx)))) hC 0 (ZMy (a1.terms.getD i10 ZEx)) (ZMy (a1.terms.getD i10 ZEx)) rfl ag162.size rfl rfl rfl rfl rfl (ZMw rfl) rfl fun w12 hC=>dn (ZMn (sr (Za (v:=u0_0) rfl (Zu 0 ZM2 rfl ag136.size rfl rfl (Yp hC 0 (ZMk .u8 ((a1.terms.getD i10 ZEx).mono)) rfl ag136 rfl rfl rfl (Zf [u0_0,.agg (ZMl (ZMk .u8 ((a1.terms.getD i10 ZEx).mono)))] _ Tryz.func156 rfl rfl rfl (Zwd a0 ((a1.terms.getD i10 ZEx).mono) h _ (hC.getP 1 rfl)) ?_)))))))))
   rintro _ w13 ⟨r10,rfl,h,hB10⟩
   refine rt ?_
   replace hC:=hC.grow hB10
   refine Xu rfl (Za (v:=.bool (!r10)) rfl ?_)
   refine Y5 (!r10) (fun hb11=>?_) (fun hb11=>?_)
   ·replace h:=ift h (Xa (X3 hb11))
    refine Zm (b:=true) 5 24 rfl (tr rfl (congrArg _ hb11)) (by decide) (Zm (b:=true) 5 24 rfl (tr rfl (congrArg _ hb11)) (by decide) (Zm (b:=true) 5 24 rfl (tr rfl (congrArg _ hb11)) (by decide) (Zm (b:=true) 5 24 rfl (tr rfl (congrArg _ hb11)) (by decide) (Z3 (v:=.bool true) (b:=true) (tr rfl (congrArg _ hb11)) rfl (dn (Yc rfl rfl (sr (Zc (v:=.bool false) rfl (dn ?_)))))))))
    refine ZMv (Zk (Z4 (Zk (Zk (Z4 (Zk ?_))))))
    exact Zi rfl (Ze rfl) ⟨false,rfl,h,hC.below⟩ (.inl rfl)
   ·replace h:=Zj h (not_not_intro ((X4 hb11)))
    refine Zl 5 24 rfl rfl hb11 (Zu 8 ZM2 rfl sc2.size rfl rfl (Zl 5 24 rfl rfl hb11 (Z5 hC 0 (vI ((a1.terms.getD i10 ZEx).factor)) rfl sc2 rfl rfl (Zl 5 24 rfl rfl hb11 (Zf [vI ((a1.terms.getD i10 ZEx).factor)] _ Tryz.func157 rfl rfl rfl (Zwe ((a1.terms.getD i10 ZEx).factor) h _) ?_)))))
    rintro _ w14 ⟨r13,rfl,h,hB11⟩
    refine rt ?_
    replace hC:=hC.grow hB11
    refine Zl 5 24 rfl rfl hb11 (Xu rfl (Z3 (v:=.bool (!r13)) (b:=false) (tr rfl (congrArg _ hb11)) rfl (dn ?_)))
    refine Zp rfl (fun hb13=>?_) (fun hb13=>?_)
    ·replace h:=ift h (Xa (X3 hb13))
     refine sr (Zc (v:=.bool false) rfl (dn ?_))
     refine ZMv (Zk (Z4 (Zk (Zk (Z4 (Zk ?_))))))
     exact Zi rfl (Ze rfl) ⟨false,rfl,h,hC.below⟩ (.inl rfl)
    ·replace h:=Zj h (not_not_intro ((X4 hb13)))
     refine ZMr (Zd (ZMn ?_))
     refine cwd 13 Yi [0,1,3,7,15,7,39,127,255,511,1023,7,2055,8191,16383,32767,65535] [4,7,9,12] [0,1,2,3,4,5,6,7,8,9,10,11,12] (fun hM11 hM10 w15 hB_=>?_)
     replace hC:=hC.grow hB_
     refine bM 0 (vI (i10:Int)) rfl hM10 (Zb 17 1) (bF 1 (.bool (decide ((i10:Int) > 0))) rfl rfl hM10 (fun _=>by exact Zoj rfl rfl) (Zb 17 3) (bM 2 (.bool (decide ((i10:Int) > 0))) rfl hM10 (Zb 17 7) ?_))
     refine Y5 (decide ((i10:Int) > 0)) (fun hb10=>?_) (fun hb10=>?_)
     ·replace h:=ift h (ct hb10)
      refine aF 3 (vQ b5) rfl rfl (hM10 3 rfl) (Yd 2 32 rfl rfl hb10) (fun _=>by exact Yf 0 ZMu rfl sc53.size rfl rfl) (Zb 17 15) (aL 4 (u1_0) rfl rfl (hM11 4 rfl) (Yd 2 32 rfl rfl hb10) (fun _ hB_=>by exact Ya (hC.grow hB_) 1 (u1_0) rfl sc53 rfl rfl) (Zb 17 31) (aF 5 (vI (i10:Int)) rfl rfl (hM10 5 rfl) (Yd 2 32 rfl rfl hb10) (fun _=>by exact Zaj (v:=vI (i10:Int)) rfl) (Zb 17 63) (aF 6 (vI (ZHd.wrap ((i10:Int) - 1))) rfl rfl (hM10 6 rfl) (Yd 2 32 rfl rfl hb10) (fun _=>by exact Zf3 rfl rfl) (Zb 17 127) ?_)))
      obtain ⟨⟨h10,h11⟩,h⟩:=h
      obtain ⟨Ad10,c11,hv11⟩:=Zw (hC.getP 0 rfl) ((ZHd.wrap ((i10:Int) - 1)).toNat) (show (ZHd.wrap ((i10:Int) - 1)).toNat < a1.terms.length by omega)
      refine aL 7 (.pointer (some (Ad10.add ((ZHd.wrap ((i10:Int) - 1)).toNat * 9)))) rfl rfl (hM11 7 rfl) (Yd 2 32 rfl rfl hb10) (fun _ hB_=>by exact Yq (len:=a1.terms.length) ZMx ag162.size (by exact tr rfl hv11) rfl h10 h11) (Zb 17 255) (aF 8 (.pointer (some (Ad10.add ((ZHd.wrap ((i10:Int) - 1)).toNat * 9+0)))) rfl rfl (hM10 8 rfl) (Yd 2 32 rfl rfl hb10) (fun _=>by exact Zao ((ZHd.wrap ((i10:Int) - 1)).toNat * 9+0) ZM2 rfl ag136.size rfl rfl) (Zb 17 511) (aL 9 (.agg (ZMl (ZMk .u8 ((a1.terms.getD ((ZHd.wrap ((i10:Int) - 1)).toNat) ZEx).mono)))) rfl rfl (hM11 9 rfl) (Yd 2 32 rfl rfl hb10) (fun _ hB_=>by exact Ji (ZMk .u8 ((a1.terms.getD ((ZHd.wrap ((i10:Int) - 1)).toNat) ZEx).mono)) (Jt (o:=0) (k:=8) (Ye ((hC.grow hB_).getP 0 rfl) hv11 ((ZHd.wrap ((i10:Int) - 1)).toNat) (show (ZHd.wrap ((i10:Int) - 1)).toNat < a1.terms.length by omega)) rfl) ag136 rfl rfl) (Zb 17 1023) (aF 11 (vQ b10) rfl rfl (hM10 11 rfl) (Yd 2 32 rfl rfl hb10) (fun _=>by exact Yf 0 ZM2 rfl ag136.size rfl rfl) (Zb 17 3071) (aL 12 (.agg (ZMl (ZMk .u8 ((a1.terms.getD i10 ZEx).mono)))) rfl rfl (hM11 12 rfl) (Yd 2 32 rfl rfl hb10) (fun _ hB_=>by exact Xf (hC.grow hB_) 0 (ZMk .u8 ((a1.terms.getD i10 ZEx).mono)) rfl ag136 rfl rfl rfl) (Zb 17 7167) (aO 10 rfl (Zl 2 32 rfl rfl hb10 (Zf [.agg (ZMl (ZMk .u8 ((a1.terms.getD ((ZHd.wrap ((i10:Int) - 1)).toNat) ZEx).mono)))] _ ZPk rfl rfl rfl (Zi9 ((a1.terms.getD ((ZHd.wrap ((i10:Int) - 1)).toNat) ZEx).mono) h _) ?_)))))))
      rintro _ w16 ⟨r11,rfl,h,hB12⟩
      refine rt ?_
      replace hC:=hC.grow hB12
      refine done (aK (by assumption) (Zb 17 8191) (Zz 13 (by decide) (by decide) (by kernel_rfl) (by kernel_rfl) rfl (Zl 2 32 rfl rfl hb10 (Zf [.agg (ZMl (ZMk .u8 ((a1.terms.getD i10 ZEx).mono)))] _ ZPk rfl rfl rfl (Zi9 ((a1.terms.getD i10 ZEx).mono) h _) ?_))))
      rintro _ w17 ⟨r12,rfl,h,hB13⟩
      refine rt ?_
      replace hC:=hC.grow hB13
      refine Zl 2 32 rfl rfl hb10 (Zf [.agg (ZMl (ZMk .i64 r11)),.agg (ZMl (ZMk .i64 r12))] _ Tryz.func158 rfl rfl rfl (Zv8 r11 r12 h _) ?_)
      rintro _ w18 ⟨r14,rfl,h,hB14⟩
      refine rt ?_
      replace hC:=hC.grow hB14
      refine Zl 2 32 rfl rfl hb10 (Zay rfl rfl (Z3 (v:=.bool (decide (r14≥0))) (b:=true) (tr rfl (congrArg _ hb10)) rfl (done (Z0 (Zd ?_)))))
      refine Zp rfl (fun hb14=>?_) (fun hb14=>?_)
      ·replace h:=ift h (ct hb14)
       refine sr (Zc (v:=.bool false) rfl (dn ?_))
       refine ZMv (Z4 (Zk (Zk (Z4 (Zk ?_)))))
       exact Zi rfl (Ze rfl) ⟨false,rfl,h,hC.below⟩ (.inl rfl)
      ·replace h:=Zj h (cf hb14)
       refine ZMr (Zq (Zd (Zg (Zo rfl rfl (Za (v:=vI (ZHd.wrap ((i10:Int)+1))) rfl (done ?_))))))
       exact hK10 () _ _ ⟨(sl ⟨rfl,rfl,rfl,rfl,(tr rfl (congrArg _ (Z6 hi10 hN10))),trivial⟩),(hC.xM [1] rfl)⟩ h
     ·replace h:=Zj h (cf hb10)
      refine Zr Zs 3 undef rfl rfl (by kernel_rfl) (hM10 3 rfl) (fun w_=>.inr ⟨Z8 (b:=false) 2 32 rfl (tr rfl (congrArg _ hb10)) (by decide),rfl⟩) (l9:=(Zb 17 15)) (by kernel_rfl) (Zr Zs 4 undef rfl rfl (by kernel_rfl) (hM10 4 rfl) (fun w_=>.inr ⟨Z8 (b:=false) 2 32 rfl (tr rfl (congrArg _ hb10)) (by decide),rfl⟩) (l9:=(Zb 17 31)) (by kernel_rfl) (Zr Zs 5 undef rfl rfl (by kernel_rfl) (hM10 5 rfl) (fun w_=>.inr ⟨Z8 (b:=false) 2 32 rfl (tr rfl (congrArg _ hb10)) (by decide),rfl⟩) (l9:=(Zb 17 63)) (by kernel_rfl) (Zr Zs 6 undef rfl rfl (by kernel_rfl) (hM10 6 rfl) (fun w_=>.inr ⟨Z8 (b:=false) 2 32 rfl (tr rfl (congrArg _ hb10)) (by decide),rfl⟩) (l9:=(Zb 17 127)) (by kernel_rfl) (Zr Zs 7 undef rfl rfl (by kernel_rfl) (hM10 7 rfl) (fun w_=>.inr ⟨Z8 (b:=false) 2 32 rfl (tr rfl (congrArg _ hb10)) (by decide),rfl⟩) (l9:=(Zb 17 255)) (by kernel_rfl) (Zr Zs 8 undef rfl rfl (by kernel_rfl) (hM10 8 rfl) (fun w_=>.inr ⟨Z8 (b:=false) 2 32 rfl (tr rfl (congrArg _ hb10)) (by decide),rfl⟩) (l9:=(Zb 17 511)) (by kernel_rfl) (Zr Zs 9 undef rfl rfl (by kernel_rfl) (hM10 9 rfl) (fun w_=>.inr ⟨Z8 (b:=false) 2 32 rfl (tr rfl (congrArg _ hb10)) (by decide),rfl⟩) (l9:=(Zb 17 1023)) (by kernel_rfl) (Zr Zs 10 undef rfl rfl (by kernel_rfl) (hM10 10 rfl) (fun w_=>.inr ⟨Z8 (b:=false) 2 32 rfl (tr rfl (congrArg _ hb10)) (by decide),rfl⟩) (l9:=(Zb 17 2047)) (by kernel_rfl) (Zr Zs 11 undef rfl rfl (by kernel_rfl) (hM10 11 rfl) (fun w_=>.inr ⟨Z8 (b:=false) 2 32 rfl (tr rfl (congrArg _ hb10)) (by decide),rfl⟩) (l9:=(Zb 17 4095)) (by kernel_rfl) (Zr Zs 12 undef rfl rfl (by kernel_rfl) (hM10 12 rfl) (fun w_=>.inr ⟨Z8 (b:=false) 2 32 rfl (tr rfl (congrArg _ hb10)) (by decide),rfl⟩) (l9:=(Zb 17 8191)) (by kernel_rfl) (Zz 13 (by decide) (by decide) (by kernel_rfl) (by kernel_rfl) rfl (Zm (b:=false) 2 32 rfl (tr rfl (congrArg _ hb10)) (by decide) (Zm (b:=false) 2 32 rfl (tr rfl (congrArg _ hb10)) (by decide) (Zm (b:=false) 2 32 rfl (tr rfl (congrArg _ hb10)) (by decide) (Z3 (v:=.bool false) (b:=false) (tr rfl (congrArg _ hb10)) rfl (done (Z0 (Zd (Z2 rfl rfl (ZMr (Zq (Zd (Zg (Zo rfl rfl (Za (v:=vI (ZHd.wrap ((i10:Int)+1))) rfl (done ?_)))))))))))))))))))))))))
      exact hK10 () _ _ ⟨(sl ⟨rfl,rfl,rfl,rfl,(tr rfl (congrArg _ (Z6 hi10 hN10))),trivial⟩),(hC.xM [1] rfl)⟩ h
  ·clear hC h
   rintro s10 e_ w19 K10 ⟨hS_,hC⟩ h
   rw [ue hS_]
   refine sr (Zn rfl rfl (dn (ZMn (Z2 rfl (decide_eq_false (by omega)) ?_))))
   refine ZM1 (Zh (Zh (Zy ?_)))
   refine Zd (sr (Zc (v:=.bool true) rfl (dn (ZMv ?_))))
   exact Zi rfl (Ze rfl) ⟨true,rfl,h,hC.below⟩ (.inl rfl)
  ·skip
   exact⟨(slq rfl),hC⟩
def Zgx (a0:A8) (a1:List Int) (K:Int→Prop):Prop :=
 Yb (fun i10 (s10:Int) nx10=>((0≤(i10:Int)∧(i10:Int) < 8)∧nx10 (ZHd.wrap (s10+(ZHd.wrap ((a1.getD i10 ZEx) * (a0.get i10))))))) (fun (s10:Int)=>K s10) a1.length 0 0
theorem Zwf (a0:A8) (a1:List Int)  {K:Int→Prop} (h:Zgx a0 a1 K) (w0:World) (q1:ZO5.rep a1 [u1_0] fp1 w0) :
  Calls ZMq 183 #[.agg (ZMl (ZMk .i64 a0)),u1_0] w0 fun e w'=>∃ (r0:Int),
   e=.returned (vI r0)∧K r0∧Bel w0 w':=by
 unfold Zgx at h
 refine cof Tryz.func183 rfl 24 Tryz.ntmps183 ?_
 have hC:=ZM8 (X:=Nox) w0 [ZMm TInts a1 [u1_0] fp1] (al1 q1)
 refine sr (Yg (v:=.agg (ZMl (ZMk .i64 a0))) hC (ZMk .i64 a0) rfl rfl fun b2 w4 hB_ hC=>Zc (v:=vI 0) rfl (dn (sr (Zc (v:=vI 0) rfl (dn (ZMn (sr (Za (v:=u1_0) rfl (Zv hC 0 rfl ZM6 rfl (Za (v:=vI 0) rfl (dn (ZMt ?_))))))))))))
 have hN10:a1.length≤9223372036854775807:=Yx (hC.getP 0 rfl)
 refine Yn (S:=Int) _ _ (fun i10 s10 e_ w_=>Zt e_ [(2,vQ b2),(5,vI s10),(8,u1_0),(9,vI (a1.length:Int)),(10,vI (i10:Int))]∧Ctx Nox w0 w_ [blk b2 73 (ZMk .i64 a0)] [ZMm TInts a1 [u1_0] fp1]) a1.length ?_ ?_ (s0:=0) ?_ h
 ·clear hC h
  rintro i10 s10 e_ w10 nx10 K10 hi10 ⟨hS_,hC⟩ h hK10
  rw [ue hS_]
  refine sr (Zn rfl rfl (dn (ZMn (Yc rfl (decide_eq_true (by omega)) (ZMr (Zd (ZMn (ZMt (sr (Za (v:=vI (i10:Int)) rfl ?_))))))))))
  obtain ⟨Ad10,c10,hv10⟩:=Zw (hC.getP 0 rfl) i10 hi10
  refine Yo (len:=a1.length) ZM6 sc2.size (tr rfl hv10) rfl (ZM3 _) (ZNl.2 hi10) (Yl (vI (a1.getD i10 ZEx)) (Ye (hC.getP 0 rfl) hv10 i10 hi10) sc2 rfl (Zc (v:=vI (i10:Int)) rfl (Zc (v:=vI (a1.getD i10 ZEx)) rfl (dn (Zg (Za (v:=vI s10) rfl (Za (v:=vI (a1.getD i10 ZEx)) rfl (Za (v:=vI (i10:Int)) rfl ?_))))))))
  obtain ⟨⟨h10,h11⟩,h⟩:=h
  refine Xm i10 ZNa sc3.size rfl rfl h10 h11 (by omega) (Z5 hC 0 (vI (a0.get i10)) rfl sc3 rfl (ZM0 _ _ (show i10 < 8 by omega)) (Js rfl rfl (Zo rfl rfl (Zc (v:=vI (ZHd.wrap (s10+(ZHd.wrap ((a1.getD i10 ZEx) * (a0.get i10)))))) rfl (done (Zq (Zd (Zg (Zo rfl rfl (Za (v:=vI (ZHd.wrap ((i10:Int)+1))) rfl (done ?_)))))))))))
  exact hK10 (ZHd.wrap (s10+(ZHd.wrap ((a1.getD i10 ZEx) * (a0.get i10))))) _ _ ⟨(sl ⟨rfl,rfl,rfl,rfl,(tr rfl (congrArg _ (Z6 hi10 hN10))),trivial⟩),hC⟩ h
 ·clear hC h
  rintro s10 e_ w11 K10 ⟨hS_,hC⟩ h
  rw [ue hS_]
  refine sr (Zn rfl rfl (dn (ZMn (Z2 rfl (decide_eq_false (by omega)) ?_))))
  refine ZM1 (Zh (Zh (Zy ?_)))
  refine Zd (sr (Za (v:=vI s10) rfl (Zc (v:=vI s10) rfl (dn (ZMv ?_)))))
  exact Zi rfl (Ze rfl) ⟨s10,rfl,h,hC.below⟩ (.inl rfl)
 ·skip
  exact⟨(slq rfl),hC⟩
def Zgy (a0:List Int) (a1:ZMp) (K:Int→Bool→Prop):Prop :=
 Yb (fun i10 (s10:Int) nx10=>Zdf ((a1.terms.getD i10 ZEx).mono) (fun r11=>Zgx r11 a0 (fun r10=>(if s10≥0 then(if r10≠s10 then K 0 false else nx10 r10) else nx10 r10)))) (fun (s10:Int)=>K s10 true) a1.terms.length 0 (-1)
theorem Zwg (a0:List Int) (a1:ZMp)  {K:Int→Bool→Prop} (h:Zgy a0 a1 K) (w0:World) (q0:ZO5.rep a0 [u0_0] fp0 w0) (q1:ZM9.rep a1 [u1_0] fp1 w0) :
  Calls ZMq 132 #[u0_0,.agg #[u1_0]] w0 fun e w'=>∃ (r0:Int) (r1:Bool),
   e=.returned (.tuple #[vI r0,.bool r1])∧K r0 r1∧Bel w0 w':=by
 unfold Zgy at h
 refine cof Tryz.func132 rfl 32 Tryz.ntmps132 ?_
 have hC:=ZM8 (X:=Nox) w0 [ZMm TInts a0 [u0_0] fp0,ZMm TForm a1 [u1_0] fp1] (alc q0 (al1 q1))
 have hp3:=(hC.getP 1 rfl)
 replace hC:=hC.derive 1 rfl (ZMm ZMo.ty.sl a1.terms [u1_0] fp1) (fun _=>(Xi hp3)) (fun _ hb_=>hb_)
 refine sr (Yg (v:=.agg #[u1_0]) hC [u1_0] rfl rfl fun b5 w7 hB_ hC=>Zc (v:=vI 0) rfl (Zc (v:=.bool false) rfl (dn (sr (Zc (v:=vI (-1)) rfl (dn (ZMn (sr (Zu 0 ZMu rfl sc53.size rfl rfl (Z5 hC 0 (u1_0) rfl sc53 rfl rfl (Zv hC 0 rfl ZMx rfl (Za (v:=vI 0) rfl (dn (ZMt ?_))))))))))))))
 have hN10:a1.terms.length≤9223372036854775807:=Yx (hC.getP 0 rfl)
 refine Yn (S:=Int) _ _ (fun i10 s10 e_ w_=>Zt e_ [(0,u0_0),(6,vI s10),(11,u1_0),(12,vI (a1.terms.length:Int)),(13,vI (i10:Int))]∧Ctx Nox w0 w_ [] [ZMm ZMo.ty.sl a1.terms [u1_0] fp1,ZMm TInts a0 [u0_0] fp0,ZMm TForm a1 [u1_0] fp1]) a1.terms.length ?_ ?_ (s0:=(-1)) ?_ h
 ·clear hC h
  rintro i10 s10 e_ w10 nx10 K10 hi10 ⟨hS_,hC⟩ h hK10
  rw [ue hS_]
  refine sr (Zn rfl rfl (dn (ZMn (Yc rfl (decide_eq_true (by omega)) (ZMr (Zd (ZMn (ZMt (sr ?_)))))))))
  obtain ⟨Ad10,c10,hv10⟩:=Zw (hC.getP 0 rfl) i10 hi10
  refine Yo (len:=a1.terms.length) ZMx ag162.size (tr rfl hv10) rfl (ZM3 _) (ZNl.2 hi10) (Zak (ZMy (a1.terms.getD i10 ZEx)) (Ye (hC.getP 0 rfl) hv10 i10 hi10) ag162 rfl rfl (Yk hC (ZMy (⟨ZMs,0⟩:Term)) Ze8 rfl fun b10 w11 hB_ hC=>Zx (v:=.agg (ZMl (ZMy (a1.terms.getD i10 ZEx)))) hC 0 (ZMy (a1.terms.getD i10 ZEx)) (ZMy (a1.terms.getD i10 ZEx)) rfl ag162.size rfl rfl rfl rfl rfl (ZMw rfl) rfl fun w12 hC=>dn (sr (Zu 0 ZM2 rfl ag136.size rfl rfl (Yp hC 0 (ZMk .u8 ((a1.terms.getD i10 ZEx).mono)) rfl ag136 rfl rfl rfl (Zf [.agg (ZMl (ZMk .u8 ((a1.terms.getD i10 ZEx).mono)))] _ ZPk rfl rfl rfl (Zi9 ((a1.terms.getD i10 ZEx).mono) h _) ?_))))))
  rintro _ w13 ⟨r11,rfl,h,hB10⟩
  refine rt ?_
  replace hC:=hC.grow hB10
  refine Za (v:=u0_0) rfl (Zf [.agg (ZMl (ZMk .i64 r11)),u0_0] _ Tryz.func183 rfl rfl rfl (Zwf r11 a0 h _ (hC.getP 1 rfl)) ?_)
  rintro _ w14 ⟨r10,rfl,h,hB11⟩
  refine rt ?_
  replace hC:=hC.grow hB11
  refine Zc (v:=vI r10) rfl (dn (ZMn (sr (Za (v:=vI s10) rfl (Zay rfl rfl (Za (v:=.bool (decide (s10≥0))) rfl ?_))))))
  refine Y5 (decide (s10≥0)) (fun hb10=>?_) (fun hb10=>?_)
  ·replace h:=ift h (ct hb10)
   refine Zl 2 24 rfl rfl hb10 (Za (v:=vI r10) rfl (Zl 2 24 rfl rfl hb10 (Za (v:=vI s10) rfl (Zl 2 24 rfl rfl hb10 (Y2 rfl rfl (Z3 (v:=.bool (decide (r10≠s10))) (b:=true) (tr rfl (congrArg _ hb10)) rfl (dn ?_)))))))
   refine Zp rfl (fun hb11=>?_) (fun hb11=>?_)
   ·replace h:=ift h (ct hb11)
    refine sr (Zc (v:=vI 0) rfl (Zc (v:=.bool false) rfl (dn ?_)))
    refine ZMv (Zk (Z4 (Zk (Zk (Z4 (Zk ?_))))))
    exact Ja rfl (Ze rfl) (Ze rfl) ⟨0,false,rfl,h,hC.below⟩ (.inl rfl)
   ·replace h:=Zj h (cf hb11)
    refine ZMr (Zd (Zg (Za (v:=vI r10) rfl (Zc (v:=vI r10) rfl (done (Zq (Zd (Zg (Zo rfl rfl (Za (v:=vI (ZHd.wrap ((i10:Int)+1))) rfl (done ?_)))))))))))
    exact hK10 r10 _ _ ⟨(sl ⟨rfl,rfl,rfl,rfl,(tr rfl (congrArg _ (Z6 hi10 hN10))),trivial⟩),(hC.xM [] rfl)⟩ h
  ·replace h:=Zj h (cf hb10)
   refine Zm (b:=false) 2 24 rfl (tr rfl (congrArg _ hb10)) (by decide) (Zm (b:=false) 2 24 rfl (tr rfl (congrArg _ hb10)) (by decide) (Zm (b:=false) 2 24 rfl (tr rfl (congrArg _ hb10)) (by decide) (Z3 (v:=.bool false) (b:=false) (tr rfl (congrArg _ hb10)) rfl (dn (Z2 rfl rfl (ZMr (Zd (Zg (Za (v:=vI r10) rfl (Zc (v:=vI r10) rfl (done (Zq (Zd (Zg (Zo rfl rfl (Za (v:=vI (ZHd.wrap ((i10:Int)+1))) rfl (done ?_)))))))))))))))))
   exact hK10 r10 _ _ ⟨(sl ⟨rfl,rfl,rfl,rfl,(tr rfl (congrArg _ (Z6 hi10 hN10))),trivial⟩),(hC.xM [] rfl)⟩ h
 ·clear hC h
  rintro s10 e_ w15 K10 ⟨hS_,hC⟩ h
  rw [ue hS_]
  refine sr (Zn rfl rfl (dn (ZMn (Z2 rfl (decide_eq_false (by omega)) ?_))))
  refine ZM1 (Zh (Zh (Zy ?_)))
  refine Zd (sr (Za (v:=vI s10) rfl (Zc (v:=vI s10) rfl (Zc (v:=.bool true) rfl (dn (ZMv ?_))))))
  exact Ja rfl (Ze rfl) (Ze rfl) ⟨s10,true,rfl,h,hC.below⟩ (.inl rfl)
 ·skip
  exact⟨(slq rfl),(hC.xM [] rfl)⟩
def Zgz (a0:List Int) (a1:ZMp) (a2:Int) (K:Bool→Prop):Prop :=
 Zgy a0 a1 (fun r10 r11=>(if r11=true then(if r10=(-1) then K true else K (decide (r10=a2))) else K false))
theorem Zwh (a0:List Int) (a1:ZMp) (a2:Int)  {K:Bool→Prop} (h:Zgz a0 a1 a2 K) (w0:World) (q0:ZO5.rep a0 [u0_0] fp0 w0) (q1:ZM9.rep a1 [u1_0] fp1 w0) :
  Calls ZMq 152 #[u0_0,.agg #[u1_0],vI a2] w0 fun e w'=>∃ (r0:Bool),
   e=.returned (.bool r0)∧K r0∧Bel w0 w':=by
 unfold Zgz at h
 refine cof Tryz.func152 rfl 25 Tryz.ntmps152 ?_
 have hC:=ZM8 (X:=Nox) w0 [ZMm TInts a0 [u0_0] fp0,ZMm TForm a1 [u1_0] fp1] (alc q0 (al1 q1))
 have hp3:=(hC.getP 1 rfl)
 replace hC:=hC.derive 1 rfl (ZMm ZMo.ty.sl a1.terms [u1_0] fp1) (fun _=>(Xi hp3)) (fun _ hb_=>hb_)
 refine sr (Yg (v:=.agg #[u1_0]) hC [u1_0] rfl rfl fun b5 w7 hB_ hC=>Zc (v:=.bool false) rfl (dn (sr (Za (v:=u0_0) rfl (Yp hC 0 [u1_0] rfl ag55 rfl rfl rfl (Zf [u0_0,.agg #[u1_0]] _ Tryz.func132 rfl rfl rfl (Zwg a0 a1 h _ (hC.getP 1 rfl) (Yy (hC.getP 0 rfl))) ?_))))))
 rintro _ w10 ⟨r10,r11,rfl,h,hB10⟩
 refine rt ?_
 replace hC:=hC.grow hB10
 refine Za (v:=.tuple #[vI r10,.bool r11]) rfl (Yr (v:=vI r10) rfl rfl (Yr (v:=.bool r11) rfl rfl (Zc (v:=vI r10) rfl (Zc (v:=.bool r11) rfl (dn (sr (Za (v:=.bool r11) rfl (Za (v:=.bool r11) rfl ?_))))))))
 refine Y5 r11 (fun hb10=>?_) (fun hb10=>?_)
 ·replace h:=ift h (hb10)
  refine Zl 1 16 rfl rfl hb10 (Za (v:=vI r10) rfl (Zl 1 16 rfl rfl hb10 (Jg rfl rfl (Zl 1 16 rfl rfl hb10 (Za (v:=.bool (decide (r10=(-1)))) rfl ?_)))))
  refine Y5 (decide (r10=(-1))) (fun hb11=>?_) (fun hb11=>?_)
  ·replace h:=ift h (ct hb11)
   refine Zm (b:=true) 4 19 rfl (tr rfl (congrArg _ hb11)) (by decide) (Zm (b:=true) 4 19 rfl (tr rfl (congrArg _ hb11)) (by decide) (Zm (b:=true) 4 19 rfl (tr rfl (congrArg _ hb11)) (by decide) (Zl 1 16 rfl rfl hb10 (Z3 (v:=.bool true) (b:=true) (tr rfl (congrArg _ hb11)) rfl (Z3 (v:=.bool true) (b:=true) (tr rfl (congrArg _ hb10)) rfl (Zc (v:=.bool true) rfl (dn (ZMv ?_))))))))
   exact Zi rfl (Ze rfl) ⟨true,rfl,h,hC.below⟩ (.inl rfl)
  ·replace h:=Zj h (cf hb11)
   refine Zl 4 19 rfl rfl hb11 (Za (v:=vI r10) rfl (Zl 4 19 rfl rfl hb11 (Za (v:=vI a2) rfl (Zl 4 19 rfl rfl hb11 (Jg rfl rfl (Zl 1 16 rfl rfl hb10 (Z3 (v:=.bool (decide (r10=a2))) (b:=false) (tr rfl (congrArg _ hb11)) rfl (Z3 (v:=.bool (decide (r10=a2))) (b:=true) (tr rfl (congrArg _ hb10)) rfl (Zc (v:=.bool (decide (r10=a2))) rfl (dn (ZMv ?_)))))))))))
   exact Zi rfl (Ze rfl) ⟨decide (r10=a2),rfl,h,hC.below⟩ (.inl rfl)
 ·replace h:=Zj h (Xa hb10)
  refine Zm (b:=false) 1 16 rfl (tr rfl (congrArg _ hb10)) (by decide) (Zm (b:=false) 1 16 rfl (tr rfl (congrArg _ hb10)) (by decide) (Zm (b:=false) 1 16 rfl (tr rfl (congrArg _ hb10)) (by decide) (Jr 4 19 rfl rfl (Jr 4 19 rfl rfl (Jr 4 19 rfl rfl (Zm (b:=false) 1 16 rfl (tr rfl (congrArg _ hb10)) (by decide) (Z3 (v:=.bool false) (b:=false) (tr rfl (congrArg _ hb10)) rfl (Zc (v:=.bool false) rfl (dn (ZMv ?_))))))))))
  exact Zi rfl (Ze rfl) ⟨false,rfl,h,hC.below⟩ (.inl rfl)
def Zg0 (a0:Alg) (K:List (Option (List (A8×Int)))→Prop):Prop :=
 Yb (fun i10 (s10:(List (Option (List (A8×Int))))) nx10=>Zfa (a0.images.getD i10 ZEx) (fun r10=>((0≤(i10:Int)∧(i10:Int) < 8)∧nx10 (s10.set i10 (some r10))))) (fun (s10:(List (Option (List (A8×Int)))))=>K s10) a0.images.length 0 (ZEs 8 none:List (Option (List (A8×Int))))
theorem Zwi (a0:Alg)  {K:List (Option (List (A8×Int)))→Prop} (h:Zg0 a0 K) (w0:World) (q0:TAlg.rep a0 [u0_0,u0_1] fp0 w0) (qb0:(blk b0 32 [u0_0,u0_1]).holds w0) :
  Calls ZMq 191 #[vQ b0] w0 fun e w'=>∃ (r0:List (Option (List (A8×Int)))) (zc0:List Value) (fz0:List Nat),
   e=.returned (.agg (ZMl zc0))∧K r0∧(J1 (kvA .i64) (vvI .i64) 8).rep r0 zc0 fz0 w'∧(∀ b,b∈fz0→w0.heap.size≤b)∧Bel w0 w':=by
 unfold Zg0 at h
 refine cof Tryz.func191 rfl 23 Tryz.ntmps191 ?_
 have hC:=ZM8 (X:=Nox) w0 [ZMm TAlg a0 [u0_0,u0_1] fp0,blk b0 32 [u0_0,u0_1]] (alc q0 (al1 qb0))
 replace hC:=hC.dAlg 0 rfl
 refine sr (Yk hC (ZEs 8 (ZO4 none)) Zlw rfl fun b5 w7 hB_ hC=>dn (sr (J6 (v:=.agg (ZMl (ZEs 8 (ZO4 none)))) [] rfl (Zv0 _) (Yk hC (ZEs 8 (ZO4 none)) Zlw rfl fun b8 w10 hB_ hC=>?_))))
 replace hC:=hC.pushE (ZMm (J1 (kvA .i64) (vvI .i64) 8) (ZEs 8 none:List (Option (List (A8×Int)))) (ZEs 8 (ZO4 none)) []) (Zi3 (kvA .i64) (vvI .i64) 8 _) rfl
 replace hC:=hC.pushE (ZMm (J1 (kvA .i64) (vvI .i64) 8) (ZEs 8 none:List (Option (List (A8×Int)))) (ZEs 8 (ZO4 none)) []) (Zi3 (kvA .i64) (vvI .i64) 8 _) rfl
 have hl10:=Zcp (hC.getP 1 rfl)
 have hl11:=Zcp (hC.getP 0 rfl)
 refine Zx (v:=.agg (ZMl (ZEs 8 (ZO4 none)))) hC 0 (ZEs 8 (ZO4 none)) (ZEs 8 (ZO4 none)) rfl ag211.size rfl rfl rfl hl11 (Zlr (hC.getP 0 rfl)) (by rw [hl10]; exact ZEw _) (Zls (hl11.trans hl10.symm)) fun w11 hC=>dn (ZMn (sr (Za (v:=vQ b0) rfl (Xg rfl (Zu 1 ZM7 rfl sc30.size rfl rfl (Zdy (u0_1) (hC.getP 5 rfl) sc30 rfl rfl (Zv hC 2 rfl ZNb rfl (Za (v:=vI 0) rfl (dn (ZMt ?_))))))))))
 have hN10:a0.images.length≤9223372036854775807:=Yx (hC.getP 2 rfl)
 refine Yn (S:=(List (Option (List (A8×Int))))) _ _ (fun i10 s10 e_ w_=>∃ (v10:List Value),∃ (f10:List Nat),Zt e_ [(2,vQ b5),(3,vQ b8),(10,u0_1),(11,vI (a0.images.length:Int)),(12,vI (i10:Int))]∧(∀ b,b∈f10→w0.heap.size≤b)∧Ctx Nox w0 w_ [blk b8 211 v10,blk b5 211 (ZEs 8 (ZO4 none))] [ZMm (J1 (kvA .i64) (vvI .i64) 8) s10 v10 f10,ZMm ZM9.sl a0.images [u0_1] fp0,ZMm TInts a0.degrees [u0_0] fp0,ZMm TAlg a0 [u0_0,u0_1] fp0,blk b0 32 [u0_0,u0_1]]) a0.images.length ?_ ?_ (s0:=(ZEs 8 none:List (Option (List (A8×Int))))) ?_ h
 ·clear hC h
  rintro i10 s10 e_ w12 nx10 K10 hi10 ⟨v10,f10,hS_,hq10,hC⟩ h hK10
  rw [ue hS_]
  refine sr (Zn rfl rfl (dn (ZMn (Yc rfl (decide_eq_true (by omega)) (ZMr (Zd (ZMn (ZMt (sr (Za (v:=vI (i10:Int)) rfl ?_))))))))))
  obtain ⟨Ad10,c10,hv10⟩:=Zw (hC.getP 1 rfl) i10 hi10
  refine Yo (len:=a0.images.length) ZNb ag55.size (tr rfl hv10) rfl (ZM3 _) (ZNl.2 hi10) ?_
  obtain ⟨cs_,hl12,hc10,hr10⟩:=Xj (hC.getP 1 rfl) hv10 i10 hi10
  obtain ⟨u10,rfl⟩:=ZNj.1 hl12
  clear hl12
  rw [Xl _ _ hi10] at hr10
  have hp10:=hr10
  replace hC:=hC.derive 1 rfl (ZMm ZMo.ty.sl ((a0.images.getD i10 ZEx).terms) [u10] fp0) (fun _=>(Xi hp10)) (fun _ hb_=>hb_)
  refine Zak [u10] hc10 ag55 rfl rfl (Yk hC [.slice none 0 0] z55 rfl fun b11 w13 hB_ hC=>Zc (v:=vI (i10:Int)) rfl (Zx (v:=.agg #[u10]) hC 0 [u10] [u10] rfl ag55.size rfl rfl rfl rfl (Xk (Zdz (hC.getP 0 rfl)) rfl) (ZMw rfl) rfl fun w14 hC=>dn (Zg (Za (v:=vI (i10:Int)) rfl (Yp hC 0 [u10] rfl ag55 rfl rfl rfl (Zf [.agg #[u10]] _ Tryz.func78 rfl rfl rfl (Zpo (a0.images.getD i10 ZEx) h _ (Yy (hC.getP 0 rfl))) ?_))))))
  rintro _ w15 ⟨r10,b10,rfl,h,hr11,hf10,hB10⟩
  refine rt ?_
  replace hC:=hC.push hB10 (mapS b10 r10) hr11 (fun b_ hb_=>by obtain rfl:=ZF6.1 hb_; exact hf10)
  obtain ⟨⟨h10,h11⟩,h⟩:=h
  refine Xm i10 Tryz.underlying211 sc115.size rfl rfl h10 h11 (by omega) ?_
  have hf11:=Ziz hC 0 rfl
  replace hC:=hC.thaw 0 rfl (mapS b10 r10) id (fun _ hb_=>hb_)
  replace hC:=hC.joinP 0 2 rfl rfl (ZMm (J1 (kvA .i64) (vvI .i64) 8) (s10.set i10 (some r10)) (v10.set i10 (ZO4 (some b10))) (b10::f10)) (fun a_ b_=>Zvm b_ a_) (fun c_ hc_=>(ZEt.1 hc_).elim (fun h_=>.inl (by rw [h_]; exact ZF6.2 rfl)) .inr)
  have hs10:∀ b,b∈(b10::f10)→w0.heap.size≤b:=(fun b hb=>(ZEt.1 hb).elim (fun h_=>by rw [h_]; exact hf11) (fun hb=>hq10 b hb))
  have hl13:=Zcp (hC.getP 3 rfl)
  refine Zx (v:=.map (some b10)) hC 1 [.map (some b10)] (v10.set i10 (ZO4 (some b10))) rfl sc115.size rfl rfl rfl rfl rfl (by rw [hl13]; omega) (Zph (by rw [hl13]; omega) (by omega)) fun w16 hC=>done (Zq (Zd (Zg (Zo rfl rfl (Za (v:=vI (ZHd.wrap ((i10:Int)+1))) rfl (done ?_))))))
  exact hK10 (s10.set i10 (some r10)) _ _ ⟨v10.set i10 (ZO4 (some b10)),(b10::f10),(sl ⟨rfl,rfl,rfl,rfl,(tr rfl (congrArg _ (Z6 hi10 hN10))),trivial⟩),hs10,((hC.xM [1,2] rfl).sP [0,4,5,6,7] rfl)⟩ h
 ·clear hC h
  rintro s10 e_ w17 K10 ⟨v10,f10,hS_,hq10,hC⟩ h
  rw [ue hS_]
  refine sr (Zn rfl rfl (dn (ZMn (Z2 rfl (decide_eq_false (by omega)) ?_))))
  refine ZM1 (Zh (Zh (Zy ?_)))
  refine Zd (sr ?_)
  have hl14:=Zcp (hC.getP 0 rfl)
  refine Yp hC 0 v10 rfl ag211 rfl (Zvo hl14) hl14 ?_
  replace hC:=hC.pushE (ZMm (J1 (kvA .i64) (vvI .i64) 8) (ZEs 8 none:List (Option (List (A8×Int)))) (ZEs 8 (ZO4 none)) []) (Zi3 (kvA .i64) (vvI .i64) 8 _) rfl
  have hl15:=Zcp (hC.getP 0 rfl)
  have hl16:=Zcp (hC.getP 1 rfl)
  refine Zx (v:=.agg (ZMl v10)) hC 1 v10 v10 rfl ag211.size rfl rfl rfl hl16 (Zlr (hC.getP 1 rfl)) (by rw [hl15]; exact ZEw _) (Zls (hl16.trans hl15.symm)) fun w18 hC=>dn (ZMv ?_)
  exact Zi rfl (Zaa hC 1 rfl ag211 rfl (Zcp (hC.getP 1 rfl))) ⟨s10,v10,f10,rfl,h,(hC.getP 1 rfl),(fun b hb=>hq10 b hb),hC.below⟩ (.inl rfl)
 ·skip
  exact⟨ZEs 8 (ZO4 none),[],(slq rfl),(fun b hb=>absurd hb (by simp)),(hC.sP [0,2,3,4,5] rfl)⟩
def Zd9 (a0:Alg) (a1:List (A8×Int)) (K:List (A8×Int)→Prop):Prop :=
 Zg0 a0 (fun r11=>Zbv (fun (q10:A8×Int) (s12:(List (A8×Int))) nx11=>Yb (fun i10 (s10:A8×(List (A8×Int))×Int) nx10=>(if q10.1.get i10 > 0 then Xh (fun (s11:A8×Int) nx12=>(if s11.2 < ZHd.wrap ((i10:Int)+1) then((0≤s11.2∧s11.2 < 8)∧nx12 (s11.1.set s11.2.toNat 0,ZHd.wrap (s11.2+1))) else(∃ ml10,r11[i10]? = some (some ml10)∧Zb8 (Yh ([]:List (A8×Int)) (s10.1.set i10 (ZHd.wrap ((q10.1.get i10) - 1))) 1) a0.degrees ml10 (fun r13=>Zb8 r13 a0.degrees (Yh ([]:List (A8×Int)) s11.1 1) (fun r14=>Zcq (ZHd.wrap ((ZHd.wrap (s10.2.2 * q10.2)) * (q10.1.get i10))) (fun r12=>Zd6 s10.2.1 r14 r12 (fun m10=>(if(i10:Int) < (a0.degrees.length:Int) then((0≤(i10:Int)∧(i10:Int) < (a0.degrees.length:Int))∧(if ZFo (a0.degrees.getD i10 ZEx) 2=1 then(if ZFo (q10.1.get i10) 2=1 then nx10 (s10.1.set i10 (q10.1.get i10),m10,ZHd.wrap (0 - s10.2.2)) else nx10 (s10.1.set i10 (q10.1.get i10),m10,s10.2.2)) else nx10 (s10.1.set i10 (q10.1.get i10),m10,s10.2.2))) else nx10 (s10.1.set i10 (q10.1.get i10),m10,s10.2.2))))))))) (q10.1,0) else(if(i10:Int) < (a0.degrees.length:Int) then((0≤(i10:Int)∧(i10:Int) < (a0.degrees.length:Int))∧(if ZFo (a0.degrees.getD i10 ZEx) 2=1 then(if ZFo (q10.1.get i10) 2=1 then nx10 (s10.1.set i10 (q10.1.get i10),s10.2.1,ZHd.wrap (0 - s10.2.2)) else nx10 (s10.1.set i10 (q10.1.get i10),s10.2.1,s10.2.2)) else nx10 (s10.1.set i10 (q10.1.get i10),s10.2.1,s10.2.2))) else nx10 (s10.1.set i10 (q10.1.get i10),s10.2.1,s10.2.2)))) (fun (s10:A8×(List (A8×Int))×Int)=>nx11 s10.2.1) 8 0 (ZMs,s12,1)) (fun (s12:(List (A8×Int)))=>K s12) a1.length a1 ([]:List (A8×Int)))
theorem Zpr (a0 : Alg) (a1 : List (A8 × Int))  {K : List (A8 × Int) → Prop} (h : Zd9 a0 a1 K) (w0 : World) (q0 : TAlg.rep a0 [u0_0, u0_1] fp0 w0) (qb0 : (blk b0 32 [u0_0, u0_1]).holds w0) (q1 : (mapS b1 a1).holds w0) :
  Calls ZMq 154 #[vQ b0,.map (some b1)] w0 fun e w'=>∃ (r0:List (A8×Int)) (zb0:Nat),
   e=.returned (.map (some zb0))∧K r0∧(mapS zb0 r0).holds w'∧w0.heap.size≤zb0∧Bel w0 w':=by
 unfold Zd9 at h
 refine cof Tryz.func154 rfl 107 Tryz.ntmps154 ?_
 have hC:=ZM8 (X:=Nox) w0 [ZMm TAlg a0 [u0_0,u0_1] fp0,blk b0 32 [u0_0,u0_1],mapS b1 a1] (alc q0 (alc qb0 (al1 q1)))
 replace hC:=hC.dAlg 0 rfl
 refine sr (Zc (v:=.map none) rfl (dn (sr (Zf9 hC (kvA .i64) (vvI .i64) fun b6 w8 hB_ hC=>Za (v:=vQ b0) rfl (Zf [vQ b0] _ Tryz.func191 rfl rfl rfl (Zwi a0 h _ (Xs (hC.getP 1 rfl) (hC.getP 0 rfl)) (hC.getP 3 rfl)) ?_)))))
 rintro _ w11 ⟨r11,cs10,f10,rfl,h,hr10,hf10,hB10⟩
 refine rt ?_
 have hs10:=Zuo hC.size hf10
 replace hC:=hC.pushR hB10 (ZMm (J1 (kvA .i64) (vvI .i64) 8) r11 cs10 f10) hr10 (fun b hb=>.inl (hf10 b hb))
 refine Yk hC (ZEs 8 (ZO4 none)) Zlw rfl fun b11 w12 hB_ hC=>Zc (v:=.map (some b6)) rfl ?_
 replace hC:=hC.pushE (ZMm (J1 (kvA .i64) (vvI .i64) 8) (ZEs 8 none:List (Option (List (A8×Int)))) (ZEs 8 (ZO4 none)) []) (Zi3 (kvA .i64) (vvI .i64) 8 _) rfl
 have hl10:=Zcp (hC.getP 0 rfl)
 have hl11:=Zcp (hC.getP 1 rfl)
 refine Zx (v:=.agg (ZMl cs10)) hC 0 cs10 cs10 rfl ag211.size rfl rfl rfl hl11 (Zlr (hC.getP 1 rfl)) (by rw [hl10]; exact ZEw _) (Zls (hl11.trans hl10.symm)) fun w13 hC=>dn (ZMn (sr (Za (v:=.map (some b1)) rfl (Zga hC 6 rfl ZNk rfl fun r10 es10 ck10 w14 hB_ hn10 hbn10 hC=>dn (ZMt ?_)))))
 refine Zge (S:=(List (A8×Int))) _ _ (fun l11 s12 e_ w_=>∃ (la10:Option MapEntry),Zt e_ [(0,vQ b0),(5,.map (some b6)),(6,vQ b11),(21,vQ r10)]∧Ctx Nox w0 w_ [itI (kvA .i64) (vvI .i64) r10 b1 es10 ck10 la10 l11,blk b11 211 cs10,mapS b6 s12] [Zaz b1 es10 ck10,ZMm (J1 (kvA .i64) (vvI .i64) 8) r11 cs10 f10,ZMm ZM9.sl a0.images [u0_1] fp0,ZMm TInts a0.degrees [u0_0] fp0,ZMm TAlg a0 [u0_0,u0_1] fp0,blk b0 32 [u0_0,u0_1],mapS b1 a1]) ?_ (l0:=a1) (s0:=([]:List (A8×Int))) ?_ h
 ·clear hC h
  rintro l11 s12 e_ w15 nx11 K11 ⟨la10,hS_,hC⟩ h hK11
  rw [ue hS_]
  refine sr ?_
  refine Zgb hC 0 0 rfl rfl hn10 hbn10 rfl (fun hr11=>?_) (fun q10 l10 ent10 w16 hp10 hk10 hv12 hC=>?_)
  ·replace h:=h.1 hr11
   refine Yr (v:=.bool false) rfl rfl (dn (ZMn (Z2 rfl rfl ?_)))
   refine ZM1 (Zh (Zh (Zy ?_)))
   refine Zd (sr (Za (v:=.map (some b6)) rfl (Zc (v:=.map (some b6)) rfl (dn (ZMv ?_)))))
   exact Zi rfl (Ze rfl) ⟨s12,b6,rfl,h,(hC.getM 2 rfl),(Ziz hC 2 rfl),hC.below⟩ (.inl rfl)
  ·replace h := h.2 q10 l10 hp10
   refine Yr (v:=.bool true) rfl rfl (dn (ZMn (Yc rfl rfl (ZMr (Zd (ZMt (sr (Zgc hC 0 0 q10 rfl rfl hn10 rfl hk10 hv12 (Yr (v:=.agg (ZMl (ZMk .i64 q10.1))) rfl rfl (Yr (v:=vI q10.2) rfl rfl (Yk hC (ZMk .i64 ZMs) z73 rfl fun b14 w17 hB_ hC=>Zx (v:=.agg (ZMl (ZMk .i64 q10.1))) hC 0 (ZMk .i64 q10.1) (ZMk .i64 q10.1) rfl ag73.size rfl rfl rfl rfl rfl (ZMw rfl) rfl fun w18 hC=>Zc (v:=vI q10.2) rfl (dn (sr (J6 [] rfl (Zi8   _) (Yk hC (ZMk .i64 ZMs) z73 rfl fun b15 w19 hB_ hC=>Zx (v:=.agg (ZMl (ZMk .i64 ZMs))) hC 0 (ZMk .i64 ZMs) (ZMk .i64 ZMs) rfl ag73.size rfl rfl rfl rfl rfl (ZMw rfl) rfl fun w20 hC=>Zc (v:=vI 1) rfl (dn (sr (Yp hC 1 (ZMk .i64 q10.1) rfl ag73 rfl rfl rfl (Za (v:=vI 0) rfl (dn (ZMt ?_)))))))))))))))))))))
   refine Yn (S:=A8×(List (A8×Int))×Int) _ _ (fun i10 s10 e_ w_=>Zt e_ [(0,vQ b0),(5,.map (some b6)),(6,vQ b11),(7,vQ b14),(8,vI q10.2),(9,vQ b15),(10,vI s10.2.2),(21,vQ r10),(28,.agg (ZMl (ZMk .i64 q10.1))),(29,vI (i10:Int))]∧Ctx Nox w0 w_ [blk b15 73 (ZMk .i64 s10.1),blk b14 73 (ZMk .i64 q10.1),itI (kvA .i64) (vvI .i64) r10 b1 es10 ck10 (some ent10) l10,blk b11 211 cs10,mapS b6 s10.2.1] [Zaz b1 es10 ck10,ZMm (J1 (kvA .i64) (vvI .i64) 8) r11 cs10 f10,ZMm ZM9.sl a0.images [u0_1] fp0,ZMm TInts a0.degrees [u0_0] fp0,ZMm TAlg a0 [u0_0,u0_1] fp0,blk b0 32 [u0_0,u0_1],mapS b1 a1]) 8 ?_ ?_ (s0:=(ZMs,s12,1)) ?_ h
   ·clear hC h
    rintro i10 s10 e_ w21 nx10 K10 hi10 ⟨hS_,hC⟩ h hK10
    rw [ue hS_]
    refine sr (Zn rfl rfl (dn (ZMn (Yc rfl (decide_eq_true (by omega)) (ZMr (Zd (ZMn (ZMt (sr (Za (v:=vI (i10:Int)) rfl (Zk3 (vI (q10.1.get i10)) ZNa rfl rfl (ZM3 _) (by omega) sc3 (ZM0 _ _ hi10) (Zc (v:=vI (i10:Int)) rfl (Zc (v:=vI (q10.1.get i10)) rfl (dn (ZMn (sr (Za (v:=vI (q10.1.get i10)) rfl (Jh rfl rfl (dn ?_)))))))))))))))))))
    refine Zp rfl (fun hb14=>?_) (fun hb14=>?_)
    ·replace h:=ift h (ct hb14)
     refine sr (Yp hC 1 (ZMk .i64 q10.1) rfl ag73 rfl rfl rfl (Yk hC (ZMk .i64 ZMs) z73 rfl fun b30 w22 hB_ hC=>Zx (v:=.agg (ZMl (ZMk .i64 q10.1))) hC 0 (ZMk .i64 q10.1) (ZMk .i64 q10.1) rfl ag73.size rfl rfl rfl rfl rfl (ZMw rfl) rfl fun w23 hC=>dn (ZMn (sr (Za (v:=vI (i10:Int)) rfl (Zo rfl rfl (Za (v:=vI 0) rfl (dn (ZMt ?_)))))))))
     refine X2 (S:=A8×Int) _ (fun s11 e_ w_=>Zt e_ [(0,vQ b0),(5,.map (some b6)),(6,vQ b11),(7,vQ b14),(8,vI q10.2),(9,vQ b15),(10,vI s10.2.2),(11,vI (i10:Int)),(12,vI (q10.1.get i10)),(13,vQ b30),(21,vQ r10),(28,.agg (ZMl (ZMk .i64 q10.1))),(29,vI (i10:Int)),(37,vI (ZHd.wrap ((i10:Int)+1))),(38,vI s11.2)]∧Ctx Nox w0 w_ [blk b30 73 (ZMk .i64 s11.1),blk b15 73 (ZMk .i64 s10.1),blk b14 73 (ZMk .i64 q10.1),itI (kvA .i64) (vvI .i64) r10 b1 es10 ck10 (some ent10) l10,blk b11 211 cs10,mapS b6 s10.2.1] [Zaz b1 es10 ck10,ZMm (J1 (kvA .i64) (vvI .i64) 8) r11 cs10 f10,ZMm ZM9.sl a0.images [u0_1] fp0,ZMm TInts a0.degrees [u0_0] fp0,ZMm TAlg a0 [u0_0,u0_1] fp0,blk b0 32 [u0_0,u0_1],mapS b1 a1]) ?_ (s0:=(q10.1,0)) ?_ h
     ·clear hC h
      rintro s11 e_ w24 nx12 K12 ⟨hS_,hC⟩ h hK12
      rw [ue hS_]
      refine sr (Zn rfl rfl (dn (ZMn ?_)))
      refine Zp rfl (fun hb15=>?_) (fun hb15=>?_)
      ·replace h:=ift h (ct hb15)
       refine ZMr (Zd (ZMn (ZMt (sr (Za (v:=vI s11.2) rfl (Zc (v:=vI s11.2) rfl (dn (Zg (Za (v:=vI s11.2) rfl ?_)))))))))
       obtain ⟨⟨h10,h11⟩,h⟩:=h
       refine Xm s11.2.toNat ZNa sc3.size rfl rfl h10 h11 (by omega) (Zx (v:=vI 0) hC 0 [vI 0] (ZMk .i64 (s11.1.set s11.2.toNat 0)) rfl sc3.size rfl rfl rfl rfl rfl (show s11.2.toNat < 8 by omega) (ZNh _ _ _ (show s11.2.toNat < 8 by omega)) fun w25 hC=>done (Zq (Zd (Zg (Zo rfl rfl (Za (v:=vI (ZHd.wrap (s11.2+1))) rfl (done ?_)))))))
       exact hK12 (s11.1.set s11.2.toNat 0,ZHd.wrap (s11.2+1)) _ _ ⟨(slq rfl),hC⟩ h
      ·replace h:=Zj h (cf hb15)
       refine ZM1 (Zh (Zh (Zy ?_)))
       refine Zd (sr (Yp hC 1 (ZMk .i64 s10.1) rfl ag73 rfl rfl rfl (Yk hC (ZMk .i64 ZMs) z73 rfl fun b43 w26 hB_ hC=>Zx (v:=.agg (ZMl (ZMk .i64 s10.1))) hC 0 (ZMk .i64 s10.1) (ZMk .i64 s10.1) rfl ag73.size rfl rfl rfl rfl rfl (ZMw rfl) rfl fun w27 hC=>dn (sr (Za (v:=vI (i10:Int)) rfl (Za (v:=vI (q10.1.get i10)) rfl (Jx rfl rfl (Xm i10 ZNa sc3.size rfl rfl (ZM3 _) (by omega) (by omega) (Zx (v:=vI (ZHd.wrap ((q10.1.get i10) - 1))) hC 0 [vI (ZHd.wrap ((q10.1.get i10) - 1))] (ZMk .i64 (s10.1.set i10 (ZHd.wrap ((q10.1.get i10) - 1)))) rfl sc3.size rfl rfl rfl rfl rfl hi10 (ZNh _ _ _ hi10) fun w28 hC=>dn (ZMn ?_))))))))))
       refine Zlu 20 Yi [0,0,3,7,0,16,48,112,0,256,768,2047,0,4096,12288,28672,0,0,196608,458752,1048575,2097151] [1,7,9,10,15,17] [3,4,5,6,8,12,13,14,19] (fun hM11 hM10 w10 hB_=>?_)
       replace hC:=hC.grow hB_
       have hN_:w10.heap.size≤w10.heap.size:=ZEw _
       refine Zag (Yv _) 1 (.agg (ZMl (ZMk .i64 (s10.1.set i10 (ZHd.wrap ((q10.1.get i10) - 1)))))) rfl rfl (by kernel_rfl) (hM11 1 rfl) (fun w_ hB_=>.inl ⟨rfl,by exact Xf (hC.grow (Zb6 hB_)) 0 (ZMk .i64 (s10.1.set i10 (ZHd.wrap ((q10.1.get i10) - 1)))) rfl ag73 rfl rfl rfl⟩) (l9:=(Zb 22 2)) (by kernel_rfl) (bMR (Yv _) 4 (vQ b0) rfl hM10 (Zb 22 18) (Zr (Yv _) 5 (vQ b0) rfl rfl (by kernel_rfl) (hM10 5 rfl) (fun w_=>.inl ⟨rfl,by exact Zae rfl⟩) (l9:=(Zb 22 50)) (by kernel_rfl) (Zr (Yv _) 6 (vQ b0) rfl rfl (by kernel_rfl) (hM10 6 rfl) (fun w_=>.inl ⟨rfl,by exact Yf 0 ZM7 rfl sc22.size rfl rfl⟩) (l9:=(Zb 22 114)) (by kernel_rfl) (Zag (Yv _) 7 (u0_0) rfl rfl (by kernel_rfl) (hM11 7 rfl) (fun w_ hB_=>.inl ⟨rfl,by exact Zdx (u0_0) ((hC.grow (Zb6 hB_)).getP 5 rfl) sc22 rfl rfl⟩) (l9:=(Zb 22 242)) (by kernel_rfl) (bMR (Yv _) 8 (vI (i10:Int)) rfl hM10 (Zb 22 498) (Zag (Yv _) 9 (.pointer (some ⟨b11,i10,none⟩)) rfl rfl (by kernel_rfl) (hM11 9 rfl) (fun w_ hB_=>.inl ⟨rfl,by exact J5 i10 Tryz.underlying211 sc115.size rfl rfl (ZM3 _) (by omega) (by omega)⟩) (l9:=(Zb 22 1010)) (by kernel_rfl) ?_))))))
       obtain ⟨ml10,hl12,h⟩:=h
       obtain ⟨b10,hb18,hbf10,hm10⟩:=Zvn (hC.getP 1 rfl) hl12
       replace hC:=hC.derive 1 rfl (mapS b10 ml10) (fun _=>hm10) (fun c_ hc_=>by obtain rfl:=ZF6.1 hc_; exact hbf10)
       refine Zag (Yv _) 10 (.map (some b10)) rfl rfl (by kernel_rfl) (hM11 10 rfl) (fun w_ hB_=>.inl ⟨rfl,by exact Ya (hC.grow (Zb6 hB_)) 5 (.map (some b10)) rfl sc115 rfl (Zvp hb18 (by omega))⟩) (l9:=(Zb 22 2034)) (by kernel_rfl) (bMR (Yv _) 12 (vQ b0) rfl hM10 (Zb 22 6130) (Zr (Yv _) 13 (vQ b0) rfl rfl (by kernel_rfl) (hM10 13 rfl) (fun w_=>.inl ⟨rfl,by exact Zae rfl⟩) (l9:=(Zb 22 14322)) (by kernel_rfl) (Zr (Yv _) 14 (vQ b0) rfl rfl (by kernel_rfl) (hM10 14 rfl) (fun w_=>.inl ⟨rfl,by exact Yf 0 ZM7 rfl sc22.size rfl rfl⟩) (l9:=(Zb 22 30706)) (by kernel_rfl) (Zag (Yv _) 15 (u0_0) rfl rfl (by kernel_rfl) (hM11 15 rfl) (fun w_ hB_=>.inl ⟨rfl,by exact Zdx (u0_0) ((hC.grow (Zb6 hB_)).getP 6 rfl) sc22 rfl rfl⟩) (l9:=(Zb 22 63474)) (by kernel_rfl) (Zag (Yv _) 17 (.agg (ZMl (ZMk .i64 s11.1))) rfl rfl (by kernel_rfl) (hM11 17 rfl) (fun w_ hB_=>.inl ⟨rfl,by exact Xf (hC.grow (Zb6 hB_)) 1 (ZMk .i64 s11.1) rfl ag73 rfl rfl rfl⟩) (l9:=(Zb 22 194546)) (by kernel_rfl) ?_)))))
       refine Zdw (fun e_ w_=>∃ (b17:Nat),∃ (r15:List (A8×Int)),Zt e_ [(0,vQ b0),(5,.map (some b6)),(6,vQ b11),(7,vQ b14),(8,vI q10.2),(9,vQ b15),(10,vI s10.2.2),(11,vI (i10:Int)),(12,vI (q10.1.get i10)),(16,.map (some b17)),(21,vQ r10),(28,.agg (ZMl (ZMk .i64 q10.1))),(29,vI (i10:Int))]∧Ctx Nox w0 w_ [mapS b17 r15,blk b15 73 (ZMk .i64 s10.1),blk b14 73 (ZMk .i64 q10.1),itI (kvA .i64) (vvI .i64) r10 b1 es10 ck10 (some ent10) l10,blk b11 211 cs10,mapS b6 s10.2.1] [Zaz b1 es10 ck10,ZMm (J1 (kvA .i64) (vvI .i64) 8) r11 cs10 f10,ZMm ZM9.sl a0.images [u0_1] fp0,ZMm TInts a0.degrees [u0_0] fp0,ZMm TAlg a0 [u0_0,u0_1] fp0,blk b0 32 [u0_0,u0_1],mapS b1 a1]∧(Zcq (ZHd.wrap ((ZHd.wrap (s10.2.2 * q10.2)) * (q10.1.get i10))) (fun r12=>Zd6 s10.2.1 r15 r12 (fun m10=>(if(i10:Int) < (a0.degrees.length:Int) then((0≤(i10:Int)∧(i10:Int) < (a0.degrees.length:Int))∧(if ZFo (a0.degrees.getD i10 ZEx) 2=1 then(if ZFo (q10.1.get i10) 2=1 then nx10 (s10.1.set i10 (q10.1.get i10),m10,ZHd.wrap (0 - s10.2.2)) else nx10 (s10.1.set i10 (q10.1.get i10),m10,s10.2.2)) else nx10 (s10.1.set i10 (q10.1.get i10),m10,s10.2.2))) else nx10 (s10.1.set i10 (q10.1.get i10),m10,s10.2.2)))))) ?_ ?_
       ·clear hC h
        rintro e_ w29 ⟨b17,r15,hS_,hC,h⟩
        rw [ue hS_]
        refine Zd (Zg (Za (v:=.map (some b6)) rfl (Za (v:=.map (some b17)) rfl (Za (v:=vI s10.2.2) rfl (Za (v:=vI q10.2) rfl (Js rfl rfl (Za (v:=vI (q10.1.get i10)) rfl (Js rfl rfl (Zf [vI (ZHd.wrap ((ZHd.wrap (s10.2.2 * q10.2)) * (q10.1.get i10)))] _ Tryz.func187 rfl rfl rfl (Zl1 (ZHd.wrap ((ZHd.wrap (s10.2.2 * q10.2)) * (q10.1.get i10))) h _) ?_)))))))))
        rintro _ w30 ⟨r12,rfl,h,hB11⟩
        refine rt ?_
        replace hC:=hC.grow hB11
        refine Zf [.map (some b6),.map (some b17),vI r12] _ Tryz.func165 rfl rfl rfl (Zv9 s10.2.1 r15 r12 h _ (hC.getM 5 rfl) (fun c_ hc_ e_=>hC.mm 0 5 rfl rfl (by decide) c_ hc_ (ZF6.2 e_)) (hC.getM 0 rfl)) ?_
        rintro _ w31 ⟨m10,rfl,h,hm11,hB12⟩
        refine rt ?_
        replace hC:=hC.turnB 5 rfl hB12 rfl rfl hm11
        refine dn (sr (Za (v:=vI (i10:Int)) rfl (Za (v:=vI (q10.1.get i10)) rfl (Xm i10 ZNa sc3.size rfl rfl (ZM3 _) (by omega) (by omega) (Zx (v:=vI (q10.1.get i10)) hC 1 [vI (q10.1.get i10)] (ZMk .i64 (s10.1.set i10 (q10.1.get i10))) rfl sc3.size rfl rfl rfl rfl rfl hi10 (ZNh _ _ _ hi10) fun w32 hC=>dn (sr (Za (v:=vI (i10:Int)) rfl (Za (v:=vQ b0) rfl (Xg rfl (Zu 0 ZM7 rfl sc22.size rfl rfl (Zdy (u0_0) (hC.getP 5 rfl) sc22 rfl rfl (Zv hC 3 rfl ZM6 rfl (Zn rfl rfl (Za (v:=.bool (decide ((i10:Int) < (a0.degrees.length:Int)))) rfl ?_))))))))))))))
        refine Y5 (decide ((i10:Int) < (a0.degrees.length:Int))) (fun hb10=>?_) (fun hb10=>?_)
        ·replace h:=ift h (ct hb10)
         refine Zl 7 87 rfl rfl hb10 (Za (v:=vQ b0) rfl (Zl 7 87 rfl rfl hb10 (Xg rfl (Zl 7 87 rfl rfl hb10 (Zu 0 ZM7 rfl sc22.size rfl rfl (Zl 7 87 rfl rfl hb10 (Zdy (u0_0) (hC.getP 5 rfl) sc22 rfl rfl (Zl 7 87 rfl rfl hb10 (Za (v:=vI (i10:Int)) rfl (Zl 7 87 rfl rfl hb10 ?_))))))))))
         obtain ⟨⟨h12,h13⟩,h⟩:=h
         obtain ⟨Ad10,c10,hv10⟩:=Zw (hC.getP 3 rfl) i10 (show i10 < a0.degrees.length by omega)
         refine Yo (len:=a0.degrees.length) ZM6 sc2.size (tr rfl hv10) rfl h12 h13 (Zl 7 87 rfl rfl hb10 (Yl (vI (a0.degrees.getD i10 ZEx)) (Ye (hC.getP 3 rfl) hv10 i10 (show i10 < a0.degrees.length by omega)) sc2 rfl (Zl 7 87 rfl rfl hb10 (Xr rfl rfl (by decide) (Zl 7 87 rfl rfl hb10 (Jg rfl rfl (Z3 (v:=.bool (decide (ZFo (a0.degrees.getD i10 ZEx) 2=1))) (b:=true) (tr rfl (congrArg _ hb10)) rfl (Za (v:=.bool (decide (ZFo (a0.degrees.getD i10 ZEx) 2=1))) rfl ?_))))))))
         refine Y5 (decide (ZFo (a0.degrees.getD i10 ZEx) 2=1)) (fun hb12=>?_) (fun hb12=>?_)
         ·replace h:=ift h (ct hb12)
          refine Zl 18 98 rfl rfl hb12 (Za (v:=vI (q10.1.get i10)) rfl (Zl 18 98 rfl rfl hb12 (Xr rfl rfl (by decide) (Zl 18 98 rfl rfl hb12 (Jg rfl rfl (Z3 (v:=.bool (decide (ZFo (q10.1.get i10) 2=1))) (b:=true) (tr rfl (congrArg _ hb12)) rfl (dn ?_)))))))
          refine Zp rfl (fun hb16=>?_) (fun hb16=>?_)
          ·replace h:=ift h (ct hb16)
           refine Zg (Za (v:=vI s10.2.2) rfl (Zf4 rfl (Zc (v:=vI (ZHd.wrap (0 - s10.2.2))) rfl (done (Zq (Zd (Zg (Zo rfl rfl (Za (v:=vI (ZHd.wrap ((i10:Int)+1))) rfl (done ?_))))))))))
           exact hK10 (s10.1.set i10 (q10.1.get i10),m10,ZHd.wrap (0 - s10.2.2)) _ _ ⟨(sl ⟨rfl,rfl,rfl,rfl,rfl,rfl,rfl,rfl,rfl,(tr rfl (congrArg _ (Z6 hi10 (by decide)))),trivial⟩),(hC.xM [1,2,3,4,5] rfl)⟩ h
          ·replace h:=Zj h (cf hb16)
           refine ZMr (Zq (Zd (Zg (Zo rfl rfl (Za (v:=vI (ZHd.wrap ((i10:Int)+1))) rfl (done ?_))))))
           exact hK10 (s10.1.set i10 (q10.1.get i10),m10,s10.2.2) _ _ ⟨(sl ⟨rfl,rfl,rfl,rfl,rfl,rfl,rfl,rfl,rfl,(tr rfl (congrArg _ (Z6 hi10 (by decide)))),trivial⟩),(hC.xM [1,2,3,4,5] rfl)⟩ h
         ·replace h:=Zj h (cf hb12)
          refine Zm (b:=false) 18 98 rfl (tr rfl (congrArg _ hb12)) (by decide) (Zm (b:=false) 18 98 rfl (tr rfl (congrArg _ hb12)) (by decide) (Zm (b:=false) 18 98 rfl (tr rfl (congrArg _ hb12)) (by decide) (Z3 (v:=.bool false) (b:=false) (tr rfl (congrArg _ hb12)) rfl (dn (Z2 rfl rfl (ZMr (Zq (Zd (Zg (Zo rfl rfl (Za (v:=vI (ZHd.wrap ((i10:Int)+1))) rfl (done ?_))))))))))))
          exact hK10 (s10.1.set i10 (q10.1.get i10),m10,s10.2.2) _ _ ⟨(sl ⟨rfl,rfl,rfl,rfl,rfl,rfl,rfl,rfl,rfl,(tr rfl (congrArg _ (Z6 hi10 (by decide)))),trivial⟩),(hC.xM [1,2,3,4,5] rfl)⟩ h
        ·replace h:=Zj h (cf hb10)
         refine Zm (b:=false) 7 87 rfl (tr rfl (congrArg _ hb10)) (by decide) (Zm (b:=false) 7 87 rfl (tr rfl (congrArg _ hb10)) (by decide) (Zm (b:=false) 7 87 rfl (tr rfl (congrArg _ hb10)) (by decide) (Zm (b:=false) 7 87 rfl (tr rfl (congrArg _ hb10)) (by decide) (Zm (b:=false) 7 87 rfl (tr rfl (congrArg _ hb10)) (by decide) (Zm (b:=false) 7 87 rfl (tr rfl (congrArg _ hb10)) (by decide) (Zm (b:=false) 7 87 rfl (tr rfl (congrArg _ hb10)) (by decide) (Zm (b:=false) 7 87 rfl (tr rfl (congrArg _ hb10)) (by decide) (Zm (b:=false) 7 87 rfl (tr rfl (congrArg _ hb10)) (by decide) (Z3 (v:=.bool false) (b:=false) (tr rfl (congrArg _ hb10)) rfl (Za (v:=.bool false) rfl (Zm (b:=false) 18 98 rfl (tr rfl (congrArg _ rfl)) (by decide) (Zm (b:=false) 18 98 rfl (tr rfl (congrArg _ rfl)) (by decide) (Zm (b:=false) 18 98 rfl (tr rfl (congrArg _ rfl)) (by decide) (Z3 (v:=.bool false) (b:=false) rfl rfl (dn (Z2 rfl rfl (ZMr (Zq (Zd (Zg (Zo rfl rfl (Za (v:=vI (ZHd.wrap ((i10:Int)+1))) rfl (done ?_)))))))))))))))))))))))
         exact hK10 (s10.1.set i10 (q10.1.get i10),m10,s10.2.2) _ _ ⟨(sl ⟨rfl,rfl,rfl,rfl,rfl,rfl,rfl,rfl,rfl,(tr rfl (congrArg _ (Z6 hi10 (by decide)))),trivial⟩),(hC.xM [1,2,3,4,5] rfl)⟩ h
       refine Jy 0 16 rfl rfl (by kernel_rfl) ?_ ?_
       ·skip
        refine Zdb hC (kvA .i64) (vvI .i64) fun b12 w33 hn_ hB_ hC=>?_
        have hnb_b12975:=ZEy hN_ hn_
        refine done ?_
        refine Yu (X8 hN_ (by assumption)) hN_ (l9:=(Zb 22 194547)) (by kernel_rfl) (fun hN_=>?_)
        refine Jy 2 16 rfl rfl (by kernel_rfl) ?_ ?_
        ·skip
         refine Zab hC 0 (s10.1.set i10 (ZHd.wrap ((q10.1.get i10) - 1))) 1 rfl Jl ZNk rfl rfl rfl (fun w34 hBB_ hC=>?_) (.inr rfl)
         refine done ?_
         refine Yu (J2 hN_ hnb_b12975 hBB_) hN_ (l9:=(Zb 22 194551)) (by kernel_rfl) (fun hN_=>?_)
         refine bMR (Yv _) 3 (.map (some b12)) rfl hM10 (Zb 22 194559) ?_
         refine Jy 11 16 rfl rfl (by kernel_rfl) ?_ ?_
         ·skip
          refine Zf [.map (some b12),u0_0,.map (some b10)] _ ZO3 rfl rfl rfl (Jv (Yh ([]:List (A8×Int)) (s10.1.set i10 (ZHd.wrap ((q10.1.get i10) - 1))) 1) a0.degrees ml10 h _ (hC.getM 0 rfl) (hC.getP 4 rfl) (hC.getP 0 rfl)) ?_
          rintro _ w35 ⟨r13,b31,rfl,h,hr12,hf11,hB13⟩
          refine rt ?_
          replace hC:=hC.push hB13 (mapS b31 r13) hr12 (fun b_ hb_=>by obtain rfl:=ZF6.1 hb_; exact hf11)
          refine done ?_
          refine Yu (X8 hN_ (by assumption)) hN_ (l9:=(Zb 22 196607)) (by kernel_rfl) (fun hN_=>?_)
          refine aO 16 rfl (Zdb hC (kvA .i64) (vvI .i64) fun b32 w36 hn_ hB_ hC=>?_)
          have hnb_b12988:=ZEy hN_ hn_
          refine done ?_
          refine Yu (X8 hN_ (by assumption)) hN_ (l9:=(Zb 22 262143)) (by kernel_rfl) (fun hN_=>?_)
          refine aO 18 rfl ?_
          refine Zab hC 0 s11.1 1 rfl Jl ZNk rfl rfl rfl (fun w37 hBB_ hC=>?_) (.inr rfl)
          refine done ?_
          refine Yu (J2 hN_ hnb_b12988 hBB_) hN_ (l9:=(Zb 22 524287)) (by kernel_rfl) (fun hN_=>?_)
          refine bMR (Yv _) 19 (.map (some b32)) rfl hM10 (Zb 22 1048575) (Zz 20 (by decide) (by decide) (by kernel_rfl) (by kernel_rfl) rfl (Zf [.map (some b31),u0_0,.map (some b32)] _ ZO3 rfl rfl rfl (Jv r13 a0.degrees (Yh ([]:List (A8×Int)) s11.1 1) h _ (hC.getM 1 rfl) (hC.getP 4 rfl) (hC.getM 0 rfl)) ?_))
          rintro _ w38 ⟨r14,b20,rfl,h,hr13,hf12,hB14⟩
          refine rt ?_
          replace hC:=hC.push hB14 (mapS b20 r14) hr13 (fun b_ hb_=>by obtain rfl:=ZF6.1 hb_; exact hf12)
          refine Zc (v:=.map (some b20)) rfl (done (Z0 ?_))
          exact⟨rfl,_,rfl,⟨b20,r14,(slq rfl),((hC.xM [0,6,7,8,9,10] rfl).sP [1,2,3,4,5,6,7] rfl),h⟩⟩
         ·skip
          refine Zdb hC (kvA .i64) (vvI .i64) fun b19 w39 hn_ hB_ hC=>?_
          have hnb_b13001:=ZEy hN_ hn_
          refine done ?_
          refine Yu (X8 hN_ (by assumption)) hN_ (l9:=(Zb 22 260095)) (by kernel_rfl) (fun hN_=>?_)
          refine Jy 11 18 rfl rfl (by kernel_rfl) ?_ ?_
          ·skip
           refine Zf [.map (some b12),u0_0,.map (some b10)] _ ZO3 rfl rfl rfl (Jv (Yh ([]:List (A8×Int)) (s10.1.set i10 (ZHd.wrap ((q10.1.get i10) - 1))) 1) a0.degrees ml10 h _ (hC.getM 1 rfl) (hC.getP 4 rfl) (hC.getP 0 rfl)) ?_
           rintro _ w40 ⟨r16,b33,rfl,h,hr14,hf13,hB15⟩
           refine rt ?_
           replace hC:=hC.push hB15 (mapS b33 r16) hr14 (fun b_ hb_=>by obtain rfl:=ZF6.1 hb_; exact hf13)
           refine done ?_
           refine Yu (X8 hN_ (by assumption)) hN_ (l9:=(Zb 22 262143)) (by kernel_rfl) (fun hN_=>?_)
           refine aO 18 rfl ?_
           refine Zab hC 1 s11.1 1 rfl Jl ZNk rfl rfl rfl (fun w41 hBB_ hC=>?_) (.inr rfl)
           refine done ?_
           refine Yu (J2 hN_ hnb_b13001 hBB_) hN_ (l9:=(Zb 22 524287)) (by kernel_rfl) (fun hN_=>?_)
           refine bMR (Yv _) 19 (.map (some b19)) rfl hM10 (Zb 22 1048575) (Zz 20 (by decide) (by decide) (by kernel_rfl) (by kernel_rfl) rfl (Zf [.map (some b33),u0_0,.map (some b19)] _ ZO3 rfl rfl rfl (Jv r16 a0.degrees (Yh ([]:List (A8×Int)) s11.1 1) h _ (hC.getM 0 rfl) (hC.getP 4 rfl) (hC.getM 1 rfl)) ?_))
           rintro _ w42 ⟨r17,b21,rfl,h,hr15,hf14,hB16⟩
           refine rt ?_
           replace hC:=hC.push hB16 (mapS b21 r17) hr15 (fun b_ hb_=>by obtain rfl:=ZF6.1 hb_; exact hf14)
           refine Zc (v:=.map (some b21)) rfl (done (Z0 ?_))
           exact⟨rfl,_,rfl,⟨b21,r17,(slq rfl),((hC.xM [0,6,7,8,9,10] rfl).sP [1,2,3,4,5,6,7] rfl),h⟩⟩
          ·skip
           refine Zab hC 0 s11.1 1 rfl Jl ZNk rfl rfl rfl (fun w43 hBB_ hC=>?_) (.inr rfl)
           refine done ?_
           refine Yu (J2 hN_ hnb_b13001 hBB_) hN_ (l9:=(Zb 22 522239)) (by kernel_rfl) (fun hN_=>?_)
           refine bMR (Yv _) 19 (.map (some b19)) rfl hM10 (Zb 22 1046527) (aO 11 rfl (Zf [.map (some b12),u0_0,.map (some b10)] _ ZO3 rfl rfl rfl (Jv (Yh ([]:List (A8×Int)) (s10.1.set i10 (ZHd.wrap ((q10.1.get i10) - 1))) 1) a0.degrees ml10 h _ (hC.getM 1 rfl) (hC.getP 4 rfl) (hC.getP 0 rfl)) ?_))
           rintro _ w44 ⟨r18,b34,rfl,h,hr16,hf15,hB17⟩
           refine rt ?_
           replace hC:=hC.push hB17 (mapS b34 r18) hr16 (fun b_ hb_=>by obtain rfl:=ZF6.1 hb_; exact hf15)
           refine done ?_
           refine Yu (X8 hN_ (by assumption)) hN_ (l9:=(Zb 22 1048575)) (by kernel_rfl) (fun hN_=>?_)
           refine Zz 20 (by decide) (by decide) (by kernel_rfl) (by kernel_rfl) rfl (Zf [.map (some b34),u0_0,.map (some b19)] _ ZO3 rfl rfl rfl (Jv r18 a0.degrees (Yh ([]:List (A8×Int)) s11.1 1) h _ (hC.getM 0 rfl) (hC.getP 4 rfl) (hC.getM 1 rfl)) ?_)
           rintro _ w45 ⟨r19,b22,rfl,h,hr17,hf16,hB18⟩
           refine rt ?_
           replace hC:=hC.push hB18 (mapS b22 r19) hr17 (fun b_ hb_=>by obtain rfl:=ZF6.1 hb_; exact hf16)
           refine Zc (v:=.map (some b22)) rfl (done (Z0 ?_))
           exact⟨rfl,_,rfl,⟨b22,r19,(slq rfl),((hC.xM [0,6,7,8,9,10] rfl).sP [1,2,3,4,5,6,7] rfl),h⟩⟩
        ·skip
         refine Zdb hC (kvA .i64) (vvI .i64) fun b16 w46 hn_ hB_ hC=>?_
         have hnb_b13042:=ZEy hN_ hn_
         refine done ?_
         refine Yu (X8 hN_ (by assumption)) hN_ (l9:=(Zb 22 260083)) (by kernel_rfl) (fun hN_=>?_)
         refine Jy 2 18 rfl rfl (by kernel_rfl) ?_ ?_
         ·skip
          refine Zab hC 1 (s10.1.set i10 (ZHd.wrap ((q10.1.get i10) - 1))) 1 rfl Jl ZNk rfl rfl rfl (fun w47 hBB_ hC=>?_) (.inr rfl)
          refine done ?_
          refine Yu (J2 hN_ hnb_b12975 hBB_) hN_ (l9:=(Zb 22 260087)) (by kernel_rfl) (fun hN_=>?_)
          refine bMR (Yv _) 3 (.map (some b12)) rfl hM10 (Zb 22 260095) ?_
          refine Jy 11 18 rfl rfl (by kernel_rfl) ?_ ?_
          ·skip
           refine Zf [.map (some b12),u0_0,.map (some b10)] _ ZO3 rfl rfl rfl (Jv (Yh ([]:List (A8×Int)) (s10.1.set i10 (ZHd.wrap ((q10.1.get i10) - 1))) 1) a0.degrees ml10 h _ (hC.getM 1 rfl) (hC.getP 4 rfl) (hC.getP 0 rfl)) ?_
           rintro _ w48 ⟨r20,b35,rfl,h,hr18,hf17,hB19⟩
           refine rt ?_
           replace hC:=hC.push hB19 (mapS b35 r20) hr18 (fun b_ hb_=>by obtain rfl:=ZF6.1 hb_; exact hf17)
           refine done ?_
           refine Yu (X8 hN_ (by assumption)) hN_ (l9:=(Zb 22 262143)) (by kernel_rfl) (fun hN_=>?_)
           refine aO 18 rfl ?_
           refine Zab hC 1 s11.1 1 rfl Jl ZNk rfl rfl rfl (fun w49 hBB_ hC=>?_) (.inr rfl)
           refine done ?_
           refine Yu (J2 hN_ hnb_b13042 hBB_) hN_ (l9:=(Zb 22 524287)) (by kernel_rfl) (fun hN_=>?_)
           refine bMR (Yv _) 19 (.map (some b16)) rfl hM10 (Zb 22 1048575) (Zz 20 (by decide) (by decide) (by kernel_rfl) (by kernel_rfl) rfl (Zf [.map (some b35),u0_0,.map (some b16)] _ ZO3 rfl rfl rfl (Jv r20 a0.degrees (Yh ([]:List (A8×Int)) s11.1 1) h _ (hC.getM 0 rfl) (hC.getP 4 rfl) (hC.getM 1 rfl)) ?_))
           rintro _ w50 ⟨r21,b23,rfl,h,hr19,hf18,hB20⟩
           refine rt ?_
           replace hC:=hC.push hB20 (mapS b23 r21) hr19 (fun b_ hb_=>by obtain rfl:=ZF6.1 hb_; exact hf18)
           refine Zc (v:=.map (some b23)) rfl (done (Z0 ?_))
           exact⟨rfl,_,rfl,⟨b23,r21,(slq rfl),((hC.xM [0,6,7,8,9,10] rfl).sP [1,2,3,4,5,6,7] rfl),h⟩⟩
          ·skip
           refine Zab hC 0 s11.1 1 rfl Jl ZNk rfl rfl rfl (fun w51 hBB_ hC=>?_) (.inr rfl)
           refine done ?_
           refine Yu (J2 hN_ hnb_b13042 hBB_) hN_ (l9:=(Zb 22 522239)) (by kernel_rfl) (fun hN_=>?_)
           refine bMR (Yv _) 19 (.map (some b16)) rfl hM10 (Zb 22 1046527) (aO 11 rfl (Zf [.map (some b12),u0_0,.map (some b10)] _ ZO3 rfl rfl rfl (Jv (Yh ([]:List (A8×Int)) (s10.1.set i10 (ZHd.wrap ((q10.1.get i10) - 1))) 1) a0.degrees ml10 h _ (hC.getM 1 rfl) (hC.getP 4 rfl) (hC.getP 0 rfl)) ?_))
           rintro _ w52 ⟨r22,b36,rfl,h,hr20,hf19,hB21⟩
           refine rt ?_
           replace hC:=hC.push hB21 (mapS b36 r22) hr20 (fun b_ hb_=>by obtain rfl:=ZF6.1 hb_; exact hf19)
           refine done ?_
           refine Yu (X8 hN_ (by assumption)) hN_ (l9:=(Zb 22 1048575)) (by kernel_rfl) (fun hN_=>?_)
           refine Zz 20 (by decide) (by decide) (by kernel_rfl) (by kernel_rfl) rfl (Zf [.map (some b36),u0_0,.map (some b16)] _ ZO3 rfl rfl rfl (Jv r22 a0.degrees (Yh ([]:List (A8×Int)) s11.1 1) h _ (hC.getM 0 rfl) (hC.getP 4 rfl) (hC.getM 1 rfl)) ?_)
           rintro _ w53 ⟨r23,b24,rfl,h,hr21,hf20,hB22⟩
           refine rt ?_
           replace hC:=hC.push hB22 (mapS b24 r23) hr21 (fun b_ hb_=>by obtain rfl:=ZF6.1 hb_; exact hf20)
           refine Zc (v:=.map (some b24)) rfl (done (Z0 ?_))
           exact⟨rfl,_,rfl,⟨b24,r23,(slq rfl),((hC.xM [0,6,7,8,9,10] rfl).sP [1,2,3,4,5,6,7] rfl),h⟩⟩
         ·skip
          refine Zab hC 0 s11.1 1 rfl Jl ZNk rfl rfl rfl (fun w54 hBB_ hC=>?_) (.inr rfl)
          refine done ?_
          refine Yu (J2 hN_ hnb_b13042 hBB_) hN_ (l9:=(Zb 22 522227)) (by kernel_rfl) (fun hN_=>?_)
          refine bMR (Yv _) 19 (.map (some b16)) rfl hM10 (Zb 22 1046515) (aO 2 rfl ?_)
          refine Zab hC 1 (s10.1.set i10 (ZHd.wrap ((q10.1.get i10) - 1))) 1 rfl Jl ZNk rfl rfl rfl (fun w55 hBB_ hC=>?_) (.inr rfl)
          refine done ?_
          refine Yu (J2 hN_ hnb_b12975 hBB_) hN_ (l9:=(Zb 22 1046519)) (by kernel_rfl) (fun hN_=>?_)
          refine bMR (Yv _) 3 (.map (some b12)) rfl hM10 (Zb 22 1046527) (aO 11 rfl (Zf [.map (some b12),u0_0,.map (some b10)] _ ZO3 rfl rfl rfl (Jv (Yh ([]:List (A8×Int)) (s10.1.set i10 (ZHd.wrap ((q10.1.get i10) - 1))) 1) a0.degrees ml10 h _ (hC.getM 1 rfl) (hC.getP 4 rfl) (hC.getP 0 rfl)) ?_))
          rintro _ w56 ⟨r24,b37,rfl,h,hr22,hf21,hB23⟩
          refine rt ?_
          replace hC:=hC.push hB23 (mapS b37 r24) hr22 (fun b_ hb_=>by obtain rfl:=ZF6.1 hb_; exact hf21)
          refine done ?_
          refine Yu (X8 hN_ (by assumption)) hN_ (l9:=(Zb 22 1048575)) (by kernel_rfl) (fun hN_=>?_)
          refine Zz 20 (by decide) (by decide) (by kernel_rfl) (by kernel_rfl) rfl (Zf [.map (some b37),u0_0,.map (some b16)] _ ZO3 rfl rfl rfl (Jv r24 a0.degrees (Yh ([]:List (A8×Int)) s11.1 1) h _ (hC.getM 0 rfl) (hC.getP 4 rfl) (hC.getM 1 rfl)) ?_)
          rintro _ w57 ⟨r25,b25,rfl,h,hr23,hf22,hB24⟩
          refine rt ?_
          replace hC:=hC.push hB24 (mapS b25 r25) hr23 (fun b_ hb_=>by obtain rfl:=ZF6.1 hb_; exact hf22)
          refine Zc (v:=.map (some b25)) rfl (done (Z0 ?_))
          exact⟨rfl,_,rfl,⟨b25,r25,(slq rfl),((hC.xM [0,6,7,8,9,10] rfl).sP [1,2,3,4,5,6,7] rfl),h⟩⟩
       ·skip
        refine Zdb hC (kvA .i64) (vvI .i64) fun b13 w58 hn_ hB_ hC=>?_
        have hnb_b13104:=ZEy hN_ hn_
        refine done ?_
        refine Yu (X8 hN_ (by assumption)) hN_ (l9:=(Zb 22 260082)) (by kernel_rfl) (fun hN_=>?_)
        refine Jy 0 18 rfl rfl (by kernel_rfl) ?_ ?_
        ·skip
         refine Zdb hC (kvA .i64) (vvI .i64) fun b18 w59 hn_ hB_ hC=>?_
         have hnb_b13107:=ZEy hN_ hn_
         refine done ?_
         refine Yu (X8 hN_ (by assumption)) hN_ (l9:=(Zb 22 260083)) (by kernel_rfl) (fun hN_=>?_)
         refine Jy 2 18 rfl rfl (by kernel_rfl) ?_ ?_
         ·skip
          refine Zab hC 0 (s10.1.set i10 (ZHd.wrap ((q10.1.get i10) - 1))) 1 rfl Jl ZNk rfl rfl rfl (fun w60 hBB_ hC=>?_) (.inr rfl)
          refine done ?_
          refine Yu (J2 hN_ hnb_b13107 hBB_) hN_ (l9:=(Zb 22 260087)) (by kernel_rfl) (fun hN_=>?_)
          refine bMR (Yv _) 3 (.map (some b18)) rfl hM10 (Zb 22 260095) ?_
          refine Jy 11 18 rfl rfl (by kernel_rfl) ?_ ?_
          ·skip
           refine Zf [.map (some b18),u0_0,.map (some b10)] _ ZO3 rfl rfl rfl (Jv (Yh ([]:List (A8×Int)) (s10.1.set i10 (ZHd.wrap ((q10.1.get i10) - 1))) 1) a0.degrees ml10 h _ (hC.getM 0 rfl) (hC.getP 4 rfl) (hC.getP 0 rfl)) ?_
           rintro _ w61 ⟨r26,b38,rfl,h,hr24,hf23,hB25⟩
           refine rt ?_
           replace hC:=hC.push hB25 (mapS b38 r26) hr24 (fun b_ hb_=>by obtain rfl:=ZF6.1 hb_; exact hf23)
           refine done ?_
           refine Yu (X8 hN_ (by assumption)) hN_ (l9:=(Zb 22 262143)) (by kernel_rfl) (fun hN_=>?_)
           refine aO 18 rfl ?_
           refine Zab hC 2 s11.1 1 rfl Jl ZNk rfl rfl rfl (fun w62 hBB_ hC=>?_) (.inr rfl)
           refine done ?_
           refine Yu (J2 hN_ hnb_b13104 hBB_) hN_ (l9:=(Zb 22 524287)) (by kernel_rfl) (fun hN_=>?_)
           refine bMR (Yv _) 19 (.map (some b13)) rfl hM10 (Zb 22 1048575) (Zz 20 (by decide) (by decide) (by kernel_rfl) (by kernel_rfl) rfl (Zf [.map (some b38),u0_0,.map (some b13)] _ ZO3 rfl rfl rfl (Jv r26 a0.degrees (Yh ([]:List (A8×Int)) s11.1 1) h _ (hC.getM 0 rfl) (hC.getP 4 rfl) (hC.getM 2 rfl)) ?_))
           rintro _ w63 ⟨r27,b26,rfl,h,hr25,hf24,hB26⟩
           refine rt ?_
           replace hC:=hC.push hB26 (mapS b26 r27) hr25 (fun b_ hb_=>by obtain rfl:=ZF6.1 hb_; exact hf24)
           refine Zc (v:=.map (some b26)) rfl (done (Z0 ?_))
           exact⟨rfl,_,rfl,⟨b26,r27,(slq rfl),((hC.xM [0,6,7,8,9,10] rfl).sP [1,2,3,4,5,6,7] rfl),h⟩⟩
          ·skip
           refine Zab hC 1 s11.1 1 rfl Jl ZNk rfl rfl rfl (fun w64 hBB_ hC=>?_) (.inr rfl)
           refine done ?_
           refine Yu (J2 hN_ hnb_b13104 hBB_) hN_ (l9:=(Zb 22 522239)) (by kernel_rfl) (fun hN_=>?_)
           refine bMR (Yv _) 19 (.map (some b13)) rfl hM10 (Zb 22 1046527) (aO 11 rfl (Zf [.map (some b18),u0_0,.map (some b10)] _ ZO3 rfl rfl rfl (Jv (Yh ([]:List (A8×Int)) (s10.1.set i10 (ZHd.wrap ((q10.1.get i10) - 1))) 1) a0.degrees ml10 h _ (hC.getM 0 rfl) (hC.getP 4 rfl) (hC.getP 0 rfl)) ?_))
           rintro _ w65 ⟨r28,b39,rfl,h,hr26,hf25,hB27⟩
           refine rt ?_
           replace hC:=hC.push hB27 (mapS b39 r28) hr26 (fun b_ hb_=>by obtain rfl:=ZF6.1 hb_; exact hf25)
           refine done ?_
           refine Yu (X8 hN_ (by assumption)) hN_ (l9:=(Zb 22 1048575)) (by kernel_rfl) (fun hN_=>?_)
           refine Zz 20 (by decide) (by decide) (by kernel_rfl) (by kernel_rfl) rfl (Zf [.map (some b39),u0_0,.map (some b13)] _ ZO3 rfl rfl rfl (Jv r28 a0.degrees (Yh ([]:List (A8×Int)) s11.1 1) h _ (hC.getM 0 rfl) (hC.getP 4 rfl) (hC.getM 2 rfl)) ?_)
           rintro _ w66 ⟨r29,b27,rfl,h,hr27,hf26,hB28⟩
           refine rt ?_
           replace hC:=hC.push hB28 (mapS b27 r29) hr27 (fun b_ hb_=>by obtain rfl:=ZF6.1 hb_; exact hf26)
           refine Zc (v:=.map (some b27)) rfl (done (Z0 ?_))
           exact⟨rfl,_,rfl,⟨b27,r29,(slq rfl),((hC.xM [0,6,7,8,9,10] rfl).sP [1,2,3,4,5,6,7] rfl),h⟩⟩
         ·skip
          refine Zab hC 1 s11.1 1 rfl Jl ZNk rfl rfl rfl (fun w67 hBB_ hC=>?_) (.inr rfl)
          refine done ?_
          refine Yu (J2 hN_ hnb_b13104 hBB_) hN_ (l9:=(Zb 22 522227)) (by kernel_rfl) (fun hN_=>?_)
          refine bMR (Yv _) 19 (.map (some b13)) rfl hM10 (Zb 22 1046515) (aO 2 rfl ?_)
          refine Zab hC 0 (s10.1.set i10 (ZHd.wrap ((q10.1.get i10) - 1))) 1 rfl Jl ZNk rfl rfl rfl (fun w68 hBB_ hC=>?_) (.inr rfl)
          refine done ?_
          refine Yu (J2 hN_ hnb_b13107 hBB_) hN_ (l9:=(Zb 22 1046519)) (by kernel_rfl) (fun hN_=>?_)
          refine bMR (Yv _) 3 (.map (some b18)) rfl hM10 (Zb 22 1046527) (aO 11 rfl (Zf [.map (some b18),u0_0,.map (some b10)] _ ZO3 rfl rfl rfl (Jv (Yh ([]:List (A8×Int)) (s10.1.set i10 (ZHd.wrap ((q10.1.get i10) - 1))) 1) a0.degrees ml10 h _ (hC.getM 0 rfl) (hC.getP 4 rfl) (hC.getP 0 rfl)) ?_))
          rintro _ w69 ⟨r30,b40,rfl,h,hr28,hf27,hB29⟩
          refine rt ?_
          replace hC:=hC.push hB29 (mapS b40 r30) hr28 (fun b_ hb_=>by obtain rfl:=ZF6.1 hb_; exact hf27)
          refine done ?_
          refine Yu (X8 hN_ (by assumption)) hN_ (l9:=(Zb 22 1048575)) (by kernel_rfl) (fun hN_=>?_)
          refine Zz 20 (by decide) (by decide) (by kernel_rfl) (by kernel_rfl) rfl (Zf [.map (some b40),u0_0,.map (some b13)] _ ZO3 rfl rfl rfl (Jv r30 a0.degrees (Yh ([]:List (A8×Int)) s11.1 1) h _ (hC.getM 0 rfl) (hC.getP 4 rfl) (hC.getM 2 rfl)) ?_)
          rintro _ w70 ⟨r31,b28,rfl,h,hr29,hf28,hB30⟩
          refine rt ?_
          replace hC:=hC.push hB30 (mapS b28 r31) hr29 (fun b_ hb_=>by obtain rfl:=ZF6.1 hb_; exact hf28)
          refine Zc (v:=.map (some b28)) rfl (done (Z0 ?_))
          exact⟨rfl,_,rfl,⟨b28,r31,(slq rfl),((hC.xM [0,6,7,8,9,10] rfl).sP [1,2,3,4,5,6,7] rfl),h⟩⟩
        ·skip
         refine Zab hC 0 s11.1 1 rfl Jl ZNk rfl rfl rfl (fun w71 hBB_ hC=>?_) (.inr rfl)
         refine done ?_
         refine Yu (J2 hN_ hnb_b13104 hBB_) hN_ (l9:=(Zb 22 522226)) (by kernel_rfl) (fun hN_=>?_)
         refine bMR (Yv _) 19 (.map (some b13)) rfl hM10 (Zb 22 1046514) (aO 0 rfl (Zdb hC (kvA .i64) (vvI .i64) fun b41 w72 hn_ hB_ hC=>?_))
         have hnb_b13170:=ZEy hN_ hn_
         refine done ?_
         refine Yu (X8 hN_ (by assumption)) hN_ (l9:=(Zb 22 1046515)) (by kernel_rfl) (fun hN_=>?_)
         refine aO 2 rfl ?_
         refine Zab hC 0 (s10.1.set i10 (ZHd.wrap ((q10.1.get i10) - 1))) 1 rfl Jl ZNk rfl rfl rfl (fun w73 hBB_ hC=>?_) (.inr rfl)
         refine done ?_
         refine Yu (J2 hN_ hnb_b13170 hBB_) hN_ (l9:=(Zb 22 1046519)) (by kernel_rfl) (fun hN_=>?_)
         refine bMR (Yv _) 3 (.map (some b41)) rfl hM10 (Zb 22 1046527) (aO 11 rfl (Zf [.map (some b41),u0_0,.map (some b10)] _ ZO3 rfl rfl rfl (Jv (Yh ([]:List (A8×Int)) (s10.1.set i10 (ZHd.wrap ((q10.1.get i10) - 1))) 1) a0.degrees ml10 h _ (hC.getM 0 rfl) (hC.getP 4 rfl) (hC.getP 0 rfl)) ?_))
         rintro _ w74 ⟨r32,b42,rfl,h,hr30,hf29,hB31⟩
         refine rt ?_
         replace hC:=hC.push hB31 (mapS b42 r32) hr30 (fun b_ hb_=>by obtain rfl:=ZF6.1 hb_; exact hf29)
         refine done ?_
         refine Yu (X8 hN_ (by assumption)) hN_ (l9:=(Zb 22 1048575)) (by kernel_rfl) (fun hN_=>?_)
         refine Zz 20 (by decide) (by decide) (by kernel_rfl) (by kernel_rfl) rfl (Zf [.map (some b42),u0_0,.map (some b13)] _ ZO3 rfl rfl rfl (Jv r32 a0.degrees (Yh ([]:List (A8×Int)) s11.1 1) h _ (hC.getM 0 rfl) (hC.getP 4 rfl) (hC.getM 2 rfl)) ?_)
         rintro _ w75 ⟨r33,b29,rfl,h,hr31,hf30,hB32⟩
         refine rt ?_
         replace hC:=hC.push hB32 (mapS b29 r33) hr31 (fun b_ hb_=>by obtain rfl:=ZF6.1 hb_; exact hf30)
         refine Zc (v:=.map (some b29)) rfl (done (Z0 ?_))
         exact⟨rfl,_,rfl,⟨b29,r33,(slq rfl),((hC.xM [0,6,7,8,9,10] rfl).sP [1,2,3,4,5,6,7] rfl),h⟩⟩
     ·skip
      exact⟨(slq rfl),hC⟩
    ·replace h:=Zj h (cf hb14)
     refine ZMr (Zd (sr (Za (v:=vI (i10:Int)) rfl (Za (v:=vI (q10.1.get i10)) rfl (Xm i10 ZNa sc3.size rfl rfl (ZM3 _) (by omega) (by omega) (Zx (v:=vI (q10.1.get i10)) hC 0 [vI (q10.1.get i10)] (ZMk .i64 (s10.1.set i10 (q10.1.get i10))) rfl sc3.size rfl rfl rfl rfl rfl hi10 (ZNh _ _ _ hi10) fun w76 hC=>dn (sr (Za (v:=vI (i10:Int)) rfl (Za (v:=vQ b0) rfl (Xg rfl (Zu 0 ZM7 rfl sc22.size rfl rfl (Zdy (u0_0) (hC.getP 5 rfl) sc22 rfl rfl (Zv hC 3 rfl ZM6 rfl (Zn rfl rfl (Za (v:=.bool (decide ((i10:Int) < (a0.degrees.length:Int)))) rfl ?_)))))))))))))))
     refine Y5 (decide ((i10:Int) < (a0.degrees.length:Int))) (fun hb11=>?_) (fun hb11=>?_)
     ·replace h:=ift h (ct hb11)
      refine Zl 7 87 rfl rfl hb11 (Za (v:=vQ b0) rfl (Zl 7 87 rfl rfl hb11 (Xg rfl (Zl 7 87 rfl rfl hb11 (Zu 0 ZM7 rfl sc22.size rfl rfl (Zl 7 87 rfl rfl hb11 (Zdy (u0_0) (hC.getP 5 rfl) sc22 rfl rfl (Zl 7 87 rfl rfl hb11 (Za (v:=vI (i10:Int)) rfl (Zl 7 87 rfl rfl hb11 ?_))))))))))
      obtain ⟨⟨h14,h15⟩,h⟩:=h
      obtain ⟨Ad11,c11,hv11⟩:=Zw (hC.getP 3 rfl) i10 (show i10 < a0.degrees.length by omega)
      refine Yo (len:=a0.degrees.length) ZM6 sc2.size (tr rfl hv11) rfl h14 h15 (Zl 7 87 rfl rfl hb11 (Yl (vI (a0.degrees.getD i10 ZEx)) (Ye (hC.getP 3 rfl) hv11 i10 (show i10 < a0.degrees.length by omega)) sc2 rfl (Zl 7 87 rfl rfl hb11 (Xr rfl rfl (by decide) (Zl 7 87 rfl rfl hb11 (Jg rfl rfl (Z3 (v:=.bool (decide (ZFo (a0.degrees.getD i10 ZEx) 2=1))) (b:=true) (tr rfl (congrArg _ hb11)) rfl (Za (v:=.bool (decide (ZFo (a0.degrees.getD i10 ZEx) 2=1))) rfl ?_))))))))
      refine Y5 (decide (ZFo (a0.degrees.getD i10 ZEx) 2=1)) (fun hb13=>?_) (fun hb13=>?_)
      ·replace h:=ift h (ct hb13)
       refine Zl 18 98 rfl rfl hb13 (Za (v:=vI (q10.1.get i10)) rfl (Zl 18 98 rfl rfl hb13 (Xr rfl rfl (by decide) (Zl 18 98 rfl rfl hb13 (Jg rfl rfl (Z3 (v:=.bool (decide (ZFo (q10.1.get i10) 2=1))) (b:=true) (tr rfl (congrArg _ hb13)) rfl (dn ?_)))))))
       refine Zp rfl (fun hb17=>?_) (fun hb17=>?_)
       ·replace h:=ift h (ct hb17)
        refine Zg (Za (v:=vI s10.2.2) rfl (Zf4 rfl (Zc (v:=vI (ZHd.wrap (0 - s10.2.2))) rfl (done (Zq (Zd (Zg (Zo rfl rfl (Za (v:=vI (ZHd.wrap ((i10:Int)+1))) rfl (done ?_))))))))))
        exact hK10 (s10.1.set i10 (q10.1.get i10),s10.2.1,ZHd.wrap (0 - s10.2.2)) _ _ ⟨(sl ⟨rfl,rfl,rfl,rfl,rfl,rfl,rfl,rfl,rfl,(tr rfl (congrArg _ (Z6 hi10 (by decide)))),trivial⟩),hC⟩ h
       ·replace h:=Zj h (cf hb17)
        refine ZMr (Zq (Zd (Zg (Zo rfl rfl (Za (v:=vI (ZHd.wrap ((i10:Int)+1))) rfl (done ?_))))))
        exact hK10 (s10.1.set i10 (q10.1.get i10),s10.2.1,s10.2.2) _ _ ⟨(sl ⟨rfl,rfl,rfl,rfl,rfl,rfl,rfl,rfl,rfl,(tr rfl (congrArg _ (Z6 hi10 (by decide)))),trivial⟩),hC⟩ h
      ·replace h:=Zj h (cf hb13)
       refine Zm (b:=false) 18 98 rfl (tr rfl (congrArg _ hb13)) (by decide) (Zm (b:=false) 18 98 rfl (tr rfl (congrArg _ hb13)) (by decide) (Zm (b:=false) 18 98 rfl (tr rfl (congrArg _ hb13)) (by decide) (Z3 (v:=.bool false) (b:=false) (tr rfl (congrArg _ hb13)) rfl (dn (Z2 rfl rfl (ZMr (Zq (Zd (Zg (Zo rfl rfl (Za (v:=vI (ZHd.wrap ((i10:Int)+1))) rfl (done ?_))))))))))))
       exact hK10 (s10.1.set i10 (q10.1.get i10),s10.2.1,s10.2.2) _ _ ⟨(sl ⟨rfl,rfl,rfl,rfl,rfl,rfl,rfl,rfl,rfl,(tr rfl (congrArg _ (Z6 hi10 (by decide)))),trivial⟩),hC⟩ h
     ·replace h:=Zj h (cf hb11)
      refine Zm (b:=false) 7 87 rfl (tr rfl (congrArg _ hb11)) (by decide) (Zm (b:=false) 7 87 rfl (tr rfl (congrArg _ hb11)) (by decide) (Zm (b:=false) 7 87 rfl (tr rfl (congrArg _ hb11)) (by decide) (Zm (b:=false) 7 87 rfl (tr rfl (congrArg _ hb11)) (by decide) (Zm (b:=false) 7 87 rfl (tr rfl (congrArg _ hb11)) (by decide) (Zm (b:=false) 7 87 rfl (tr rfl (congrArg _ hb11)) (by decide) (Zm (b:=false) 7 87 rfl (tr rfl (congrArg _ hb11)) (by decide) (Zm (b:=false) 7 87 rfl (tr rfl (congrArg _ hb11)) (by decide) (Zm (b:=false) 7 87 rfl (tr rfl (congrArg _ hb11)) (by decide) (Z3 (v:=.bool false) (b:=false) (tr rfl (congrArg _ hb11)) rfl (Za (v:=.bool false) rfl (Zm (b:=false) 18 98 rfl (tr rfl (congrArg _ rfl)) (by decide) (Zm (b:=false) 18 98 rfl (tr rfl (congrArg _ rfl)) (by decide) (Zm (b:=false) 18 98 rfl (tr rfl (congrArg _ rfl)) (by decide) (Z3 (v:=.bool false) (b:=false) rfl rfl (dn (Z2 rfl rfl (ZMr (Zq (Zd (Zg (Zo rfl rfl (Za (v:=vI (ZHd.wrap ((i10:Int)+1))) rfl (done ?_)))))))))))))))))))))))
      exact hK10 (s10.1.set i10 (q10.1.get i10),s10.2.1,s10.2.2) _ _ ⟨(sl ⟨rfl,rfl,rfl,rfl,rfl,rfl,rfl,rfl,rfl,(tr rfl (congrArg _ (Z6 hi10 (by decide)))),trivial⟩),hC⟩ h
   ·clear hC h
    rintro s10 e_ w77 K10 ⟨hS_,hC⟩ h
    rw [ue hS_]
    refine sr (Zn rfl rfl (dn (ZMn (Z2 rfl (decide_eq_false (by omega)) ?_))))
    refine ZM1 (Zh (Zh (Zy ?_)))
    refine Zq ?_
    exact hK11 q10 l10 s10.2.1 _ _ hp10 ⟨(some ent10),(slq rfl),(hC.xM [2,3,4] rfl)⟩ h
   ·skip
    exact⟨(slq rfl),hC⟩
 ·skip
  exact⟨none,(slq rfl),(hC.sP [0,2,3,4,5,6,7] rfl)⟩
def Zg1 (a0:A8) (K:A8→Prop):Prop :=
 Yb (fun i10 (s10:A8) nx10=>nx10 (s10.set i10 (a0.get i10))) (fun (s10:A8)=>K s10) 8 0 ZMs
theorem Zwj (a0:A8)  {K:A8→Prop} (h:Zg1 a0 K) (w0:World)  :
  Calls ZMq 177 #[.agg (ZMl (ZMk .u8 a0))] w0 fun e w'=>∃ (r0:A8),
   e=.returned (.agg (ZMl (ZMk .u8 r0)))∧K r0∧Bel w0 w':=by
 unfold Zg1 at h
 refine cof Tryz.func177 rfl 15 Tryz.ntmps177 ?_
 have hC:=ZM8 (X:=Nox) w0 [] (by simp)
 refine sr (Yg (v:=.agg (ZMl (ZMk .u8 a0))) hC (ZMk .u8 a0) rfl rfl fun b1 w3 hB_ hC=>Yk hC (ZMk .u8 ZMs) Zbb rfl fun b4 w6 hB_ hC=>dn (sr (Yk hC (ZMk .u8 ZMs) Zbb rfl fun b7 w9 hB_ hC=>dn (ZMn (sr (Zc (v:=vI 0) rfl (dn (ZMt ?_))))))))
 refine Yn (S:=A8) _ _ (fun i10 s10 e_ w_=>Zt e_ [(1,vQ b1),(2,vQ b4),(3,vQ b7),(4,vI (i10:Int))]∧Ctx Nox w0 w_ [blk b7 136 (ZMk .u8 s10),blk b4 136 (ZMk .u8 ZMs),blk b1 135 (ZMk .u8 a0)] []) 8 ?_ ?_ (s0:=ZMs) ?_ h
 ·clear hC h
  rintro i10 s10 e_ w10 nx10 K10 hi10 ⟨hS_,hC⟩ h hK10
  rw [ue hS_]
  refine ZMn (sr (Za (v:=vI (i10:Int)) rfl (Zn rfl rfl (dn (Yc rfl (decide_eq_true (by omega)) (ZMr (Zd (ZMn (ZMt (Zg (Za (v:=vI (i10:Int)) rfl (Za (v:=vI (i10:Int)) rfl (Xm i10 Tryz.underlying135 sc5.size rfl rfl (ZM3 _) (by omega) (by omega) (Z5 hC 2 (.int .u8 (a0.get i10)) rfl sc5 rfl (ZM0 _ _ hi10) (Xm i10 ZM5 sc5.size rfl rfl (ZM3 _) (by omega) (by omega) (Zx (v:=.int .u8 (a0.get i10)) hC 0 [.int .u8 (a0.get i10)] (ZMk .u8 (s10.set i10 (a0.get i10))) rfl sc5.size rfl rfl rfl rfl rfl hi10 (ZNh _ _ _ hi10) fun w11 hC=>done (Zq (Zd (Zg (Za (v:=vI (i10:Int)) rfl (Zo rfl rfl (Zc (v:=vI (ZHd.wrap ((i10:Int)+1))) rfl (done ?_)))))))))))))))))))))))
  exact hK10 (s10.set i10 (a0.get i10)) _ _ ⟨(sl ⟨rfl,rfl,rfl,(tr rfl (congrArg _ (Z6 hi10 (by decide)))),trivial⟩),hC⟩ h
 ·clear hC h
  rintro s10 e_ w12 K10 ⟨hS_,hC⟩ h
  rw [ue hS_]
  refine ZMn (sr (Za (v:=vI 8) rfl (Zn rfl rfl (dn (Z2 rfl (decide_eq_false (by omega)) ?_)))))
  refine ZM1 (Zh (Zh (Zy ?_)))
  refine Zd (sr (Yp hC 0 (ZMk .u8 s10) rfl ag136 rfl rfl rfl (Zx (v:=.agg (ZMl (ZMk .u8 s10))) hC 1 (ZMk .u8 s10) (ZMk .u8 s10) rfl ag136.size rfl rfl rfl rfl rfl (ZMw rfl) rfl fun w13 hC=>dn (ZMv ?_))))
  exact Zi rfl (Zaa hC 1 rfl ag136 rfl rfl) ⟨s10,rfl,h,hC.below⟩ (.inl rfl)
 ·skip
  exact⟨(slq rfl),hC⟩
def Zg2 (a0:List Int) (K:List Int→Prop):Prop :=
 ((0≤(a0.length:Int)∧(a0.length:Int) * 8≤281474976710656)∧Yb (fun i10 (s10:(List Int)) nx10=>((0≤(i10:Int)∧(i10:Int) < (s10.length:Int))∧nx10 (s10.set i10 (a0.getD i10 ZEx)))) (fun (s10:(List Int))=>K s10) a0.length 0 (ZEs ((a0.length:Int).toNat) (0:Int)))
theorem Zwk (a0:List Int)  {K:List Int→Prop} (h:Zg2 a0 K) (w0:World) (q0:ZO5.rep a0 [u0_0] fp0 w0) :
  Calls ZMq 41 #[u0_0] w0 fun e w'=>∃ (r0:List Int) (z0_0:Value) (fz0:List Nat),
   e=.returned (z0_0)∧K r0∧(ZM4 (Tr.sl 2 (eI.tr)) r0 [z0_0] fz0).holds w'∧(∀ b,b∈fz0→w0.heap.size≤b)∧Bel w0 w':=by
 unfold Zg2 at h
 refine cof Tryz.func41 rfl 22 Tryz.ntmps41 ?_
 have hC:=ZM8 (X:=Nox) w0 [ZMm TInts a0 [u0_0] fp0] (al1 q0)
 refine sr (Zc (v:=.slice none 0 0) rfl (dn (sr (Za (v:=u0_0) rfl (Zv hC 0 rfl ZM6 rfl ?_)))))
 obtain ⟨hm7,h⟩:=h
 refine Zb2 (sz:=1) hC (eI.encs (ZEs ((a0.length:Int).toNat) (0:Int))) ZM6 el2 (tr rfl (congrArg (ZPb .i64) (ZPc hm7.1).symm)) (tr rfl (congrArg (ZPb .i64) (ZPc hm7.1).symm)) (by omega) (by omega) (Zbu (E:=eI) _ _) fun v5 w6 hB_ hC=>?_
 replace hC:=Xb hC 0 ((ZEs ((a0.length:Int).toNat) (0:Int)).length) (eI.encs (ZEs ((a0.length:Int).toNat) (0:Int))) rfl (by simp) rfl
 refine Zc (v:=v5) rfl (dn (ZMn (sr (Zc (v:=vI 0) rfl (dn (ZMt ?_))))))
 have hN10:a0.length≤9223372036854775807:=Yx (hC.getP 0 rfl)
 refine Yn (S:=(List Int)) _ _ (fun i10 s10 e_ w_=>∃ (v10:Value),Zt e_ [(0,u0_0),(3,v10),(4,vI (i10:Int))]∧Ctx Nox w0 w_ [own 2 1 v10 s10.length (eI.encs s10)] [ZMm TInts a0 [u0_0] fp0]) a0.length ?_ ?_ (s0:=(ZEs ((a0.length:Int).toNat) (0:Int))) ?_ h
 ·clear hC h
  rintro i10 s10 e_ w10 nx10 K10 hi10 ⟨v10,hS_,hC⟩ h hK10
  rw [ue hS_]
  refine ZMn (sr (Za (v:=vI (i10:Int)) rfl (Za (v:=u0_0) rfl (Zv hC 0 rfl ZM6 rfl (Zn rfl rfl (dn (Yc rfl (decide_eq_true (by omega)) (ZMr (Zd (ZMn (ZMt (Zg (Za (v:=v10) rfl (Za (v:=vI (i10:Int)) rfl (Za (v:=u0_0) rfl (Za (v:=vI (i10:Int)) rfl ?_))))))))))))))))
  obtain ⟨Ad10,c10,hv10⟩:=Zw (hC.getP 0 rfl) i10 hi10
  refine Yo (len:=a0.length) ZM6 sc2.size (tr rfl hv10) rfl (ZM3 _) (ZNl.2 hi10) (Yl (vI (a0.getD i10 ZEx)) (Ye (hC.getP 0 rfl) hv10 i10 hi10) sc2 rfl ?_)
  obtain ⟨⟨h10,h11⟩,h⟩:=h
  obtain ⟨Ad11,c11,hv11⟩:=Jp (hC.getM 0 rfl) (ZPl (Nat.zero_le _) (show i10 < s10.length by omega))
  refine Jz (i10 * 1) ZM6 sc2.size (tr rfl hv11) rfl h10 h11 rfl (Zc7 (v:=vI (a0.getD i10 ZEx)) hC 0 [vI (a0.getD i10 ZEx)] (eI.encs (s10.set i10 (a0.getD i10 ZEx))) rfl hv11 sc2.size rfl rfl rfl rfl rfl (by rw [Enc.encs_len]; exact Zar (sz:=1) (show i10 < s10.length by omega)) (Zc8 _ _ _ (show i10 < s10.length by omega)) fun w11 hC=>?_)
  replace hC:=Xb hC 0 ((s10.set i10 (a0.getD i10 ZEx)).length) (eI.encs (s10.set i10 (a0.getD i10 ZEx))) rfl (by simp) rfl
  refine done (Zq (Zd (Zg (Za (v:=vI (i10:Int)) rfl (Zo rfl rfl (Zc (v:=vI (ZHd.wrap ((i10:Int)+1))) rfl (done ?_)))))))
  exact hK10 (s10.set i10 (a0.getD i10 ZEx)) _ _ ⟨v10,(sl ⟨rfl,rfl,(tr rfl (congrArg _ (Z6 hi10 hN10))),trivial⟩),hC⟩ h
 ·clear hC h
  rintro s10 e_ w12 K10 ⟨v10,hS_,hC⟩ h
  rw [ue hS_]
  refine ZMn (sr (Za (v:=vI (a0.length:Int)) rfl (Za (v:=u0_0) rfl (Zv hC 0 rfl ZM6 rfl (Zn rfl rfl (dn (Z2 rfl (decide_eq_false (by omega)) ?_)))))))
  refine ZM1 (Zh (Zh (Zy ?_)))
  refine Zd (sr (Za (v:=v10) rfl (Zc (v:=v10) rfl (dn (ZMv ?_)))))
  exact Zi rfl (Ze rfl) ⟨s10,v10,(ZNm (ZFq v10)),rfl,h,(Xy (hC.getM 0 rfl)),(Yz hC 0 rfl),hC.below⟩ (.inl rfl)
 ·skip
  exact⟨v5,(slq rfl),hC⟩
def Zg3 (a0:A8) (a1:A8) (K:Bool→Prop):Prop :=
 Yb (fun i10 (s10:Unit) nx10=>(if a0.get i10≠a1.get i10 then K false else nx10 ())) (fun (s10:Unit)=>K true) 8 0 ()
theorem Zwl (a0:A8) (a1:A8)  {K:Bool→Prop} (h:Zg3 a0 a1 K) (w0:World)  :
  Calls ZMq 188 #[.agg (ZMl (ZMk .u8 a0)),.agg (ZMl (ZMk .u8 a1))] w0 fun e w'=>∃ (r0:Bool),
   e=.returned (.bool r0)∧K r0∧Bel w0 w':=by
 unfold Zg3 at h
 refine cof Tryz.func188 rfl 17 Tryz.ntmps188 ?_
 have hC:=ZM8 (X:=Nox) w0 [] (by simp)
 refine sr (Yg (v:=.agg (ZMl (ZMk .u8 a0))) hC (ZMk .u8 a0) rfl rfl fun b1 w3 hB_ hC=>Yg (v:=.agg (ZMl (ZMk .u8 a1))) hC (ZMk .u8 a1) rfl rfl fun b4 w6 hB_ hC=>Zc (v:=.bool false) rfl (dn (ZMn (sr (Zc (v:=vI 0) rfl (dn (ZMt ?_)))))))
 refine Yn (S:=Unit) _ _ (fun i10 s10 e_ w_=>Zt e_ [(2,vQ b1),(3,vQ b4),(5,vI (i10:Int))]∧Ctx Nox w0 w_ [blk b4 136 (ZMk .u8 a1),blk b1 136 (ZMk .u8 a0)] []) 8 ?_ ?_ (s0:=()) ?_ h
 ·clear hC h
  rintro i10 s10 e_ w10 nx10 K10 hi10 ⟨hS_,hC⟩ h hK10
  rw [ue hS_]
  refine ZMn (sr (Za (v:=vI (i10:Int)) rfl (Zn rfl rfl (dn (Yc rfl (decide_eq_true (by omega)) (ZMr (Zd (ZMn (ZMt (ZMn ?_))))))))))
  refine cwd 6 Yi [0,1,3,0,8,24,63] [1,2,4,5] [0,3] (fun hM10 hM11 w11 hB_=>?_)
  replace hC:=hC.grow hB_
  refine bM 0 (vI (i10:Int)) rfl hM11 (Zb 7 1) (bL 1 (.pointer (some ⟨b1,i10,none⟩)) rfl rfl hM10 (fun _ hB_=>by exact J5 i10 ZM5 sc5.size rfl rfl (ZM3 _) (by omega) (by omega)) (Zb 7 3) (bL 2 (.int .u8 (a0.get i10)) rfl rfl hM10 (fun _ hB_=>by exact Ya (hC.grow hB_) 1 (.int .u8 (a0.get i10)) rfl sc5 rfl (ZM0 _ _ hi10)) (Zb 7 7) (bM 3 (vI (i10:Int)) rfl hM11 (Zb 7 15) (bL 4 (.pointer (some ⟨b4,i10,none⟩)) rfl rfl hM10 (fun _ hB_=>by exact J5 i10 ZM5 sc5.size rfl rfl (ZM3 _) (by omega) (by omega)) (Zb 7 31) (bL 5 (.int .u8 (a1.get i10)) rfl rfl hM10 (fun _ hB_=>by exact Ya (hC.grow hB_) 0 (.int .u8 (a1.get i10)) rfl sc5 rfl (ZM0 _ _ hi10)) (Zb 7 63) (Zz 6 (by decide) (by decide) (by kernel_rfl) (by kernel_rfl) rfl (Y2 rfl rfl (done (Z0 (Zd ?_))))))))))
  refine Zp rfl (fun hb10=>?_) (fun hb10=>?_)
  ·replace h:=ift h (ct hb10)
   refine sr (Zc (v:=.bool false) rfl (dn ?_))
   refine ZMv (Z4 (Zk (Zk (Z4 (Zk ?_)))))
   exact Zi rfl (Ze rfl) ⟨false,rfl,h,hC.below⟩ (.inl rfl)
  ·replace h:=Zj h (cf hb10)
   refine ZMr (Zq (Zd (Zg (Za (v:=vI (i10:Int)) rfl (Zo rfl rfl (Zc (v:=vI (ZHd.wrap ((i10:Int)+1))) rfl (done ?_)))))))
   exact hK10 () _ _ ⟨(sl ⟨rfl,rfl,(tr rfl (congrArg _ (Z6 hi10 (by decide)))),trivial⟩),hC⟩ h
 ·clear hC h
  rintro s10 e_ w12 K10 ⟨hS_,hC⟩ h
  rw [ue hS_]
  refine ZMn (sr (Za (v:=vI 8) rfl (Zn rfl rfl (dn (Z2 rfl (decide_eq_false (by omega)) ?_)))))
  refine ZM1 (Zh (Zh (Zy ?_)))
  refine Zd (sr (Zc (v:=.bool true) rfl (dn (ZMv ?_))))
  exact Zi rfl (Ze rfl) ⟨true,rfl,h,hC.below⟩ (.inl rfl)
 ·skip
  exact⟨(slq rfl),hC⟩
def Zg4 (a0:List Int) (a1:List Int) (K:Bool→Prop):Prop :=
 (if(a0.length:Int)≠(a1.length:Int) then K false else Yb (fun i10 (s10:Unit) nx10=>((0≤(i10:Int)∧(i10:Int) < (a1.length:Int))∧(if a0.getD i10 ZEx≠a1.getD i10 ZEx then K false else nx10 ()))) (fun (s10:Unit)=>K true) a0.length 0 ())
theorem Zwm (a0:List Int) (a1:List Int)  {K:Bool→Prop} (h:Zg4 a0 a1 K) (w0:World) (q0:ZO5.rep a0 [u0_0] fp0 w0) (q1:ZO5.rep a1 [u1_0] fp1 w0) :
  Calls ZMq 25 #[u0_0,u1_0] w0 fun e w'=>∃ (r0:Bool),
   e=.returned (.bool r0)∧K r0∧Bel w0 w':=by
 unfold Zg4 at h
 refine cof Tryz.func25 rfl 26 Tryz.ntmps25 ?_
 have hC:=ZM8 (X:=Nox) w0 [ZMm TInts a0 [u0_0] fp0,ZMm TInts a1 [u1_0] fp1] (alc q0 (al1 q1))
 refine sr (Zc (v:=.bool false) rfl (dn (ZMn (sr (Za (v:=u0_0) rfl (Zv hC 0 rfl ZM6 rfl (Za (v:=u1_0) rfl (Zv hC 1 rfl ZM6 rfl (Y2 rfl rfl (dn ?_))))))))))
 refine Zp rfl (fun hb9=>?_) (fun hb9=>?_)
 ·replace h:=ift h (ct hb9)
  refine sr (Zc (v:=.bool false) rfl (dn ?_))
  refine ZMv (Zk ?_)
  exact Zi rfl (Ze rfl) ⟨false,rfl,h,hC.below⟩ (.inl rfl)
 ·replace h:=Zj h (cf hb9)
  refine ZMr (Zd (ZMn (sr (Zc (v:=vI 0) rfl (dn (ZMt ?_))))))
  have hN10:a0.length≤9223372036854775807:=Yx (hC.getP 0 rfl)
  refine Yn (S:=Unit) _ _ (fun i10 s10 e_ w_=>Zt e_ [(0,u0_0),(1,u1_0),(5,vI (i10:Int))]∧Ctx Nox w0 w_ [] [ZMm TInts a0 [u0_0] fp0,ZMm TInts a1 [u1_0] fp1]) a0.length ?_ ?_ (s0:=()) ?_ h
  ·clear hC h
   rintro i10 s10 e_ w10 nx10 K10 hi10 ⟨hS_,hC⟩ h hK10
   rw [ue hS_]
   refine ZMn (sr (Za (v:=vI (i10:Int)) rfl (Za (v:=u0_0) rfl (Zv hC 0 rfl ZM6 rfl (Zn rfl rfl (dn (Yc rfl (decide_eq_true (by omega)) (ZMr (Zd (ZMn (ZMt (ZMn ?_))))))))))))
   refine cwd 8 Yi [0,0,3,7,0,0,48,112,255] [2,3,6,7] [0,1,4,5] (fun hM10 hM11 w11 hB_=>?_)
   replace hC:=hC.grow hB_
   refine bM 0 (u0_0) rfl hM11 (Zb 9 1) (bM 1 (vI (i10:Int)) rfl hM11 (Zb 9 3) ?_)
   obtain ⟨Ad10,c10,hv10⟩:=Zw (hC.getP 0 rfl) i10 hi10
   refine bL 2 (.pointer (some (Ad10.add (i10 * 1)))) rfl rfl hM10 (fun _ hB_=>by exact Yq (len:=a0.length) ZM6 sc2.size (by exact tr rfl hv10) rfl (ZM3 _) (ZNl.2 hi10)) (Zb 9 7) (bL 3 (vI (a0.getD i10 ZEx)) rfl rfl hM10 (fun _ hB_=>by exact Y7 (vI (a0.getD i10 ZEx)) (Ye ((hC.grow hB_).getP 0 rfl) hv10 i10 hi10) sc2 rfl) (Zb 9 15) (bM 4 (u1_0) rfl hM11 (Zb 9 31) (bM 5 (vI (i10:Int)) rfl hM11 (Zb 9 63) ?_)))
   obtain ⟨⟨h10,h11⟩,h⟩:=h
   obtain ⟨Ad11,c11,hv11⟩:=Zw (hC.getP 1 rfl) i10 (show i10 < a1.length by omega)
   refine bL 6 (.pointer (some (Ad11.add (i10 * 1)))) rfl rfl hM10 (fun _ hB_=>by exact Yq (len:=a1.length) ZM6 sc2.size (by exact tr rfl hv11) rfl h10 h11) (Zb 9 127) (bL 7 (vI (a1.getD i10 ZEx)) rfl rfl hM10 (fun _ hB_=>by exact Y7 (vI (a1.getD i10 ZEx)) (Ye ((hC.grow hB_).getP 1 rfl) hv11 i10 (show i10 < a1.length by omega)) sc2 rfl) (Zb 9 255) (Zz 8 (by decide) (by decide) (by kernel_rfl) (by kernel_rfl) rfl (Y2 rfl rfl (done (Z0 (Zd ?_))))))
   refine Zp rfl (fun hb10=>?_) (fun hb10=>?_)
   ·replace h:=ift h (ct hb10)
    refine sr (Zc (v:=.bool false) rfl (dn ?_))
    refine ZMv (Z4 (Zk (Zk (Z4 (Zk ?_)))))
    exact Zi rfl (Ze rfl) ⟨false,rfl,h,hC.below⟩ (.inl rfl)
   ·replace h:=Zj h (cf hb10)
    refine ZMr (Zq (Zd (Zg (Za (v:=vI (i10:Int)) rfl (Zo rfl rfl (Zc (v:=vI (ZHd.wrap ((i10:Int)+1))) rfl (done ?_)))))))
    exact hK10 () _ _ ⟨(sl ⟨rfl,rfl,(tr rfl (congrArg _ (Z6 hi10 hN10))),trivial⟩),hC⟩ h
  ·clear hC h
   rintro s10 e_ w12 K10 ⟨hS_,hC⟩ h
   rw [ue hS_]
   refine ZMn (sr (Za (v:=vI (a0.length:Int)) rfl (Za (v:=u0_0) rfl (Zv hC 0 rfl ZM6 rfl (Zn rfl rfl (dn (Z2 rfl (decide_eq_false (by omega)) ?_)))))))
   refine ZM1 (Zh (Zh (Zy ?_)))
   refine Zd (sr (Zc (v:=.bool true) rfl (dn (ZMv ?_))))
   exact Zi rfl (Ze rfl) ⟨true,rfl,h,hC.below⟩ (.inl rfl)
  ·skip
   exact⟨(slq rfl),hC⟩
def Zg5 (a0:Term) (K:Term→Prop):Prop :=
 Zg1 a0.mono (fun r10=>K (⟨r10,a0.factor⟩:Term))
theorem Zwn (a0:Term)  {K:Term→Prop} (h:Zg5 a0 K) (w0:World)  :
  Calls ZMq 130 #[.agg (ZMl (ZMy a0))] w0 fun e w'=>∃ (r0:Term),
   e=.returned (.agg (ZMl (ZMy r0)))∧K r0∧Bel w0 w':=by
 unfold Zg5 at h
 refine cof Tryz.func130 rfl 12 Tryz.ntmps130 ?_
 have hC:=ZM8 (X:=Nox) w0 [] (by simp)
 refine sr (Yg (v:=.agg (ZMl (ZMy a0))) hC (ZMy a0) rfl rfl fun b1 w3 hB_ hC=>Yk hC (ZMy (⟨ZMs,0⟩:Term)) Ze8 rfl fun b4 w6 hB_ hC=>dn (sr (Yk hC (ZMy (⟨ZMs,0⟩:Term)) Ze8 rfl fun b7 w9 hB_ hC=>dn (sr (Zu 0 Tryz.underlying170 rfl ag135.size rfl rfl (Yp hC 2 (ZMk .u8 a0.mono) rfl ag135 rfl rfl rfl (Zf [.agg (ZMl (ZMk .u8 a0.mono))] _ Tryz.func177 rfl rfl rfl (Zwj a0.mono h _) ?_)))))))
 rintro _ w10 ⟨r10,rfl,h,hB10⟩
 refine rt ?_
 replace hC:=hC.grow hB10
 refine Zu 0 ZM2 rfl ag136.size rfl rfl (Zx (v:=.agg (ZMl (ZMk .u8 r10))) hC 0 (ZMk .u8 r10) (ZMy (⟨r10,0⟩:Term)) rfl ag136.size rfl rfl rfl rfl rfl (ZMw rfl) rfl fun w11 hC=>dn (sr (Zu 8 Tryz.underlying170 rfl sc2.size rfl rfl (Z5 hC 2 (vI a0.factor) rfl sc2 rfl rfl (Zu 8 ZM2 rfl sc2.size rfl rfl (Zx (v:=vI a0.factor) hC 0 [vI a0.factor] (ZMy (⟨r10,a0.factor⟩:Term)) rfl sc2.size rfl rfl rfl rfl rfl (ZMw rfl) rfl fun w12 hC=>dn (sr (Yp hC 0 (ZMy (⟨r10,a0.factor⟩:Term)) rfl ag162 rfl rfl rfl (Zx (v:=.agg (ZMl (ZMy (⟨r10,a0.factor⟩:Term)))) hC 1 (ZMy (⟨r10,a0.factor⟩:Term)) (ZMy (⟨r10,a0.factor⟩:Term)) rfl ag162.size rfl rfl rfl rfl rfl (ZMw rfl) rfl fun w13 hC=>dn (ZMv ?_))))))))))
 exact Zi rfl (Zaa hC 1 rfl ag162 rfl rfl) ⟨(⟨r10,a0.factor⟩:Term),rfl,h,hC.below⟩ (.inl rfl)
def Zg6 (a0:List Term) (K:List Term→Prop):Prop :=
 ((0≤(a0.length:Int)∧(a0.length:Int) * 16≤281474976710656)∧Yb (fun i10 (s10:(List Term)) nx10=>Zg5 (a0.getD i10 ZEx) (fun r10=>((0≤(i10:Int)∧(i10:Int) < (s10.length:Int))∧nx10 (s10.set i10 r10)))) (fun (s10:(List Term))=>K s10) a0.length 0 (ZEs ((a0.length:Int).toNat) ((⟨ZMs,0⟩:Term):Term)))
theorem Zwo (a0:List Term)  {K:List Term→Prop} (h:Zg6 a0 K) (w0:World) (q0:ZMo.ty.sl.rep a0 [u0_0] fp0 w0) :
  Calls ZMq 74 #[u0_0] w0 fun e w'=>∃ (r0:List Term) (z0_0:Value) (fz0:List Nat),
   e=.returned (z0_0)∧K r0∧(ZM4 (Tr.sl 162 ZMo.tr) r0 [z0_0] fz0).holds w'∧(∀ b,b∈fz0→w0.heap.size≤b)∧Bel w0 w':=by
 unfold Zg6 at h
 refine cof Tryz.func74 rfl 23 Tryz.ntmps74 ?_
 have hC:=ZM8 (X:=Nox) w0 [ZMm ZMo.ty.sl a0 [u0_0] fp0] (al1 q0)
 refine sr (Zc (v:=.slice none 0 0) rfl (dn (sr (Za (v:=u0_0) rfl (Zv hC 0 rfl ZPd rfl ?_)))))
 obtain ⟨hm7,h⟩:=h
 refine Zb2 (sz:=9) hC (ZMo.encs (ZEs ((a0.length:Int).toNat) ((⟨ZMs,0⟩:Term):Term))) ZMx Zgl (tr rfl (congrArg (ZPb .i64) (ZPc hm7.1).symm)) (tr rfl (congrArg (ZPb .i64) (ZPc hm7.1).symm)) (by omega) (by omega) (Zbu (E:=ETerm) _ _) fun v5 w6 hB_ hC=>?_
 replace hC:=Xb hC 0 ((ZEs ((a0.length:Int).toNat) ((⟨ZMs,0⟩:Term):Term)).length) (ZMo.encs (ZEs ((a0.length:Int).toNat) ((⟨ZMs,0⟩:Term):Term))) rfl (by simp) rfl
 refine Zc (v:=v5) rfl (dn (ZMn (sr (Zc (v:=vI 0) rfl (dn (ZMt ?_))))))
 have hN10:a0.length≤9223372036854775807:=Yx (hC.getP 0 rfl)
 refine Yn (S:=(List Term)) _ _ (fun i10 s10 e_ w_=>∃ (v10:Value),Zt e_ [(0,u0_0),(3,v10),(4,vI (i10:Int))]∧Ctx Nox w0 w_ [own 162 9 v10 s10.length (ZMo.encs s10)] [ZMm ZMo.ty.sl a0 [u0_0] fp0]) a0.length ?_ ?_ (s0:=(ZEs ((a0.length:Int).toNat) ((⟨ZMs,0⟩:Term):Term))) ?_ h
 ·clear hC h
  rintro i10 s10 e_ w10 nx10 K10 hi10 ⟨v10,hS_,hC⟩ h hK10
  rw [ue hS_]
  refine ZMn (sr (Za (v:=vI (i10:Int)) rfl (Za (v:=u0_0) rfl (Zv hC 0 rfl ZPd rfl (Zn rfl rfl (dn (Yc rfl (decide_eq_true (by omega)) (ZMr (Zd (ZMn (ZMt (Zg (Za (v:=v10) rfl (Za (v:=vI (i10:Int)) rfl (Za (v:=u0_0) rfl (Za (v:=vI (i10:Int)) rfl ?_))))))))))))))))
  obtain ⟨Ad10,c10,hv10⟩:=Zw (hC.getP 0 rfl) i10 hi10
  refine Yo (len:=a0.length) ZPd ag170.size (tr rfl hv10) rfl (ZM3 _) (ZNl.2 hi10) (Zak (ZMy (a0.getD i10 ZEx)) (Ye (hC.getP 0 rfl) hv10 i10 hi10) ag170 rfl rfl (Zf [.agg (ZMl (ZMy (a0.getD i10 ZEx)))] _ Tryz.func130 rfl rfl rfl (Zwn (a0.getD i10 ZEx) h _) ?_))
  rintro _ w11 ⟨r10,rfl,h,hB10⟩
  refine rt ?_
  replace hC:=hC.grow hB10
  obtain ⟨⟨h10,h11⟩,h⟩:=h
  obtain ⟨Ad11,c11,hv11⟩:=Jp (hC.getM 0 rfl) (ZPl (Nat.zero_le _) (show i10 < s10.length by omega))
  refine Jz (i10 * 9) ZMx ag162.size (tr rfl hv11) rfl h10 h11 rfl (Zc7 (v:=.agg (ZMl (ZMy r10))) hC 0 (ZMy r10) (ZMo.encs (s10.set i10 r10)) rfl hv11 ag162.size rfl rfl rfl rfl rfl (by rw [Enc.encs_len]; exact Zar (sz:=9) (show i10 < s10.length by omega)) (Zc8 _ _ _ (show i10 < s10.length by omega)) fun w12 hC=>?_)
  replace hC:=Xb hC 0 ((s10.set i10 r10).length) (ZMo.encs (s10.set i10 r10)) rfl (by simp) rfl
  refine done (Zq (Zd (Zg (Za (v:=vI (i10:Int)) rfl (Zo rfl rfl (Zc (v:=vI (ZHd.wrap ((i10:Int)+1))) rfl (done ?_)))))))
  exact hK10 (s10.set i10 r10) _ _ ⟨v10,(sl ⟨rfl,rfl,(tr rfl (congrArg _ (Z6 hi10 hN10))),trivial⟩),hC⟩ h
 ·clear hC h
  rintro s10 e_ w13 K10 ⟨v10,hS_,hC⟩ h
  rw [ue hS_]
  refine ZMn (sr (Za (v:=vI (a0.length:Int)) rfl (Za (v:=u0_0) rfl (Zv hC 0 rfl ZPd rfl (Zn rfl rfl (dn (Z2 rfl (decide_eq_false (by omega)) ?_)))))))
  refine ZM1 (Zh (Zh (Zy ?_)))
  refine Zd (sr (Za (v:=v10) rfl (Zc (v:=v10) rfl (dn (ZMv ?_)))))
  exact Zi rfl (Ze rfl) ⟨s10,v10,(ZNm (ZFq v10)),rfl,h,(Xy (hC.getM 0 rfl)),(Yz hC 0 rfl),hC.below⟩ (.inl rfl)
 ·skip
  exact⟨v5,(slq rfl),hC⟩
def Zg7 (a0:ZMp) (K:ZMp→Prop):Prop :=
 Zg6 a0.terms (fun r10=>K (⟨r10⟩:ZMp))
theorem Zwp (a0:ZMp)  {K:ZMp→Prop} (h:Zg7 a0 K) (w0:World) (q0:ZM9.rep a0 [u0_0] fp0 w0) :
  Calls ZMq 30 #[.agg #[u0_0]] w0 fun e w'=>∃ (r0:ZMp) (z0_0:Value) (fz0:List Nat),
   e=.returned (.agg #[z0_0])∧K r0∧(ZM4 (Yt 162) r0 [z0_0] fz0).holds w'∧(∀ b,b∈fz0→w0.heap.size≤b)∧Bel w0 w':=by
 unfold Zg7 at h
 refine cof Tryz.func30 rfl 9 Tryz.ntmps30 ?_
 have hC:=ZM8 (X:=Nox) w0 [ZMm TForm a0 [u0_0] fp0] (al1 q0)
 have hp2:=(hC.getP 0 rfl)
 replace hC:=hC.derive 0 rfl (ZMm ZMo.ty.sl a0.terms [u0_0] fp0) (fun _=>(Xi hp2)) (fun _ hb_=>hb_)
 refine sr (Yg (v:=.agg #[u0_0]) hC [u0_0] rfl rfl fun b4 w6 hB_ hC=>Yk hC [.slice none 0 0] z55 rfl fun b7 w9 hB_ hC=>dn (sr (Yk hC [.slice none 0 0] z55 rfl fun b10 w10 hB_ hC=>dn (sr (Zu 0 ZPm rfl sc48.size rfl rfl (Z5 hC 2 (u0_0) rfl sc48 rfl rfl (Zf [u0_0] _ Tryz.func74 rfl rfl rfl (Zwo a0.terms h _ (hC.getP 0 rfl)) ?_)))))))
 rintro _ w11 ⟨r10,u10,f10,rfl,h,hr10,hf10,hB10⟩
 refine rt ?_
 replace hC:=hC.push hB10 (ZM4 (Tr.sl 162 ZMo.tr) r10 [u10] f10) hr10 hf10
 obtain ⟨ho10,hf11⟩:=Xn (hC.getM 0 rfl).1
 subst hf11
 replace hC:=hC.recast (c:=own 162 9 u10 r10.length (ZMo.encs r10)) (fun _ h_=>h_) (fun _=>ho10)
 refine Zu 0 ZMu rfl sc53.size rfl rfl (Zx (v:=u10) hC 1 [u10] [u10] rfl sc53.size rfl rfl (Zb4 (hC.getM 0 rfl)) rfl (Xk (Xx (hC.getM 0 rfl)) rfl) (ZMw rfl) rfl fun w12 hC=>dn (sr (Yp hC 1 [u10] rfl ag55 rfl rfl rfl (Zx (v:=.agg #[u10]) hC 2 [u10] [u10] rfl ag55.size rfl rfl rfl rfl (Xk (Xx (hC.getM 0 rfl)) rfl) (ZMw rfl) rfl fun w13 hC=>dn (ZMv ?_)))))
 exact Zi rfl (Zaa hC 2 rfl ag55 rfl rfl) ⟨(⟨r10⟩:ZMp),u10,(ZNm (ZFq u10)),rfl,h,(Zco (Xy (hC.getM 0 rfl))),(Yz hC 0 rfl),hC.below⟩ (.inl rfl)
def Zg8 (a0:Term) (a1:Term) (K:Bool→Prop):Prop :=
 Zg3 a0.mono a1.mono (fun r10=>(if¬ (r10=true) then K false else(if a0.factor≠a1.factor then K false else K true)))
theorem Zwq (a0:Term) (a1:Term)  {K:Bool→Prop} (h:Zg8 a0 a1 K) (w0:World)  :
  Calls ZMq 144 #[.agg (ZMl (ZMy a0)),.agg (ZMl (ZMy a1))] w0 fun e w'=>∃ (r0:Bool),
   e=.returned (.bool r0)∧K r0∧Bel w0 w':=by
 unfold Zg8 at h
 refine cof Tryz.func144 rfl 16 Tryz.ntmps144 ?_
 have hC:=ZM8 (X:=Nox) w0 [] (by simp)
 refine sr (Yg (v:=.agg (ZMl (ZMy a0))) hC (ZMy a0) rfl rfl fun b1 w3 hB_ hC=>Yg (v:=.agg (ZMl (ZMy a1))) hC (ZMy a1) rfl rfl fun b4 w6 hB_ hC=>Zc (v:=.bool false) rfl (dn (ZMn (sr (Zu 0 ZM2 rfl ag136.size rfl rfl (Yp hC 1 (ZMk .u8 a0.mono) rfl ag136 rfl rfl rfl (Zu 0 ZM2 rfl ag136.size rfl rfl (Yp hC 0 (ZMk .u8 a1.mono) rfl ag136 rfl rfl rfl (Zf [.agg (ZMl (ZMk .u8 a0.mono)),.agg (ZMl (ZMk .u8 a1.mono))] _ Tryz.func188 rfl rfl rfl (Zwl a0.mono a1.mono h _) ?_)))))))))
 rintro _ w9 ⟨r10,rfl,h,hB10⟩
 refine rt ?_
 replace hC:=hC.grow hB10
 refine Xu rfl (dn ?_)
 refine Zp rfl (fun hb10=>?_) (fun hb10=>?_)
 ·replace h:=ift h (Xa (X3 hb10))
  refine sr (Zc (v:=.bool false) rfl (dn ?_))
  refine ZMv (Zk ?_)
  exact Zi rfl (Ze rfl) ⟨false,rfl,h,hC.below⟩ (.inl rfl)
 ·replace h:=Zj h (not_not_intro ((X4 hb10)))
  refine ZMr (Zd (ZMn (sr (Zu 8 ZM2 rfl sc2.size rfl rfl (Z5 hC 1 (vI a0.factor) rfl sc2 rfl rfl (Zu 8 ZM2 rfl sc2.size rfl rfl (Z5 hC 0 (vI a1.factor) rfl sc2 rfl rfl (Y2 rfl rfl (dn ?_)))))))))
  refine Zp rfl (fun hb11=>?_) (fun hb11=>?_)
  ·replace h:=ift h (ct hb11)
   refine sr (Zc (v:=.bool false) rfl (dn ?_))
   refine ZMv (Zk ?_)
   exact Zi rfl (Ze rfl) ⟨false,rfl,h,hC.below⟩ (.inl rfl)
  ·replace h:=Zj h (cf hb11)
   refine ZMr (Zd (sr (Zc (v:=.bool true) rfl (dn (ZMv ?_)))))
   exact Zi rfl (Ze rfl) ⟨true,rfl,h,hC.below⟩ (.inl rfl)
def Zjd (a0:List Term) (a1:List Term) (K:Bool→Prop):Prop :=
 (if(a0.length:Int)≠(a1.length:Int) then K false else Yb (fun i10 (s10:Unit) nx10=>((0≤(i10:Int)∧(i10:Int) < (a1.length:Int))∧Zg8 (a0.getD i10 ZEx) (a1.getD i10 ZEx) (fun r10=>(if¬ (r10=true) then K false else nx10 ())))) (fun (s10:Unit)=>K true) a0.length 0 ())
theorem Zwr (a0:List Term) (a1:List Term)  {K:Bool→Prop} (h:Zjd a0 a1 K) (w0:World) (q0:ZMo.ty.sl.rep a0 [u0_0] fp0 w0) (q1:ZMo.ty.sl.rep a1 [u1_0] fp1 w0) :
  Calls ZMq 87 #[u0_0,u1_0] w0 fun e w'=>∃ (r0:Bool),
   e=.returned (.bool r0)∧K r0∧Bel w0 w':=by
 unfold Zjd at h
 refine cof Tryz.func87 rfl 27 Tryz.ntmps87 ?_
 have hC:=ZM8 (X:=Nox) w0 [ZMm ZMo.ty.sl a0 [u0_0] fp0,ZMm ZMo.ty.sl a1 [u1_0] fp1] (alc q0 (al1 q1))
 refine sr (Zc (v:=.bool false) rfl (dn (ZMn (sr (Za (v:=u0_0) rfl (Zv hC 0 rfl ZMx rfl (Za (v:=u1_0) rfl (Zv hC 1 rfl ZMx rfl (Y2 rfl rfl (dn ?_))))))))))
 refine Zp rfl (fun hb9=>?_) (fun hb9=>?_)
 ·replace h:=ift h (ct hb9)
  refine sr (Zc (v:=.bool false) rfl (dn ?_))
  refine ZMv (Zk ?_)
  exact Zi rfl (Ze rfl) ⟨false,rfl,h,hC.below⟩ (.inl rfl)
 ·replace h:=Zj h (cf hb9)
  refine ZMr (Zd (ZMn (sr (Zc (v:=vI 0) rfl (dn (ZMt ?_))))))
  have hN10:a0.length≤9223372036854775807:=Yx (hC.getP 0 rfl)
  refine Yn (S:=Unit) _ _ (fun i10 s10 e_ w_=>Zt e_ [(0,u0_0),(1,u1_0),(5,vI (i10:Int))]∧Ctx Nox w0 w_ [] [ZMm ZMo.ty.sl a0 [u0_0] fp0,ZMm ZMo.ty.sl a1 [u1_0] fp1]) a0.length ?_ ?_ (s0:=()) ?_ h
  ·clear hC h
   rintro i10 s10 e_ w10 nx10 K10 hi10 ⟨hS_,hC⟩ h hK10
   rw [ue hS_]
   refine ZMn (sr (Za (v:=vI (i10:Int)) rfl (Za (v:=u0_0) rfl (Zv hC 0 rfl ZMx rfl (Zn rfl rfl (dn (Yc rfl (decide_eq_true (by omega)) (ZMr (Zd (ZMn (ZMt (ZMn ?_))))))))))))
   refine cwd 8 Yi [0,0,3,7,0,0,48,112,255,511] [2,3,6,7] [0,1,4,5] (fun hM10 hM11 w11 hB_=>?_)
   replace hC:=hC.grow hB_
   refine bM 0 (u0_0) rfl hM11 (Zb 10 1) (bM 1 (vI (i10:Int)) rfl hM11 (Zb 10 3) ?_)
   obtain ⟨Ad10,c10,hv10⟩:=Zw (hC.getP 0 rfl) i10 hi10
   refine bL 2 (.pointer (some (Ad10.add (i10 * 9)))) rfl rfl hM10 (fun _ hB_=>by exact Yq (len:=a0.length) ZMx ag162.size (by exact tr rfl hv10) rfl (ZM3 _) (ZNl.2 hi10)) (Zb 10 7) (bL 3 (.agg (ZMl (ZMy (a0.getD i10 ZEx)))) rfl rfl hM10 (fun _ hB_=>by exact Ji (ZMy (a0.getD i10 ZEx)) (Ye ((hC.grow hB_).getP 0 rfl) hv10 i10 hi10) ag162 rfl rfl) (Zb 10 15) (bM 4 (u1_0) rfl hM11 (Zb 10 31) (bM 5 (vI (i10:Int)) rfl hM11 (Zb 10 63) ?_)))
   obtain ⟨⟨h10,h11⟩,h⟩:=h
   obtain ⟨Ad11,c11,hv11⟩:=Zw (hC.getP 1 rfl) i10 (show i10 < a1.length by omega)
   refine bL 6 (.pointer (some (Ad11.add (i10 * 9)))) rfl rfl hM10 (fun _ hB_=>by exact Yq (len:=a1.length) ZMx ag162.size (by exact tr rfl hv11) rfl h10 h11) (Zb 10 127) (bL 7 (.agg (ZMl (ZMy (a1.getD i10 ZEx)))) rfl rfl hM10 (fun _ hB_=>by exact Ji (ZMy (a1.getD i10 ZEx)) (Ye ((hC.grow hB_).getP 1 rfl) hv11 i10 (show i10 < a1.length by omega)) ag162 rfl rfl) (Zb 10 255) (Zz 8 (by decide) (by decide) (by kernel_rfl) (by kernel_rfl) rfl (Zf [.agg (ZMl (ZMy (a0.getD i10 ZEx))),.agg (ZMl (ZMy (a1.getD i10 ZEx)))] _ Tryz.func144 rfl rfl rfl (Zwq (a0.getD i10 ZEx) (a1.getD i10 ZEx) h _) ?_)))
   rintro _ w12 ⟨r10,rfl,h,hB10⟩
   refine rt ?_
   replace hC:=hC.grow hB10
   refine Xu rfl (done (Z0 (Zd ?_)))
   refine Zp rfl (fun hb10=>?_) (fun hb10=>?_)
   ·replace h:=ift h (Xa (X3 hb10))
    refine sr (Zc (v:=.bool false) rfl (dn ?_))
    refine ZMv (Z4 (Zk (Zk (Z4 (Zk ?_)))))
    exact Zi rfl (Ze rfl) ⟨false,rfl,h,hC.below⟩ (.inl rfl)
   ·replace h:=Zj h (not_not_intro ((X4 hb10)))
    refine ZMr (Zq (Zd (Zg (Za (v:=vI (i10:Int)) rfl (Zo rfl rfl (Zc (v:=vI (ZHd.wrap ((i10:Int)+1))) rfl (done ?_)))))))
    exact hK10 () _ _ ⟨(sl ⟨rfl,rfl,(tr rfl (congrArg _ (Z6 hi10 hN10))),trivial⟩),hC⟩ h
  ·clear hC h
   rintro s10 e_ w13 K10 ⟨hS_,hC⟩ h
   rw [ue hS_]
   refine ZMn (sr (Za (v:=vI (a0.length:Int)) rfl (Za (v:=u0_0) rfl (Zv hC 0 rfl ZMx rfl (Zn rfl rfl (dn (Z2 rfl (decide_eq_false (by omega)) ?_)))))))
   refine ZM1 (Zh (Zh (Zy ?_)))
   refine Zd (sr (Zc (v:=.bool true) rfl (dn (ZMv ?_))))
   exact Zi rfl (Ze rfl) ⟨true,rfl,h,hC.below⟩ (.inl rfl)
  ·skip
   exact⟨(slq rfl),hC⟩
def Zg9 (a0:ZMp) (a1:ZMp) (K:Bool→Prop):Prop :=
 Zjd a0.terms a1.terms (fun r10=>(if¬ (r10=true) then K false else K true))
theorem Zws (a0:ZMp) (a1:ZMp)  {K:Bool→Prop} (h:Zg9 a0 a1 K) (w0:World) (q0:ZM9.rep a0 [u0_0] fp0 w0) (q1:ZM9.rep a1 [u1_0] fp1 w0) :
  Calls ZMq 32 #[.agg #[u0_0],.agg #[u1_0]] w0 fun e w'=>∃ (r0:Bool),
   e=.returned (.bool r0)∧K r0∧Bel w0 w':=by
 unfold Zg9 at h
 refine cof Tryz.func32 rfl 11 Tryz.ntmps32 ?_
 have hC:=ZM8 (X:=Nox) w0 [ZMm TForm a0 [u0_0] fp0,ZMm TForm a1 [u1_0] fp1] (alc q0 (al1 q1))
 have hp3:=(hC.getP 0 rfl)
 replace hC:=hC.derive 0 rfl (ZMm ZMo.ty.sl a0.terms [u0_0] fp0) (fun _=>(Xi hp3)) (fun _ hb_=>hb_)
 have hp5:=(hC.getP 2 rfl)
 replace hC:=hC.derive 2 rfl (ZMm ZMo.ty.sl a1.terms [u1_0] fp1) (fun _=>(Xi hp5)) (fun _ hb_=>hb_)
 refine sr (Yg (v:=.agg #[u0_0]) hC [u0_0] rfl rfl fun b7 w9 hB_ hC=>Yg (v:=.agg #[u1_0]) hC [u1_0] rfl rfl fun b10 w10 hB_ hC=>Zc (v:=.bool false) rfl (dn (ZMn (sr (Zu 0 ZMu rfl sc53.size rfl rfl (Z5 hC 1 (u0_0) rfl sc53 rfl rfl (Zu 0 ZMu rfl sc53.size rfl rfl (Z5 hC 0 (u1_0) rfl sc53 rfl rfl (Zf [u0_0,u1_0] _ Tryz.func87 rfl rfl rfl (Zwr a0.terms a1.terms h _ (hC.getP 1 rfl) (hC.getP 0 rfl)) ?_)))))))))
 rintro _ w11 ⟨r10,rfl,h,hB10⟩
 refine rt ?_
 replace hC:=hC.grow hB10
 refine Xu rfl (dn ?_)
 refine Zp rfl (fun hb10=>?_) (fun hb10=>?_)
 ·replace h:=ift h (Xa (X3 hb10))
  refine sr (Zc (v:=.bool false) rfl (dn ?_))
  refine ZMv (Zk ?_)
  exact Zi rfl (Ze rfl) ⟨false,rfl,h,hC.below⟩ (.inl rfl)
 ·replace h:=Zj h (not_not_intro ((X4 hb10)))
  refine ZMr (Zd (sr (Zc (v:=.bool true) rfl (dn (ZMv ?_)))))
  exact Zi rfl (Ze rfl) ⟨true,rfl,h,hC.below⟩ (.inl rfl)
def Zje (a0:List ZMp) (a1:List ZMp) (K:Bool→Prop):Prop :=
 (if(a0.length:Int)≠(a1.length:Int) then K false else Yb (fun i10 (s10:Unit) nx10=>((0≤(i10:Int)∧(i10:Int) < (a1.length:Int))∧Zg9 (a0.getD i10 ZEx) (a1.getD i10 ZEx) (fun r10=>(if¬ (r10=true) then K false else nx10 ())))) (fun (s10:Unit)=>K true) a0.length 0 ())
theorem Zwt (a0:List ZMp) (a1:List ZMp)  {K:Bool→Prop} (h:Zje a0 a1 K) (w0:World) (q0:ZM9.sl.rep a0 [u0_0] fp0 w0) (q1:ZM9.sl.rep a1 [u1_0] fp1 w0) :
  Calls ZMq 51 #[u0_0,u1_0] w0 fun e w'=>∃ (r0:Bool),
   e=.returned (.bool r0)∧K r0∧Bel w0 w':=by
 unfold Zje at h
 refine cof Tryz.func51 rfl 27 Tryz.ntmps51 ?_
 have hC:=ZM8 (X:=Nox) w0 [ZMm ZM9.sl a0 [u0_0] fp0,ZMm ZM9.sl a1 [u1_0] fp1] (alc q0 (al1 q1))
 refine sr (Zc (v:=.bool false) rfl (dn (ZMn (sr (Za (v:=u0_0) rfl (Zv hC 0 rfl ZNb rfl (Za (v:=u1_0) rfl (Zv hC 1 rfl ZNb rfl (Y2 rfl rfl (dn ?_))))))))))
 refine Zp rfl (fun hb9=>?_) (fun hb9=>?_)
 ·replace h:=ift h (ct hb9)
  refine sr (Zc (v:=.bool false) rfl (dn ?_))
  refine ZMv (Zk ?_)
  exact Zi rfl (Ze rfl) ⟨false,rfl,h,hC.below⟩ (.inl rfl)
 ·replace h:=Zj h (cf hb9)
  refine ZMr (Zd (ZMn (sr (Zc (v:=vI 0) rfl (dn (ZMt ?_))))))
  have hN10:a0.length≤9223372036854775807:=Yx (hC.getP 0 rfl)
  refine Yn (S:=Unit) _ _ (fun i10 s10 e_ w_=>Zt e_ [(0,u0_0),(1,u1_0),(5,vI (i10:Int))]∧Ctx Nox w0 w_ [] [ZMm ZM9.sl a0 [u0_0] fp0,ZMm ZM9.sl a1 [u1_0] fp1]) a0.length ?_ ?_ (s0:=()) ?_ h
  ·clear hC h
   rintro i10 s10 e_ w10 nx10 K10 hi10 ⟨hS_,hC⟩ h hK10
   rw [ue hS_]
   refine ZMn (sr (Za (v:=vI (i10:Int)) rfl (Za (v:=u0_0) rfl (Zv hC 0 rfl ZNb rfl (Zn rfl rfl (dn (Yc rfl (decide_eq_true (by omega)) (ZMr (Zd (ZMn (ZMt (ZMn ?_))))))))))))
   refine cwd 8 Yi [0,0,3,7,0,0,48,112,255,511] [2,3,6,7] [0,1,4,5] (fun hM10 hM11 w11 hB_=>?_)
   replace hC:=hC.grow hB_
   refine bM 0 (u0_0) rfl hM11 (Zb 10 1) (bM 1 (vI (i10:Int)) rfl hM11 (Zb 10 3) ?_)
   obtain ⟨Ad10,c10,hv10⟩:=Zw (hC.getP 0 rfl) i10 hi10
   refine bL 2 (.pointer (some (Ad10.add (i10 * 1)))) rfl rfl hM10 (fun _ hB_=>by exact Yq (len:=a0.length) ZNb ag55.size (by exact tr rfl hv10) rfl (ZM3 _) (ZNl.2 hi10)) (Zb 10 7) ?_
   obtain ⟨cs_,hl10,hc10,hr10⟩:=Xj (hC.getP 0 rfl) hv10 i10 hi10
   obtain ⟨u10,rfl⟩:=ZNj.1 hl10
   clear hl10
   rw [Xl _ _ hi10] at hr10
   have hp10:=hr10
   replace hC:=hC.derive 0 rfl (ZMm ZMo.ty.sl ((a0.getD i10 ZEx).terms) [u10] fp0) (fun _=>(Xi hp10)) (fun _ hb_=>hb_)
   refine bL 3 (.agg #[u10]) rfl rfl hM10 (fun _ hB_=>by exact Ji [u10] (Zaq hB_ hc10) ag55 rfl rfl) (Zb 10 15) (bM 4 (u1_0) rfl hM11 (Zb 10 31) (bM 5 (vI (i10:Int)) rfl hM11 (Zb 10 63) ?_))
   obtain ⟨⟨h10,h11⟩,h⟩:=h
   obtain ⟨Ad11,c11,hv11⟩:=Zw (hC.getP 2 rfl) i10 (show i10 < a1.length by omega)
   refine bL 6 (.pointer (some (Ad11.add (i10 * 1)))) rfl rfl hM10 (fun _ hB_=>by exact Yq (len:=a1.length) ZNb ag55.size (by exact tr rfl hv11) rfl h10 h11) (Zb 10 127) ?_
   obtain ⟨cs_,hl11,hc11,hr11⟩:=Xj (hC.getP 2 rfl) hv11 i10 (show i10 < a1.length by omega)
   obtain ⟨u11,rfl⟩:=ZNj.1 hl11
   clear hl11
   rw [Xl _ _ (show i10 < a1.length by omega)] at hr11
   have hp11:=hr11
   replace hC:=hC.derive 2 rfl (ZMm ZMo.ty.sl ((a1.getD i10 ZEx).terms) [u11] fp1) (fun _=>(Xi hp11)) (fun _ hb_=>hb_)
   refine bL 7 (.agg #[u11]) rfl rfl hM10 (fun _ hB_=>by exact Ji [u11] (Zaq hB_ hc11) ag55 rfl rfl) (Zb 10 255) (Zz 8 (by decide) (by decide) (by kernel_rfl) (by kernel_rfl) rfl (Zf [.agg #[u10],.agg #[u11]] _ Tryz.func32 rfl rfl rfl (Zws (a0.getD i10 ZEx) (a1.getD i10 ZEx) h _ (Yy (hC.getP 1 rfl)) (Yy (hC.getP 0 rfl))) ?_))
   rintro _ w12 ⟨r10,rfl,h,hB10⟩
   refine rt ?_
   replace hC:=hC.grow hB10
   refine Xu rfl (done (Z0 (Zd ?_)))
   refine Zp rfl (fun hb10=>?_) (fun hb10=>?_)
   ·replace h:=ift h (Xa (X3 hb10))
    refine sr (Zc (v:=.bool false) rfl (dn ?_))
    refine ZMv (Z4 (Zk (Zk (Z4 (Zk ?_)))))
    exact Zi rfl (Ze rfl) ⟨false,rfl,h,hC.below⟩ (.inl rfl)
   ·replace h:=Zj h (not_not_intro ((X4 hb10)))
    refine ZMr (Zq (Zd (Zg (Za (v:=vI (i10:Int)) rfl (Zo rfl rfl (Zc (v:=vI (ZHd.wrap ((i10:Int)+1))) rfl (done ?_)))))))
    exact hK10 () _ _ ⟨(sl ⟨rfl,rfl,(tr rfl (congrArg _ (Z6 hi10 hN10))),trivial⟩),(hC.sP [2,3] rfl)⟩ h
  ·clear hC h
   rintro s10 e_ w13 K10 ⟨hS_,hC⟩ h
   rw [ue hS_]
   refine ZMn (sr (Za (v:=vI (a0.length:Int)) rfl (Za (v:=u0_0) rfl (Zv hC 0 rfl ZNb rfl (Zn rfl rfl (dn (Z2 rfl (decide_eq_false (by omega)) ?_)))))))
   refine ZM1 (Zh (Zh (Zy ?_)))
   refine Zd (sr (Zc (v:=.bool true) rfl (dn (ZMv ?_))))
   exact Zi rfl (Ze rfl) ⟨true,rfl,h,hC.below⟩ (.inl rfl)
  ·skip
   exact⟨(slq rfl),hC⟩
def Zea (a0:Bool) (a1:Int) (K:Int→Prop):Prop :=
 (if a0=true then K a1 else K 0)
theorem Zl3 (a0:Bool) (a1:Int)  {K:Int→Prop} (h:Zea a0 a1 K) (w0:World)  :
  Calls ZMq 45 #[.bool a0,vI a1] w0 fun e w'=>∃ (r0:Int),
   e=.returned (vI r0)∧K r0∧Bel w0 w':=by
 unfold Zea at h
 refine cof Tryz.func45 rfl 7 Tryz.ntmps45 ?_
 have hC:=ZM8 (X:=Nox) w0 [] (by simp)
 refine sr (Zc (v:=vI 0) rfl (dn (ZMn (sr (Za (v:=.bool a0) rfl (dn ?_))))))
 refine Zp rfl (fun hb1=>?_) (fun hb1=>?_)
 ·replace h:=ift h (hb1)
  refine sr (Za (v:=vI a1) rfl (Zc (v:=vI a1) rfl (dn ?_)))
  refine ZMv (Zk ?_)
  exact Zi rfl (Ze rfl) ⟨a1,rfl,h,hC.below⟩ (.inl rfl)
 ·replace h:=Zj h (Xa hb1)
  refine ZMr (Zd (sr (Zc (v:=vI 0) rfl (dn (ZMv ?_)))))
  exact Zi rfl (Ze rfl) ⟨0,rfl,h,hC.below⟩ (.inl rfl)
end Go.Proofs.YtaagfepgbofmlaaGreat
namespace Go.Proofs.YtaagfepgbofmlaaGreat
open Go Vc
theorem Zl4 {a b c:Int} {K:Bool→Prop} (h:K (decide (b≤a∧a≤c))):Zd3 a b c K:=by
  unfold Zd3
  split
  · rename_i h1; simpa [show b≤a from h1] using h
  · rename_i h1; simpa [show ¬ b≤a from h1] using h
theorem Zwu {ds:List Int} {K:Bool→Prop} (h:K (decide (OkDeg ds))):Zgm ds K:=by
  unfold Zgm
  refine Ys (fun i _=>∀ j,j < i→1≤ds.getD j ZEx∧ds.getD j ZEx≤12) ds.length ?_ ?_ _ _ _ (by omega) (by intro j hj; omega)
  · intro i s next hi hI hn
    refine Zl4 ?_
    split
    · rename_i h1
      have:¬ OkDeg ds:=fun hd=>h1 (by simpa using hd.2 i hi)
      simpa [this] using h
    · rename_i h1
      refine hn _ fun j hj=>?_
      by_cases hji:j=i
      · subst hji; simpa using h1
      · exact hI j (by omega)
  · intro s hI
    have:(decide ((ds.length:Int)≤8))=decide (OkDeg ds):=by
      rw [decide_eq_decide]; unfold OkDeg
      constructor
      · intro h8; exact⟨by omega,hI⟩
      · intro h8; have:=h8.1; omega
    rw [this]; exact h
theorem Zwv {ds : List Int} {a : A8} {K : Bool → Prop} (ha : ∀ i, i < 8 → 0 ≤ a.get i) (hl : ds.length ≤ 8) (h : K (decide (OkMono ds a))) : Zgn ds a K := by
  unfold Zgn
  refine Ys (fun i _=>∀ j,j < i→(j < ds.length→a.get j≤20∧(ZFo (ds.getD j ZEx) 2≠0→a.get j≤1))∧(ds.length≤j→a.get j=0)) 8 ?_ ?_ _ _ _ (by omega) (by intro j hj; omega)
  · intro i s next hi hI hn
    have no:¬ ((i < ds.length→a.get i≤20∧(ZFo (ds.getD i ZEx) 2≠0→a.get i≤1))∧(ds.length≤i→a.get i=0))→K false:=by
      intro hno
      have:¬ OkMono ds a:=fun hm=>hno (hm i hi)
      simpa [this] using h
    have yes:((i < ds.length→a.get i≤20∧(ZFo (ds.getD i ZEx) 2≠0→a.get i≤1))∧(ds.length≤i→a.get i=0))→next ():=by
      intro hy
      refine hn _ fun j hj=>?_
      by_cases hji:j=i
      · subst hji; exact hy
      · exact hI j (by omega)
    split
    · split
      · exact no (by intro q; have:=q.2 (by omega); contradiction)
      · rename_i q
        exact yes ⟨by omega,by intro _; simpa using q⟩
    · split
      · exact no (by intro q; have:=(q.1 (by omega)).1; omega)
      · refine⟨by omega,?_⟩
        split
        · split
          · exact no (by intro q; rename_i q1 q2; have:=(q.1 (by omega)).2 q1; omega)
          · exact yes ⟨fun _=>⟨by omega,fun _=>by omega⟩,by omega⟩
        · rename_i q1
          exact yes ⟨fun _=>⟨by omega,fun q2=>absurd q2 q1⟩,by omega⟩
  · intro s hI
    have:OkMono ds a:=fun i hi=>hI i hi
    simpa [this] using h
theorem Zww {ds : List Int} {a : A8} {K : Bool → Prop} (hd : OkDeg ds) (ha : ∀ i, i < 8 → 0 ≤ a.get i) (h : K (decide (OkMono ds a))) : Zgw ds a K := by
  unfold Zgw
  refine Ys (fun i _=>∀ j,j < i→(j < ds.length→a.get j≤20∧(ZFo (ds.getD j ZEx) 2≠0→a.get j≤1))∧(ds.length≤j→a.get j=0)) 8 ?_ ?_ _ _ _ (by omega) (by intro j hj; omega)
  · intro i s next hi hI hn
    have hai:=ha i hi
    have no:¬ ((i < ds.length→a.get i≤20∧(ZFo (ds.getD i ZEx) 2≠0→a.get i≤1))∧(ds.length≤i→a.get i=0))→K false:=by
      intro hno
      have:¬ OkMono ds a:=fun hm=>hno (hm i hi)
      simpa [this] using h
    have yes:((i < ds.length→a.get i≤20∧(ZFo (ds.getD i ZEx) 2≠0→a.get i≤1))∧(ds.length≤i→a.get i=0))→next ():=by
      intro hy
      refine hn _ fun j hj=>?_
      by_cases hji:j=i
      · subst hji; exact hy
      · exact hI j (by omega)
    split
    · refine⟨by omega,?_⟩
      rename_i hl
      have hod:=hd.odd (show i < ds.length by omega)
      split
      · rename_i h1
        split
        · exact no (by intro q; have:=(q.1 (by omega)).2 (by omega); omega)
        · exact yes ⟨fun _=>⟨by omega,fun _=>by omega⟩,by omega⟩
      · rename_i h1
        split
        · exact no (by intro q; have:=(q.1 (by omega)).1; omega)
        · exact yes ⟨fun _=>⟨by omega,fun q=>by omega⟩,by omega⟩
    · split
      · exact no (by intro q; have:=q.2 (by omega); omega)
      · exact yes ⟨by omega,fun _=>by omega⟩
  · intro s hI
    have:OkMono ds a:=fun i hi=>hI i hi
    simpa [this] using h
theorem Zjf {a b c:Int} {K:Bool→Prop} (h:K (decide (b≤a∧a≤c))):Zd7 a b c K:=by
  unfold Zd7
  split
  · rename_i h1; simpa [show b≤a from h1] using h
  · rename_i h1; simpa [show ¬ b≤a from h1] using h
theorem Zwx {ds : List Int} {K : Bool → Prop} (h : K (decide (OkDeg ds))) : Zgv ds K := by
  unfold Zgv
  split
  · rename_i h8
    unfold Zjb Zd8
    refine Ys (fun i _=>∀ j,j < i→1≤ds.getD j ZEx∧ds.getD j ZEx≤12) ds.length ?_ ?_ _ _ _ (by omega) (by intro j hj; omega)
    · intro i s next hi hI hn
      unfold Zgu
      refine Zjf ?_
      dsimp only
      split
      · rename_i h1
        have:¬ OkDeg ds:=fun hd=>by have:=hd.2 i hi; simp only [Bool.not_eq_true',decide_eq_false_iff_not] at h1; exact h1 this
        simpa [this,show (i:Int)≥0 by omega] using h
      · rename_i h1
        refine hn _ fun j hj=>?_
        by_cases hji:j=i
        · subst hji; simp only [Bool.not_eq_true',decide_eq_false_iff_not,ZQk] at h1; exact h1
        · exact hI j (by omega)
    · intro s hI
      have:OkDeg ds:=⟨by omega,hI⟩
      simpa [this] using h
  · have:¬ OkDeg ds:=fun hd=>by have:=hd.1; omega
    simpa [this] using h
theorem Zjg {a:A8} {K:A8→Prop} (ha:Zal .u8 a) (h:K a):Zdf a K:=by
  unfold Zdf
  refine Ys (fun i (s:A8)=>∀ j,j < 8→s.get j=if j < i then a.get j else 0) 8 ?_ ?_ _ _ _ (by omega) (by intro j hj; simp [A8.get_zero])
  · intro i s next hi hI hn
    have:=Zll (Zlm ha hi)
    rw [i64_in _ (by omega)]
    refine hn _ fun j hj=>?_
    rw [ZPe hi]
    by_cases hji:j=i
    · subst hji; simp
    · rw [if_neg hji,hI j hj]
      by_cases hj2:j < i
      · rw [if_pos hj2,if_pos (by omega)]
      · rw [if_neg hj2,if_neg (by omega)]
  · intro s hI
    have:s=a:=ZPf fun i hi=>by rw [hI i hi,if_pos hi]
    rw [this]; exact h
theorem Zwy {a:A8} {K:A8→Prop} (h:K a):Zg1 a K:=by
  unfold Zg1
  refine Ys (fun i (s:A8)=>∀ j,j < 8→s.get j=if j < i then a.get j else 0) 8 ?_ ?_ _ _ _ (by omega) (by intro j hj; simp [A8.get_zero])
  · intro i s next hi hI hn
    refine hn _ fun j hj=>?_
    rw [ZPe hi]
    by_cases hji:j=i
    · subst hji; simp
    · rw [if_neg hji,hI j hj]
      by_cases hj2:j < i
      · rw [if_pos hj2,if_pos (by omega)]
      · rw [if_neg hj2,if_neg (by omega)]
  · intro s hI
    have:s=a:=ZPf fun i hi=>by rw [hI i hi,if_pos hi]
    rw [this]; exact h
theorem Zwz {ds:List Int} {K:List Int→Prop} (hl:ds.length≤1048576) (h:K ds):Zg2 ds K:=by
  unfold Zg2
  refine⟨by omega,?_⟩
  refine Ys (fun i (s:List Int)=>s.length=ds.length∧∀ j,j < i→s.getD j ZEx=ds.getD j ZEx) ds.length ?_ ?_ _ _ _ (by omega) (by simp)
  · intro i s next hi hI hn
    refine⟨by omega,hn _ ⟨by simpa using hI.1,fun j hj=>?_⟩⟩
    by_cases hji:j=i
    · subst hji; simp [ZFf,hI.1,hi]
    · rw [← hI.2 j (by omega)]; simp [ZFf,List.getElem?_set_ne (fun e=>hji e.symm)]
  · intro s hI
    have:s=ds:=by
      apply List.ext_getElem hI.1
      intro i h1 h2
      have:=hI.2 i h2
      simpa [ZFf,h1,h2] using this
    rw [this]; exact h
theorem Zw0 {a b:A8} {K:Bool→Prop} (h:K (decide (a=b))):Zg3 a b K:=by
  unfold Zg3
  refine Ys (fun i _=>∀ j,j < i→a.get j=b.get j) 8 ?_ ?_ _ _ _ (by omega) (by intro j hj; omega)
  · intro i s next hi hI hn
    split
    · rename_i h1
      have:¬ a=b:=fun e=>h1 (by rw [e])
      simpa [this] using h
    · rename_i h1
      refine hn _ fun j hj=>?_
      by_cases hji:j=i
      · subst hji; simpa using h1
      · exact hI j (by omega)
  · intro s hI
    have:a=b:=ZPf hI
    simpa [this] using h
theorem Zw1 {a b : List Int} {K : Bool → Prop} (h : K (decide (a = b))) : Zg4 a b K := by
  unfold Zg4
  split
  · rename_i h1
    have:¬ a=b:=fun e=>h1 (by rw [e])
    simpa [this] using h
  · rename_i h1
    have hl:a.length=b.length:=by omega
    refine Ys (fun i _=>∀ j,j < i→a.getD j ZEx=b.getD j ZEx) a.length ?_ ?_ _ _ _ (by omega) (by intro j hj; omega)
    · intro i s next hi hI hn
      refine⟨by omega,?_⟩
      split
      · rename_i h1
        have:¬ a=b:=fun e=>h1 (by rw [e])
        simpa [this] using h
      · rename_i h1
        refine hn _ fun j hj=>?_
        by_cases hji:j=i
        · subst hji; simpa using h1
        · exact hI j (by omega)
    · intro s hI
      have:a=b:=by
        apply List.ext_getElem hl
        intro i h1 h2
        have:=hI i h1
        simpa [ZFf,h1,h2] using this
      simpa [this] using h
end Go.Proofs.YtaagfepgbofmlaaGreat
namespace Go.Proofs.YtaagfepgbofmlaaGreat
open Go Vc
theorem Zjh {ds:List Int} {a:A8} (h:X7 ds a) (hl:ds.length≤8) {i:Nat} (hi:i < ds.length) (ho:ZFo (ds.getD i ZEx) 2≠0):a.get i≤1:=((h i (by omega)).1 hi).2 ho
theorem Zw2 {ds:List Int} {a b s:A8} (ha:X7 ds a) (hb:X7 ds b) (hl:ds.length≤8) (h:∀ j,j < 8→s.get j=if j < ds.length then a.get j+b.get j else 0):s=a.add b:=by
  refine ZPf fun i hi=>?_
  rw [h i hi,A8.get_add]
  split
  · rfl
  · rw [(ha i hi).2 (by omega),(hb i hi).2 (by omega)]; rfl
theorem Zw3 {ds : List Int} {a b : A8} {K : A8 → Int → Prop} (hd : OkDeg ds) (ha : X7 ds a) (hb : X7 ds b) (pa : ∀ i, i < 8 → 0 ≤ a.get i) (pb : ∀ i, i < 8 → 0 ≤ b.get i)
    (h:K (Z9 ds a b).1 (Z9 ds a b).2):Zgo ds a b K:=by
  have h8:=hd.1
  unfold Zgo
  refine Ys (fun i (s:A8×Int)=>(∀ j,j < i→j < ds.length→ZFo (ds.getD j ZEx) 2≠0→¬ (0 < a.get j∧0 < b.get j))∧(∀ j,j < 8→s.1.get j=if j < i then a.get j+b.get j else 0)∧(s.2=1∨s.2=-1)∧s.2 * sg (Zas ds a b (ds.length - i) i)=sg (Zas ds a b ds.length 0)) ds.length ?_ ?_ _ _ _ (by omega) ⟨by intro j hj; omega,by intro j hj; simp [A8.get_zero],by simp,by simp⟩
  · rintro i ⟨s1,s2⟩ next hi ⟨h1,h2,h3,h4⟩ hn
    have hi8:i < 8:=by omega
    have pai:=pa i hi8
    have pbi:=pb i hi8
    have a20:=((ha i hi8).1 hi).1
    have b20:=((hb i hi8).1 hi).1
    have hr:ds.length - i=(ds.length - (i+1))+1:=by omega
    rw [hr] at h4
    simp only [Zas] at h4
    dsimp only at h1 h2 h3 h4 ⊢
    have hw:IntKind.u8.wrap (a.get i+b.get i)=a.get i+b.get i:=Zln _ (by omega)
    rw [hw]
    have hset:∀ j,j < 8→(s1.set i (a.get i+b.get i)).get j=if j < i+1 then a.get j+b.get j else 0:=by
      intro j hj
      rw [ZPe hi8]
      by_cases hji:j=i
      · subst hji; simp
      · rw [if_neg hji,h2 j hj]
        by_cases hj2:j < i
        · rw [if_pos hj2,if_pos (by omega)]
        · rw [if_neg hj2,if_neg (by omega)]
    refine⟨by omega,by omega,by omega,?_⟩
    split
    · rename_i he
      rw [if_pos (.inl he),ZO6] at h4
      refine hn _ ⟨fun j hj hjl ho=>?_,hset,h3,h4⟩
      by_cases hji:j=i
      · subst hji; exact absurd he ho
      · exact h1 j (by omega) hjl ho
    · rename_i he
      have a1:=Zjh ha h8 hi he
      have b1:=Zjh hb h8 hi he
      refine⟨by omega,?_⟩
      rw [ZPe hi8,if_pos rfl]
      split
      · rename_i hc
        have:Clash ds a b:=⟨i,hi,he,by omega,by omega⟩
        simpa [Z9,this] using h
      · rename_i hc
        have hnc:∀ j,j < i+1→j < ds.length→ZFo (ds.getD j ZEx) 2≠0→¬ (0 < a.get j∧0 < b.get j):=by
          intro j hj hjl ho
          by_cases hji:j=i
          · subst hji; omega
          · exact h1 j (by omega) hjl ho
        rw [i64_in _ (by omega)]
        refine Jd (fun (t:Int×Int)=>((i:Int)+1≤t.1∧t.1≤ds.length)∧(t.2=1∨t.2=-1)∧(b.get i=1→t.2 * sg (Za0 ds a (ds.length - t.1.toNat) t.1.toNat)=s2 * sg (Za0 ds a (ds.length - (i+1)) (i+1)))∧(b.get i≠1→t.2=s2)) (fun t=>ds.length - t.1.toNat) ?_ ⟨by omega,h3,fun _=>by rw [show ((i:Int)+1).toNat=i+1 by omega],fun _=>rfl⟩
        rintro ⟨j,c⟩ next' ⟨⟨q1,q2⟩,q3,q4,q5⟩ hn'
        dsimp only at q1 q2 q3 q4 q5 ⊢
        split
        · rename_i hj
          refine⟨by omega,?_⟩
          split
          · rename_i hb1
            have hjn:j.toNat < ds.length:=by omega
            refine⟨by omega,?_⟩
            have q4:=q4 hb1
            have hr2:ds.length - j.toNat=(ds.length - (j.toNat+1))+1:=by omega
            rw [hr2] at q4
            simp only [Za0] at q4
            have hj1:(j+1).toNat=j.toNat+1:=by omega
            rw [i64_in (j+1) (by omega)]
            have pj:=pa j.toNat (by omega)
            split
            · rename_i ho
              have aj:=Zjh ha h8 hjn ho
              have od:=hd.odd hjn
              have od1:ZFo (ds.getD j.toNat ZEx) 2=1:=by omega
              rw [od1,Int.one_mul] at q4
              refine⟨by omega,?_⟩
              split
              · rename_i haj
                rw [haj,Int.add_comm,Zo8] at q4
                rw [i64_in (0 - c) (by omega)]
                refine hn' _ ⟨⟨by dsimp only; omega,by dsimp only; omega⟩,by dsimp only; omega,fun _=>?_,fun hne=>absurd hb1 hne⟩ (by dsimp only; omega)
                dsimp only
                rw [hj1,Int.zero_sub,Int.neg_mul,← Int.mul_neg]; exact q4
              · rename_i haj
                rw [show a.get j.toNat=0 by omega,ZO6] at q4
                refine hn' _ ⟨⟨by dsimp only; omega,by dsimp only; omega⟩,q3,fun _=>?_,fun hne=>absurd hb1 hne⟩ (by dsimp only; omega)
                dsimp only
                rw [hj1]; exact q4
            · rename_i ho
              rw [show ZFo (ds.getD j.toNat ZEx) 2=0 by simpa using ho,Int.zero_mul,ZO6] at q4
              refine hn' _ ⟨⟨by dsimp only; omega,by dsimp only; omega⟩,q3,fun _=>?_,fun hne=>absurd hb1 hne⟩ (by dsimp only; omega)
              dsimp only
              rw [hj1]; exact q4
          · rename_i hb1
            refine hn _ ⟨hnc,hset,q3,?_⟩
            rw [if_pos (.inr (by omega)),ZO6] at h4
            dsimp only
            rw [q5 hb1]; exact h4
        · rename_i hj
          refine hn _ ⟨hnc,hset,q3,?_⟩
          dsimp only
          by_cases hb1:b.get i=1
          · have q4:=q4 hb1
            rw [show ds.length - j.toNat=0 by omega] at q4
            simp only [Za0] at q4
            rw [show sg 0=1 from rfl,Int.mul_one] at q4
            rw [if_neg (by omega),Za1,← Int.mul_assoc] at h4
            rw [q4]; exact h4
          · rw [if_pos (.inr (by omega)),ZO6] at h4
            rw [q5 hb1]; exact h4
  · rintro ⟨s1,s2⟩ ⟨h1,h2,h3,h4⟩
    have hnc:¬ Clash ds a b:=fun ⟨i,hi,ho,hp⟩=>h1 i hi hi ho hp
    rw [Nat.sub_self] at h4
    simp only [Zas] at h4
    rw [show sg 0=1 from rfl,Int.mul_one] at h4
    have hs:s1=a.add b:=Zw2 ha hb h8 h2
    dsimp only at h4 ⊢
    rw [hs,h4]
    simpa [Z9,hnc] using h
theorem Zw4 {ds : List Int} {a b : A8} {K : A8 → Int → Prop} (hd : OkDeg ds) (ha : X7 ds a) (hb : X7 ds b) (pa : ∀ i, i < 8 → 0 ≤ a.get i) (pb : ∀ i, i < 8 → 0 ≤ b.get i)
    (h:K (Z9 ds a b).1 (Z9 ds a b).2):Zgt a ds b K:=by
  have h8:=hd.1
  have bnd:∀ (x:A8),X7 ds x→∀ i,i < 8→x.get i≤100:=by
    intro x hx i hi
    by_cases hl:i < ds.length
    · exact((hx i hi).1 hl).1
    · rw [(hx i hi).2 (by omega)]; omega
  unfold Zgt
  refine Ys (fun i (c:Int)=>(∀ j,j < i→j < ds.length→ZFo (ds.getD j ZEx) 2≠0→¬ (0 < a.get j∧0 < b.get j))∧(0≤c∧c≤8 * i)∧c+Zas ds a b (ds.length - i) i=Zas ds a b ds.length 0) ds.length ?_ ?_ _ _ _ (by omega) ⟨by intro j hj; omega,by omega,by simp⟩
  · rintro i c next hi ⟨h1,h2,h4⟩ hn
    have hi8:i < 8:=by omega
    have pai:=pa i hi8
    have pbi:=pb i hi8
    have hr:ds.length - i=(ds.length - (i+1))+1:=by omega
    rw [hr] at h4
    simp only [Zas] at h4
    split
    · rename_i he
      rw [if_pos (.inl he),ZO6] at h4
      refine hn _ ⟨fun j hj hjl ho=>?_,by omega,h4⟩
      by_cases hji:j=i
      · subst hji; exact absurd he ho
      · exact h1 j (by omega) hjl ho
    · rename_i he
      refine⟨by omega,?_⟩
      have hnc:¬ (0 < a.get i∧0 < b.get i)→∀ j,j < i+1→j < ds.length→ZFo (ds.getD j ZEx) 2≠0→¬ (0 < a.get j∧0 < b.get j):=by
        intro hno j hj hjl ho
        by_cases hji:j=i
        · subst hji; exact hno
        · exact h1 j (by omega) hjl ho
      split
      · rename_i hap
        refine⟨by omega,?_⟩
        split
        · rename_i hbp
          have:Clash ds a b:=⟨i,hi,he,by omega,by omega⟩
          simpa [Z9,this] using h
        · rename_i hbp
          rw [if_pos (.inr (by omega)),ZO6] at h4
          exact⟨by omega,hn _ ⟨hnc (by omega),by omega,h4⟩⟩
      · rename_i hap
        refine⟨by omega,?_⟩
        split
        · rename_i hbp
          have he0:¬ (ZFo (ds.getD i ZEx) 2=0∨b.get i≤0):=by rintro (q | q); exact he q; omega
          rw [if_neg he0] at h4
          rw [i64_in _ (by omega)]
          refine Jd (fun (t:Int×Int)=>((i:Int)+1≤t.1∧t.1≤ds.length)∧(0≤t.2∧t.2≤8 * i+(t.1 - (i+1)))∧t.2+Za0 ds a (ds.length - t.1.toNat) t.1.toNat=c+Za0 ds a (ds.length - (i+1)) (i+1)) (fun t=>ds.length - t.1.toNat) ?_ ⟨by omega,by omega,by rw [show ((i:Int)+1).toNat=i+1 by omega]⟩
          rintro ⟨j,d⟩ next' ⟨⟨q1,q2⟩,q3,q4⟩ hn'
          dsimp only at q1 q2 q3 q4 ⊢
          split
          · rename_i hj
            have hjn:j.toNat < ds.length:=by omega
            refine⟨by omega,by omega,?_⟩
            have hr2:ds.length - j.toNat=(ds.length - (j.toNat+1))+1:=by omega
            rw [hr2] at q4
            simp only [Za0] at q4
            have hj1:(j+1).toNat=j.toNat+1:=by omega
            have pj:=pa j.toNat (by omega)
            have hm:0≤ZFo (ds.getD j.toNat ZEx) 2 * a.get j.toNat∧ZFo (ds.getD j.toNat ZEx) 2 * a.get j.toNat≤1:=by
              rcases hd.odd hjn with od | od
              · rw [od]; omega
              · have:=Zjh ha h8 hjn (by omega)
                rw [od]; omega
            rw [i64_in (ZFo (ds.getD j.toNat ZEx) 2 * a.get j.toNat) (by omega),i64_in (d+ZFo (ds.getD j.toNat ZEx) 2 * a.get j.toNat) (by omega),i64_in (j+1) (by omega)]
            refine hn' _ ⟨⟨by dsimp only; omega,by dsimp only; omega⟩,by dsimp only; omega,?_⟩ (by dsimp only; omega)
            dsimp only
            rw [hj1]; omega
          · rename_i hj
            rw [show ds.length - j.toNat=0 by omega] at q4
            simp only [Za0] at q4
            refine hn _ ⟨hnc (by omega),by omega,by omega⟩
        · rename_i hbp
          rw [if_pos (.inr (by omega)),ZO6] at h4
          exact hn _ ⟨hnc (by omega),by omega,h4⟩
  · rintro c ⟨h1,h2,h4⟩
    have hnc:¬ Clash ds a b:=fun ⟨i,hi,ho,hp⟩=>h1 i hi hi ho hp
    rw [Nat.sub_self] at h4
    simp only [Zas,Int.add_zero] at h4
    refine Ys (fun i (s:A8)=>∀ j,j < 8→s.get j=if j < i then a.get j+b.get j else a.get j) 8 ?_ ?_ _ _ _ (by omega) (by intro j hj; simp)
    · intro i s next hi hI hn
      have e1:=hI i hi
      rw [if_neg (by omega)] at e1
      have:=bnd a ha i hi
      have:=bnd b hb i hi
      have:=pa i hi
      have:=pb i hi
      rw [e1,i64_in _ (by omega)]
      refine hn _ fun j hj=>?_
      rw [ZPe hi]
      by_cases hji:j=i
      · subst hji; simp
      · rw [if_neg hji,hI j hj]
        by_cases hj2:j < i
        · rw [if_pos hj2,if_pos (by omega)]
        · rw [if_neg hj2,if_neg (by omega)]
    · intro s hI
      have hs:s=a.add b:=ZPf fun i hi=>by rw [hI i hi,if_pos hi,A8.get_add]
      have hj:Z9 ds a b=(a.add b,sg c):=by simp [Z9,hnc,h4]
      rw [hj] at h
      rw [hs]
      split
      · rename_i ho
        have:sg c=-1:=by unfold sg; rw [ZPg (by omega)] at ho; rw [if_neg (by omega)]
        rw [this] at h; exact h
      · rename_i ho
        have:sg c=1:=by unfold sg; rw [ZPg (by omega)] at ho; rw [if_pos (by omega)]
        rw [this] at h; exact h
end Go.Proofs.YtaagfepgbofmlaaGreat
namespace Go.Proofs.YtaagfepgbofmlaaGreat
open Go Vc
end Go.Proofs.YtaagfepgbofmlaaGreat
namespace Vc
open Go
theorem Zps:∀ (xs ys:List Int),xs.length=ys.length→Jj xs ys=0→xs=ys
  | [],[],_,_=>rfl
  | x :: xs, y :: ys, h, h0 => by
    simp only [Jj] at h0
    split at h0
    · omega
    · rename_i he
      have he:x=y:=ZQk.1 he
      rw [he,Zps xs ys (by simpa using h) h0]
  | [],_::_,h,_=>by simp at h
  | _::_,[],h,_=>by simp at h
theorem Zpt:∀ (xs ys:List Int),Jj xs ys=- Jj ys xs
  | [],[]=>rfl
  | x :: xs, y :: ys => by
    simp only [Jj]
    have:=Zpt xs ys
    split <;> split <;> omega
  | [],_::_=>rfl
  | _::_,[]=>rfl
theorem A8.list_inj {a b:A8} (h:a.list=b.list):a=b:=by
  cases a; cases b
  simpa [A8.list] using h
theorem Zw5 (a:A8):pcmp a a=0:=Zu0 _
theorem Zpu (a b:A8):pcmp a b=- pcmp b a:=Zpt _ _
theorem Zbw {a b c:A8} (h1:pcmp a b < 0) (h2:pcmp b c < 0):pcmp a c < 0:=Zo4 a.list b.list c.list rfl rfl h1 h2
theorem Zji {a b:A8} (h1:¬ pcmp a b < 0) (h2:¬ pcmp b a < 0):a=b :=
  A8.list_inj (Zps _ _ rfl (by have:=Zpu a b; unfold pcmp at *; omega))
theorem Zbx {a b:A8} (h:pcmp a b < 0):a≠b:=by rintro rfl; rw [Zw5] at h; omega
theorem Zha {a b:A8} (h:pcmp a b < 0):b≠a:=fun e=>Zbx h e.symm
theorem Zl5 {a b:A8} (h:pcmp a b < 0):¬ pcmp b a < 0:=by have:=Zpu a b; omega
def tot {α:Type} (f:α→Int):List α→Int
  | []=>0
  | a::l=>f a+tot f l
theorem Zhb {α:Type} (f:α→Int) (l k:List α):tot f (l++k)=tot f l+tot f k:=by
  induction l with
  | nil=>simp [tot]
  | cons a l ih=>simp only [List.cons_append,tot,ih]; omega
theorem Zfc {α:Type} (f:α→Int) {l k:List α} (h:l.Perm k):tot f l=tot f k:=by
  induction h with
  | nil=>rfl
  | cons x _ ih=>simp only [tot,ih]
  | swap x y l=>simp only [tot]; omega
  | trans _ _ h1 h2=>exact h1.trans h2
theorem Zeb {α β:Type} (f:β→Int) (g:α→β) (l:List α):tot f (l.map g)=tot (fun a=>f (g a)) l:=by
  induction l with
  | nil=>rfl
  | cons a l ih=>simp only [ZFy,tot,ih]
theorem Jm {α:Type} {f g:α→Int} {l:List α} (h:∀ a,a∈l→f a=g a):tot f l=tot g l:=by
  induction l with
  | nil=>rfl
  | cons a l ih=>simp only [tot]; rw [h a (by simp),ih fun b hb=>h b (by simp [hb])]
theorem Zcr {α:Type} (k:Int) (f:α→Int) (l:List α):tot (fun a=>k * f a) l=k * tot f l:=by
  induction l with
  | nil=>simp [tot]
  | cons a l ih=>simp only [tot,ih,Int.mul_add]
theorem Zhc {α:Type} (f g:α→Int) (l:List α):tot (fun a=>f a+g a) l=tot f l+tot g l:=by
  induction l with
  | nil=>simp [tot]
  | cons a l ih=>simp only [tot,ih]; omega
theorem Zb9 {α:Type} {f:α→Int} {l:List α} (h:∀ a,a∈l→f a=0):tot f l=0:=by
  induction l with
  | nil=>rfl
  | cons a l ih=>simp only [tot]; rw [h a (by simp),ih fun b hb=>h b (by simp [hb])]; rfl
theorem Zpv {α β:Type} (f:α→β→Int) (l:List α) (k:List β):tot (fun a=>tot (f a) k) l=tot (fun b=>tot (fun a=>f a b) l) k:=by
  induction l with
  | nil=>simp only [tot]; rw [Zb9]; intros; rfl
  | cons a l ih=>simp only [tot,ih,Zhc]
theorem Zjj {α:Type} {f g:α→Int} {l:List α} (h:∀ a,a∈l→f a % 10007=g a % 10007):tot f l % 10007=tot g l % 10007:=by
  induction l with
  | nil=>rfl
  | cons a l ih =>
    have h1:=h a (by simp)
    have h2:=ih fun b hb=>h b (by simp [hb])
    simp only [tot]; omega
def co (l:List (A8×Int)) (m:A8):Int:=tot (fun p=>if p.1=m then p.2 else 0) l
def coT (l:List Term) (m:A8):Int:=tot (fun t=>if t.mono=m then t.factor else 0) l
theorem Zau (p:A8×Int) (l:List (A8×Int)) (m:A8):co (p::l) m=(if p.1=m then p.2 else 0)+co l m:=rfl
theorem Zcs (t:Term) (l:List Term) (m:A8):coT (t::l) m=(if t.mono=m then t.factor else 0)+coT l m:=rfl
theorem Zhd (m:A8):coT [] m=0:=rfl
theorem Zfd (m:A8):co [] m=0:=rfl
theorem Zct (l:List Term) (t:Term) (m:A8):coT (l++[t]) m=coT l m+(if t.mono=m then t.factor else 0):=by
  rw [coT,Zhb]; simp [tot,coT]
theorem Zcu {l:List Term} {m:A8} (h:∀ t,t∈l→t.mono≠m):coT l m=0:=Zb9 fun t ht=>if_neg (h t ht)
theorem Zdg {l:List (A8×Int)} {m:A8} (h:∀ t,t∈l→t.1≠m):co l m=0:=Zb9 fun t ht=>if_neg (h t ht)
def Canon (l:List Term):Prop:=l.Pairwise (fun a b=>pcmp a.mono b.mono < 0)∧∀ t,t∈l→1≤t.factor∧t.factor≤10006
theorem Canon.nil:Canon []:=⟨ZQq,by simp⟩
theorem Canon.tail {t:Term} {l:List Term} (h:Canon (t::l)):Canon l:=⟨(ZFk.1 h.1).2,fun s hs=>h.2 s (by simp [hs])⟩
theorem Canon.head {t:Term} {l:List Term} (h:Canon (t::l)):∀ s,s∈l→pcmp t.mono s.mono < 0:=(ZFk.1 h.1).1
theorem Canon.snoc {l:List Term} {t:Term} (h:Canon l) (hl:∀ s,s∈l→pcmp s.mono t.mono < 0) (hf:1≤t.factor∧t.factor≤10006):Canon (l++[t]):=by
  refine⟨ZQr.2 ⟨h.1,by simp,fun a ha b hb=>?_⟩,fun s hs=>?_⟩
  · obtain rfl:b=t:=by simpa using hb
    exact hl a ha
  · rcases ZE4.1 hs with q | q
    · exact h.2 s q
    · obtain rfl:s=t:=by simpa using q
      exact hf
theorem Canon.at_head {t:Term} {l:List Term} (h:Canon (t::l)):coT (t::l) t.mono=t.factor:=by
  rw [Zcs,if_pos rfl,Zcu fun s hs=>Zha (h.head s hs),Int.add_zero]
theorem Canon.range {l:List Term} (h:Canon l) (m:A8):0≤coT l m∧coT l m≤10006:=by
  induction l with
  | nil=>simp [Zhd]
  | cons t l ih =>
    by_cases hm:t.mono=m
    · subst hm
      rw [h.at_head]
      have:=h.2 t (by simp)
      omega
    · rw [Zcs,if_neg hm,ZO6]
      exact ih h.tail
theorem Zpw : ∀ (A B : List Term), Canon A → Canon B → (∀ m, coT A m = coT B m) → A = B
  | [],[],_,_,_=>rfl
  | [], b :: B, _, hB, h => by
    have:=h b.mono
    rw [hB.at_head,Zhd] at this
    have:=hB.2 b (by simp)
    omega
  | a :: A, [], hA, _, h => by
    have:=h a.mono
    rw [hA.at_head,Zhd] at this
    have:=hA.2 a (by simp)
    omega
  | a :: A, b :: B, hA, hB, h => by
    have ha:=hA.2 a (by simp)
    have hb:=hB.2 b (by simp)
    by_cases h1:pcmp a.mono b.mono < 0
    · exfalso
      have:=h a.mono
      rw [hA.at_head,Zcu (l:=b::B)] at this
      · omega
      · intro t ht
        rcases ZEt.1 ht with rfl | ht
        · exact Zha h1
        · exact Zha (Zbw h1 (hB.head t ht))
    · by_cases h2:pcmp b.mono a.mono < 0
      · exfalso
        have:=h b.mono
        rw [hB.at_head,Zcu (l:=a::A)] at this
        · omega
        · intro t ht
          rcases ZEt.1 ht with rfl | ht
          · exact Zha h2
          · exact Zha (Zbw h2 (hA.head t ht))
      · have hm:a.mono=b.mono:=Zji h1 h2
        have hf:a.factor=b.factor:=by
          have:=h a.mono
          rw [hA.at_head,hm,hB.at_head] at this; exact this
        have hab:a=b:=by cases a; cases b; simp only at hm hf; rw [hm,hf]
        subst hab
        rw [Zpw A B hA.tail hB.tail fun m=>?_]
        have:=h m
        rw [Zcs,Zcs] at this
        omega
theorem Zw6 {A B:List Term} (hA:Canon A) (hB:Canon B) (h:∀ m,coT A m % 10007=coT B m % 10007):A=B :=
  Zpw A B hA hB fun m=>by have:=h m; have:=hA.range m; have:=hB.range m; omega
theorem Zhe (x:Int):-10007 < ZFo x 10007∧ZFo x 10007 < 10007:=by
  rcases Int.le_total 0 x with h | h
  · rw [ZPg h]; omega
  · have e:ZFo x 10007=- ZFo (-x) 10007:=by rw [Int.neg_tmod]; omega
    rw [e,ZPg (by omega)]; omega
theorem Zpx (x:Int):ZFo (ZFo x 10007+10007) 10007=x % 10007:=by
  have h1:=Zhe x
  rw [ZPg (by omega)]
  have h2:x=10007 * Int.tdiv x 10007+ZFo x 10007:=(ZQt x 10007).symm
  omega
theorem Zpy (x:Int):ZFo x 10007 % 10007=x % 10007:=by
  have h2:x=10007 * Int.tdiv x 10007+ZFo x 10007:=(ZQt x 10007).symm
  omega
theorem Zw7 {d e:Nat} (h:d * e=10007):d=1∨e=1:=by
  have key:∀ k,k < 101→k ∣ 10007→k≤1:=by decide
  by_cases hd:d < 101
  · left
    have:=key d hd ⟨e,h.symm⟩
    rcases Nat.eq_zero_or_pos d with rfl | q
    · simp at h
    · omega
  · by_cases he:e < 101
    · right
      have:=key e he ⟨d,by rw [Nat.mul_comm]; exact h.symm⟩
      rcases Nat.eq_zero_or_pos e with rfl | q
      · simp at h
      · omega
    · exfalso
      have:101 * 101≤d * e:=Nat.mul_le_mul (by omega) (by omega)
      omega
theorem Zw8 {a:Nat} (h1:1≤a) (h2:a≤10006):Nat.Coprime 10007 a:=by
  obtain ⟨e,he⟩:=Nat.gcd_dvd_left 10007 a
  rcases Zw7 he.symm with q | q
  · exact q
  · exfalso
    rw [q,Nat.mul_one] at he
    have:=Nat.le_of_dvd (by omega) (Nat.gcd_dvd_right 10007 a)
    omega
theorem Zw9 {a b:Int} (ha:1≤a∧a≤10006) (hb:1≤b∧b≤10006):(a * b) % 10007≠0:=by
  obtain ⟨x,rfl⟩:=ZQw (show 0≤a by omega)
  obtain ⟨y,rfl⟩:=ZQw (show 0≤b by omega)
  intro h
  have h:(x * y) % 10007=0:=by
    have e:((x:Int) * (y:Int))=((x * y:Nat):Int):=(Int.natCast_mul x y).symm
    rw [e] at h; omega
  have:=(Zw8 (a:=x) (by omega) (by omega)).dvd_of_dvd_mul_left (Nat.dvd_of_mod_eq_zero h)
  have:=Nat.le_of_dvd (by omega) this
  omega
theorem Zxa {s a b:Int} (hs:s=1∨s=-1) (ha:1≤a∧a≤10006) (hb:1≤b∧b≤10006):1≤(s * (a * b)) % 10007∧(s * (a * b)) % 10007≤10006:=by
  have:=Zw9 ha hb
  rcases hs with rfl | rfl <;> omega
theorem Zpz:∀ (a x y:List Int),a.length=x.length→x.length=y.length→Jj (List.zipWith (·+·) a x) (List.zipWith (·+·) a y)=Jj x y
  | [],[],[],_,_=>rfl
  | a :: ar, x :: xs, y :: ys, h1, h2 => by
    simp only [List.zipWith_cons_cons,Jj]
    have:=Zpz ar xs ys (by simpa using h1) (by simpa using h2)
    by_cases h:x=y
    · subst h; simpa using this
    · rw [if_pos (by omega),if_pos h]; omega
  | [],_::_,_,h,_=>by simp at h
  | _::_,[],_,h,_=>by simp at h
  | _::_,_::_,[],_,h=>by simp at h
  | [],[],_::_,_,h=>by simp at h
theorem Zxb (a x y:A8):pcmp (a.add x) (a.add y)=pcmp x y:=Zpz a.list x.list y.list rfl rfl
theorem X0 {α:Type} [Inhabited α] {l:List α} {i:Nat} (h:i < l.length):l.take (i+1)=l.take i++[l.getD i ZEx]:=by
  rw [List.take_add_one]; simp [ZFf,h]
theorem Canon.at_lt {l:List Term} (h:Canon l) {i j:Nat} (hij:i < j) (hj:j < l.length):pcmp (l.getD i ZEx).mono (l.getD j ZEx).mono < 0:=by
  have:=(List.pairwise_iff_getElem.1 h.1) i j (by omega) hj hij
  simpa [ZFf,hj,show i < l.length by omega] using this
theorem Canon.at_range {l:List Term} (h:Canon l) {i:Nat} (hi:i < l.length):1≤(l.getD i ZEx).factor∧(l.getD i ZEx).factor≤10006:=h.2 _ (by simp [ZFf,hi])
theorem Y1 {α:Type} [Inhabited α] {l:List α} {i:Nat} (h:i < l.length):l.getD i ZEx∈l:=by simp [ZFf,h]
structure AddI (f g:List Term) (k:Int) (out:List Term) (i j:Nat):Prop where
  hi:i≤f.length
  hj:j≤g.length
  can:Canon out
  cf:∀ m,coT out m % 10007=(coT (f.take i) m+k * coT (g.take j) m) % 10007
  bf:∀ x,x∈out→i < f.length→pcmp x.mono (f.getD i ZEx).mono < 0
  bg:∀ x,x∈out→j < g.length→pcmp x.mono (g.getD j ZEx).mono < 0
  mo:∀ x,x∈out→∃ y,(y∈f∨y∈g)∧y.mono=x.mono
  ln:out.length≤i+j
theorem AddI.zero (f g:List Term) (k:Int):AddI f g k [] 0 0 :=
  ⟨by omega,by omega,Canon.nil,by intro m; simp [Zhd],by simp,by simp,by simp,by simp⟩
theorem Zca {α:Type} {l:List α} {t x:α} (h:x∈l++[t]):x∈l∨x=t:=by simpa using h
theorem AddI.stepF {f g:List Term} {k:Int} {out:List Term} {i j:Nat} (h:AddI f g k out i j) (cf:Canon f) (cg:Canon g) (hi:i < f.length) (hb:j < g.length→pcmp (f.getD i ZEx).mono (g.getD j ZEx).mono < 0) :
    AddI f g k (out++[f.getD i ZEx]) (i+1) j where
  hi:=hi
  hj:=h.hj
  can:=h.can.snoc (fun s hs=>h.bf s hs hi) (cf.at_range hi)
  cf m:=by
    have:=h.cf m
    rw [Zct,X0 hi,Zct]
    omega
  bf x hx hl:=by
    rcases Zca hx with q | rfl
    · exact Zbw (h.bf x q hi) (cf.at_lt (by omega) hl)
    · exact cf.at_lt (by omega) hl
  bg x hx hl:=by
    rcases Zca hx with q | rfl
    · exact h.bg x q hl
    · exact hb hl
  mo x hx:=by
    rcases Zca hx with q | rfl
    · exact h.mo x q
    · exact⟨_,.inl (Y1 hi),rfl⟩
  ln:=by have:=h.ln; simp; omega
theorem AddI.cfG {f g:List Term} {k:Int} {out:List Term} {i j:Nat} (h:AddI f g k out i j) (hj:j < g.length) (m:A8) :
    k * coT (g.take (j+1)) m=k * coT (g.take j) m+(if(g.getD j ZEx).mono=m then k * (g.getD j ZEx).factor else 0):=by
  rw [X0 hj,Zct,Int.mul_add]
  split <;> simp
theorem AddI.stepG0 {f g:List Term} {k:Int} {out:List Term} {i j:Nat} (h:AddI f g k out i j) (cf:Canon f) (cg:Canon g) (hj:j < g.length)
    (hz:(k * (g.getD j ZEx).factor) % 10007=0):AddI f g k out i (j+1) where
  hi:=h.hi
  hj:=hj
  can:=h.can
  cf m:=by
    have:=h.cf m
    rw [h.cfG hj m]
    split <;> omega
  bf:=h.bf
  bg x hx hl:=Zbw (h.bg x hx hj) (cg.at_lt (by omega) hl)
  mo:=h.mo
  ln:=by have:=h.ln; omega
theorem AddI.stepG1 {f g:List Term} {k:Int} {out:List Term} {i j:Nat} (h:AddI f g k out i j) (cf:Canon f) (cg:Canon g) (hj:j < g.length) (hb:i < f.length→pcmp (g.getD j ZEx).mono (f.getD i ZEx).mono < 0)
    {v:Int} (hv:v=(k * (g.getD j ZEx).factor) % 10007) (hz:v≠0):AddI f g k (out++[⟨(g.getD j ZEx).mono,v⟩]) i (j+1) where
  hi:=h.hi
  hj:=hj
  can:=h.can.snoc (fun s hs=>h.bg s hs hj) (by dsimp only; omega)
  cf m:=by
    have:=h.cf m
    rw [h.cfG hj m,Zct]
    dsimp only
    split <;> omega
  bf x hx hl:=by
    rcases Zca hx with q | rfl
    · exact h.bf x q hl
    · exact hb hl
  bg x hx hl:=by
    rcases Zca hx with q | rfl
    · exact Zbw (h.bg x q hj) (cg.at_lt (by omega) hl)
    · exact cg.at_lt (by omega) hl
  mo x hx:=by
    rcases Zca hx with q | rfl
    · exact h.mo x q
    · exact⟨_,.inr (Y1 hj),rfl⟩
  ln:=by have:=h.ln; simp; omega
theorem AddI.stepB0 {f g:List Term} {k:Int} {out:List Term} {i j:Nat} (h:AddI f g k out i j) (cf:Canon f) (cg:Canon g) (hi:i < f.length) (hj:j < g.length) (he:(f.getD i ZEx).mono=(g.getD j ZEx).mono)
    (hz:((f.getD i ZEx).factor+k * (g.getD j ZEx).factor) % 10007=0):AddI f g k out (i+1) (j+1) where
  hi:=hi
  hj:=hj
  can:=h.can
  cf m:=by
    have:=h.cf m
    rw [h.cfG hj m,X0 hi,Zct,he]
    split <;> omega
  bf x hx hl:=Zbw (h.bf x hx hi) (cf.at_lt (by omega) hl)
  bg x hx hl:=Zbw (h.bg x hx hj) (cg.at_lt (by omega) hl)
  mo:=h.mo
  ln:=by have:=h.ln; omega
theorem AddI.stepB1 {f g:List Term} {k:Int} {out:List Term} {i j:Nat} (h:AddI f g k out i j) (cf:Canon f) (cg:Canon g) (hi:i < f.length) (hj:j < g.length) (he:(f.getD i ZEx).mono=(g.getD j ZEx).mono)
    {v:Int} (hv:v=((f.getD i ZEx).factor+k * (g.getD j ZEx).factor) % 10007) (hz:v≠0):AddI f g k (out++[⟨(f.getD i ZEx).mono,v⟩]) (i+1) (j+1) where
  hi:=hi
  hj:=hj
  can:=h.can.snoc (fun s hs=>h.bf s hs hi) (by dsimp only; omega)
  cf m:=by
    have:=h.cf m
    rw [h.cfG hj m,X0 hi,Zct,Zct,he]
    dsimp only
    split <;> omega
  bf x hx hl:=by
    rcases Zca hx with q | rfl
    · exact Zbw (h.bf x q hi) (cf.at_lt (by omega) hl)
    · exact cf.at_lt (by omega) hl
  bg x hx hl:=by
    rcases Zca hx with q | rfl
    · exact Zbw (h.bg x q hj) (cg.at_lt (by omega) hl)
    · dsimp only; rw [he]; exact cg.at_lt (by omega) hl
  mo x hx:=by
    rcases Zca hx with q | rfl
    · exact h.mo x q
    · exact⟨_,.inl (Y1 hi),rfl⟩
  ln:=by have:=h.ln; simp; omega
structure IsAdd (f g:List Term) (k:Int) (out:List Term):Prop where
  can:Canon out
  cf:∀ m,coT out m % 10007=(coT f m+k * coT g m) % 10007
  mo:∀ x,x∈out→∃ y,(y∈f∨y∈g)∧y.mono=x.mono
  ln:out.length≤f.length+g.length
theorem AddI.done {f g:List Term} {k:Int} {out:List Term} {i j:Nat} (h:AddI f g k out i j) (hi:¬ i < f.length) (hj:¬ j < g.length):IsAdd f g k out where
  can:=h.can
  cf m:=by have:=h.cf m; rwa [ZFw (by omega),ZFw (by omega)] at this
  mo:=h.mo
  ln:=by have:=h.ln; have:=h.hi; have:=h.hj; omega
def pr1 (ds:List Int) (a:A8) (n:Int) (b:A8) (m':Int) (m:A8):Int:=if(Z9 ds a b).1=m then(Z9 ds a b).2 * (n * m') else 0
def shC (ds:List Int) (t:Term) (g:List Term) (m:A8):Int:=tot (fun u=>pr1 ds t.mono t.factor u.mono u.factor m) g
def prC (ds:List Int) (f g:List Term) (m:A8):Int:=tot (fun t=>shC ds t g m) f
structure IsShift (ds:List Int) (t:Term) (g out:List Term):Prop where
  can:Canon out
  cf:∀ m,coT out m % 10007=shC ds t g m % 10007
  mo:∀ x,x∈out→∃ u,u∈g∧x.mono=t.mono.add u.mono∧¬ Clash ds t.mono u.mono
  ln:out.length≤g.length
theorem IsShift.nil (ds:List Int) (t:Term):IsShift ds t [] []:=⟨Canon.nil,by intro m; rfl,by simp,by simp⟩
theorem Zp0 (ds:List Int) (t:Term) (g:List Term) (u:Term) (m:A8):shC ds t (g++[u]) m=shC ds t g m+pr1 ds t.mono t.factor u.mono u.factor m:=by
  rw [shC,Zhb]; simp [tot,shC]
theorem Canon.init {l:List Term} {u:Term} (h:Canon (l++[u])):Canon l∧∀ s,s∈l→pcmp s.mono u.mono < 0:=by
  have:=ZQr.1 h.1
  exact⟨⟨this.1,fun s hs=>h.2 s (by simp [hs])⟩,fun s hs=>this.2.2 s hs u (by simp)⟩
theorem IsShift.skip {ds:List Int} {t:Term} {g out:List Term} {u:Term} (h:IsShift ds t g out) (hs:(Z9 ds t.mono u.mono).2=0):IsShift ds t (g++[u]) out where
  can:=h.can
  cf m:=by
    have:=h.cf m
    rw [Zp0,pr1,hs]
    split <;> simp [this]
  mo x hx:=by
    obtain ⟨u',hu,he⟩:=h.mo x hx
    exact⟨u',by simp [hu],he⟩
  ln:=by have:=h.ln; simp; omega
theorem Zec {ds:List Int} {a b:A8} (h:(Z9 ds a b).2≠0):¬ Clash ds a b∧(Z9 ds a b).1=a.add b∧((Z9 ds a b).2=1∨(Z9 ds a b).2=-1):=by
  have hc:¬ Clash ds a b:=fun q=>h (by simp [Z9,q])
  refine⟨hc,by simp [Z9,hc],?_⟩
  simp only [Z9,hc,if_false]
  exact Zi2 _
theorem IsShift.put {ds:List Int} {t:Term} {g out:List Term} {u:Term} (h:IsShift ds t g out) (cg:Canon (g++[u])) (ht:1≤t.factor∧t.factor≤10006) (hs:(Z9 ds t.mono u.mono).2≠0) {v:Int} (hv:v=((Z9 ds t.mono u.mono).2 * (t.factor * u.factor)) % 10007) :
    IsShift ds t (g++[u]) (out++[⟨(Z9 ds t.mono u.mono).1,v⟩]):=by
  obtain ⟨hc,he,hsg⟩:=Zec hs
  have hu:=cg.2 u (by simp)
  have hnz:=Zxa hsg ht hu
  refine⟨h.can.snoc (fun s hs'=>?_) (by dsimp only; omega),fun m=>?_,fun x hx=>?_,by have:=h.ln; simp; omega⟩
  · obtain ⟨u',hu',he',_⟩:=h.mo s hs'
    dsimp only
    rw [he,he',Zxb]
    exact cg.init.2 u' hu'
  · have:=h.cf m
    rw [Zct,Zp0,pr1]
    dsimp only
    split <;> omega
  · rcases Zca hx with q | rfl
    · obtain ⟨u',hu',he'⟩:=h.mo x q
      exact⟨u',by simp [hu'],he'⟩
    · exact⟨u,by simp,he,hc⟩
structure IsProd (ds:List Int) (f g out:List Term):Prop where
  can:Canon out
  cf:∀ m,coT out m % 10007=prC ds f g m % 10007
  mo:∀ x,x∈out→∃ t u,t∈f∧u∈g∧x.mono=t.mono.add u.mono∧¬ Clash ds t.mono u.mono
  ln:out.length≤f.length * g.length
theorem IsProd.nil (ds:List Int) (g:List Term):IsProd ds [] g []:=⟨Canon.nil,by intro m; rfl,by simp,by simp⟩
theorem IsProd.step {ds:List Int} {f g out sh out':List Term} {t:Term} (h:IsProd ds f g out) (hs:IsShift ds t g sh) (ha:IsAdd out sh 1 out'):IsProd ds (f++[t]) g out' where
  can:=ha.can
  cf m:=by
    have h1:=h.cf m
    have h2:=hs.cf m
    have h3:=ha.cf m
    rw [prC,Zhb]
    simp only [tot]
    unfold prC at h1
    omega
  mo x hx:=by
    obtain ⟨y,hy | hy,he⟩:=ha.mo x hx
    · obtain ⟨a,u,h1,h2,h3,h4⟩:=h.mo y hy
      exact⟨a,u,by simp [h1],h2,he ▸ h3,h4⟩
    · obtain ⟨u,h2,h3,h4⟩:=hs.mo y hy
      exact⟨t,u,by simp,h2,he ▸ h3,h4⟩
  ln:=by
    have h1:=h.ln
    have h2:=hs.ln
    have h3:=ha.ln
    have:(f++[t]).length * g.length=f.length * g.length+g.length:=by simp [Nat.add_mul]
    omega
def MapOk (l:List (A8×Int)):Prop:=(l.map ZFz).Nodup∧∀ p,p∈l→1≤p.2∧p.2≤10006
theorem MapOk.nil:MapOk []:=⟨by simp,by simp⟩
theorem Zcv {l : List (A8 × Int)} (h : (l.map ZFz).Nodup) (m : A8) : (Y0 l m).getD 0 = co l m := by
  induction l with
  | nil=>rfl
  | cons p l ih =>
    simp only [ZFy,ZPa] at h
    simp only [Y0,Zau]
    by_cases hm:m=p.1
    · subst hm
      rw [if_pos rfl,if_pos rfl,Zdg]
      · simp
      · intro t ht e
        exact h.1 (ZF9.2 ⟨t,ht,e⟩)
    · rw [if_neg hm,if_neg (fun e=>hm e.symm),ih h.2,ZO6]
theorem Zl6 {l : List (A8 × Int)} (h : (l.map ZFz).Nodup) (x : A8) (v : Int) (m : A8) : co (Yh l x v) m = if m = x then v else co l m := by
  induction l with
  | nil => simp only [Yh, Zau, Zfd]; by_cases hm : m = x
           · subst hm; simp
           · rw [if_neg (fun e=>hm e.symm),if_neg hm]; rfl
  | cons p l ih =>
    simp only [ZFy,ZPa] at h
    simp only [Yh]
    split
    · rename_i hx
      rw [Zau,Zau]
      dsimp only
      by_cases hm:m=x
      · subst hm
        rw [if_pos rfl,if_pos rfl,Zdg]
        · simp
        · intro t ht e
          exact h.1 (ZF9.2 ⟨t,ht,by rw [e,hx]⟩)
      · rw [if_neg (fun e=>hm e.symm),if_neg hm,if_neg (fun e=>hm (by rw [hx,e]))]
    · rename_i hx
      rw [Zau,Zau,ih h.2]
      by_cases hm:m=x
      · subst hm; rw [if_pos rfl,if_pos rfl,if_neg (fun e=>hx e.symm)]; simp
      · rw [if_neg hm,if_neg hm]
theorem Zxc {l : List (A8 × Int)} (h : (l.map ZFz).Nodup) (x : A8) (m : A8) : co (Jc l x) m = if m = x then 0 else co l m := by
  induction l with
  | nil=>simp [Jc,Zfd]
  | cons p l ih =>
    simp only [ZFy,ZPa] at h
    simp only [Jc]
    split
    · rename_i hx
      rw [Zau]
      by_cases hm:m=x
      · subst hm
        rw [if_pos rfl,Zdg]
        intro t ht e
        exact h.1 (ZF9.2 ⟨t,ht,by rw [e,hx]⟩)
      · rw [if_neg hm,if_neg (fun e=>hm (by rw [hx,e]))]; simp
    · rename_i hx
      rw [Zau,Zau,ih h.2]
      by_cases hm:m=x
      · subst hm; rw [if_pos rfl,if_pos rfl,if_neg (fun e=>hx e.symm)]; rfl
      · rw [if_neg hm,if_neg hm]
theorem Zl7 {l:List (A8×Int)} {x:A8} {p:A8×Int} (h:p∈Jc l x):p∈l:=by
  induction l with
  | nil=>simp [Jc] at h
  | cons q l ih =>
    simp only [Jc] at h
    split at h
    · simp [h]
    · rcases ZEt.1 h with rfl | h
      · simp
      · simp [ih h]
theorem Zxd {l:List (A8×Int)} (x:A8) (h:(l.map ZFz).Nodup):((Jc l x).map ZFz).Nodup:=by
  induction l with
  | nil=>simp [Jc]
  | cons q l ih =>
    simp only [ZFy,ZPa] at h
    simp only [Jc]
    split
    · exact h.2
    · simp only [ZFy,ZPa]
      refine⟨fun hq=>h.1 ?_,ih h.2⟩
      obtain ⟨p,hp,he⟩:=ZF9.1 hq
      exact ZF9.2 ⟨p,Zl7 hp,he⟩
theorem Zl8 {l : List (A8 × Int)} {x : A8} {v : Int} {p : A8 × Int} (h : p ∈ Yh l x v) : p = (x, v) ∨ p ∈ l := by
  induction l with
  | nil=>left; simpa [Yh] using h
  | cons q l ih =>
    simp only [Yh] at h
    split at h
    · rcases ZEt.1 h with rfl | h
      · exact .inl rfl
      · exact .inr (by simp [h])
    · rcases ZEt.1 h with rfl | h
      · exact .inr (by simp)
      · rcases ih h with e | e
        · exact .inl e
        · exact .inr (by simp [e])
theorem Zxe (l:List (A8×Int)) (x:A8) (v:Int):(Yh l x v).length≤l.length+1:=by
  induction l with
  | nil=>simp [Yh]
  | cons q l ih=>simp only [Yh]; split <;> simp; omega
theorem Zxf (l:List (A8×Int)) (x:A8):(Jc l x).length≤l.length:=by
  induction l with
  | nil=>simp [Jc]
  | cons q l ih=>simp only [Jc]; split <;> simp; omega
theorem MapOk.put {l:List (A8×Int)} (h:MapOk l) {x:A8} {v:Int} (hv:1≤v∧v≤10006):MapOk (Yh l x v) :=
  ⟨Ziy h.1,fun p hp=>by rcases Zl8 hp with rfl | q; exact hv; exact h.2 p q⟩
theorem MapOk.del {l:List (A8×Int)} (h:MapOk l) (x:A8):MapOk (Jc l x):=⟨Zxd x h.1,fun p hp=>h.2 p (Zl7 hp)⟩
theorem MapOk.range {l : List (A8 × Int)} (h : MapOk l) (m : A8) : 0 ≤ co l m ∧ co l m ≤ 10006 := by
  rw [← Zcv h.1]
  cases hg:Y0 l m with
  | none=>simp
  | some v =>
    have:(m,v)∈l:=by
      clear h
      induction l with
      | nil=>simp [Y0] at hg
      | cons p l ih =>
        simp only [Y0] at hg
        split at hg
        · rename_i e; injection hg with e2; subst e2; subst e; simp
        · simp [ih hg]
    have:=h.2 _ this
    simp only [Option.getD_some]
    dsimp only at this
    omega
structure IsPut (l:List (A8×Int)) (x:A8) (c:Int) (l':List (A8×Int)):Prop where
  ok:MapOk l'
  cf:∀ m,co l' m % 10007=(co l m+if x=m then c else 0) % 10007
  ks:∀ p,p∈l'→p.1=x∨∃ q,q∈l∧q.1=p.1
  ln:l'.length≤l.length+1
theorem IsPut.put {l:List (A8×Int)} (h:MapOk l) {x:A8} {c v:Int} (hv:v=(co l x+c) % 10007) (hz:v≠0):IsPut l x c (Yh l x v) where
  ok:=h.put (by omega)
  cf m:=by
    rw [Zl6 h.1]
    by_cases hm:m=x
    · subst hm; rw [if_pos rfl,if_pos rfl]; omega
    · rw [if_neg hm,if_neg (fun e=>hm e.symm)]; simp
  ks p hp:=by
    rcases Zl8 hp with rfl | q
    · exact .inl rfl
    · exact .inr ⟨p,q,rfl⟩
  ln:=Zxe _ _ _
theorem IsPut.del {l:List (A8×Int)} (h:MapOk l) {x:A8} {c:Int} (hz:(co l x+c) % 10007=0):IsPut l x c (Jc l x) where
  ok:=h.del x
  cf m:=by
    rw [Zxc h.1]
    by_cases hm:m=x
    · subst hm; rw [if_pos rfl,if_pos rfl]; omega
    · rw [if_neg hm,if_neg (fun e=>hm e.symm)]; simp
  ks p hp:=.inr ⟨p,Zl7 hp,rfl⟩
  ln:=by have:=Zxf l x; omega
theorem Zxg {l : List (A8 × Int)} (h : MapOk l) {xs : List A8} (hp : xs.Perm (l.map ZFz)) (hw : xs.Pairwise (fun a b => ¬ pcmp b a < 0)) : Canon (xs.map fun x => ⟨x, (Y0 l x).getD 0⟩) ∧ ∀ m, coT (xs.map fun x => ⟨x, (Y0 l x).getD 0⟩) m = co l m := by
  have hnd:xs.Nodup:=hp.nodup_iff.2 h.1
  have hmem:∀ x,x∈xs→∃ v,(x,v)∈l∧(Y0 l x).getD 0=v:=by
    intro x hx
    obtain ⟨p,hpl,rfl⟩:=ZF9.1 (hp.mem_iff.1 hx)
    refine⟨p.2,hpl,?_⟩
    rw [Zcv h.1]
    have h1:=h.1
    clear hp hx h
    induction l with
    | nil=>simp at hpl
    | cons q l ih =>
      simp only [ZFy,ZPa] at h1
      rw [Zau]
      rcases ZEt.1 hpl with rfl | hpl
      · rw [if_pos rfl,Zdg]
        · simp
        · intro t ht e; exact h1.1 (ZF9.2 ⟨t,ht,e⟩)
      · rw [if_neg (fun e=>h1.1 (ZF9.2 ⟨p,hpl,e.symm⟩)),ih hpl h1.2,ZO6]
  refine⟨⟨?_,fun t ht=>?_⟩,fun m=>?_⟩
  · rw [List.pairwise_map]
    have:xs.Pairwise (fun a b=>a≠b):=hnd
    refine(hw.and this).imp fun {a b} hab=>?_
    by_cases q:pcmp a b < 0
    · exact q
    · exact absurd (Zji q hab.1) hab.2
  · obtain ⟨x,hx,rfl⟩:=ZF9.1 ht
    obtain ⟨v,hv,he⟩:=hmem x hx
    dsimp only
    rw [he]
    exact h.2 _ hv
  · rw [coT,Zeb]
    dsimp only
    rw [Zfc _ hp,Zeb]
    refine Jm fun p hpl=>?_
    obtain ⟨v,hv,he⟩:=hmem p.1 (hp.mem_iff.2 (ZF9.2 ⟨p,hpl,rfl⟩))
    have:v=p.2:=by
      rw [← he,Zcv h.1]
      have h1:=h.1
      clear hp h hmem he hv
      induction l with
      | nil=>simp at hpl
      | cons q l ih =>
        simp only [ZFy,ZPa] at h1
        rw [Zau]
        rcases ZEt.1 hpl with rfl | hpl
        · rw [if_pos rfl,Zdg]
          · simp
          · intro t ht e; exact h1.1 (ZF9.2 ⟨t,ht,e⟩)
        · rw [if_neg (fun e=>h1.1 (ZF9.2 ⟨p,hpl,e.symm⟩)),ih hpl h1.2,ZO6]
    rw [he,this]
def Zed (a:A8):List A8→List A8
  | []=>[a]
  | b::l=>if pcmp a b < 0 then a::b::l else b::Zed a l
theorem Zp1 (a:A8) (l:List A8):(Zed a l).Perm (a::l):=by
  induction l with
  | nil=>exact ZPp _
  | cons b l ih =>
    simp only [Zed]
    split
    · exact ZPp _
    · exact(ih.cons b).trans (List.Perm.swap _ _ _)
theorem Zxh {a b c:A8} (h1:¬ pcmp b a < 0) (h2:¬ pcmp c b < 0):¬ pcmp c a < 0:=fun h=>by
  by_cases q:pcmp a b < 0
  · exact h2 (Zbw h q)
  · have:=Zji q h1
    subst this
    exact h2 h
theorem Zxi {a:A8} {l:List A8} (h:l.Pairwise (fun a b=>¬ pcmp b a < 0)):(Zed a l).Pairwise (fun a b=>¬ pcmp b a < 0):=by
  induction l with
  | nil=>simp [Zed]
  | cons b l ih =>
    simp only [Zed]
    have hb:=ZFk.1 h
    split
    · rename_i q
      refine ZFk.2 ⟨fun x hx=>?_,h⟩
      rcases ZEt.1 hx with rfl | hx
      · exact Zl5 q
      · exact Zxh (Zl5 q) (hb.1 x hx)
    · rename_i q
      refine ZFk.2 ⟨fun x hx=>?_,ih hb.2⟩
      rcases ZEt.1 ((Zp1 a l).mem_iff.1 hx) with rfl | hx
      · exact q
      · exact hb.1 x hx
theorem Zp2:∀ l:List A8,∃ xs:List A8,xs.Perm l∧xs.Pairwise (fun a b=>¬ pcmp b a < 0)
  | []=>⟨[],ZPp _,ZQq⟩
  | a :: l => by
    obtain ⟨xs,h1,h2⟩:=Zp2 l
    exact⟨Zed a xs,(Zp1 a xs).trans (h1.cons a),Zxi h2⟩
end Vc
namespace Vc
open Go Go.RowKit Go.ChangeShapes Go.WideShapes Go.ChangeAt
theorem Zdh {α:Type} {t:Ty α} {x:α} {cs:List Value} {fp:List Nat} {w:World} (h:t.rep x cs fp w):t.all [x] cs fp w:=by
  have hl:=t.len h
  refine⟨t.low h,by rw [hl]; simp,t.one h,fun i hi=>?_⟩
  obtain rfl:i=0:=by simpa using hi
  rw [Nat.zero_mul,List.drop_zero,ZFw (by omega)]
  exact h
section
variable {H:Type} {enc:TypeId×Value→H} {P:Program} {W:World}
end
end Vc
set_option maxRecDepth 4000
set_option maxHeartbeats 4000000
namespace Go.Proofs.YtaagfepgbofmlaaGreat
open Go Go.RowKit Vc
variable {b0 bp0 b1 bp1 b2 bp2 b3 bp3 b4 bp4 b5 bp5 b6 bp6 b7 bp7 mb0:Nat} {u0_0 u0_1 u0_2 u0_3 u0_4 u0_5 u1_0 u1_1 u1_2 u1_3 u1_4 u1_5 u2_0 u2_1 u2_2 u2_3 u2_4 u2_5 u3_0 u3_1 u3_2 u3_3 u3_4 u3_5 u4_0 u4_1 u4_2 u4_3 u4_4 u4_5 u5_0 u5_1 u5_2 u5_3 u5_4 u5_5 u6_0 u6_1 u6_2 u6_3 u6_4 u6_5 u7_0 u7_1 u7_2 u7_3 u7_4 u7_5:Value} {fp0 fp1 fp2 fp3 fp4 fp5 fp6 fp7 fp0_0 fp0_1 fp0_2 fp0_3 fp0_4 fp0_5 fp1_0 fp1_1 fp1_2 fp1_3 fp1_4 fp1_5 F0:List Nat}
theorem sc66:ScaT ZMq 66:=⟨⟨_,Tryz.underlying66,rfl⟩,by kernel_rfl⟩
theorem ag50:AggT ZMq 50 1:=⟨⟨_,ZPm,rfl⟩,by kernel_rfl⟩
theorem sc23:ScaT ZMq 23:=⟨⟨_,ZO9,rfl⟩,by kernel_rfl⟩
theorem Zxj:Zaf ZMq 55 (.agg #[.slice none 0 0]) 1 24:=by unfold Zaf; kernel_rfl
theorem z32:Xt ZMq 32 (.agg #[.slice none 0 0,.slice none 0 0]):=by unfold Xt; kernel_rfl
def Zhf (a0:ZMp) (a1:Alg) (K:Bool→Prop):Prop :=
 Zfa a0 (fun r11=>Zd9 a1 r11 (fun r10=>K (decide ((r10.length:Int) > 0))))
theorem Zxk (a0:ZMp) (a1:Alg)  {K:Bool→Prop} (h:Zhf a0 a1 K) (w0:World) (q0:ZM9.rep a0 [u0_0] fp0 w0) (q1:TAlg.rep a1 [u1_0,u1_1] fp1 w0) (qb1:(blk b1 32 [u1_0,u1_1]).holds w0) :
  Calls ZMq 153 #[.agg #[u0_0],vQ b1] w0 fun e w'=>∃ (r0:Bool),
   e=.returned (.bool r0)∧K r0∧Bel w0 w':=by
 unfold Zhf at h
 refine cof Tryz.func153 rfl 9 Tryz.ntmps153 ?_
 have hC:=ZM8 (X:=Nox) w0 [ZMm TForm a0 [u0_0] fp0,ZMm TAlg a1 [u1_0,u1_1] fp1,blk b1 32 [u1_0,u1_1]] (alc q0 (alc q1 (al1 qb1)))
 have hp4:=(hC.getP 0 rfl)
 replace hC:=hC.derive 0 rfl (ZMm ZMo.ty.sl a0.terms [u0_0] fp0) (fun _=>(Xi hp4)) (fun _ hb_=>hb_)
 replace hC:=hC.dAlg 2 rfl
 refine sr (Yg (v:=.agg #[u0_0]) hC [u0_0] rfl rfl fun b8 w10 hB_ hC=>Zc (v:=.bool false) rfl (dn (sr (Yp hC 0 [u0_0] rfl ag55 rfl rfl rfl (Zf [.agg #[u0_0]] _ Tryz.func78 rfl rfl rfl (Zpo a0 h _ (Yy (hC.getP 2 rfl))) ?_)))))
 rintro _ w11 ⟨r11,b10,rfl,h,hr10,hf10,hB10⟩
 refine rt ?_
 replace hC:=hC.push hB10 (mapS b10 r11) hr10 (fun b_ hb_=>by obtain rfl:=ZF6.1 hb_; exact hf10)
 refine Zf [vQ b1,.map (some b10)] _ Tryz.func154 rfl rfl rfl (Zpr a1 r11 h _ (Xs (hC.getP 1 rfl) (hC.getP 0 rfl)) (hC.getP 5 rfl) (hC.getM 0 rfl)) ?_
 rintro _ w12 ⟨r10,b11,rfl,h,hr11,hf11,hB11⟩
 refine rt ?_
 replace hC:=hC.push hB11 (mapS b11 r10) hr11 (fun b_ hb_=>by obtain rfl:=ZF6.1 hb_; exact hf11)
 refine Zux (hC.getM 0 rfl) ZNk rfl rfl (Jh rfl rfl (Zc (v:=.bool (decide ((r10.length:Int) > 0))) rfl (dn (ZMv ?_))))
 exact Zi rfl (Ze rfl) ⟨decide ((r10.length:Int) > 0),rfl,h,hC.below⟩ (.inl rfl)
def Zjk (a0:List ZMp) (p1:ZMp→(Bool→Prop)→Prop) (K:Int→Prop):Prop :=
 Yb (fun i10 (s10:Unit) nx10=>p1 (a0.getD i10 ZEx) (fun r10=>(if r10=true then K (i10:Int) else nx10 ()))) (fun (s10:Unit)=>K (-1)) a0.length 0 ()
theorem Zxl (a0:List ZMp) (p1:ZMp→(Bool→Prop)→Prop)  {K:Int→Prop} (h:Zjk a0 p1 K) (w0:World) (q0:ZM9.sl.rep a0 [u0_0] fp0 w0) {g1:Nat} {cp1:List Value} {fn1:Func} (hf1:ZMq.funcs[g1]? = some fn1) (hb1:fn1.body.isNone=false) (hn1:(fn1.name == "runtime.NumGoroutine")=false) (hp1:∀ (y0:ZMp) (yu0_0:Value) (yf0:List Nat) (K_:Bool→Prop) (w_:World),Bel w0 w_→ZM9.rep y0 [yu0_0] yf0 w_→p1 y0 K_→Calls ZMq g1 (ZMl ([.agg #[yu0_0]]++cp1)) w_ fun e w'=>∃ (z0:Bool),e=.returned (.bool z0)∧K_ z0∧Bel w_ w') :
  Calls ZMq 155 #[u0_0,.func (.func g1) #[] (ZMl cp1)] w0 fun e w'=>∃ (r0:Int),
   e=.returned (vI r0)∧K r0∧Bel w0 w':=by
 unfold Zjk at h
 refine cof Tryz.func155 rfl 19 Tryz.ntmps155 ?_
 have hC:=ZM8 (X:=Nox) w0 [ZMm ZM9.sl a0 [u0_0] fp0] (al1 q0)
 refine sr (Zc (v:=vI 0) rfl (dn (ZMn (sr (Za (v:=u0_0) rfl (Zv hC 0 rfl ZNb rfl (Za (v:=vI 0) rfl (dn (ZMt ?_)))))))))
 have hN10:a0.length≤9223372036854775807:=Yx (hC.getP 0 rfl)
 refine Yn (S:=Unit) _ _ (fun i10 s10 e_ w_=>Zt e_ [(0,u0_0),(1,.func (.func g1) #[] (ZMl cp1)),(7,vI (a0.length:Int)),(8,vI (i10:Int))]∧Ctx Nox w0 w_ [] [ZMm ZM9.sl a0 [u0_0] fp0]) a0.length ?_ ?_ (s0:=()) ?_ h
 ·clear hC h
  rintro i10 s10 e_ w10 nx10 K10 hi10 ⟨hS_,hC⟩ h hK10
  rw [ue hS_]
  refine sr (Zn rfl rfl (dn (ZMn (Yc rfl (decide_eq_true (by omega)) (ZMr (Zd (ZMn (ZMt (sr (Za (v:=vI (i10:Int)) rfl (Zc (v:=vI (i10:Int)) rfl (dn (sr (Za (v:=.func (.func g1) #[] (ZMl cp1)) rfl (Za (v:=u0_0) rfl (Za (v:=vI (i10:Int)) rfl ?_))))))))))))))))
  obtain ⟨Ad10,c10,hv10⟩:=Zw (hC.getP 0 rfl) i10 hi10
  refine Yo (len:=a0.length) ZNb ag55.size (tr rfl hv10) rfl (ZM3 _) (ZNl.2 hi10) ?_
  obtain ⟨cs_,hl10,hc10,hr10⟩:=Xj (hC.getP 0 rfl) hv10 i10 hi10
  obtain ⟨u10,rfl⟩:=ZNj.1 hl10
  clear hl10
  rw [Xl _ _ hi10] at hr10
  have hp10:=hr10
  replace hC:=hC.derive 0 rfl (ZMm ZMo.ty.sl ((a0.getD i10 ZEx).terms) [u10] fp0) (fun _=>(Xi hp10)) (fun _ hb_=>hb_)
  refine Zak [u10] hc10 ag55 rfl rfl ?_
  refine Zle [.agg #[u10]] _ rfl hf1 hb1 hn1 rfl (hp1 _ _ _ _ _ hC.below (Yy (hC.getP 0 rfl)) h) (fun ret10 w11 hR10=>?_)
  obtain ⟨r10,rfl,h,hB10⟩:=hR10
  refine⟨_,rfl,?_⟩
  replace hC:=hC.grow hB10
  refine dn ?_
  refine Zp rfl (fun hb10=>?_) (fun hb10=>?_)
  ·replace h:=ift h (hb10)
   refine sr (Za (v:=vI (i10:Int)) rfl (Zc (v:=vI (i10:Int)) rfl (dn ?_)))
   refine ZMv (Z4 (Zk (Zk (Z4 (Zk ?_)))))
   exact Zi rfl (Ze rfl) ⟨(i10:Int),rfl,h,hC.below⟩ (.inl rfl)
  ·replace h:=Zj h (Xa hb10)
   refine ZMr (Zq (Zd (Zg (Zo rfl rfl (Za (v:=vI (ZHd.wrap ((i10:Int)+1))) rfl (done ?_))))))
   exact hK10 () _ _ ⟨(sl ⟨rfl,rfl,rfl,(tr rfl (congrArg _ (Z6 hi10 hN10))),trivial⟩),(hC.sP [1] rfl)⟩ h
 ·clear hC h
  rintro s10 e_ w12 K10 ⟨hS_,hC⟩ h
  rw [ue hS_]
  refine sr (Zn rfl rfl (dn (ZMn (Z2 rfl (decide_eq_false (by omega)) ?_))))
  refine ZM1 (Zh (Zh (Zy ?_)))
  refine Zd (sr (Zc (v:=vI (-1)) rfl (dn (ZMv ?_))))
  exact Zi rfl (Ze rfl) ⟨(-1),rfl,h,hC.below⟩ (.inl rfl)
 ·skip
  exact⟨(slq rfl),hC⟩
def Zfe (a0:List ZMp) (p1:ZMp→(Bool→Prop)→Prop) (K:Bool→Prop):Prop :=
 Zjk a0 p1 (fun r5=>K (decide (r5≥0)))
theorem Zp3 (a0:List ZMp) (p1:ZMp→(Bool→Prop)→Prop)  {K:Bool→Prop} (h:Zfe a0 p1 K) (w0:World) (q0:ZM9.sl.rep a0 [u0_0] fp0 w0) {g1:Nat} {cp1:List Value} {fn1:Func} (hf1:ZMq.funcs[g1]? = some fn1) (hb1:fn1.body.isNone=false) (hn1:(fn1.name == "runtime.NumGoroutine")=false) (hp1:∀ (y0:ZMp) (yu0_0:Value) (yf0:List Nat) (K_:Bool→Prop) (w_:World),Bel w0 w_→ZM9.rep y0 [yu0_0] yf0 w_→p1 y0 K_→Calls ZMq g1 (ZMl ([.agg #[yu0_0]]++cp1)) w_ fun e w'=>∃ (z0:Bool),e=.returned (.bool z0)∧K_ z0∧Bel w_ w') :
  Calls ZMq 97 #[u0_0,.func (.func g1) #[] (ZMl cp1)] w0 fun e w'=>∃ (r0:Bool),
   e=.returned (.bool r0)∧K r0∧Bel w0 w':=by
 unfold Zfe at h
 refine cof Tryz.func97 rfl 9 Tryz.ntmps97 ?_
 have hC:=ZM8 (X:=Nox) w0 [ZMm ZM9.sl a0 [u0_0] fp0] (al1 q0)
 refine sr (Zc (v:=.bool false) rfl (dn (sr (Za (v:=u0_0) rfl (Za (v:=.func (.func g1) #[] (ZMl cp1)) rfl (Zf [u0_0,.func (.func g1) #[] (ZMl cp1)] _ Tryz.func155 rfl rfl rfl (Zxl a0 p1 h _ (hC.getP 0 rfl) hf1 hb1 hn1 (fun x0_ x1_ x2_ K_ w_ hb_=>hp1 x0_ x1_ x2_ K_ w_ (Zow hC.below hb_))) ?_))))))
 rintro _ w4 ⟨r5,rfl,h,hB6⟩
 refine rt ?_
 replace hC:=hC.grow hB6
 refine Zay rfl rfl (Zc (v:=.bool (decide (r5≥0))) rfl (dn (ZMv ?_)))
 exact Zi rfl (Ze rfl) ⟨decide (r5≥0),rfl,h,hC.below⟩ (.inl rfl)
def Zhg (a0:Alg) (K:Bool→Prop):Prop :=
 Zgv a0.degrees (fun r11=>(if¬ (r11=true) then K false else(if(a0.images.length:Int)≠(a0.degrees.length:Int) then K false else Yb (fun i10 (s10:Unit) nx10=>Zfb a0.degrees (a0.images.getD i10 ZEx) (fun r10=>(if¬ (r10=true) then K false else((0≤(i10:Int)∧(i10:Int) < (a0.degrees.length:Int))∧Zgz a0.degrees (a0.images.getD i10 ZEx) (ZHd.wrap ((a0.degrees.getD i10 ZEx)+1)) (fun r13=>(if¬ (r13=true) then K false else nx10 ())))))) (fun (s10:Unit)=>Zfe a0.images (fun y0_ K_=>Zhf y0_ a0 K_) (fun r12=>K (!r12))) a0.images.length 0 ())))
theorem Zxm (a0:Alg)  {K:Bool→Prop} (h:Zhg a0 K) (w0:World) (q0:TAlg.rep a0 [u0_0,u0_1] fp0 w0) :
  Calls ZMq 96 #[.agg #[u0_0,u0_1]] w0 fun e w'=>∃ (r0:Bool),
   e=.returned (.bool r0)∧K r0∧Bel w0 w':=by
 unfold Zhg at h
 refine cof Tryz.func96 rfl 50 Tryz.ntmps96 ?_
 have hC:=ZM8 (X:=Nox) w0 [ZMm TAlg a0 [u0_0,u0_1] fp0] (al1 q0)
 replace hC:=hC.dAlg 0 rfl
 refine sr (Yg (v:=.agg #[u0_0,u0_1]) hC [u0_0,u0_1] rfl rfl fun b4 w6 hB_ hC=>Zc (v:=.bool false) rfl (dn (ZMn (sr (Zu 0 ZM7 rfl sc22.size rfl rfl (Z5 hC 0 (u0_0) rfl sc22 rfl rfl (Zf [u0_0] _ Tryz.func151 rfl rfl rfl (Zwc a0.degrees h _ (hC.getP 1 rfl)) ?_)))))))
 rintro _ w9 ⟨r11,rfl,h,hB10⟩
 refine rt ?_
 replace hC:=hC.grow hB10
 refine Xu rfl (Za (v:=.bool (!r11)) rfl ?_)
 refine Y5 (!r11) (fun hb11=>?_) (fun hb11=>?_)
 ·replace h:=ift h (Xa (X3 hb11))
  refine Zm (b:=true) 4 9 rfl (tr rfl (congrArg _ hb11)) (by decide) (Zm (b:=true) 4 9 rfl (tr rfl (congrArg _ hb11)) (by decide) (Zm (b:=true) 4 9 rfl (tr rfl (congrArg _ hb11)) (by decide) (Zm (b:=true) 4 9 rfl (tr rfl (congrArg _ hb11)) (by decide) (Zm (b:=true) 4 9 rfl (tr rfl (congrArg _ hb11)) (by decide) (Zm (b:=true) 4 9 rfl (tr rfl (congrArg _ hb11)) (by decide) (Zm (b:=true) 4 9 rfl (tr rfl (congrArg _ hb11)) (by decide) (Z3 (v:=.bool true) (b:=true) (tr rfl (congrArg _ hb11)) rfl (dn (Yc rfl rfl (sr (Zc (v:=.bool false) rfl (dn ?_))))))))))))
  refine ZMv (Zk ?_)
  exact Zi rfl (Ze rfl) ⟨false,rfl,h,hC.below⟩ (.inl rfl)
 ·replace h:=Zj h (not_not_intro ((X4 hb11)))
  refine Zl 4 9 rfl rfl hb11 (Zu 1 ZM7 rfl sc30.size rfl rfl (Zl 4 9 rfl rfl hb11 (Z5 hC 0 (u0_1) rfl sc30 rfl rfl (Zl 4 9 rfl rfl hb11 (Zv hC 0 rfl ZNb rfl (Zl 4 9 rfl rfl hb11 (Zu 0 ZM7 rfl sc22.size rfl rfl (Zl 4 9 rfl rfl hb11 (Z5 hC 0 (u0_0) rfl sc22 rfl rfl (Zl 4 9 rfl rfl hb11 (Zv hC 1 rfl ZM6 rfl (Zl 4 9 rfl rfl hb11 (Y2 rfl rfl (Z3 (v:=.bool (decide ((a0.images.length:Int)≠(a0.degrees.length:Int)))) (b:=false) (tr rfl (congrArg _ hb11)) rfl (dn ?_)))))))))))))))
  refine Zp rfl (fun hb12=>?_) (fun hb12=>?_)
  ·replace h:=ift h (ct hb12)
   refine sr (Zc (v:=.bool false) rfl (dn ?_))
   refine ZMv (Zk ?_)
   exact Zi rfl (Ze rfl) ⟨false,rfl,h,hC.below⟩ (.inl rfl)
  ·replace h:=Zj h (cf hb12)
   refine ZMr (Zd (ZMn (sr (Zu 1 ZM7 rfl sc30.size rfl rfl (Z5 hC 0 (u0_1) rfl sc30 rfl rfl (Zv hC 0 rfl ZNb rfl (Za (v:=vI 0) rfl (dn (ZMt ?_)))))))))
   have hN10:a0.images.length≤9223372036854775807:=Yx (hC.getP 0 rfl)
   refine Yn (S:=Unit) _ _ (fun i10 s10 e_ w_=>Zt e_ [(1,vQ b4),(19,u0_1),(20,vI (a0.images.length:Int)),(21,vI (i10:Int))]∧Ctx Nox w0 w_ [blk b4 32 [u0_0,u0_1]] [ZMm ZM9.sl a0.images [u0_1] fp0,ZMm TInts a0.degrees [u0_0] fp0,ZMm TAlg a0 [u0_0,u0_1] fp0]) a0.images.length ?_ ?_ (s0:=()) ?_ h
   ·clear hC h
    rintro i10 s10 e_ w10 nx10 K10 hi10 ⟨hS_,hC⟩ h hK10
    rw [ue hS_]
    refine sr (Zn rfl rfl (dn (ZMn (Yc rfl (decide_eq_true (by omega)) (ZMr (Zd (ZMn (ZMt (sr (Za (v:=vI (i10:Int)) rfl ?_))))))))))
    obtain ⟨Ad11,c10,hv10⟩:=Zw (hC.getP 0 rfl) i10 hi10
    refine Yo (len:=a0.images.length) ZNb ag55.size (tr rfl hv10) rfl (ZM3 _) (ZNl.2 hi10) ?_
    obtain ⟨cs_,hl10,hc10,hr10⟩:=Xj (hC.getP 0 rfl) hv10 i10 hi10
    obtain ⟨u10,rfl⟩:=ZNj.1 hl10
    clear hl10
    rw [Xl _ _ hi10] at hr10
    have hp10:=hr10
    replace hC:=hC.derive 0 rfl (ZMm ZMo.ty.sl ((a0.images.getD i10 ZEx).terms) [u10] fp0) (fun _=>(Xi hp10)) (fun _ hb_=>hb_)
    refine Zak [u10] hc10 ag55 rfl rfl (Yk hC [.slice none 0 0] z55 rfl fun b10 w11 hB_ hC=>Zc (v:=vI (i10:Int)) rfl (Zx (v:=.agg #[u10]) hC 0 [u10] [u10] rfl ag55.size rfl rfl rfl rfl (Xk (Zdz (hC.getP 0 rfl)) rfl) (ZMw rfl) rfl fun w12 hC=>dn (ZMn ?_)))
    refine cwd 15 Yi [0,1,0,7,15,31,63,127,63,63,575,63,3647,7743,15935,32767,65535,131071] [1,2,7,8,10,12,13] [0,4,5,6,7,8,9,10,11,12,13,14] (fun hM11 hM10 w13 hB_=>?_)
    replace hC:=hC.grow hB_
    refine bF 0 (vQ b4) rfl rfl hM10 (fun _=>by exact Yf 0 ZM7 rfl sc22.size rfl rfl) (Zb 18 1) (bL 1 (u0_0) rfl rfl hM11 (fun _ hB_=>by exact Ya (hC.grow hB_) 1 (u0_0) rfl sc22 rfl rfl) (Zb 18 3) (bL 2 (.agg #[u10]) rfl rfl hM11 (fun _ hB_=>by exact Xf (hC.grow hB_) 0 [u10] rfl ag55 rfl rfl rfl) (Zb 18 7) (aO 3 rfl (Zf [u0_0,.agg #[u10]] _ Tryz.func99 rfl rfl rfl (Zpq a0.degrees (a0.images.getD i10 ZEx) h _ (hC.getP 2 rfl) (Yy (hC.getP 0 rfl))) ?_))))
    rintro _ w14 ⟨r10,rfl,h,hB11⟩
    refine rt ?_
    replace hC:=hC.grow hB11
    refine done (aK (by assumption) (Zb 18 15) (bF 4 (.bool (!r10)) rfl rfl hM10 (fun _=>by exact Zk1 rfl) (Zb 18 31) (bM 5 (.bool (!r10)) rfl hM10 (Zb 18 63) ?_)))
    refine Y5 (!r10) (fun hb10=>?_) (fun hb10=>?_)
    ·replace h:=ift h (Xa (X3 hb10))
     refine Zr Zs 6 undef rfl rfl (by kernel_rfl) (hM10 6 rfl) (fun w_=>.inr ⟨Z8 (b:=true) 5 31 rfl (tr rfl (congrArg _ hb10)) (by decide),rfl⟩) (l9:=(Zb 18 127)) (by kernel_rfl) (Zr Zs 7 undef rfl rfl (by kernel_rfl) (hM10 7 rfl) (fun w_=>.inr ⟨Z8 (b:=true) 5 31 rfl (tr rfl (congrArg _ hb10)) (by decide),rfl⟩) (l9:=(Zb 18 255)) (by kernel_rfl) (Zr Zs 8 undef rfl rfl (by kernel_rfl) (hM10 8 rfl) (fun w_=>.inr ⟨Z8 (b:=true) 5 31 rfl (tr rfl (congrArg _ hb10)) (by decide),rfl⟩) (l9:=(Zb 18 511)) (by kernel_rfl) (Zr Zs 9 undef rfl rfl (by kernel_rfl) (hM10 9 rfl) (fun w_=>.inr ⟨Z8 (b:=true) 5 31 rfl (tr rfl (congrArg _ hb10)) (by decide),rfl⟩) (l9:=(Zb 18 1023)) (by kernel_rfl) (Zr Zs 10 undef rfl rfl (by kernel_rfl) (hM10 10 rfl) (fun w_=>.inr ⟨Z8 (b:=true) 5 31 rfl (tr rfl (congrArg _ hb10)) (by decide),rfl⟩) (l9:=(Zb 18 2047)) (by kernel_rfl) (Zr Zs 11 undef rfl rfl (by kernel_rfl) (hM10 11 rfl) (fun w_=>.inr ⟨Z8 (b:=true) 5 31 rfl (tr rfl (congrArg _ hb10)) (by decide),rfl⟩) (l9:=(Zb 18 4095)) (by kernel_rfl) (Zr Zs 12 undef rfl rfl (by kernel_rfl) (hM10 12 rfl) (fun w_=>.inr ⟨Z8 (b:=true) 5 31 rfl (tr rfl (congrArg _ hb10)) (by decide),rfl⟩) (l9:=(Zb 18 8191)) (by kernel_rfl) (Zr Zs 13 undef rfl rfl (by kernel_rfl) (hM10 13 rfl) (fun w_=>.inr ⟨Z8 (b:=true) 5 31 rfl (tr rfl (congrArg _ hb10)) (by decide),rfl⟩) (l9:=(Zb 18 16383)) (by kernel_rfl) (Zr Zs 14 undef rfl rfl (by kernel_rfl) (hM10 14 rfl) (fun w_=>.inr ⟨Z8 (b:=true) 5 31 rfl (tr rfl (congrArg _ hb10)) (by decide),rfl⟩) (l9:=(Zb 18 32767)) (by kernel_rfl) (Zz 15 (by decide) (by decide) (by kernel_rfl) (by kernel_rfl) rfl (Zm (b:=true) 5 31 rfl (tr rfl (congrArg _ hb10)) (by decide) (Zm (b:=true) 5 31 rfl (tr rfl (congrArg _ hb10)) (by decide) (Z3 (v:=.bool true) (b:=true) (tr rfl (congrArg _ hb10)) rfl (done (Z0 (Zd (Yc rfl rfl (sr (Zc (v:=.bool false) rfl (dn ?_)))))))))))))))))))
     refine ZMv (Z4 (Zk (Zk (Z4 (Zk ?_)))))
     exact Zi rfl (Ze rfl) ⟨false,rfl,h,hC.below⟩ (.inl rfl)
    ·replace h:=Zj h (not_not_intro ((X4 hb10)))
     refine aF 6 (vQ b4) rfl rfl (hM10 6 rfl) (Yd 5 31 rfl rfl hb10) (fun _=>by exact Yf 0 ZM7 rfl sc22.size rfl rfl) (Zb 18 127) (aL 7 (u0_0) rfl rfl (hM11 7 rfl) (Yd 5 31 rfl rfl hb10) (fun _ hB_=>by exact Ya (hC.grow hB_) 1 (u0_0) rfl sc22 rfl rfl) (Zb 18 255) (aL 8 (.agg #[u10]) rfl rfl (hM11 8 rfl) (Yd 5 31 rfl rfl hb10) (fun _ hB_=>by exact Xf (hC.grow hB_) 0 [u10] rfl ag55 rfl rfl rfl) (Zb 18 511) (aF 9 (vQ b4) rfl rfl (hM10 9 rfl) (Yd 5 31 rfl rfl hb10) (fun _=>by exact Yf 0 ZM7 rfl sc22.size rfl rfl) (Zb 18 1023) (aL 10 (u0_0) rfl rfl (hM11 10 rfl) (Yd 5 31 rfl rfl hb10) (fun _ hB_=>by exact Ya (hC.grow hB_) 1 (u0_0) rfl sc22 rfl rfl) (Zb 18 2047) (aF 11 (vI (i10:Int)) rfl rfl (hM10 11 rfl) (Yd 5 31 rfl rfl hb10) (fun _=>by exact Zaj (v:=vI (i10:Int)) rfl) (Zb 18 4095) ?_)))))
     obtain ⟨⟨h10,h11⟩,h⟩:=h
     obtain ⟨Ad10,c11,hv11⟩:=Zw (hC.getP 2 rfl) i10 (show i10 < a0.degrees.length by omega)
     refine aL 12 (.pointer (some (Ad10.add (i10 * 1)))) rfl rfl (hM11 12 rfl) (Yd 5 31 rfl rfl hb10) (fun _ hB_=>by exact Yq (len:=a0.degrees.length) ZM6 sc2.size (by exact tr rfl hv11) rfl h10 h11) (Zb 18 8191) (aL 13 (vI (a0.degrees.getD i10 ZEx)) rfl rfl (hM11 13 rfl) (Yd 5 31 rfl rfl hb10) (fun _ hB_=>by exact Y7 (vI (a0.degrees.getD i10 ZEx)) (Ye ((hC.grow hB_).getP 2 rfl) hv11 i10 (show i10 < a0.degrees.length by omega)) sc2 rfl) (Zb 18 16383) (aF 14 (vI (ZHd.wrap ((a0.degrees.getD i10 ZEx)+1))) rfl rfl (hM10 14 rfl) (Yd 5 31 rfl rfl hb10) (fun _=>by exact Zc4 rfl rfl) (Zb 18 32767) (Zz 15 (by decide) (by decide) (by kernel_rfl) (by kernel_rfl) rfl (Zl 5 31 rfl rfl hb10 (Zf [u0_0,.agg #[u10],vI (ZHd.wrap ((a0.degrees.getD i10 ZEx)+1))] _ Tryz.func152 rfl rfl rfl (Zwh a0.degrees (a0.images.getD i10 ZEx) (ZHd.wrap ((a0.degrees.getD i10 ZEx)+1)) h _ (hC.getP 2 rfl) (Yy (hC.getP 0 rfl))) ?_)))))
     rintro _ w15 ⟨r13,rfl,h,hB12⟩
     refine rt ?_
     replace hC:=hC.grow hB12
     refine Zl 5 31 rfl rfl hb10 (Xu rfl (Z3 (v:=.bool (!r13)) (b:=false) (tr rfl (congrArg _ hb10)) rfl (done (Z0 (Zd ?_)))))
     refine Zp rfl (fun hb13=>?_) (fun hb13=>?_)
     ·replace h:=ift h (Xa (X3 hb13))
      refine sr (Zc (v:=.bool false) rfl (dn ?_))
      refine ZMv (Z4 (Zk (Zk (Z4 (Zk ?_)))))
      exact Zi rfl (Ze rfl) ⟨false,rfl,h,hC.below⟩ (.inl rfl)
     ·replace h:=Zj h (not_not_intro ((X4 hb13)))
      refine ZMr (Zq (Zd (Zg (Zo rfl rfl (Za (v:=vI (ZHd.wrap ((i10:Int)+1))) rfl (done ?_))))))
      exact hK10 () _ _ ⟨(sl ⟨rfl,rfl,rfl,(tr rfl (congrArg _ (Z6 hi10 hN10))),trivial⟩),((hC.xM [1] rfl).sP [1,2,3] rfl)⟩ h
   ·clear hC h
    rintro s10 e_ w16 K10 ⟨hS_,hC⟩ h
    rw [ue hS_]
    refine sr (Zn rfl rfl (dn (ZMn (Z2 rfl (decide_eq_false (by omega)) ?_))))
    refine ZM1 (Zh (Zh (Zy ?_)))
    refine Zd (sr (Zu 1 ZM7 rfl sc30.size rfl rfl (Z5 hC 0 (u0_1) rfl sc30 rfl rfl (Zlg (g:=153) [vQ b4] (Zlf rfl rfl) (Zf [u0_1,.func (.func 153) #[] (ZMl [vQ b4])] _ Tryz.func97 rfl rfl rfl (Zp3 a0.images (fun y0_ K_=>Zhf y0_ a0 K_) h _ (hC.getP 0 rfl) Tryz.func153 rfl rfl (fun y0_ yu0_0_ yf0_ K_ w_ hb_ rq0_ hq_=>Zxk y0_ a0 hq_ w_ rq0_ (Xs ((hC.grow hb_).getP 1 rfl) ((hC.grow hb_).getP 0 rfl)) ((hC.grow hb_).getM 0 rfl))) ?_)))))
    rintro _ w17 ⟨r12,rfl,h,hB13⟩
    refine rt ?_
    replace hC:=hC.grow hB13
    refine Xu rfl (Zc (v:=.bool (!r12)) rfl (dn (ZMv ?_)))
    exact Zi rfl (Ze rfl) ⟨!r12,rfl,h,hC.below⟩ (.inl rfl)
   ·skip
    exact⟨(slq rfl),hC⟩
def Zjl (a0:ZMp) (a1:Alg) (K:Bool→Prop):Prop :=
 Zfb a1.degrees a0 (fun r10=>K (!r10))
theorem Zxn (a0:ZMp) (a1:Alg)  {K:Bool→Prop} (h:Zjl a0 a1 K) (w0:World) (q0:ZM9.rep a0 [u0_0] fp0 w0) (q1:TAlg.rep a1 [u1_0,u1_1] fp1 w0) (qb1:(blk b1 32 [u1_0,u1_1]).holds w0) (qbp1:(blk bp1 66 [vQ b1]).holds w0) :
  Calls ZMq 98 #[.agg #[u0_0],vQ bp1] w0 fun e w'=>∃ (r0:Bool),
   e=.returned (.bool r0)∧K r0∧Bel w0 w':=by
 unfold Zjl at h
 refine cof Tryz.func98 rfl 11 Tryz.ntmps98 ?_
 have hC:=ZM8 (X:=Nox) w0 [ZMm TForm a0 [u0_0] fp0,ZMm TAlg a1 [u1_0,u1_1] fp1,blk b1 32 [u1_0,u1_1],blk bp1 66 [vQ b1]] (alc q0 (alc q1 (alc qb1 (al1 qbp1))))
 have hp5:=(hC.getP 0 rfl)
 replace hC:=hC.derive 0 rfl (ZMm ZMo.ty.sl a0.terms [u0_0] fp0) (fun _=>(Xi hp5)) (fun _ hb_=>hb_)
 replace hC:=hC.dAlg 2 rfl
 refine sr (Yg (v:=.agg #[u0_0]) hC [u0_0] rfl rfl fun b9 w10 hB_ hC=>Zc (v:=.bool false) rfl (dn (ZMn ?_)))
 refine cwd 5 Yi [0,1,3,7,0,31,63,127] [0,3,4] [1,2] (fun hM10 hM11 w11 hB_=>?_)
 replace hC:=hC.grow hB_
 refine bL 0 (vQ b1) rfl rfl hM10 (fun _ hB_=>by exact Zdx (vQ b1) ((hC.grow hB_).getP 6 rfl) sc66 rfl rfl) (Zb 8 1) (bF 1 (vQ b1) rfl rfl hM11 (fun _=>by exact Zae rfl) (Zb 8 3) (bF 2 (vQ b1) rfl rfl hM11 (fun _=>by exact Yf 0 ZM7 rfl sc22.size rfl rfl) (Zb 8 7) (bL 3 (u1_0) rfl rfl hM10 (fun _ hB_=>by exact Zdx (u1_0) ((hC.grow hB_).getP 5 rfl) sc22 rfl rfl) (Zb 8 15) (bL 4 (.agg #[u0_0]) rfl rfl hM10 (fun _ hB_=>by exact Xf (hC.grow hB_) 0 [u0_0] rfl ag55 rfl rfl rfl) (Zb 8 31) (Zz 5 (by decide) (by decide) (by kernel_rfl) (by kernel_rfl) rfl (Zf [u1_0,.agg #[u0_0]] _ Tryz.func99 rfl rfl rfl (Zpq a1.degrees a0 h _ (hC.getP 1 rfl) (Yy (hC.getP 2 rfl))) ?_))))))
 rintro _ w12 ⟨r10,rfl,h,hB10⟩
 refine rt ?_
 replace hC:=hC.grow hB10
 refine Xu rfl (Zc (v:=.bool (!r10)) rfl (done (Z0 (Zd (ZMv ?_)))))
 exact Zi rfl (Ze rfl) ⟨!r10,rfl,h,hC.below⟩ (.inl rfl)
def Zhh (a0:Alg) (a1:List ZMp) (K:Int→Prop):Prop :=
 Zhg a0 (fun r11=>(if¬ (r11=true) then Zea true 1 (fun r12=>K r12) else Zfe a1 (fun y0_ K_=>Zjl y0_ a0 K_) (fun r10=>Zea r10 1 (fun r13=>K r13))))
theorem Zxo (a0:Alg) (a1:List ZMp)  {K:Int→Prop} (h:Zhh a0 a1 K) (w0:World) (q0:TAlg.rep a0 [u0_0,u0_1] fp0 w0) (qb0:(blk b0 32 [u0_0,u0_1]).holds w0) (q1:ZM9.sl.rep a1 [u1_0] fp1 w0) :
  Calls ZMq 44 #[vQ b0,u1_0] w0 fun e w'=>∃ (r0:Int),
   e=.returned (vI r0)∧K r0∧Bel w0 w':=by
 unfold Zhh at h
 refine cof Tryz.func44 rfl 18 Tryz.ntmps44 ?_
 have hC:=ZM8 (X:=Nox) w0 [ZMm TAlg a0 [u0_0,u0_1] fp0,ZMm ZM9.sl a1 [u1_0] fp1,blk b0 32 [u0_0,u0_1]] (alc q0 (alc q1 (al1 qb0)))
 replace hC:=hC.dAlg 0 rfl
 refine sr (Yg (v:=vQ b0) hC [vQ b0] rfl rfl fun b6 w8 hB_ hC=>Zc (v:=vI 0) rfl (dn (sr (Z5 hC 0 (vQ b0) rfl sc66 rfl rfl (Xg rfl (Zun [u0_0,u0_1] (hC.getP 4 rfl) ag32 rfl rfl rfl (Zf [.agg #[u0_0,u0_1]] _ Tryz.func96 rfl rfl rfl (Zxm a0 h _ (Xs (hC.getP 1 rfl) (hC.getP 0 rfl))) ?_)))))))
 rintro _ w10 ⟨r11,rfl,h,hB10⟩
 refine rt ?_
 replace hC:=hC.grow hB10
 refine Xu rfl (Za (v:=.bool (!r11)) rfl ?_)
 refine Y5 (!r11) (fun hb10=>?_) (fun hb10=>?_)
 ·replace h:=ift h (Xa (X3 hb10))
  refine Zm (b:=true) 5 11 rfl (tr rfl (congrArg _ hb10)) (by decide) (Zm (b:=true) 5 11 rfl (tr rfl (congrArg _ hb10)) (by decide) (Zm (b:=true) 5 11 rfl (tr rfl (congrArg _ hb10)) (by decide) (Z3 (v:=.bool true) (b:=true) (tr rfl (congrArg _ hb10)) rfl (Zc (v:=.bool true) rfl (dn (sr (Za (v:=.bool true) rfl (Zf [.bool true,vI 1] _ Tryz.func45 rfl rfl rfl (Zl3 true 1 h _) ?_))))))))
  rintro _ w11 ⟨r12,rfl,h,hB11⟩
  refine rt ?_
  replace hC:=hC.grow hB11
  refine Zc (v:=vI r12) rfl (dn (ZMv ?_))
  exact Zi rfl (Ze rfl) ⟨r12,rfl,h,hC.below⟩ (.inl rfl)
 ·replace h:=Zj h (not_not_intro ((X4 hb10)))
  refine Zl 5 11 rfl rfl hb10 (Za (v:=u1_0) rfl (Zl 5 11 rfl rfl hb10 (Zlg (g:=98) [vQ b6] (Zlf rfl rfl) (Zl 5 11 rfl rfl hb10 (Zf [u1_0,.func (.func 98) #[] (ZMl [vQ b6])] _ Tryz.func97 rfl rfl rfl (Zp3 a1 (fun y0_ K_=>Zjl y0_ a0 K_) h _ (hC.getP 3 rfl) Tryz.func98 rfl rfl (fun y0_ yu0_0_ yf0_ K_ w_ hb_ rq0_ hq_=>Zxn y0_ a0 hq_ w_ rq0_ (Xs ((hC.grow hb_).getP 1 rfl) ((hC.grow hb_).getP 0 rfl)) ((hC.grow hb_).getP 4 rfl) ((hC.grow hb_).getM 0 rfl))) ?_)))))
  rintro _ w12 ⟨r10,rfl,h,hB12⟩
  refine rt ?_
  replace hC:=hC.grow hB12
  refine Z3 (v:=.bool r10) (b:=false) (tr rfl (congrArg _ hb10)) rfl (Zc (v:=.bool r10) rfl (dn (sr (Za (v:=.bool r10) rfl (Zf [.bool r10,vI 1] _ Tryz.func45 rfl rfl rfl (Zl3 r10 1 h _) ?_)))))
  rintro _ w13 ⟨r13,rfl,h,hB13⟩
  refine rt ?_
  replace hC:=hC.grow hB13
  refine Zc (v:=vI r13) rfl (dn (ZMv ?_))
  exact Zi rfl (Ze rfl) ⟨r13,rfl,h,hC.below⟩ (.inl rfl)
def Zjm (a0:List Term) (a1:Int) (K:Int→Prop):Prop :=
 (if ZHd.wrap (a1 - (a0.length:Int)) < 0 then K (-1) else K (ZHd.wrap (a1 - (a0.length:Int))))
theorem Zxp (a0:List Term) (a1:Int)  {K:Int→Prop} (h:Zjm a0 a1 K) (w0:World) (q0:ZMo.ty.sl.rep a0 [u0_0] fp0 w0) :
  Calls ZMq 67 #[u0_0,vI a1] w0 fun e w'=>∃ (r0:Int),
   e=.returned (vI r0)∧K r0∧Bel w0 w':=by
 unfold Zjm at h
 refine cof Tryz.func67 rfl 12 Tryz.ntmps67 ?_
 have hC:=ZM8 (X:=Nox) w0 [ZMm ZMo.ty.sl a0 [u0_0] fp0] (al1 q0)
 refine sr (Zc (v:=vI 0) rfl (dn (sr (Za (v:=vI a1) rfl (Za (v:=u0_0) rfl (Zv hC 0 rfl ZPd rfl (Jx rfl rfl (Zc (v:=vI (ZHd.wrap (a1 - (a0.length:Int)))) rfl (dn (ZMn (sr (Za (v:=vI (ZHd.wrap (a1 - (a0.length:Int)))) rfl (Zn rfl rfl (dn ?_))))))))))))))
 refine Zp rfl (fun hb5=>?_) (fun hb5=>?_)
 ·replace h:=ift h (ct hb5)
  refine sr (Zc (v:=vI (-1)) rfl (dn ?_))
  refine ZMv (Zk ?_)
  exact Zi rfl (Ze rfl) ⟨(-1),rfl,h,hC.below⟩ (.inl rfl)
 ·replace h:=Zj h (cf hb5)
  refine ZMr (Zd (sr (Za (v:=vI (ZHd.wrap (a1 - (a0.length:Int)))) rfl (Zc (v:=vI (ZHd.wrap (a1 - (a0.length:Int)))) rfl (dn (ZMv ?_))))))
  exact Zi rfl (Ze rfl) ⟨ZHd.wrap (a1 - (a0.length:Int)),rfl,h,hC.below⟩ (.inl rfl)
def Zff (a0:ZMp) (a1:Int) (K:Int→Prop):Prop :=
 Zjm a0.terms a1 (fun r10=>(if r10 < 0 then K (-1) else K r10))
theorem Zxq (a0:ZMp) (a1:Int)  {K:Int→Prop} (h:Zff a0 a1 K) (w0:World) (q0:ZM9.rep a0 [u0_0] fp0 w0) :
  Calls ZMq 28 #[.agg #[u0_0],vI a1] w0 fun e w'=>∃ (r0:Int),
   e=.returned (vI r0)∧K r0∧Bel w0 w':=by
 unfold Zff at h
 refine cof Tryz.func28 rfl 12 Tryz.ntmps28 ?_
 have hC:=ZM8 (X:=Nox) w0 [ZMm TForm a0 [u0_0] fp0] (al1 q0)
 have hp2:=(hC.getP 0 rfl)
 replace hC:=hC.derive 0 rfl (ZMm ZMo.ty.sl a0.terms [u0_0] fp0) (fun _=>(Xi hp2)) (fun _ hb_=>hb_)
 refine sr (Yg (v:=.agg #[u0_0]) hC [u0_0] rfl rfl fun b4 w6 hB_ hC=>Zc (v:=vI 0) rfl (dn (sr (Zu 0 ZPm rfl sc48.size rfl rfl (Z5 hC 0 (u0_0) rfl sc48 rfl rfl (Za (v:=vI a1) rfl (Zf [u0_0,vI a1] _ Tryz.func67 rfl rfl rfl (Zxp a0.terms a1 h _ (hC.getP 0 rfl)) ?_)))))))
 rintro _ w9 ⟨r10,rfl,h,hB10⟩
 refine rt ?_
 replace hC:=hC.grow hB10
 refine Zc (v:=vI r10) rfl (dn (ZMn (sr (Za (v:=vI r10) rfl (Zn rfl rfl (dn ?_))))))
 refine Zp rfl (fun hb10=>?_) (fun hb10=>?_)
 ·replace h:=ift h (ct hb10)
  refine sr (Zc (v:=vI (-1)) rfl (dn ?_))
  refine ZMv (Zk ?_)
  exact Zi rfl (Ze rfl) ⟨(-1),rfl,h,hC.below⟩ (.inl rfl)
 ·replace h:=Zj h (cf hb10)
  refine ZMr (Zd (sr (Za (v:=vI r10) rfl (Zc (v:=vI r10) rfl (dn (ZMv ?_))))))
  exact Zi rfl (Ze rfl) ⟨r10,rfl,h,hC.below⟩ (.inl rfl)
def Zhi (a0:List ZMp) (a1:Int) (K:Int→Prop):Prop :=
 (if ZHd.wrap (a1 - (a0.length:Int)) < 0 then K (-1) else Yb (fun i10 (s10:Int) nx10=>Zff (a0.getD i10 ZEx) s10 (fun r10=>(if r10 < 0 then K (-1) else nx10 r10))) (fun (s10:Int)=>K s10) a0.length 0 (ZHd.wrap (a1 - (a0.length:Int))))
theorem Zxr (a0:List ZMp) (a1:Int)  {K:Int→Prop} (h:Zhi a0 a1 K) (w0:World) (q0:ZM9.sl.rep a0 [u0_0] fp0 w0) :
  Calls ZMq 38 #[u0_0,vI a1] w0 fun e w'=>∃ (r0:Int),
   e=.returned (vI r0)∧K r0∧Bel w0 w':=by
 unfold Zhi at h
 refine cof Tryz.func38 rfl 27 Tryz.ntmps38 ?_
 have hC:=ZM8 (X:=Nox) w0 [ZMm ZM9.sl a0 [u0_0] fp0] (al1 q0)
 refine sr (Zc (v:=vI 0) rfl (dn (sr (Za (v:=vI a1) rfl (Za (v:=u0_0) rfl (Zv hC 0 rfl ZO9 rfl (Jx rfl rfl (Zc (v:=vI (ZHd.wrap (a1 - (a0.length:Int)))) rfl (dn (ZMn (sr (Za (v:=vI (ZHd.wrap (a1 - (a0.length:Int)))) rfl (Zn rfl rfl (dn ?_))))))))))))))
 refine Zp rfl (fun hb5=>?_) (fun hb5=>?_)
 ·replace h:=ift h (ct hb5)
  refine sr (Zc (v:=vI (-1)) rfl (dn ?_))
  refine ZMv (Zk ?_)
  exact Zi rfl (Ze rfl) ⟨(-1),rfl,h,hC.below⟩ (.inl rfl)
 ·replace h:=Zj h (cf hb5)
  refine ZMr (Zd (ZMn (sr (Zc (v:=vI 0) rfl (dn (ZMt ?_))))))
  have hN10:a0.length≤9223372036854775807:=Yx (hC.getP 0 rfl)
  refine Yn (S:=Int) _ _ (fun i10 s10 e_ w_=>Zt e_ [(0,u0_0),(1,vI s10),(5,vI (i10:Int))]∧Ctx Nox w0 w_ [] [ZMm ZM9.sl a0 [u0_0] fp0]) a0.length ?_ ?_ (s0:=(ZHd.wrap (a1 - (a0.length:Int)))) ?_ h
  ·clear hC h
   rintro i10 s10 e_ w10 nx10 K10 hi10 ⟨hS_,hC⟩ h hK10
   rw [ue hS_]
   refine ZMn (sr (Za (v:=vI (i10:Int)) rfl (Za (v:=u0_0) rfl (Zv hC 0 rfl ZO9 rfl (Zn rfl rfl (dn (Yc rfl (decide_eq_true (by omega)) (ZMr (Zd (ZMn (ZMt (sr (Za (v:=u0_0) rfl (Za (v:=vI (i10:Int)) rfl ?_))))))))))))))
   obtain ⟨Ad10,c10,hv10⟩:=Zw (hC.getP 0 rfl) i10 hi10
   refine Yo (len:=a0.length) ZO9 ag50.size (tr rfl hv10) rfl (ZM3 _) (ZNl.2 hi10) ?_
   obtain ⟨cs_,hl10,hc10,hr10⟩:=Xj (hC.getP 0 rfl) hv10 i10 hi10
   obtain ⟨u10,rfl⟩:=ZNj.1 hl10
   clear hl10
   rw [Xl _ _ hi10] at hr10
   have hp10:=hr10
   replace hC:=hC.derive 0 rfl (ZMm ZMo.ty.sl ((a0.getD i10 ZEx).terms) [u10] fp0) (fun _=>(Xi hp10)) (fun _ hb_=>hb_)
   refine Zak [u10] hc10 ag50 rfl rfl (Za (v:=vI s10) rfl (Zf [.agg #[u10],vI s10] _ Tryz.func28 rfl rfl rfl (Zxq (a0.getD i10 ZEx) s10 h _ (Yy (hC.getP 0 rfl))) ?_))
   rintro _ w11 ⟨r10,rfl,h,hB10⟩
   refine rt ?_
   replace hC:=hC.grow hB10
   refine Zc (v:=vI r10) rfl (dn (sr (Za (v:=vI r10) rfl (Zn rfl rfl (dn ?_)))))
   refine Zp rfl (fun hb10=>?_) (fun hb10=>?_)
   ·replace h:=ift h (ct hb10)
    refine sr (Zc (v:=vI (-1)) rfl (dn ?_))
    refine ZMv (Z4 (Zk (Zk (Z4 (Zk ?_)))))
    exact Zi rfl (Ze rfl) ⟨(-1),rfl,h,hC.below⟩ (.inl rfl)
   ·replace h:=Zj h (cf hb10)
    refine ZMr (Zq (Zd (Zg (Za (v:=vI (i10:Int)) rfl (Zo rfl rfl (Zc (v:=vI (ZHd.wrap ((i10:Int)+1))) rfl (done ?_)))))))
    exact hK10 r10 _ _ ⟨(sl ⟨rfl,rfl,(tr rfl (congrArg _ (Z6 hi10 hN10))),trivial⟩),(hC.sP [1] rfl)⟩ h
  ·clear hC h
   rintro s10 e_ w12 K10 ⟨hS_,hC⟩ h
   rw [ue hS_]
   refine ZMn (sr (Za (v:=vI (a0.length:Int)) rfl (Za (v:=u0_0) rfl (Zv hC 0 rfl ZO9 rfl (Zn rfl rfl (dn (Z2 rfl (decide_eq_false (by omega)) ?_)))))))
   refine ZM1 (Zh (Zh (Zy ?_)))
   refine Zd (sr (Za (v:=vI s10) rfl (Zc (v:=vI s10) rfl (dn (ZMv ?_)))))
   exact Zi rfl (Ze rfl) ⟨s10,rfl,h,hC.below⟩ (.inl rfl)
  ·skip
   exact⟨(slq rfl),hC⟩
def Zjn (a0:List Int) (a1:Int) (K:Int→Prop):Prop :=
 (if ZHd.wrap (a1 - (a0.length:Int)) < 0 then K (-1) else K (ZHd.wrap (a1 - (a0.length:Int))))
theorem Zxs (a0:List Int) (a1:Int)  {K:Int→Prop} (h:Zjn a0 a1 K) (w0:World) (q0:ZO5.rep a0 [u0_0] fp0 w0) :
  Calls ZMq 37 #[u0_0,vI a1] w0 fun e w'=>∃ (r0:Int),
   e=.returned (vI r0)∧K r0∧Bel w0 w':=by
 unfold Zjn at h
 refine cof Tryz.func37 rfl 12 Tryz.ntmps37 ?_
 have hC:=ZM8 (X:=Nox) w0 [ZMm TInts a0 [u0_0] fp0] (al1 q0)
 refine sr (Zc (v:=vI 0) rfl (dn (sr (Za (v:=vI a1) rfl (Za (v:=u0_0) rfl (Zv hC 0 rfl ZM6 rfl (Jx rfl rfl (Zc (v:=vI (ZHd.wrap (a1 - (a0.length:Int)))) rfl (dn (ZMn (sr (Za (v:=vI (ZHd.wrap (a1 - (a0.length:Int)))) rfl (Zn rfl rfl (dn ?_))))))))))))))
 refine Zp rfl (fun hb5=>?_) (fun hb5=>?_)
 ·replace h:=ift h (ct hb5)
  refine sr (Zc (v:=vI (-1)) rfl (dn ?_))
  refine ZMv (Zk ?_)
  exact Zi rfl (Ze rfl) ⟨(-1),rfl,h,hC.below⟩ (.inl rfl)
 ·replace h:=Zj h (cf hb5)
  refine ZMr (Zd (sr (Za (v:=vI (ZHd.wrap (a1 - (a0.length:Int)))) rfl (Zc (v:=vI (ZHd.wrap (a1 - (a0.length:Int)))) rfl (dn (ZMv ?_))))))
  exact Zi rfl (Ze rfl) ⟨ZHd.wrap (a1 - (a0.length:Int)),rfl,h,hC.below⟩ (.inl rfl)
def Zhj (a0:Alg) (a1:Int) (K:Int→Prop):Prop :=
 Zjn a0.degrees a1 (fun r10=>(if r10 < 0 then K (-1) else Zhi a0.images r10 (fun r11=>(if r11 < 0 then K (-1) else K r11))))
theorem Zxt (a0:Alg) (a1:Int)  {K:Int→Prop} (h:Zhj a0 a1 K) (w0:World) (q0:TAlg.rep a0 [u0_0,u0_1] fp0 w0) :
  Calls ZMq 10 #[.agg #[u0_0,u0_1],vI a1] w0 fun e w'=>∃ (r0:Int),
   e=.returned (vI r0)∧K r0∧Bel w0 w':=by
 unfold Zhj at h
 refine cof Tryz.func10 rfl 18 Tryz.ntmps10 ?_
 have hC:=ZM8 (X:=Nox) w0 [ZMm TAlg a0 [u0_0,u0_1] fp0] (al1 q0)
 replace hC:=hC.dAlg 0 rfl
 refine sr (Yg (v:=.agg #[u0_0,u0_1]) hC [u0_0,u0_1] rfl rfl fun b4 w6 hB_ hC=>Zc (v:=vI 0) rfl (dn (sr (Zu 0 ZPh rfl sc22.size rfl rfl (Z5 hC 0 (u0_0) rfl sc22 rfl rfl (Za (v:=vI a1) rfl (Zf [u0_0,vI a1] _ Tryz.func37 rfl rfl rfl (Zxs a0.degrees a1 h _ (hC.getP 1 rfl)) ?_)))))))
 rintro _ w9 ⟨r10,rfl,h,hB10⟩
 refine rt ?_
 replace hC:=hC.grow hB10
 refine Zc (v:=vI r10) rfl (dn (ZMn (sr (Za (v:=vI r10) rfl (Zn rfl rfl (dn ?_))))))
 refine Zp rfl (fun hb10=>?_) (fun hb10=>?_)
 ·replace h:=ift h (ct hb10)
  refine sr (Zc (v:=vI (-1)) rfl (dn ?_))
  refine ZMv (Zk ?_)
  exact Zi rfl (Ze rfl) ⟨(-1),rfl,h,hC.below⟩ (.inl rfl)
 ·replace h:=Zj h (cf hb10)
  refine ZMr (Zd (sr (Zu 1 ZPh rfl sc23.size rfl rfl (Z5 hC 0 (u0_1) rfl sc23 rfl rfl (Za (v:=vI r10) rfl (Zf [u0_1,vI r10] _ Tryz.func38 rfl rfl rfl (Zxr a0.images r10 h _ (hC.getP 0 rfl)) ?_))))))
  rintro _ w10 ⟨r11,rfl,h,hB11⟩
  refine rt ?_
  replace hC:=hC.grow hB11
  refine Zc (v:=vI r11) rfl (dn (ZMn (sr (Za (v:=vI r11) rfl (Zn rfl rfl (dn ?_))))))
  refine Zp rfl (fun hb11=>?_) (fun hb11=>?_)
  ·replace h:=ift h (ct hb11)
   refine sr (Zc (v:=vI (-1)) rfl (dn ?_))
   refine ZMv (Zk ?_)
   exact Zi rfl (Ze rfl) ⟨(-1),rfl,h,hC.below⟩ (.inl rfl)
  ·replace h:=Zj h (cf hb11)
   refine ZMr (Zd (sr (Za (v:=vI r11) rfl (Zc (v:=vI r11) rfl (dn (ZMv ?_))))))
   exact Zi rfl (Ze rfl) ⟨r11,rfl,h,hC.below⟩ (.inl rfl)
def Zhk (a0:List ZMp) (K:List ZMp→Prop):Prop :=
 ((0≤(a0.length:Int)∧(a0.length:Int) * 24≤281474976710656)∧Yb (fun i10 (s10:(List ZMp)) nx10=>Zg7 (a0.getD i10 ZEx) (fun r10=>((0≤(i10:Int)∧(i10:Int) < (s10.length:Int))∧nx10 (s10.set i10 r10)))) (fun (s10:(List ZMp))=>K s10) a0.length 0 (ZEs ((a0.length:Int).toNat) ((⟨[]⟩:ZMp):ZMp)))
theorem Zxu (a0:List ZMp)  {K:List ZMp→Prop} (h:Zhk a0 K) (w0:World) (q0:ZM9.sl.rep a0 [u0_0] fp0 w0) :
  Calls ZMq 42 #[u0_0] w0 fun e w'=>∃ (r0:List ZMp) (z0_0:Value) (fz0:List Nat),
   e=.returned (z0_0)∧K r0∧(ZM4 (Tr.sl 55 (Yt 162)) r0 [z0_0] fz0).holds w'∧(∀ b,b∈fz0→w0.heap.size≤b)∧Bel w0 w':=by
 unfold Zhk at h
 refine cof Tryz.func42 rfl 23 Tryz.ntmps42 ?_
 have hC:=ZM8 (X:=Nox) w0 [ZMm ZM9.sl a0 [u0_0] fp0] (al1 q0)
 refine sr (Zc (v:=.slice none 0 0) rfl (dn (sr (Za (v:=u0_0) rfl (Zv hC 0 rfl ZO9 rfl ?_)))))
 obtain ⟨hm7,h⟩:=h
 refine Zb2 (sz:=1) hC (ZEs ((a0.length:Int).toNat) (.slice none 0 0)) ZNb Zxj (tr rfl (congrArg (ZPb .i64) (ZPc hm7.1).symm)) (tr rfl (congrArg (ZPb .i64) (ZPc hm7.1).symm)) (by omega) (by omega) (Zve _) fun v5 w6 hB_ hC=>?_
 replace hC:=hC.pushM0 (Yj (Yt 162) (ZEs ((a0.length:Int).toNat) ((⟨[]⟩:ZMp):ZMp)) (ZEs ((a0.length:Int).toNat) (.slice none 0 0)) (ZEs ((a0.length:Int).toNat) [])) (Zvg (Zco (Zda _ _ _)) rfl _) (Zvf _)
 replace hC:=hC.gather (c:=ZM4 (Tr.sl 55 (Yt 162)) (ZEs ((a0.length:Int).toNat) ((⟨[]⟩:ZMp):ZMp)) [v5] ((ZNm (ZFq v5))++(ZEs ((a0.length:Int).toNat) ([]:List Nat)).flatten)) (fun x_ hx_=>(ZE4.1 hx_).symm) (fun h1_ h2_ hd_=>Zah (by rw [List.length_replicate]; exact h2_) h1_ (fun b_ hb_ hb2_=>hd_ b_ hb2_ hb_))
 refine Zc (v:=v5) rfl (dn (ZMn (sr (Zc (v:=vI 0) rfl (dn (ZMt ?_))))))
 have hN10:a0.length≤9223372036854775807:=Yx (hC.getP 0 rfl)
 refine Yn (S:=(List ZMp)) _ _ (fun i10 s10 e_ w_=>∃ (v10:Value),∃ (f10:List Nat),Zt e_ [(0,u0_0),(3,v10),(4,vI (i10:Int))]∧Ctx Nox w0 w_ [ZM4 (Tr.sl 55 (Yt 162)) s10 [v10] f10] [ZMm ZM9.sl a0 [u0_0] fp0]) a0.length ?_ ?_ (s0:=(ZEs ((a0.length:Int).toNat) ((⟨[]⟩:ZMp):ZMp))) ?_ h
 ·clear hC h
  rintro i10 s10 e_ w10 nx10 K10 hi10 ⟨v10,f10,hS_,hC⟩ h hK10
  rw [ue hS_]
  refine ZMn (sr (Za (v:=vI (i10:Int)) rfl (Za (v:=u0_0) rfl (Zv hC 0 rfl ZO9 rfl (Zn rfl rfl (dn (Yc rfl (decide_eq_true (by omega)) (ZMr (Zd (ZMn (ZMt (Zg (Za (v:=v10) rfl (Za (v:=vI (i10:Int)) rfl (Za (v:=u0_0) rfl (Za (v:=vI (i10:Int)) rfl ?_))))))))))))))))
  obtain ⟨Ad10,c10,hv10⟩:=Zw (hC.getP 0 rfl) i10 hi10
  refine Yo (len:=a0.length) ZO9 ag50.size (tr rfl hv10) rfl (ZM3 _) (ZNl.2 hi10) ?_
  obtain ⟨cs_,hl10,hc10,hr10⟩:=Xj (hC.getP 0 rfl) hv10 i10 hi10
  obtain ⟨u11,rfl⟩:=ZNj.1 hl10
  clear hl10
  rw [Xl _ _ hi10] at hr10
  have hp10:=hr10
  replace hC:=hC.derive 0 rfl (ZMm ZMo.ty.sl ((a0.getD i10 ZEx).terms) [u11] fp0) (fun _=>(Xi hp10)) (fun _ hb_=>hb_)
  refine Zak [u11] hc10 ag50 rfl rfl (Zf [.agg #[u11]] _ Tryz.func30 rfl rfl rfl (Zwp (a0.getD i10 ZEx) h _ (Yy (hC.getP 0 rfl))) ?_)
  rintro _ w11 ⟨r10,u10,f11,rfl,h,hr11,hf10,hB10⟩
  refine rt ?_
  replace hC:=hC.push hB10 (ZM4 (Yt 162) r10 [u10] f11) hr11 hf10
  obtain ⟨ho10,hf11⟩:=Jk (hC.getM 0 rfl)
  subst hf11
  replace hC:=hC.recast (c:=own 162 9 u10 r10.terms.length (ZMo.encs r10.terms)) (fun _ h_=>h_) (fun _=>ho10)
  obtain ⟨⟨h10,h11⟩,h⟩:=h
  obtain ⟨g10,cap10,hv11⟩:=Zvu (hC.getM 1 rfl) (ZPl (Nat.zero_le _) (show i10 < s10.length by omega))
  refine Jz (i10 * 1) ZNb ag55.size (tr rfl hv11) rfl h10 h11 rfl ?_
  replace hC:=hC.recast (c:=ZM4 (Yt 162) r10 [u10] (ZNm (ZFq u10))) (fun _ h_=>h_) (fun h_=>Zco (Xy h_))
  replace hC:=hC.sM [1,0] (M':=[ZM4 (Tr.sl 55 (Yt 162)) s10 [v10] f10,ZM4 (Yt 162) r10 [u10] (ZNm (ZFq u10))]) (by decide) rfl
  refine Zvv (u:=.agg #[u10]) hC (show i10 < s10.length by omega) hv11 ag55.size rfl rfl rfl rfl fun f12 w12 hC=>done (Zq (Zd (Zg (Za (v:=vI (i10:Int)) rfl (Zo rfl rfl (Zc (v:=vI (ZHd.wrap ((i10:Int)+1))) rfl (done ?_)))))))
  exact hK10 (s10.set i10 r10) _ _ ⟨v10,f12,(sl ⟨rfl,rfl,(tr rfl (congrArg _ (Z6 hi10 hN10))),trivial⟩),(hC.sP [1] rfl)⟩ h
 ·clear hC h
  rintro s10 e_ w13 K10 ⟨v10,f10,hS_,hC⟩ h
  rw [ue hS_]
  refine ZMn (sr (Za (v:=vI (a0.length:Int)) rfl (Za (v:=u0_0) rfl (Zv hC 0 rfl ZO9 rfl (Zn rfl rfl (dn (Z2 rfl (decide_eq_false (by omega)) ?_)))))))
  refine ZM1 (Zh (Zh (Zy ?_)))
  refine Zd (sr (Za (v:=v10) rfl (Zc (v:=v10) rfl (dn (ZMv ?_)))))
  exact Zi rfl (Ze rfl) ⟨s10,v10,f10,rfl,h,(hC.getM 0 rfl),(Zcn hC 0 rfl),hC.below⟩ (.inl rfl)
 ·skip
  exact⟨v5,((ZNm (ZFq v5))++(ZEs ((a0.length:Int).toNat) ([]:List Nat)).flatten),(slq rfl),hC⟩
def Zee (a0:Alg) (K:Alg→Prop):Prop :=
 Zg2 a0.degrees (fun r10=>Zhk a0.images (fun r11=>K (⟨r10,r11⟩:Alg)))
theorem Zl9 (a0:Alg)  {K:Alg→Prop} (h:Zee a0 K) (w0:World) (q0:TAlg.rep a0 [u0_0,u0_1] fp0 w0) :
  Calls ZMq 12 #[.agg #[u0_0,u0_1]] w0 fun e w'=>∃ (r0:Alg) (z0_0:Value) (z0_1:Value) (fz0:List Nat),
   e=.returned (.agg #[z0_0,z0_1])∧K r0∧(ZM4 (Ze5 2 162 55) r0 [z0_0,z0_1] fz0).holds w'∧(∀ b,b∈fz0→w0.heap.size≤b)∧Bel w0 w':=by
 unfold Zee at h
 refine cof Tryz.func12 rfl 13 Tryz.ntmps12 ?_
 have hC:=ZM8 (X:=Nox) w0 [ZMm TAlg a0 [u0_0,u0_1] fp0] (al1 q0)
 replace hC:=hC.dAlg 0 rfl
 refine sr (Yg (v:=.agg #[u0_0,u0_1]) hC [u0_0,u0_1] rfl rfl fun b4 w6 hB_ hC=>Yk hC [.slice none 0 0,.slice none 0 0] z32 rfl fun b7 w9 hB_ hC=>dn (sr (Yk hC [.slice none 0 0,.slice none 0 0] z32 rfl fun b10 w10 hB_ hC=>dn (sr (Zu 0 ZPh rfl sc22.size rfl rfl (Z5 hC 2 (u0_0) rfl sc22 rfl rfl (Zf [u0_0] _ Tryz.func41 rfl rfl rfl (Zwk a0.degrees h _ (hC.getP 1 rfl)) ?_)))))))
 rintro _ w11 ⟨r10,u10,f11,rfl,h,hr10,hf10,hB10⟩
 refine rt ?_
 replace hC:=hC.push hB10 (ZM4 (Tr.sl 2 (eI.tr)) r10 [u10] f11) hr10 hf10
 obtain ⟨ho10,hf11⟩:=Xn (hC.getM 0 rfl).1
 subst hf11
 replace hC:=hC.recast (c:=own 2 1 u10 r10.length (eI.encs r10)) (fun _ h_=>h_) (fun _=>ho10)
 refine Zu 0 ZM7 rfl sc22.size rfl rfl (Zx (v:=u10) hC 1 [u10] [u10,.slice none 0 0] rfl sc22.size rfl rfl (Zb4 (hC.getM 0 rfl)) rfl (Xk (Xx (hC.getM 0 rfl)) rfl) (ZMw rfl) rfl fun w12 hC=>dn (sr (Zu 1 ZPh rfl sc23.size rfl rfl (Z5 hC 3 (u0_1) rfl sc23 rfl rfl (Zf [u0_1] _ Tryz.func42 rfl rfl rfl (Zxu a0.images h _ (hC.getP 0 rfl)) ?_)))))
 rintro _ w13 ⟨r11,u11,f10,rfl,h,hr11,hf12,hB11⟩
 refine rt ?_
 replace hC:=hC.push hB11 (ZM4 (Tr.sl 55 (Yt 162)) r11 [u11] f10) hr11 hf12
 refine Zu 1 ZM7 rfl sc30.size rfl rfl (Zx (v:=u11) hC 2 [u11] [u10,u11] rfl sc30.size rfl rfl (Zlh (Tr.trep _ (hC.getM 0 rfl).1)) rfl (Xk (Zdz (Tr.trep _ (hC.getM 0 rfl).1)) rfl) (ZMw rfl) rfl fun w14 hC=>dn (sr (Yp hC 2 [u10,u11] rfl ag32 rfl rfl rfl (Zx (v:=.agg #[u10,u11]) hC 3 [u10,u11] [u10,u11] rfl ag32.size rfl rfl rfl rfl (Xk (Xx (hC.getM 1 rfl)) (Xk (Zdz (Tr.trep _ (hC.getM 0 rfl).1)) rfl)) (ZMw rfl) rfl fun w15 hC=>dn (ZMv ?_)))))
 exact Zi rfl (Zaa hC 3 rfl ag32 rfl rfl) ⟨(⟨r10,r11⟩:Alg),u10,u11,((ZNm (ZFq u10))++f10),rfl,h,(Zvd (Xy (hC.getM 1 rfl)) (hC.getM 0 rfl) (fun x hx hx'=>hC.mm 1 0 rfl rfl (by decide) x hx hx')),(fun b hb=>(ZE4.1 hb).elim (fun hb=>(Yz hC 1 rfl) b hb) (fun hb=>(Zcn hC 0 rfl) b hb)),hC.below⟩ (.inl rfl)
def Zfg (a0:Alg) (a1:Alg) (K:Bool→Prop):Prop :=
 Zg4 a0.degrees a1.degrees (fun r10=>(if¬ (r10=true) then K false else Zje a0.images a1.images (fun r11=>(if¬ (r11=true) then K false else K true))))
theorem Zxv (a0:Alg) (a1:Alg)  {K:Bool→Prop} (h:Zfg a0 a1 K) (w0:World) (q0:TAlg.rep a0 [u0_0,u0_1] fp0 w0) (q1:TAlg.rep a1 [u1_0,u1_1] fp1 w0) :
  Calls ZMq 15 #[.agg #[u0_0,u0_1],.agg #[u1_0,u1_1]] w0 fun e w'=>∃ (r0:Bool),
   e=.returned (.bool r0)∧K r0∧Bel w0 w':=by
 unfold Zfg at h
 refine cof Tryz.func15 rfl 17 Tryz.ntmps15 ?_
 have hC:=ZM8 (X:=Nox) w0 [ZMm TAlg a0 [u0_0,u0_1] fp0,ZMm TAlg a1 [u1_0,u1_1] fp1] (alc q0 (al1 q1))
 replace hC:=hC.dAlg 0 rfl
 replace hC:=hC.dAlg 3 rfl
 refine sr (Yg (v:=.agg #[u0_0,u0_1]) hC [u0_0,u0_1] rfl rfl fun b7 w9 hB_ hC=>Yg (v:=.agg #[u1_0,u1_1]) hC [u1_0,u1_1] rfl rfl fun b10 w10 hB_ hC=>Zc (v:=.bool false) rfl (dn (ZMn (sr (Zu 0 ZM7 rfl sc22.size rfl rfl (Z5 hC 1 (u0_0) rfl sc22 rfl rfl (Zu 0 ZM7 rfl sc22.size rfl rfl (Z5 hC 0 (u1_0) rfl sc22 rfl rfl (Zf [u0_0,u1_0] _ Tryz.func25 rfl rfl rfl (Zwm a0.degrees a1.degrees h _ (hC.getP 3 rfl) (hC.getP 1 rfl)) ?_)))))))))
 rintro _ w11 ⟨r10,rfl,h,hB10⟩
 refine rt ?_
 replace hC:=hC.grow hB10
 refine Xu rfl (dn ?_)
 refine Zp rfl (fun hb10=>?_) (fun hb10=>?_)
 ·replace h:=ift h (Xa (X3 hb10))
  refine sr (Zc (v:=.bool false) rfl (dn ?_))
  refine ZMv (Zk ?_)
  exact Zi rfl (Ze rfl) ⟨false,rfl,h,hC.below⟩ (.inl rfl)
 ·replace h:=Zj h (not_not_intro ((X4 hb10)))
  refine ZMr (Zd (ZMn (sr (Zu 1 ZM7 rfl sc30.size rfl rfl (Z5 hC 1 (u0_1) rfl sc30 rfl rfl (Zu 1 ZM7 rfl sc30.size rfl rfl (Z5 hC 0 (u1_1) rfl sc30 rfl rfl (Zf [u0_1,u1_1] _ Tryz.func51 rfl rfl rfl (Zwt a0.images a1.images h _ (hC.getP 2 rfl) (hC.getP 0 rfl)) ?_))))))))
  rintro _ w12 ⟨r11,rfl,h,hB11⟩
  refine rt ?_
  replace hC:=hC.grow hB11
  refine Xu rfl (dn ?_)
  refine Zp rfl (fun hb11=>?_) (fun hb11=>?_)
  ·replace h:=ift h (Xa (X3 hb11))
   refine sr (Zc (v:=.bool false) rfl (dn ?_))
   refine ZMv (Zk ?_)
   exact Zi rfl (Ze rfl) ⟨false,rfl,h,hC.below⟩ (.inl rfl)
  ·replace h:=Zj h (not_not_intro ((X4 hb11)))
   refine ZMr (Zd (sr (Zc (v:=.bool true) rfl (dn (ZMv ?_)))))
   exact Zi rfl (Ze rfl) ⟨true,rfl,h,hC.below⟩ (.inl rfl)
def Zhl (a0:List Int) (K:Int→Prop):Prop :=
 Yb (fun i10 (s10:Unit) nx10=>(if a0.getD i10 ZEx≠0 then K (a0.getD i10 ZEx) else nx10 ())) (fun (s10:Unit)=>K 0) a0.length 0 ()
theorem Zxw (a0:List Int)  {K:Int→Prop} (h:Zhl a0 K) (w0:World) (q0:ZO5.rep a0 [u0_0] fp0 w0) :
  Calls ZMq 43 #[u0_0] w0 fun e w'=>∃ (r0:Int),
   e=.returned (vI r0)∧K r0∧Bel w0 w':=by
 unfold Zhl at h
 refine cof Tryz.func43 rfl 15 Tryz.ntmps43 ?_
 have hC:=ZM8 (X:=Nox) w0 [ZMm TInts a0 [u0_0] fp0] (al1 q0)
 refine sr (Zc (v:=vI 0) rfl (dn (ZMn (sr (Za (v:=u0_0) rfl (Zv hC 0 rfl ZM6 rfl (Za (v:=vI 0) rfl (dn (ZMt ?_)))))))))
 have hN10:a0.length≤9223372036854775807:=Yx (hC.getP 0 rfl)
 refine Yn (S:=Unit) _ _ (fun i10 s10 e_ w_=>Zt e_ [(5,u0_0),(6,vI (a0.length:Int)),(7,vI (i10:Int))]∧Ctx Nox w0 w_ [] [ZMm TInts a0 [u0_0] fp0]) a0.length ?_ ?_ (s0:=()) ?_ h
 ·clear hC h
  rintro i10 s10 e_ w10 nx10 K10 hi10 ⟨hS_,hC⟩ h hK10
  rw [ue hS_]
  refine sr (Zn rfl rfl (dn (ZMn (Yc rfl (decide_eq_true (by omega)) (ZMr (Zd (ZMn (ZMt (sr ?_)))))))))
  obtain ⟨Ad10,c10,hv10⟩:=Zw (hC.getP 0 rfl) i10 hi10
  refine Yo (len:=a0.length) ZM6 sc2.size (tr rfl hv10) rfl (ZM3 _) (ZNl.2 hi10) (Yl (vI (a0.getD i10 ZEx)) (Ye (hC.getP 0 rfl) hv10 i10 hi10) sc2 rfl (Zc (v:=vI (a0.getD i10 ZEx)) rfl (dn (sr (Za (v:=vI (a0.getD i10 ZEx)) rfl (Y2 rfl rfl (dn ?_)))))))
  refine Zp rfl (fun hb10=>?_) (fun hb10=>?_)
  ·replace h:=ift h (ct hb10)
   refine sr (Za (v:=vI (a0.getD i10 ZEx)) rfl (Zc (v:=vI (a0.getD i10 ZEx)) rfl (dn ?_)))
   refine ZMv (Z4 (Zk (Zk (Z4 (Zk ?_)))))
   exact Zi rfl (Ze rfl) ⟨a0.getD i10 ZEx,rfl,h,hC.below⟩ (.inl rfl)
  ·replace h:=Zj h (cf hb10)
   refine ZMr (Zq (Zd (Zg (Zo rfl rfl (Za (v:=vI (ZHd.wrap ((i10:Int)+1))) rfl (done ?_))))))
   exact hK10 () _ _ ⟨(sl ⟨rfl,rfl,(tr rfl (congrArg _ (Z6 hi10 hN10))),trivial⟩),hC⟩ h
 ·clear hC h
  rintro s10 e_ w11 K10 ⟨hS_,hC⟩ h
  rw [ue hS_]
  refine sr (Zn rfl rfl (dn (ZMn (Z2 rfl (decide_eq_false (by omega)) ?_))))
  refine ZM1 (Zh (Zh (Zy ?_)))
  refine Zd (sr (Zc (v:=vI 0) rfl (dn (ZMv ?_))))
  exact Zi rfl (Ze rfl) ⟨0,rfl,h,hC.below⟩ (.inl rfl)
 ·skip
  exact⟨(slq rfl),hC⟩
end Go.Proofs.YtaagfepgbofmlaaGreat
