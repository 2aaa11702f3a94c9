import Derived.Test.YtaagfepgbofmlaaGreatQ1
set_option linter.unusedSectionVars false
set_option linter.unusedSimpArgs false
set_option linter.unusedVariables false
open Decidable renaming not_not→Zxc
open Go renaming wp_seq→ZB9,wp_ret→ZCi,wp_skip→ZCd,wp_block→ZCf,wp_exit→ZCo
open Go.IntKind renaming i64→Zwt
open Go.Proofs.Tryz renaming prog→ZCc,underlying22→ZCs,underlying32→ZCt,underlying115→ZC8,func192→ZFd,underlying30→ZCx,underlying53→ZCj,underlying162→ZCp,underlying23→ZFi,underlying55→ZCg,underlying73→ZCw,underlying48→ZFm,underlying136→ZCr,underlying25→ZFq,func134→ZFt,underlying50→ZFv
open Go.Value renaming map→ZFe,ownBlock→Fe,int→ZFk
open Inhabited renaming default→Ci
open Int renaming tmod→Fa,natCast_nonneg→ZCq,ofNat_lt→ZC9,zero_add→F3,toNat_of_nonneg→ZFl,tmod_eq_emod_of_nonneg→ZFp,mul_tdiv_add_tmod→ZG0,eq_ofNat_of_zero_le→ZG3
open List renaming toArray→ZB7,replicate→Cd,mem_singleton→Fc,mem_cons→Cb,mem_map→Cp,getD→Co,map_cons→Fm,length_eq_one_iff→ZC7,nodup_cons→ZFj,pairwise_cons→Cl,mem_append→Ch,take_of_length_le→Fs,pairwise_append→Zwk
open List.Pairwise renaming nil→ZGy
open List.Perm renaming refl→ZFy
open Nat renaming le_of_ble_eq_true→ZCh,le_trans→Cj,le_refl→Cg,lt_of_le_of_lt→ZFu,zero_le→Fq
open Option renaming toList→ZDa
open Prod renaming fst→Fo
open Vc renaming Form→ZCb,ETerm→ZCa,TForm→ZCv,TInts→ZFf
open Vc.A8 renaming enc→ZB6,zero→ZCe,enc_get→ZCm,enc_set→ZC3,get_set→ZFn,ext_get→ZFo
open Vc.Ctx renaming start→ZCu
open Vc.Term renaming enc→ZCk
open Vc.Tr renaming item→ZCn
open Vc.Ty renaming item→ZB8
set_option maxRecDepth 4000
set_option maxHeartbeats 4000000
namespace Go.Proofs.YtaagfepgbofmlaaGreat
open Go Go.RowKit Vc
variable {b0 bp0 b1 bp1 b2 bp2 b3 bp3 b4 bp4 b5 bp5 b6 bp6 b7 bp7 mb0:Nat} {Ia Ic Ij Ip Iq Ir Ie Iu u1_2 u1_3 u1_4 u1_5 Ik u2_1 u2_2 u2_3 u2_4 u2_5 u3_0 u3_1 u3_2 u3_3 u3_4 u3_5 Is u4_1 u4_2 u4_3 u4_4 u4_5 u5_0 u5_1 u5_2 u5_3 u5_4 u5_5 u6_0 u6_1 u6_2 u6_3 u6_4 u6_5 u7_0 u7_1 u7_2 u7_3 u7_4 u7_5:Value} {Ib Ig It fp3 fp4 fp5 fp6 fp7 fp0_0 fp0_1 fp0_2 fp0_3 fp0_4 fp0_5 fp1_0 fp1_1 fp1_2 fp1_3 fp1_4 fp1_5 F0:List Nat}
def Qx (L:List (A8×Int)) (O:List (A8×Int)) (U:Int) (K:List (A8×Int)->Prop):Prop :=
 Ux (λ(A:A8×Int) (h:(List (A8×Int))) B=>Qv h A.1 (Fa (Zwt.wrap (A.2 * U)) 10007) (λI=>B I)) (λ(h:(List (A8×Int)))=>K h) O.length O L
theorem Zmh (a0:List (A8×Int)) (O:List (A8×Int)) (L:Int)  {K:List (A8×Int)->Prop} (h:Qx a0 O L K) (w0:World) (q0:(mapS b0 a0).holds w0) (d1:∀ c,c∈[b1]->c≠b0) (q1:(mapS b1 O).holds w0) :
  Calls ZCc 165 #[.map (some b0),.map (some b1),vI L] w0 λe w'=>∃ (m0:List (A8×Int)),
   e=.returned (.tuple #[])/\K m0/\(mapS b0 m0).holds w'/\BelB b0 w0 w':=by
 unfold Qx at h
 refine cof Tryz.func165 rfl 22 Tryz.ntmps165 ?_
 have B:=Ctx.start1 w0 b0 (it:=mapS b0 a0) rfl [mapS b1 O] q0 (by simp only [Cb,List.not_mem_nil,or_false,forall_eq_or_imp,forall_eq]; exact q1) (by simp only [Cb,List.not_mem_nil,or_false,forall_eq_or_imp,forall_eq]; exact d1)
 refine sr (Za (v:=.map (some b1)) rfl (L5 B 0 rfl ZC8 rfl λr3 ab ac au ao ad ah B=>dn (ZCf ?_)))
 refine L9 (S:=(List (A8×Int))) _ _ (λae I e_ w_=>∃ (U:Option MapEntry),Zt e_ [(0,.map (some b0)),(2,vI L),(9,vQ r3)]/\Ctx (λc_=>c_=b0) w0 w_ [itI (kvA .i64) (vvI .i64) r3 b1 ab ac U ae,mapS b0 I] [V0 b1 ab ac,mapS b1 O]) ?_ (l0:=O) (s0:=a0) ?_ h
 ·clear B h;rintro ae I e_ av ar aw ⟨U,ap,B⟩ h ai;rw [ue ap];refine sr ?_
  refine L6 B 0 0 rfl rfl ad ah rfl (λaj=>?_) (λA ag aa ax V ak al B=>?_)
  ·replace h:=h.1 aj;refine Y5 (v:=.bool false) rfl rfl (dn (ZB9 (Z4 rfl rfl ?_)))
   refine ZCo (Zi (Zi (Zy ?_)))
   exact Tw rfl  ⟨I,rfl,h,(B.Ix 1 rfl),B.belB⟩ (.inr rfl)
  ·replace h:=h.2 A ag V;refine Y5 (v:=.bool true) rfl rfl (dn (ZB9 (Z8 rfl rfl (ZCd (Ze (ZCf (sr (L7 B 0 0 A rfl rfl ad rfl ak al (Y5 (v:=.agg (ZB7 (ZB6 .i64 A.1))) rfl rfl (Y5 (v:=vI A.2) rfl rfl (Yt B (ZB6 .i64 ZCe) z73 rfl λay az ao B=>Z7 (v:=.agg (ZB7 (ZB6 .i64 A.1))) B 0 (ZB6 .i64 A.1) (ZB6 .i64 A.1) rfl ag73.size rfl rfl rfl rfl rfl (ZCh rfl) rfl λa3 B=>Zd (v:=vI A.2) rfl (dn (Zh (Za (v:=.map (some b0)) rfl (Yr B 0 (ZB6 .i64 A.1) rfl ag73 rfl rfl rfl (Za (v:=vI A.2) rfl (Za (v:=vI L) rfl (Wz rfl rfl (Jf rfl rfl (by decide) (Zf [.map (some b0),.agg (ZB7 (ZB6 .i64 A.1)),vI (Fa (Zwt.wrap (A.2 * L)) 10007)] _ Tryz.func195 rfl rfl rfl (Za8 I A.1 (Fa (Zwt.wrap (A.2 * L)) 10007) h _ (B.Ix 2 rfl)) ?_))))))))))))))))))))
   rintro _ a4 ⟨aq,rfl,h,am,an⟩;refine rt ?_
   replace B:=B.turnB 2 rfl an rfl rfl am;refine done (Zr ?_)
   exact ai A ag aq _ _ V ⟨(some aa),(slq rfl),(B.xM [1,2] rfl)⟩ h
 ·skip;exact⟨none,(slq rfl),B⟩
def Te (a0:List (A8×Int)) (a1:List Int) (a2:List (A8×Int)) (K:List (A8×Int)->Prop):Prop :=
 Ux (λ(I:A8×Int) (A:(List (A8×Int))) U=>Ux (λ(L:A8×Int) (h:(List (A8×Int))) B=>Kk I.1 a1 L.1 (λV O=>(if O≠0 then Qv h V (Fa (Zwt.wrap ((Zwt.wrap (O * I.2)) * L.2)) 10007) (λaa=>B aa) else B h))) (λ(h:(List (A8×Int)))=>U h) a2.length a2 A) (λ(A:(List (A8×Int)))=>K A) a0.length a0 ([]:List (A8×Int))
theorem Wn (a0:List (A8×Int)) (a1:List Int) (a2:List (A8×Int))  {K:List (A8×Int)->Prop} (h:Te a0 a1 a2 K) (w0:World) (q0:(mapS b0 a0).holds w0) (q1:ZFf.rep a1 [Ie] Ig w0) (q2:(mapS b2 a2).holds w0) :
  Calls ZCc 192 #[.map (some b0),Ie,.map (some b2)] w0 λe w'=>∃ (r0:List (A8×Int)) (ai:Nat),
   e=.returned (.map (some ai))/\K r0/\(mapS ai r0).holds w'/\w0.heap.size<=ai/\Bel w0 w':=by
 unfold Te at h
 refine cof ZFd rfl 48 Tryz.ntmps192 ?_
 have A:=ZCu (X:=Nox) w0 [ZB8 TInts a1 [Ie] Ig,mapS b0 a0,mapS b2 a2] (alc q1 (alc q0 (al1 q2)));refine sr (Zd (v:=.map none) rfl (dn (sr (Md A (kvA .i64) (vvI .i64) λb4 w6 U A=>Zd (v:=.map (some b4)) rfl (dn (ZB9 (sr (Za (v:=.map (some b0)) rfl (L5 A 1 rfl ZC8 rfl λr7 ac ad bk U aj aw A=>dn (ZCf ?_))))))))))
 refine L9 (S:=(List (A8×Int))) _ _ (λay ae e_ w_=>∃ (ak:Option MapEntry),Zt e_ [(1,Ie),(2,.map (some b2)),(7,.map (some b4)),(16,vQ r7)]/\Ctx Nox w0 w_ [itI (kvA .i64) (vvI .i64) r7 b0 ac ad ak ay,mapS b4 ae] [V0 b0 ac ad,ZB8 TInts a1 [Ie] Ig,mapS b0 a0,mapS b2 a2]) ?_ (l0:=a0) (s0:=([]:List (A8×Int))) ?_ h
 ·clear A h;rintro ay ae e_ bl bi bm ⟨ak,al,A⟩ h a5;rw [ue al];refine sr ?_
  refine L6 A 0 0 rfl rfl aj aw rfl (λa6=>?_) (λB am ag bn an a7 a8 A=>?_)
  ·replace h:=h.1 a6;refine Y5 (v:=.bool false) rfl rfl (dn (ZB9 (Z4 rfl rfl ?_)))
   refine ZCo (Zi (Zi (Zy ?_)))
   refine Ze (sr (Za (v:=.map (some b4)) rfl (Zd (v:=.map (some b4)) rfl (dn (ZCi ?_)))))
   exact Zj rfl (Zg rfl) ⟨ae,b4,rfl,h,(A.Ix 1 rfl),(L4 A 1 rfl),A.below⟩ (.inl rfl)
  ·replace h:=h.2 B am an;refine Y5 (v:=.bool true) rfl rfl (dn (ZB9 (Z8 rfl rfl (ZCd (Ze (ZCf (sr (L7 A 0 0 B rfl rfl aj rfl a7 a8 (Y5 (v:=.agg (ZB7 (ZB6 .i64 B.1))) rfl rfl (Y5 (v:=vI B.2) rfl rfl (Yt A (ZB6 .i64 ZCe) z73 rfl λaz bo U A=>Z7 (v:=.agg (ZB7 (ZB6 .i64 B.1))) A 0 (ZB6 .i64 B.1) (ZB6 .i64 B.1) rfl ag73.size rfl rfl rfl rfl rfl (ZCh rfl) rfl λbp A=>Zd (v:=vI B.2) rfl (dn (sr (Za (v:=.map (some b2)) rfl (L5 A 3 rfl ZC8 rfl λa3 ao ap bq U aq ax A=>dn (ZCf ?_))))))))))))))))
   refine L9 (S:=(List (A8×Int))) _ _ (λa4 V e_ w_=>∃ (ar:Option MapEntry),Zt e_ [(1,Ie),(2,.map (some b2)),(7,.map (some b4)),(8,vQ az),(9,vI B.2),(16,vQ r7),(23,vQ a3)]/\Ctx Nox w0 w_ [itI (kvA .i64) (vvI .i64) a3 b2 ao ap ar a4,blk az 73 (ZB6 .i64 B.1),itI (kvA .i64) (vvI .i64) r7 b0 ac ad (some ag) am,mapS b4 V] [V0 b2 ao ap,V0 b0 ac ad,ZB8 TInts a1 [Ie] Ig,mapS b0 a0,mapS b2 a2]) ?_ (l0:=a2) (s0:=ae) ?_ h
   ·clear A h;rintro a4 V e_ br bj bs ⟨ar,al,A⟩ h au;rw [ue al];refine sr ?_
    refine L6 A 0 0 rfl rfl aq ax rfl (λa9=>?_) (λI av ah bt aa ba bb A=>?_)
    ·replace h:=h.1 a9;refine Y5 (v:=.bool false) rfl rfl (dn (ZB9 (Z4 rfl rfl ?_)))
     refine ZCo (Zi (Zi (Zy ?_)))
     refine Zr ?_
     exact a5 B am V _ _ an ⟨(some ag),(slq rfl),((A.xM [2,3] rfl).sP [1,2,3,4] rfl)⟩ h
    ·replace h:=h.2 I av aa;refine Y5 (v:=.bool true) rfl rfl (dn (ZB9 (Z8 rfl rfl (ZCd (Ze (ZCf (sr (L7 A 0 0 I rfl rfl aq rfl ba bb (Y5 (v:=.agg (ZB7 (ZB6 .i64 I.1))) rfl rfl (Y5 (v:=vI I.2) rfl rfl (Yt A (ZB6 .i64 ZCe) z73 rfl λbu bv U A=>Z7 (v:=.agg (ZB7 (ZB6 .i64 I.1))) A 0 (ZB6 .i64 I.1) (ZB6 .i64 I.1) rfl ag73.size rfl rfl rfl rfl rfl (ZCh rfl) rfl λbw A=>Zd (v:=vI I.2) rfl (dn (sr (Yr A 2 (ZB6 .i64 B.1) rfl ag73 rfl rfl rfl (Za (v:=Ie) rfl (Yr A 0 (ZB6 .i64 I.1) rfl ag73 rfl rfl rfl (Zf [.agg (ZB7 (ZB6 .i64 B.1)),Ie,.agg (ZB7 (ZB6 .i64 I.1))] _ Tryz.func199 rfl rfl rfl (Zmf B.1 a1 I.1 h _ (A.Iw 2 rfl)) ?_)))))))))))))))))
     rintro _ bx ⟨L,O,rfl,h,bc⟩;refine rt ?_
     replace A:=A.Iy bc;refine Za (v:=.tuple #[.agg (ZB7 (ZB6 .i64 L)),vI O]) rfl (Y5 (v:=.agg (ZB7 (ZB6 .i64 L))) rfl rfl (Y5 (v:=vI O) rfl rfl (Yt A (ZB6 .i64 ZCe) z73 rfl λbz b8 U A=>Z7 (v:=.agg (ZB7 (ZB6 .i64 L))) A 0 (ZB6 .i64 L) (ZB6 .i64 L) rfl ag73.size rfl rfl rfl rfl rfl (ZCh rfl) rfl λb9 A=>Zd (v:=vI O) rfl (dn (sr (Za (v:=vI O) rfl (Xl rfl rfl (dn ?_))))))))
     refine Zs rfl (λab=>?_) (λab=>?_)
     ·replace h:=ift h (ct ab);refine Zh (Za (v:=.map (some b4)) rfl (Yr A 0 (ZB6 .i64 L) rfl ag73 rfl rfl rfl (Za (v:=vI O) rfl (Za (v:=vI B.2) rfl (Wz rfl rfl (Za (v:=vI I.2) rfl (Wz rfl rfl (Jf rfl rfl (by decide) (Zf [.map (some b4),.agg (ZB7 (ZB6 .i64 L)),vI (Fa (Zwt.wrap ((Zwt.wrap (O * B.2)) * I.2)) 10007)] _ Tryz.func195 rfl rfl rfl (Za8 V L (Fa (Zwt.wrap ((Zwt.wrap (O * B.2)) * I.2)) 10007) h _ (A.Ix 5 rfl)) ?_)))))))))
      rintro _ ca ⟨bh,rfl,h,bd,be⟩;refine rt ?_
      replace A:=A.turnB 5 rfl be rfl rfl bd;refine done (Zr ?_)
      exact au I av bh _ _ aa ⟨(some ah),(slq rfl),(A.xM [2,3,4,5] rfl)⟩ h
     ·replace h:=Zk h (cf ab);refine ZCd (Zr ?_)
      exact au I av V _ _ aa ⟨(some ah),(slq rfl),(A.xM [2,3,4,5] rfl)⟩ h
   ·skip;exact⟨none,(slq rfl),A⟩
 ·skip;exact⟨none,(slq rfl),A⟩
def Qy (h:Int) (A:Int) (B:Int) (K:Bool->Prop):Prop :=
 (if h≥A then K (decide (h<=B)) else K false)
theorem Zba (B:Int) (L:Int) (I:Int)  {K:Bool->Prop} (h:Qy B L I K) (w0:World)  :
  Calls ZCc 46 #[vI B,vI L,vI I] w0 λe w'=>∃ (O:Bool),
   e=.returned (.bool O)/\K O/\Bel w0 w':=by
 unfold Qy at h
 refine cof Tryz.func46 rfl 15 Tryz.ntmps46 ?_
 have U:=ZCu (X:=Nox) w0 [] (by simp)
 refine sr (Zd (v:=.bool false) rfl (dn (sr (Za (v:=vI B) rfl (Za (v:=vI L) rfl (Wp rfl rfl (Za (v:=.bool (decide (B≥L))) rfl ?_)))))))
 refine Xm (decide (B≥L)) (λA=>?_) (λA=>?_)
 ·replace h:=ift h (ct A);refine Zq 3 10 rfl rfl A (Za (v:=vI B) rfl (Zq 3 10 rfl rfl A (Za (v:=vI I) rfl (Zq 3 10 rfl rfl A (Ut rfl rfl (Ya (v:=.bool (decide (B<=I))) (b:=true) (tr rfl (I1 _ A)) rfl (Zd (v:=.bool (decide (B<=I))) rfl (dn (ZCi ?_)))))))))
  exact Zj rfl (Zg rfl) ⟨decide (B<=I),rfl,h,U.below⟩ (.inl rfl)
 ·replace h:=Zk h (cf A);refine Zp (b:=false) 3 10 rfl (tr rfl (I1 _ A)) (by decide) (Zp (b:=false) 3 10 rfl (tr rfl (I1 _ A)) (by decide) (Zp (b:=false) 3 10 rfl (tr rfl (I1 _ A)) (by decide) (Ya (v:=.bool false) (b:=false) (tr rfl (I1 _ A)) rfl (Zd (v:=.bool false) rfl (dn (ZCi ?_))))))
  exact Zj rfl (Zg rfl) ⟨false,rfl,h,U.below⟩ (.inl rfl)
def St (O:List Int) (L:Int->(Bool->Prop)->Prop) (K:Int->Prop):Prop :=
 Z1 (λh (B:Unit) A=>L (O.getD h Ci) (λI=>(if I=true then K (h:Int) else A ()))) (λ(B:Unit)=>K (-1)) O.length 0 ()
theorem Zfm (a0:List Int) (p1:Int->(Bool->Prop)->Prop)  {K:Int->Prop} (h:St a0 p1 K) (w0:World) (q0:ZFf.rep a0 [Ia] Ib w0) {g1:Nat} {cp1:List Value} {fn1:Func} (hf1:ZCc.funcs[g1]? = some fn1) (hb1:fn1.body.isNone=false) (hn1:(fn1.name == "runtime.NumGoroutine")=false) (hp1:∀ (y0:Int) (K_:Bool->Prop) (w_:World),Bel w0 w_->p1 y0 K_->Calls ZCc g1 (ZB7 ([vI y0]++cp1)) w_ λe w'=>∃ (z0:Bool),e=.returned (.bool z0)/\K_ z0/\Bel w_ w') :
  Calls ZCc 185 #[Ia,.func (.func g1) #[] (ZB7 cp1)] w0 λe w'=>∃ (r0:Int),
   e=.returned (vI r0)/\K r0/\Bel w0 w':=by
 unfold St at h
 refine cof Tryz.func185 rfl 19 Tryz.ntmps185 ?_
 have hC:=ZCu (X:=Nox) w0 [ZB8 TInts a0 [Ia] Ib] (al1 q0);refine sr (Zd (v:=vI 0) rfl (dn (ZB9 (sr (Za (v:=Ia) rfl (Zu hC 0 rfl ZCs rfl (Za (v:=vI 0) rfl (dn (ZCf ?_)))))))))
 have hN10:a0.length<=9223372036854775807:=Yz (hC.Iw 0 rfl);refine Yh (S:=Unit) _ _ (λi10 s10 e_ w_=>Zt e_ [(0,Ia),(1,.func (.func g1) #[] (ZB7 cp1)),(7,vI (a0.length:Int)),(8,vI (i10:Int))]/\Ctx Nox w0 w_ [] [ZB8 TInts a0 [Ia] Ib]) a0.length ?_ ?_ (s0:=()) ?_ h
 ·clear hC h;rintro i10 s10 e_ w10 nx10 K10 hi10 ⟨hS_,hC⟩ h hK10;rw [ue hS_];refine sr (Zl rfl rfl (dn (ZB9 (Z8 rfl (decide_eq_true (by omega)) (ZCd (Ze (ZB9 (ZCf (sr (Za (v:=vI (i10:Int)) rfl (Zd (v:=vI (i10:Int)) rfl (dn (sr (Za (v:=.func (.func g1) #[] (ZB7 cp1)) rfl (Za (v:=Ia) rfl (Za (v:=vI (i10:Int)) rfl ?_))))))))))))))))
  obtain ⟨Ad10,c10,hv10⟩:=Zx (hC.Iw 0 rfl) i10 hi10;refine Yn (len:=a0.length) ZCs sc2.size (tr rfl hv10) rfl (ZCq _) (ZC9.2 hi10) (Ye (vI (a0.getD i10 Ci)) (Yi (hC.Iw 0 rfl) hv10 i10 hi10) sc2 rfl ?_)
  refine Zaj [vI (a0.getD i10 Ci)] _ rfl hf1 hb1 hn1 rfl (hp1 _ _ _ hC.below  h) (λret10 w11 hR10=>?_)
  obtain ⟨r10,rfl,h,hB10⟩:=hR10;refine⟨_,rfl,?_⟩
  replace hC:=hC.Iy hB10;refine dn ?_
  refine Zs rfl (λhb10=>?_) (λhb10=>?_)
  ·replace h:=ift h (hb10);refine sr (Za (v:=vI (i10:Int)) rfl (Zd (v:=vI (i10:Int)) rfl (dn ?_)))
   refine ZCi (Z9 (Zn (Zn (Z9 (Zn ?_)))))
   exact Zj rfl (Zg rfl) ⟨(i10:Int),rfl,h,hC.below⟩ (.inl rfl)
  ·replace h:=Zk h (Xe hb10);refine ZCd (Zr (Ze (Zh (Zm rfl rfl (Za (v:=vI (Zwt.wrap ((i10:Int)+1))) rfl (done ?_))))))
   exact hK10 () _ _ ⟨(sl ⟨rfl,rfl,rfl,(tr rfl (I1 _ (Z2 hi10 hN10))),trivial⟩),hC⟩ h
 ·clear hC h;rintro s10 e_ w12 K10 ⟨hS_,hC⟩ h;rw [ue hS_];refine sr (Zl rfl rfl (dn (ZB9 (Z4 rfl (decide_eq_false (by omega)) ?_))))
  refine ZCo (Zi (Zi (Zy ?_)))
  refine Ze (sr (Zd (v:=vI (-1)) rfl (dn (ZCi ?_))))
  exact Zj rfl (Zg rfl) ⟨(-1),rfl,h,hC.below⟩ (.inl rfl)
 ·skip;exact⟨(slq rfl),hC⟩
def Mn (h:List Int) (A:Int->(Bool->Prop)->Prop) (K:Bool->Prop):Prop :=
 St h A (λB=>K (decide (B≥0)))
theorem Zfn (a0:List Int) (p1:Int->(Bool->Prop)->Prop)  {K:Bool->Prop} (h:Mn a0 p1 K) (w0:World) (q0:ZFf.rep a0 [Ia] Ib w0) {g1:Nat} {cp1:List Value} {fn1:Func} (hf1:ZCc.funcs[g1]? = some fn1) (hb1:fn1.body.isNone=false) (hn1:(fn1.name == "runtime.NumGoroutine")=false) (hp1:∀ (y0:Int) (K_:Bool->Prop) (w_:World),Bel w0 w_->p1 y0 K_->Calls ZCc g1 (ZB7 ([vI y0]++cp1)) w_ λe w'=>∃ (z0:Bool),e=.returned (.bool z0)/\K_ z0/\Bel w_ w') :
  Calls ZCc 181 #[Ia,.func (.func g1) #[] (ZB7 cp1)] w0 λe w'=>∃ (r0:Bool),
   e=.returned (.bool r0)/\K r0/\Bel w0 w':=by
 unfold Mn at h
 refine cof Tryz.func181 rfl 9 Tryz.ntmps181 ?_
 have hC:=ZCu (X:=Nox) w0 [ZB8 TInts a0 [Ia] Ib] (al1 q0);refine sr (Zd (v:=.bool false) rfl (dn (sr (Za (v:=Ia) rfl (Za (v:=.func (.func g1) #[] (ZB7 cp1)) rfl (Zf [Ia,.func (.func g1) #[] (ZB7 cp1)] _ Tryz.func185 rfl rfl rfl (Zfm a0 p1 h _ (hC.Iw 0 rfl) hf1 hb1 hn1 (λx0_ K_ w_ hb_=>hp1 x0_ K_ w_ (Zam hC.below hb_))) ?_))))))
 rintro _ w4 ⟨r5,rfl,h,hB6⟩;refine rt ?_
 replace hC:=hC.Iy hB6;refine Wp rfl rfl (Zd (v:=.bool (decide (r5≥0))) rfl (dn (ZCi ?_)))
 exact Zj rfl (Zg rfl) ⟨decide (r5≥0),rfl,h,hC.below⟩ (.inl rfl)
def Kl (h:Int) (K:Bool->Prop):Prop :=
 Qy h 1 12 (λA=>K (!A))
theorem Zmi (A:Int)  {K:Bool->Prop} (h:Kl A K) (w0:World)  :
  Calls ZCc 190 #[vI A] w0 λe w'=>∃ (I:Bool),
   e=.returned (.bool I)/\K I/\Bel w0 w':=by
 unfold Kl at h
 refine cof Tryz.func190 rfl 6 Tryz.ntmps190 ?_
 have B:=ZCu (X:=Nox) w0 [] (by simp)
 refine sr (Zd (v:=.bool false) rfl (dn (sr (Za (v:=vI A) rfl (Zf [vI A,vI 1,vI 12] _ Tryz.func46 rfl rfl rfl (Zba A 1 12 h _) ?_)))))
 rintro _ w3 ⟨L,rfl,h,hB5⟩;refine rt ?_
 replace B:=B.Iy hB5;refine Xo rfl (Zd (v:=.bool (!L)) rfl (dn (ZCi ?_)))
 exact Zj rfl (Zg rfl) ⟨!L,rfl,h,B.below⟩ (.inl rfl)
def Km (h:List Int) (K:Bool->Prop):Prop :=
 (if(h.length:Int)<=8 then Mn h Kl (λA=>K (!A)) else K false)
theorem Zmj (I:List Int)  {K:Bool->Prop} (h:Km I K) (w0:World) (q0:ZFf.rep I [Ia] Ib w0) :
  Calls ZCc 151 #[Ia] w0 λe w'=>∃ (U:Bool),
   e=.returned (.bool U)/\K U/\Bel w0 w':=by
 unfold Km at h
 refine cof Tryz.func151 rfl 11 Tryz.ntmps151 ?_
 have B:=ZCu (X:=Nox) w0 [ZB8 TInts I [Ia] Ib] (al1 q0);refine sr (Zd (v:=.bool false) rfl (dn (sr (Za (v:=Ia) rfl (Zu B 0 rfl ZCs rfl (Ut rfl rfl (Za (v:=.bool (decide ((I.length:Int)<=8))) rfl ?_)))))))
 refine Xm (decide ((I.length:Int)<=8)) (λA=>?_) (λA=>?_)
 ·replace h:=ift h (ct A);refine Zq 3 6 rfl rfl A (Za (v:=Ia) rfl (Zq 3 6 rfl rfl A (Zf [Ia,.func (.func 190) #[] (ZB7 [])] _ Tryz.func181 rfl rfl rfl (Zfn I Kl h _ (B.Iw 0 rfl) Tryz.func190 rfl rfl (λV K_ w_ _ aa=>Zmi V aa w_)) ?_)))
  rintro _ w8 ⟨L,rfl,h,O⟩;refine rt ?_
  replace B:=B.Iy O;refine Zq 3 6 rfl rfl A (Xo rfl (Ya (v:=.bool (!L)) (b:=true) (tr rfl (I1 _ A)) rfl (Zd (v:=.bool (!L)) rfl (dn (ZCi ?_)))))
  exact Zj rfl (Zg rfl) ⟨!L,rfl,h,B.below⟩ (.inl rfl)
 ·replace h:=Zk h (cf A);refine Zp (b:=false) 3 6 rfl (tr rfl (I1 _ A)) (by decide) (Zp (b:=false) 3 6 rfl (tr rfl (I1 _ A)) (by decide) (Zp (b:=false) 3 6 rfl (tr rfl (I1 _ A)) (by decide) (Ya (v:=.bool false) (b:=false) (tr rfl (I1 _ A)) rfl (Zd (v:=.bool false) rfl (dn (ZCi ?_))))))
  exact Zj rfl (Zg rfl) ⟨false,rfl,h,B.below⟩ (.inl rfl)
def Kn (I:List Int) (L:A8) (K:Bool->Prop):Prop :=
 Z1 (λh (B:Unit) A=>(if(h:Int) < (I.length:Int) then((0<=(h:Int)/\(h:Int) < (I.length:Int))/\(if Fa (I.getD h Ci) 2=1 then(if L.get h > 1 then K false else A ()) else(if L.get h > 20 then K false else A ()))) else(if L.get h > 0 then K false else A ()))) (λ(B:Unit)=>K true) 8 0 ()
theorem Zmk (a0:List Int) (a1:A8)  {K:Bool->Prop} (h:Kn a0 a1 K) (w0:World) (q0:ZFf.rep a0 [Ia] Ib w0) :
  Calls ZCc 156 #[Ia,.agg (ZB7 (ZB6 .u8 a1))] w0 λe w'=>∃ (r0:Bool),
   e=.returned (.bool r0)/\K r0/\Bel w0 w':=by
 unfold Kn at h
 refine cof Tryz.func156 rfl 27 Tryz.ntmps156 ?_
 have B:=ZCu (X:=Nox) w0 [ZB8 TInts a0 [Ia] Ib] (al1 q0);refine sr (Yg (v:=.agg (ZB7 (ZB6 .u8 a1))) B (ZB6 .u8 a1) rfl rfl λb2 w4 al B=>Zd (v:=.bool false) rfl (dn (ZB9 (sr (Yr B 0 (ZB6 .u8 a1) rfl ag136 rfl rfl rfl (Za (v:=vI 0) rfl (dn (ZCf ?_))))))))
 refine Yh (S:=Unit) _ _ (λA ae e_ w_=>Zt e_ [(0,Ia),(8,.agg (ZB7 (ZB6 .u8 a1))),(9,vI (A:Int))]/\Ctx Nox w0 w_ [] [ZB8 TInts a0 [Ia] Ib]) 8 ?_ ?_ (s0:=()) ?_ h
 ·clear B h;rintro A ae e_ am aj ag I ⟨ac,B⟩ h L;rw [ue ac];refine sr (Zl rfl rfl (dn (ZB9 (Z8 rfl (decide_eq_true (by omega)) (ZCd (Ze (ZB9 (ZCf (sr (Za (v:=vI (A:Int)) rfl (G5 (.int .u8 (a1.get A)) ZCr rfl rfl (ZCq _) (by omega) sc5 (ZCm _ _ I) (Zd (v:=vI (A:Int)) rfl (Zd (v:=.int .u8 (a1.get A)) rfl (dn (sr (Zd (v:=.int .u8 0) rfl (dn (ZB9 (sr (Za (v:=vI (A:Int)) rfl (Za (v:=Ia) rfl (Zu B 0 rfl ZCs rfl (Zl rfl rfl (dn ?_))))))))))))))))))))))))
  refine Zs rfl (λO=>?_) (λO=>?_)
  ·replace h:=ift h (ct O);refine sr (Zd (v:=.int .u8 20) rfl (dn (sr (Za (v:=Ia) rfl (Za (v:=vI (A:Int)) rfl ?_)))))
   obtain ⟨⟨ah,ai⟩,h⟩:=h;obtain ⟨ak,an,ad⟩:=Zx (B.Iw 0 rfl) A (show A < a0.length by omega)
   refine Yn (len:=a0.length) ZCs sc2.size (tr rfl ad) rfl ah ai (Ye (vI (a0.getD A Ci)) (Yi (B.Iw 0 rfl) ad A (show A < a0.length by omega)) sc2 rfl (Jf rfl rfl (by decide) (X6 rfl rfl (dn ?_))))
   refine Zs rfl (λU=>?_) (λU=>?_)
   ·replace h:=ift h (ct U);refine Zh (Zd (v:=.int .u8 1) rfl (dn (sr (Za (v:=.int .u8 (a1.get A)) rfl (Za (v:=.int .u8 1) rfl (Jn rfl rfl (dn ?_)))))))
    refine Zs rfl (λV=>?_) (λV=>?_)
    ·replace h:=ift h (ct V);refine sr (Zd (v:=.bool false) rfl (dn ?_))
     refine ZCi (Z9 (Zn (Zn (Z9 (Zn ?_)))))
     exact Zj rfl (Zg rfl) ⟨false,rfl,h,B.below⟩ (.inl rfl)
    ·replace h:=Zk h (cf V);refine ZCd (Zr (Ze (Zh (Zm rfl rfl (Za (v:=vI (Zwt.wrap ((A:Int)+1))) rfl (done ?_))))))
     exact L () _ _ ⟨(sl ⟨rfl,rfl,(tr rfl (I1 _ (Z2 I (by decide)))),trivial⟩),B⟩ h
   ·replace h:=Zk h (cf U);refine ZCd (Ze (sr (Za (v:=.int .u8 (a1.get A)) rfl (Za (v:=.int .u8 20) rfl (Jn rfl rfl (dn ?_))))))
    refine Zs rfl (λaa=>?_) (λaa=>?_)
    ·replace h:=ift h (ct aa);refine sr (Zd (v:=.bool false) rfl (dn ?_))
     refine ZCi (Z9 (Zn (Zn (Z9 (Zn ?_)))))
     exact Zj rfl (Zg rfl) ⟨false,rfl,h,B.below⟩ (.inl rfl)
    ·replace h:=Zk h (cf aa);refine ZCd (Zr (Ze (Zh (Zm rfl rfl (Za (v:=vI (Zwt.wrap ((A:Int)+1))) rfl (done ?_))))))
     exact L () _ _ ⟨(sl ⟨rfl,rfl,(tr rfl (I1 _ (Z2 I (by decide)))),trivial⟩),B⟩ h
  ·replace h:=Zk h (cf O);refine ZCd (Ze (sr (Za (v:=.int .u8 (a1.get A)) rfl (Za (v:=.int .u8 0) rfl (Jn rfl rfl (dn ?_))))))
   refine Zs rfl (λab=>?_) (λab=>?_)
   ·replace h:=ift h (ct ab);refine sr (Zd (v:=.bool false) rfl (dn ?_))
    refine ZCi (Z9 (Zn (Zn (Z9 (Zn ?_)))))
    exact Zj rfl (Zg rfl) ⟨false,rfl,h,B.below⟩ (.inl rfl)
   ·replace h:=Zk h (cf ab);refine ZCd (Zr (Ze (Zh (Zm rfl rfl (Za (v:=vI (Zwt.wrap ((A:Int)+1))) rfl (done ?_))))))
    exact L () _ _ ⟨(sl ⟨rfl,rfl,(tr rfl (I1 _ (Z2 I (by decide)))),trivial⟩),B⟩ h
 ·clear B h;rintro ae e_ ao ag ⟨ac,B⟩ h;rw [ue ac];refine sr (Zl rfl rfl (dn (ZB9 (Z4 rfl (decide_eq_false (by omega)) ?_))))
  refine ZCo (Zi (Zi (Zy ?_)))
  refine Ze (sr (Zd (v:=.bool true) rfl (dn (ZCi ?_))))
  exact Zj rfl (Zg rfl) ⟨true,rfl,h,B.below⟩ (.inl rfl)
 ·skip;exact⟨(slq rfl),(B.xM [] rfl)⟩
def Eu (h:Int) (K:Bool->Prop):Prop :=
 Qy h 1 10006 (λA=>K A)
theorem Zml (A:Int)  {K:Bool->Prop} (h:Eu A K) (w0:World)  :
  Calls ZCc 157 #[vI A] w0 λe w'=>∃ (I:Bool),
   e=.returned (.bool I)/\K I/\Bel w0 w':=by
 unfold Eu at h
 refine cof Tryz.func157 rfl 5 Tryz.ntmps157 ?_
 have B:=ZCu (X:=Nox) w0 [] (by simp)
 refine sr (Zd (v:=.bool false) rfl (dn (sr (Za (v:=vI A) rfl (Zf [vI A,vI 1,vI 10006] _ Tryz.func46 rfl rfl rfl (Zba A 1 10006 h _) ?_)))))
 rintro _ w3 ⟨L,rfl,h,hB5⟩;refine rt ?_
 replace B:=B.Iy hB5;refine Zd (v:=.bool L) rfl (dn (ZCi ?_))
 exact Zj rfl (Zg rfl) ⟨L,rfl,h,B.below⟩ (.inl rfl)
def Mo (a0:List Int) (a1:ZCb) (K:Bool->Prop):Prop :=
 (if(a1.terms.length:Int) > 400 then K false else Z1 (λh (B:Unit) A=>Kn a0 ((a1.terms.getD h Ci).mono) (λI=>(if¬ (I=true) then K false else Eu ((a1.terms.getD h Ci).factor) (λL=>(if¬ (L=true) then K false else(if(h:Int) > 0 then((0<=Zwt.wrap ((h:Int) - 1)/\Zwt.wrap ((h:Int) - 1) < (a1.terms.length:Int))/\Ss ((a1.terms.getD ((Zwt.wrap ((h:Int) - 1)).toNat) Ci).mono) (λO=>Ss ((a1.terms.getD h Ci).mono) (λU=>Et O U (λV=>(if V≥0 then K false else A ()))))) else A ())))))) (λ(B:Unit)=>K true) a1.terms.length 0 ())
theorem Zfo (a0:List Int) (a1:ZCb)  {K:Bool->Prop} (h:Mo a0 a1 K) (w0:World) (q0:ZFf.rep a0 [Ia] Ib w0) (q1:ZCv.rep a1 [Ie] Ig w0) :
  Calls ZCc 99 #[Ia,.agg #[Ie]] w0 λe w'=>∃ (r0:Bool),
   e=.returned (.bool r0)/\K r0/\Bel w0 w':=by
 unfold Mo at h
 refine cof Tryz.func99 rfl 48 Tryz.ntmps99 ?_
 have I:=ZCu (X:=Nox) w0 [ZB8 TInts a0 [Ia] Ib,ZB8 TForm a1 [Ie] Ig] (alc q0 (al1 q1));have ax:=(I.Iw 1 rfl);replace I:=I.I0 1 rfl (ZB8 ZCa.ty.sl a1.terms [Ie] Ig) (λ_=>(Xq ax)) (λ_ ay=>ay)
 refine sr (Yg (v:=.agg #[Ie]) I [Ie] rfl rfl λb5 w7 U I=>Zd (v:=.bool false) rfl (dn (ZB9 (sr (Z0 0 ZCg rfl Ii.size rfl rfl (Yc I 0 (Ie) rfl Ii rfl rfl (Zu I 0 rfl ZCj rfl (Jn rfl rfl (dn ?_)))))))))
 refine Zs rfl (λac=>?_) (λac=>?_)
 ·replace h:=ift h (ct ac);refine sr (Zd (v:=.bool false) rfl (dn ?_))
  refine ZCi (Zn ?_)
  exact Zj rfl (Zg rfl) ⟨false,rfl,h,I.below⟩ (.inl rfl)
 ·replace h:=Zk h (cf ac);refine ZCd (Ze (ZB9 (sr (Z0 0 ZCg rfl Ii.size rfl rfl (Yc I 0 (Ie) rfl Ii rfl rfl (Zu I 0 rfl ZCj rfl (Za (v:=vI 0) rfl (dn (ZCf ?_)))))))))
  have ag:a1.terms.length<=9223372036854775807:=Yz (I.Iw 0 rfl);refine Yh (S:=Unit) _ _ (λB am e_ V=>Zt e_ [(0,Ia),(3,vQ b5),(12,Ie),(13,vI (a1.terms.length:Int)),(14,vI (B:Int))]/\Ctx Nox w0 V [blk b5 55 [Ie]] [ZB8 ZCa.ty.sl a1.terms [Ie] Ig,ZB8 TInts a0 [Ia] Ib,ZB8 TForm a1 [Ie] Ig]) a1.terms.length ?_ ?_ (s0:=()) ?_ h
  ·clear I h;rintro B am e_ a9 a7 az aa ⟨ah,I⟩ h ai;rw [ue ah];refine sr (Zl rfl rfl (dn (ZB9 (Z8 rfl (decide_eq_true (by omega)) (ZCd (Ze (ZB9 (ZCf (sr (Za (v:=vI (B:Int)) rfl ?_))))))))))
   obtain ⟨a8,ba,aj⟩:=Zx (I.Iw 0 rfl) B aa;refine Yn (len:=a1.terms.length) ZCj ag162.size (tr rfl aj) rfl (ZCq _) (ZC9.2 aa) (Ji (ZCk (a1.terms.getD B Ci)) (Yi (I.Iw 0 rfl) aj B aa) ag162 rfl rfl (Yt I (ZCk (⟨ZCe,0⟩:Term)) Mk rfl λa2 bb U I=>Zd (v:=vI (B:Int)) rfl (Z7 (v:=.agg (ZB7 (ZCk (a1.terms.getD B Ci)))) I 0 (ZCk (a1.terms.getD B Ci)) (ZCk (a1.terms.getD B Ci)) rfl ag162.size rfl rfl rfl rfl rfl (ZCh rfl) rfl λbc I=>dn (ZB9 (sr (Za (v:=Ia) rfl (Z0 0 ZCp rfl ag136.size rfl rfl (Yr I 0 (ZB6 .u8 ((a1.terms.getD B Ci).mono)) rfl ag136 rfl rfl rfl (Zf [Ia,.agg (ZB7 (ZB6 .u8 ((a1.terms.getD B Ci).mono)))] _ Tryz.func156 rfl rfl rfl (Zmk a0 ((a1.terms.getD B Ci).mono) h _ (I.Iw 1 rfl)) ?_)))))))))
   rintro _ bd ⟨an,rfl,h,aq⟩;refine rt ?_
   replace I:=I.Iy aq;refine Xo rfl (Za (v:=.bool (!an)) rfl ?_)
   refine Xm (!an) (λO=>?_) (λO=>?_)
   ·replace h:=ift h (Xe (X1 O));refine Zp (b:=true) 5 24 rfl (tr rfl (I1 _ O)) (by decide) (Zp (b:=true) 5 24 rfl (tr rfl (I1 _ O)) (by decide) (Zp (b:=true) 5 24 rfl (tr rfl (I1 _ O)) (by decide) (Zp (b:=true) 5 24 rfl (tr rfl (I1 _ O)) (by decide) (Ya (v:=.bool true) (b:=true) (tr rfl (I1 _ O)) rfl (dn (Z8 rfl rfl (sr (Zd (v:=.bool false) rfl (dn ?_)))))))))
    refine ZCi (Zn (Z9 (Zn (Zn (Z9 (Zn ?_))))))
    exact Zj rfl (Zg rfl) ⟨false,rfl,h,I.below⟩ (.inl rfl)
   ·replace h:=Zk h (not_not_intro ((X2 O)));refine Zq 5 24 rfl rfl O (Z0 8 ZCp rfl sc2.size rfl rfl (Zq 5 24 rfl rfl O (Yc I 0 (vI ((a1.terms.getD B Ci).factor)) rfl sc2 rfl rfl (Zq 5 24 rfl rfl O (Zf [vI ((a1.terms.getD B Ci).factor)] _ Tryz.func157 rfl rfl rfl (Zml ((a1.terms.getD B Ci).factor) h _) ?_)))))
    rintro _ be ⟨a3,rfl,h,ar⟩;refine rt ?_
    replace I:=I.Iy ar;refine Zq 5 24 rfl rfl O (Xo rfl (Ya (v:=.bool (!a3)) (b:=false) (tr rfl (I1 _ O)) rfl (dn ?_)))
    refine Zs rfl (λad=>?_) (λad=>?_)
    ·replace h:=ift h (Xe (X1 ad));refine sr (Zd (v:=.bool false) rfl (dn ?_))
     refine ZCi (Zn (Z9 (Zn (Zn (Z9 (Zn ?_))))))
     exact Zj rfl (Zg rfl) ⟨false,rfl,h,I.below⟩ (.inl rfl)
    ·replace h:=Zk h (not_not_intro ((X2 ad)));refine ZCd (Ze (ZB9 ?_))
     refine cwd 13 Ym [0,1,3,7,15,7,39,127,255,511,1023,7,2055,8191,16383,32767,65535] [4,7,9,12] [0,1,2,3,4,5,6,7,8,9,10,11,12] (λab L bh U=>?_)
     replace I:=I.Iy U;refine bM 0 (vI (B:Int)) rfl L (Zc 17 1) (bF 1 (.bool (decide ((B:Int) > 0))) rfl rfl L (λ_=>by exact Zel rfl rfl) (Zc 17 3) (bM 2 (.bool (decide ((B:Int) > 0))) rfl L (Zc 17 7) ?_))
     refine Xm (decide ((B:Int) > 0)) (λA=>?_) (λA=>?_)
     ·replace h:=ift h (ct A);refine aF 3 (vQ b5) rfl rfl (L 3 rfl) (Yo 2 32 rfl rfl A) (λ_=>by exact Yq 0 ZCg rfl Ii.size rfl rfl) (Zc 17 15) (aL 4 (Ie) rfl rfl (ab 4 rfl) (Yo 2 32 rfl rfl A) (λ_ U=>by exact Yj (I.Iy U) 1 (Ie) rfl Ii rfl rfl) (Zc 17 31) (aF 5 (vI (B:Int)) rfl rfl (L 5 rfl) (Yo 2 32 rfl rfl A) (λ_=>by exact Vb (v:=vI (B:Int)) rfl) (Zc 17 63) (aF 6 (vI (Zwt.wrap ((B:Int) - 1))) rfl rfl (L 6 rfl) (Yo 2 32 rfl rfl A) (λ_=>by exact Tu rfl rfl) (Zc 17 127) ?_)))
      obtain ⟨⟨a4,a5⟩,h⟩:=h;obtain ⟨ak,bi,al⟩:=Zx (I.Iw 0 rfl) ((Zwt.wrap ((B:Int) - 1)).toNat) (show (Zwt.wrap ((B:Int) - 1)).toNat < a1.terms.length by omega)
      refine aL 7 (.pointer (some (ak.add ((Zwt.wrap ((B:Int) - 1)).toNat * 9)))) rfl rfl (ab 7 rfl) (Yo 2 32 rfl rfl A) (λ_ U=>by exact Y3 (len:=a1.terms.length) ZCj ag162.size (by exact tr rfl al) rfl a4 a5) (Zc 17 255) (aF 8 (.pointer (some (ak.add ((Zwt.wrap ((B:Int) - 1)).toNat * 9+0)))) rfl rfl (L 8 rfl) (Yo 2 32 rfl rfl A) (λ_=>by exact Vo ((Zwt.wrap ((B:Int) - 1)).toNat * 9+0) ZCp rfl ag136.size rfl rfl) (Zc 17 511) (aL 9 (.agg (ZB7 (ZB6 .u8 ((a1.terms.getD ((Zwt.wrap ((B:Int) - 1)).toNat) Ci).mono)))) rfl rfl (ab 9 rfl) (Yo 2 32 rfl rfl A) (λ_ U=>by exact Jq (ZB6 .u8 ((a1.terms.getD ((Zwt.wrap ((B:Int) - 1)).toNat) Ci).mono)) (Wg (o:=0) (k:=8) (Yi ((I.Iy U).Iw 0 rfl) al ((Zwt.wrap ((B:Int) - 1)).toNat) (show (Zwt.wrap ((B:Int) - 1)).toNat < a1.terms.length by omega)) rfl) ag136 rfl rfl) (Zc 17 1023) (aF 11 (vQ a2) rfl rfl (L 11 rfl) (Yo 2 32 rfl rfl A) (λ_=>by exact Yq 0 ZCp rfl ag136.size rfl rfl) (Zc 17 3071) (aL 12 (.agg (ZB7 (ZB6 .u8 ((a1.terms.getD B Ci).mono)))) rfl rfl (ab 12 rfl) (Yo 2 32 rfl rfl A) (λ_ U=>by exact Y6 (I.Iy U) 0 (ZB6 .u8 ((a1.terms.getD B Ci).mono)) rfl ag136 rfl rfl rfl) (Zc 17 7167) (aO 10 rfl (Zq 2 32 rfl rfl A (Zf [.agg (ZB7 (ZB6 .u8 ((a1.terms.getD ((Zwt.wrap ((B:Int) - 1)).toNat) Ci).mono)))] _ ZFt rfl rfl rfl (Es ((a1.terms.getD ((Zwt.wrap ((B:Int) - 1)).toNat) Ci).mono) h _) ?_)))))))
      rintro _ bj ⟨ao,rfl,h,au⟩;refine rt ?_
      replace I:=I.Iy au;refine done (aK (by assumption) (Zc 17 8191) (Z5 13 (by decide) (by decide) (by kernel_rfl) (by kernel_rfl) rfl (Zq 2 32 rfl rfl A (Zf [.agg (ZB7 (ZB6 .u8 ((a1.terms.getD B Ci).mono)))] _ ZFt rfl rfl rfl (Es ((a1.terms.getD B Ci).mono) h _) ?_))))
      rintro _ bk ⟨ap,rfl,h,av⟩;refine rt ?_
      replace I:=I.Iy av;refine Zq 2 32 rfl rfl A (Zf [.agg (ZB7 (ZB6 .i64 ao)),.agg (ZB7 (ZB6 .i64 ap))] _ Tryz.func158 rfl rfl rfl (Zmg ao ap h _) ?_)
      rintro _ bl ⟨a6,rfl,h,aw⟩;refine rt ?_
      replace I:=I.Iy aw;refine Zq 2 32 rfl rfl A (Wp rfl rfl (Ya (v:=.bool (decide (a6≥0))) (b:=true) (tr rfl (I1 _ A)) rfl (done (Z6 (Ze ?_)))))
      refine Zs rfl (λae=>?_) (λae=>?_)
      ·replace h:=ift h (ct ae);refine sr (Zd (v:=.bool false) rfl (dn ?_))
       refine ZCi (Z9 (Zn (Zn (Z9 (Zn ?_)))))
       exact Zj rfl (Zg rfl) ⟨false,rfl,h,I.below⟩ (.inl rfl)
      ·replace h:=Zk h (cf ae);refine ZCd (Zr (Ze (Zh (Zm rfl rfl (Za (v:=vI (Zwt.wrap ((B:Int)+1))) rfl (done ?_))))))
       exact ai () _ _ ⟨(sl ⟨rfl,rfl,rfl,rfl,(tr rfl (I1 _ (Z2 aa ag))),trivial⟩),(I.xM [1] rfl)⟩ h
     ·replace h:=Zk h (cf A);refine Zv Z3 3 undef rfl rfl (by kernel_rfl) (L 3 rfl) (λV=>.inr ⟨Yk (b:=false) 2 32 rfl (tr rfl (I1 _ A)) (by decide),rfl⟩) (l9:=(Zc 17 15)) (by kernel_rfl) (Zv Z3 4 undef rfl rfl (by kernel_rfl) (L 4 rfl) (λV=>.inr ⟨Yk (b:=false) 2 32 rfl (tr rfl (I1 _ A)) (by decide),rfl⟩) (l9:=(Zc 17 31)) (by kernel_rfl) (Zv Z3 5 undef rfl rfl (by kernel_rfl) (L 5 rfl) (λV=>.inr ⟨Yk (b:=false) 2 32 rfl (tr rfl (I1 _ A)) (by decide),rfl⟩) (l9:=(Zc 17 63)) (by kernel_rfl) (Zv Z3 6 undef rfl rfl (by kernel_rfl) (L 6 rfl) (λV=>.inr ⟨Yk (b:=false) 2 32 rfl (tr rfl (I1 _ A)) (by decide),rfl⟩) (l9:=(Zc 17 127)) (by kernel_rfl) (Zv Z3 7 undef rfl rfl (by kernel_rfl) (L 7 rfl) (λV=>.inr ⟨Yk (b:=false) 2 32 rfl (tr rfl (I1 _ A)) (by decide),rfl⟩) (l9:=(Zc 17 255)) (by kernel_rfl) (Zv Z3 8 undef rfl rfl (by kernel_rfl) (L 8 rfl) (λV=>.inr ⟨Yk (b:=false) 2 32 rfl (tr rfl (I1 _ A)) (by decide),rfl⟩) (l9:=(Zc 17 511)) (by kernel_rfl) (Zv Z3 9 undef rfl rfl (by kernel_rfl) (L 9 rfl) (λV=>.inr ⟨Yk (b:=false) 2 32 rfl (tr rfl (I1 _ A)) (by decide),rfl⟩) (l9:=(Zc 17 1023)) (by kernel_rfl) (Zv Z3 10 undef rfl rfl (by kernel_rfl) (L 10 rfl) (λV=>.inr ⟨Yk (b:=false) 2 32 rfl (tr rfl (I1 _ A)) (by decide),rfl⟩) (l9:=(Zc 17 2047)) (by kernel_rfl) (Zv Z3 11 undef rfl rfl (by kernel_rfl) (L 11 rfl) (λV=>.inr ⟨Yk (b:=false) 2 32 rfl (tr rfl (I1 _ A)) (by decide),rfl⟩) (l9:=(Zc 17 4095)) (by kernel_rfl) (Zv Z3 12 undef rfl rfl (by kernel_rfl) (L 12 rfl) (λV=>.inr ⟨Yk (b:=false) 2 32 rfl (tr rfl (I1 _ A)) (by decide),rfl⟩) (l9:=(Zc 17 8191)) (by kernel_rfl) (Z5 13 (by decide) (by decide) (by kernel_rfl) (by kernel_rfl) rfl (Zp (b:=false) 2 32 rfl (tr rfl (I1 _ A)) (by decide) (Zp (b:=false) 2 32 rfl (tr rfl (I1 _ A)) (by decide) (Zp (b:=false) 2 32 rfl (tr rfl (I1 _ A)) (by decide) (Ya (v:=.bool false) (b:=false) (tr rfl (I1 _ A)) rfl (done (Z6 (Ze (Z4 rfl rfl (ZCd (Zr (Ze (Zh (Zm rfl rfl (Za (v:=vI (Zwt.wrap ((B:Int)+1))) rfl (done ?_)))))))))))))))))))))))))
      exact ai () _ _ ⟨(sl ⟨rfl,rfl,rfl,rfl,(tr rfl (I1 _ (Z2 aa ag))),trivial⟩),(I.xM [1] rfl)⟩ h
  ·clear I h;rintro am e_ bm az ⟨ah,I⟩ h;rw [ue ah];refine sr (Zl rfl rfl (dn (ZB9 (Z4 rfl (decide_eq_false (by omega)) ?_))))
   refine ZCo (Zi (Zi (Zy ?_)))
   refine Ze (sr (Zd (v:=.bool true) rfl (dn (ZCi ?_))))
   exact Zj rfl (Zg rfl) ⟨true,rfl,h,I.below⟩ (.inl rfl)
  ·skip;exact⟨(slq rfl),I⟩
def Ko (I:A8) (L:List Int) (K:Int->Prop):Prop :=
 Z1 (λh (A:Int) B=>((0<=(h:Int)/\(h:Int) < 8)/\B (Zwt.wrap (A+(Zwt.wrap ((L.getD h Ci) * (I.get h))))))) (λ(A:Int)=>K A) L.length 0 0
theorem Zmm (O:A8) (a1:List Int)  {K:Int->Prop} (h:Ko O a1 K) (w0:World) (q1:ZFf.rep a1 [Ie] Ig w0) :
  Calls ZCc 183 #[.agg (ZB7 (ZB6 .i64 O)),Ie] w0 λe w'=>∃ (r0:Int),
   e=.returned (vI r0)/\K r0/\Bel w0 w':=by
 unfold Ko at h
 refine cof Tryz.func183 rfl 24 Tryz.ntmps183 ?_
 have B:=ZCu (X:=Nox) w0 [ZB8 TInts a1 [Ie] Ig] (al1 q1);refine sr (Yg (v:=.agg (ZB7 (ZB6 .i64 O))) B (ZB6 .i64 O) rfl rfl λb2 w4 ai B=>Zd (v:=vI 0) rfl (dn (sr (Zd (v:=vI 0) rfl (dn (ZB9 (sr (Za (v:=Ie) rfl (Zu B 0 rfl ZCs rfl (Za (v:=vI 0) rfl (dn (ZCf ?_))))))))))))
 have aa:a1.length<=9223372036854775807:=Yz (B.Iw 0 rfl);refine Yh (S:=Int) _ _ (λA I e_ w_=>Zt e_ [(2,vQ b2),(5,vI I),(8,Ie),(9,vI (a1.length:Int)),(10,vI (A:Int))]/\Ctx Nox w0 w_ [blk b2 73 (ZB6 .i64 O)] [ZB8 TInts a1 [Ie] Ig]) a1.length ?_ ?_ (s0:=0) ?_ h
 ·clear B h;rintro A I e_ aj ag ac L ⟨U,B⟩ h ab;rw [ue U];refine sr (Zl rfl rfl (dn (ZB9 (Z8 rfl (decide_eq_true (by omega)) (ZCd (Ze (ZB9 (ZCf (sr (Za (v:=vI (A:Int)) rfl ?_))))))))))
  obtain ⟨ah,ak,V⟩:=Zx (B.Iw 0 rfl) A L;refine Yn (len:=a1.length) ZCs sc2.size (tr rfl V) rfl (ZCq _) (ZC9.2 L) (Ye (vI (a1.getD A Ci)) (Yi (B.Iw 0 rfl) V A L) sc2 rfl (Zd (v:=vI (A:Int)) rfl (Zd (v:=vI (a1.getD A Ci)) rfl (dn (Zh (Za (v:=vI I) rfl (Za (v:=vI (a1.getD A Ci)) rfl (Za (v:=vI (A:Int)) rfl ?_))))))))
  obtain ⟨⟨ad,ae⟩,h⟩:=h;refine X0 A ZCw sc3.size rfl rfl ad ae (by omega) (Yc B 0 (vI (O.get A)) rfl sc3 rfl (ZCm _ _ (show A < 8 by omega)) (Wz rfl rfl (Zm rfl rfl (Zd (v:=vI (Zwt.wrap (I+(Zwt.wrap ((a1.getD A Ci) * (O.get A)))))) rfl (done (Zr (Ze (Zh (Zm rfl rfl (Za (v:=vI (Zwt.wrap ((A:Int)+1))) rfl (done ?_)))))))))))
  exact ab (Zwt.wrap (I+(Zwt.wrap ((a1.getD A Ci) * (O.get A))))) _ _ ⟨(sl ⟨rfl,rfl,rfl,rfl,(tr rfl (I1 _ (Z2 L aa))),trivial⟩),B⟩ h
 ·clear B h;rintro I e_ al ac ⟨U,B⟩ h;rw [ue U];refine sr (Zl rfl rfl (dn (ZB9 (Z4 rfl (decide_eq_false (by omega)) ?_))))
  refine ZCo (Zi (Zi (Zy ?_)))
  refine Ze (sr (Za (v:=vI I) rfl (Zd (v:=vI I) rfl (dn (ZCi ?_)))))
  exact Zj rfl (Zg rfl) ⟨I,rfl,h,B.below⟩ (.inl rfl)
 ·skip;exact⟨(slq rfl),B⟩
def Kp (O:List Int) (U:ZCb) (K:Int->Bool->Prop):Prop :=
 Z1 (λI (h:Int) A=>Ss ((U.terms.getD I Ci).mono) (λL=>Ko L O (λB=>(if h≥0 then(if B≠h then K 0 false else A B) else A B)))) (λ(h:Int)=>K h true) U.terms.length 0 (-1)
theorem Zmn (a0:List Int) (a1:ZCb)  {K:Int->Bool->Prop} (h:Kp a0 a1 K) (w0:World) (q0:ZFf.rep a0 [Ia] Ib w0) (q1:ZCv.rep a1 [Ie] Ig w0) :
  Calls ZCc 132 #[Ia,.agg #[Ie]] w0 λe w'=>∃ (r0:Int) (r1:Bool),
   e=.returned (.tuple #[vI r0,.bool r1])/\K r0 r1/\Bel w0 w':=by
 unfold Kp at h
 refine cof Tryz.func132 rfl 32 Tryz.ntmps132 ?_
 have A:=ZCu (X:=Nox) w0 [ZB8 TInts a0 [Ia] Ib,ZB8 TForm a1 [Ie] Ig] (alc q0 (al1 q1));have ai:=(A.Iw 1 rfl);replace A:=A.I0 1 rfl (ZB8 ZCa.ty.sl a1.terms [Ie] Ig) (λ_=>(Xq ai)) (λ_ aj=>aj)
 refine sr (Yg (v:=.agg #[Ie]) A [Ie] rfl rfl λb5 w7 ak A=>Zd (v:=vI 0) rfl (Zd (v:=.bool false) rfl (dn (sr (Zd (v:=vI (-1)) rfl (dn (ZB9 (sr (Z0 0 ZCg rfl Ii.size rfl rfl (Yc A 0 (Ie) rfl Ii rfl rfl (Zu A 0 rfl ZCj rfl (Za (v:=vI 0) rfl (dn (ZCf ?_))))))))))))))
 have aa:a1.terms.length<=9223372036854775807:=Yz (A.Iw 0 rfl);refine Yh (S:=Int) _ _ (λI L e_ w_=>Zt e_ [(0,Ia),(6,vI L),(11,Ie),(12,vI (a1.terms.length:Int)),(13,vI (I:Int))]/\Ctx Nox w0 w_ [] [ZB8 ZCa.ty.sl a1.terms [Ie] Ig,ZB8 TInts a0 [Ia] Ib,ZB8 TForm a1 [Ie] Ig]) a1.terms.length ?_ ?_ (s0:=(-1)) ?_ h
 ·clear A h;rintro I L e_ ao am al U ⟨ab,A⟩ h ac;rw [ue ab];refine sr (Zl rfl rfl (dn (ZB9 (Z8 rfl (decide_eq_true (by omega)) (ZCd (Ze (ZB9 (ZCf (sr ?_)))))))))
  obtain ⟨an,ap,ad⟩:=Zx (A.Iw 0 rfl) I U;refine Yn (len:=a1.terms.length) ZCj ag162.size (tr rfl ad) rfl (ZCq _) (ZC9.2 U) (Ji (ZCk (a1.terms.getD I Ci)) (Yi (A.Iw 0 rfl) ad I U) ag162 rfl rfl (Yt A (ZCk (⟨ZCe,0⟩:Term)) Mk rfl λaq ar ak A=>Z7 (v:=.agg (ZB7 (ZCk (a1.terms.getD I Ci)))) A 0 (ZCk (a1.terms.getD I Ci)) (ZCk (a1.terms.getD I Ci)) rfl ag162.size rfl rfl rfl rfl rfl (ZCh rfl) rfl λau A=>dn (sr (Z0 0 ZCp rfl ag136.size rfl rfl (Yr A 0 (ZB6 .u8 ((a1.terms.getD I Ci).mono)) rfl ag136 rfl rfl rfl (Zf [.agg (ZB7 (ZB6 .u8 ((a1.terms.getD I Ci).mono)))] _ ZFt rfl rfl rfl (Es ((a1.terms.getD I Ci).mono) h _) ?_))))))
  rintro _ av ⟨ae,rfl,h,ag⟩;refine rt ?_
  replace A:=A.Iy ag;refine Za (v:=Ia) rfl (Zf [.agg (ZB7 (ZB6 .i64 ae)),Ia] _ Tryz.func183 rfl rfl rfl (Zmm ae a0 h _ (A.Iw 1 rfl)) ?_)
  rintro _ aw ⟨O,rfl,h,ah⟩;refine rt ?_
  replace A:=A.Iy ah;refine Zd (v:=vI O) rfl (dn (ZB9 (sr (Za (v:=vI L) rfl (Wp rfl rfl (Za (v:=.bool (decide (L≥0))) rfl ?_))))))
  refine Xm (decide (L≥0)) (λB=>?_) (λB=>?_)
  ·replace h:=ift h (ct B);refine Zq 2 24 rfl rfl B (Za (v:=vI O) rfl (Zq 2 24 rfl rfl B (Za (v:=vI L) rfl (Zq 2 24 rfl rfl B (Xl rfl rfl (Ya (v:=.bool (decide (O≠L))) (b:=true) (tr rfl (I1 _ B)) rfl (dn ?_)))))))
   refine Zs rfl (λV=>?_) (λV=>?_)
   ·replace h:=ift h (ct V);refine sr (Zd (v:=vI 0) rfl (Zd (v:=.bool false) rfl (dn ?_)))
    refine ZCi (Zn (Z9 (Zn (Zn (Z9 (Zn ?_))))))
    exact Jw rfl (Zg rfl) (Zg rfl) ⟨0,false,rfl,h,A.below⟩ (.inl rfl)
   ·replace h:=Zk h (cf V);refine ZCd (Ze (Zh (Za (v:=vI O) rfl (Zd (v:=vI O) rfl (done (Zr (Ze (Zh (Zm rfl rfl (Za (v:=vI (Zwt.wrap ((I:Int)+1))) rfl (done ?_)))))))))))
    exact ac O _ _ ⟨(sl ⟨rfl,rfl,rfl,rfl,(tr rfl (I1 _ (Z2 U aa))),trivial⟩),(A.xM [] rfl)⟩ h
  ·replace h:=Zk h (cf B);refine Zp (b:=false) 2 24 rfl (tr rfl (I1 _ B)) (by decide) (Zp (b:=false) 2 24 rfl (tr rfl (I1 _ B)) (by decide) (Zp (b:=false) 2 24 rfl (tr rfl (I1 _ B)) (by decide) (Ya (v:=.bool false) (b:=false) (tr rfl (I1 _ B)) rfl (dn (Z4 rfl rfl (ZCd (Ze (Zh (Za (v:=vI O) rfl (Zd (v:=vI O) rfl (done (Zr (Ze (Zh (Zm rfl rfl (Za (v:=vI (Zwt.wrap ((I:Int)+1))) rfl (done ?_)))))))))))))))))
   exact ac O _ _ ⟨(sl ⟨rfl,rfl,rfl,rfl,(tr rfl (I1 _ (Z2 U aa))),trivial⟩),(A.xM [] rfl)⟩ h
 ·clear A h;rintro L e_ ax al ⟨ab,A⟩ h;rw [ue ab];refine sr (Zl rfl rfl (dn (ZB9 (Z4 rfl (decide_eq_false (by omega)) ?_))))
  refine ZCo (Zi (Zi (Zy ?_)))
  refine Ze (sr (Za (v:=vI L) rfl (Zd (v:=vI L) rfl (Zd (v:=.bool true) rfl (dn (ZCi ?_))))))
  exact Jw rfl (Zg rfl) (Zg rfl) ⟨L,true,rfl,h,A.below⟩ (.inl rfl)
 ·skip;exact⟨(slq rfl),(A.xM [] rfl)⟩
def Kq (B:List Int) (I:ZCb) (L:Int) (K:Bool->Prop):Prop :=
 Kp B I (λh A=>(if A=true then(if h=(-1) then K true else K (decide (h=L))) else K false))
theorem Zmo (V:List Int) (a1:ZCb) (U:Int)  {K:Bool->Prop} (h:Kq V a1 U K) (w0:World) (q0:ZFf.rep V [Ia] Ib w0) (q1:ZCv.rep a1 [Ie] Ig w0) :
  Calls ZCc 152 #[Ia,.agg #[Ie],vI U] w0 λe w'=>∃ (r0:Bool),
   e=.returned (.bool r0)/\K r0/\Bel w0 w':=by
 unfold Kq at h
 refine cof Tryz.func152 rfl 25 Tryz.ntmps152 ?_
 have L:=ZCu (X:=Nox) w0 [ZB8 TInts V [Ia] Ib,ZB8 TForm a1 [Ie] Ig] (alc q0 (al1 q1));have ab:=(L.Iw 1 rfl);replace L:=L.I0 1 rfl (ZB8 ZCa.ty.sl a1.terms [Ie] Ig) (λ_=>(Xq ab)) (λ_ ac=>ac)
 refine sr (Yg (v:=.agg #[Ie]) L [Ie] rfl rfl λb5 w7 ad L=>Zd (v:=.bool false) rfl (dn (sr (Za (v:=Ia) rfl (Yr L 0 [Ie] rfl ag55 rfl rfl rfl (Zf [Ia,.agg #[Ie]] _ Tryz.func132 rfl rfl rfl (Zmn V a1 h _ (L.Iw 1 rfl) (Y1 (L.Iw 0 rfl))) ?_))))))
 rintro _ ae ⟨I,O,rfl,h,aa⟩;refine rt ?_
 replace L:=L.Iy aa;refine Za (v:=.tuple #[vI I,.bool O]) rfl (Y5 (v:=vI I) rfl rfl (Y5 (v:=.bool O) rfl rfl (Zd (v:=vI I) rfl (Zd (v:=.bool O) rfl (dn (sr (Za (v:=.bool O) rfl (Za (v:=.bool O) rfl ?_))))))))
 refine Xm O (λA=>?_) (λA=>?_)
 ·replace h:=ift h (A);refine Zq 1 16 rfl rfl A (Za (v:=vI I) rfl (Zq 1 16 rfl rfl A (X6 rfl rfl (Zq 1 16 rfl rfl A (Za (v:=.bool (decide (I=(-1)))) rfl ?_)))))
  refine Xm (decide (I=(-1))) (λB=>?_) (λB=>?_)
  ·replace h:=ift h (ct B);refine Zp (b:=true) 4 19 rfl (tr rfl (I1 _ B)) (by decide) (Zp (b:=true) 4 19 rfl (tr rfl (I1 _ B)) (by decide) (Zp (b:=true) 4 19 rfl (tr rfl (I1 _ B)) (by decide) (Zq 1 16 rfl rfl A (Ya (v:=.bool true) (b:=true) (tr rfl (I1 _ B)) rfl (Ya (v:=.bool true) (b:=true) (tr rfl (I1 _ A)) rfl (Zd (v:=.bool true) rfl (dn (ZCi ?_))))))))
   exact Zj rfl (Zg rfl) ⟨true,rfl,h,L.below⟩ (.inl rfl)
  ·replace h:=Zk h (cf B);refine Zq 4 19 rfl rfl B (Za (v:=vI I) rfl (Zq 4 19 rfl rfl B (Za (v:=vI U) rfl (Zq 4 19 rfl rfl B (X6 rfl rfl (Zq 1 16 rfl rfl A (Ya (v:=.bool (decide (I=U))) (b:=false) (tr rfl (I1 _ B)) rfl (Ya (v:=.bool (decide (I=U))) (b:=true) (tr rfl (I1 _ A)) rfl (Zd (v:=.bool (decide (I=U))) rfl (dn (ZCi ?_)))))))))))
   exact Zj rfl (Zg rfl) ⟨decide (I=U),rfl,h,L.below⟩ (.inl rfl)
 ·replace h:=Zk h (Xe A);refine Zp (b:=false) 1 16 rfl (tr rfl (I1 _ A)) (by decide) (Zp (b:=false) 1 16 rfl (tr rfl (I1 _ A)) (by decide) (Zp (b:=false) 1 16 rfl (tr rfl (I1 _ A)) (by decide) (Wj 4 19 rfl rfl (Wj 4 19 rfl rfl (Wj 4 19 rfl rfl (Zp (b:=false) 1 16 rfl (tr rfl (I1 _ A)) (by decide) (Ya (v:=.bool false) (b:=false) (tr rfl (I1 _ A)) rfl (Zd (v:=.bool false) rfl (dn (ZCi ?_))))))))))
  exact Zj rfl (Zg rfl) ⟨false,rfl,h,L.below⟩ (.inl rfl)
def Kr (L:Alg) (K:List (Option (List (A8×Int)))->Prop):Prop :=
 Z1 (λh (A:(List (Option (List (A8×Int))))) B=>Qw (L.images.getD h Ci) (λI=>((0<=(h:Int)/\(h:Int) < 8)/\B (A.set h (some I))))) (λ(A:(List (Option (List (A8×Int)))))=>K A) L.images.length 0 (Cd 8 none:List (Option (List (A8×Int))))
theorem Zmp (a0:Alg)  {K:List (Option (List (A8×Int)))->Prop} (h:Kr a0 K) (w0:World) (q0:TAlg.rep a0 [Ia,Ic] Ib w0) (a4:(blk b0 32 [Ia,Ic]).holds w0) :
  Calls ZCc 191 #[vQ b0] w0 λe w'=>∃ (r0:List (Option (List (A8×Int)))) (ap:List Value) (aq:List Nat),
   e=.returned (.agg (ZB7 ap))/\K r0/\(Ws (kvA .i64) (vvI .i64) 8).rep r0 ap aq w'/\(∀ b,b∈aq->w0.heap.size<=b)/\Bel w0 w':=by
 unfold Kr at h
 refine cof Tryz.func191 rfl 23 Tryz.ntmps191 ?_
 have A:=ZCu (X:=Nox) w0 [ZB8 TAlg a0 [Ia,Ic] Ib,blk b0 32 [Ia,Ic]] (alc q0 (al1 a4));replace A:=A.dAlg 0 rfl;refine sr (Yt A (Cd 8 (ZFe none)) Za2 rfl λb5 w7 ar A=>dn (sr (Wk (v:=.agg (ZB7 (Cd 8 (ZFe none)))) [] rfl (Zl9 _) (Yt A (Cd 8 (ZFe none)) Za2 rfl λb8 bb ar A=>?_))))
 replace A:=A.pushE (ZB8 (Ws (kvA .i64) (vvI .i64) 8) (Cd 8 none:List (Option (List (A8×Int)))) (Cd 8 (ZFe none)) []) (En (kvA .i64) (vvI .i64) 8 _) rfl;replace A:=A.pushE (ZB8 (Ws (kvA .i64) (vvI .i64) 8) (Cd 8 none:List (Option (List (A8×Int)))) (Cd 8 (ZFe none)) []) (En (kvA .i64) (vvI .i64) 8 _) rfl;have ae:=T1 (A.Iw 1 rfl);have ag:=T1 (A.Iw 0 rfl);refine Z7 (v:=.agg (ZB7 (Cd 8 (ZFe none)))) A 0 (Cd 8 (ZFe none)) (Cd 8 (ZFe none)) rfl ag211.size rfl rfl rfl ag (Zax (A.Iw 0 rfl)) (by rw [ae]; exact Cg _) (Zay (ag.trans ae.symm)) λbc A=>dn (ZB9 (sr (Za (v:=vQ b0) rfl (Xd rfl (Z0 1 ZCt rfl Il.size rfl rfl (U9 (Ic) (A.Iw 5 rfl) Il rfl rfl (Zu A 2 rfl ZCx rfl (Za (v:=vI 0) rfl (dn (ZCf ?_))))))))))
 have au:a0.images.length<=9223372036854775807:=Yz (A.Iw 2 rfl);refine Yh (S:=(List (Option (List (A8×Int))))) _ _ (λB aa e_ w_=>∃ (I:List Value),∃ (O:List Nat),Zt e_ [(2,vQ b5),(3,vQ b8),(10,Ic),(11,vI (a0.images.length:Int)),(12,vI (B:Int))]/\(∀ b,b∈O->w0.heap.size<=b)/\Ctx Nox w0 w_ [blk b8 211 I,blk b5 211 (Cd 8 (ZFe none))] [ZB8 (Ws (kvA .i64) (vvI .i64) 8) aa I O,ZB8 ZCv.sl a0.images [Ic] Ib,ZB8 TInts a0.degrees [Ia] Ib,ZB8 TAlg a0 [Ia,Ic] Ib,blk b0 32 [Ia,Ic]]) a0.images.length ?_ ?_ (s0:=(Cd 8 none:List (Option (List (A8×Int))))) ?_ h
 ·clear A h;rintro B aa e_ bd a9 a5 U ⟨I,O,ah,ac,A⟩ h av;rw [ue ah];refine sr (Zl rfl rfl (dn (ZB9 (Z8 rfl (decide_eq_true (by omega)) (ZCd (Ze (ZB9 (ZCf (sr (Za (v:=vI (B:Int)) rfl ?_))))))))))
  obtain ⟨ba,be,ai⟩:=Zx (A.Iw 1 rfl) B U;refine Yn (len:=a0.images.length) ZCx ag55.size (tr rfl ai) rfl (ZCq _) (ZC9.2 U) ?_
  obtain ⟨bh,aj,aw,ak⟩:=Xb (A.Iw 1 rfl) ai B U;obtain ⟨V,rfl⟩:=ZC7.1 aj;clear aj;rw [Y9 _ _ U] at ak
  have ax:=ak;replace A:=A.I0 1 rfl (ZB8 ZCa.ty.sl ((a0.images.getD B Ci).terms) [V] Ib) (λ_=>(Xq ax)) (λ_ ab=>ab)
  refine Ji [V] aw ag55 rfl rfl (Yt A [.slice none 0 0] z55 rfl λbi bj ar A=>Zd (v:=vI (B:Int)) rfl (Z7 (v:=.agg #[V]) A 0 [V] [V] rfl ag55.size rfl rfl rfl rfl (Xy (Sn (A.Iw 0 rfl)) rfl) (ZCh rfl) rfl λbk A=>dn (Zh (Za (v:=vI (B:Int)) rfl (Yr A 0 [V] rfl ag55 rfl rfl rfl (Zf [.agg #[V]] _ Tryz.func78 rfl rfl rfl (Za9 (a0.images.getD B Ci) h _ (Y1 (A.Iw 0 rfl))) ?_))))))
  rintro _ bl ⟨ad,L,rfl,h,ay,az,a1⟩;refine rt ?_
  replace A:=A.push a1 (mapS L ad) ay (λb_ ab=>by obtain rfl:=Fc.1 ab; exact az)
  obtain ⟨⟨a6,a7⟩,h⟩:=h;refine X0 B Tryz.underlying211 sc115.size rfl rfl a6 a7 (by omega) ?_
  have a2:=L4 A 0 rfl;replace A:=A.thaw 0 rfl (mapS L ad) id (λ_ ab=>ab)
  replace A:=A.joinP 0 2 rfl rfl (ZB8 (Ws (kvA .i64) (vvI .i64) 8) (aa.set B (some ad)) (I.set B (ZFe (some L))) (L::O)) (λa_ b_=>Zlv b_ a_) (λc_ a8=>(Cb.1 a8).elim (λh_=>.inl (by rw [h_]; exact Fc.2 rfl)) .inr)
  have a3:∀ b,b∈(L::O)->w0.heap.size<=b:=(λb hb=>(Cb.1 hb).elim (λh_=>by rw [h_]; exact a2) (λhb=>ac b hb))
  have al:=T1 (A.Iw 3 rfl);refine Z7 (v:=.map (some L)) A 1 [.map (some L)] (I.set B (ZFe (some L))) rfl sc115.size rfl rfl rfl rfl rfl (by rw [al]; omega) (Zfi (by rw [al]; omega) (by omega)) λbm A=>done (Zr (Ze (Zh (Zm rfl rfl (Za (v:=vI (Zwt.wrap ((B:Int)+1))) rfl (done ?_))))))
  exact av (aa.set B (some ad)) _ _ ⟨I.set B (ZFe (some L)),(L::O),(sl ⟨rfl,rfl,rfl,rfl,(tr rfl (I1 _ (Z2 U au))),trivial⟩),a3,((A.xM [1,2] rfl).sP [0,4,5,6,7] rfl)⟩ h
 ·clear A h;rintro aa e_ bn a5 ⟨I,O,ah,ac,A⟩ h;rw [ue ah];refine sr (Zl rfl rfl (dn (ZB9 (Z4 rfl (decide_eq_false (by omega)) ?_))))
  refine ZCo (Zi (Zi (Zy ?_)))
  refine Ze (sr ?_)
  have am:=T1 (A.Iw 0 rfl);refine Yr A 0 I rfl ag211 rfl (Zlx am) am ?_
  replace A:=A.pushE (ZB8 (Ws (kvA .i64) (vvI .i64) 8) (Cd 8 none:List (Option (List (A8×Int)))) (Cd 8 (ZFe none)) []) (En (kvA .i64) (vvI .i64) 8 _) rfl;have an:=T1 (A.Iw 0 rfl);have ao:=T1 (A.Iw 1 rfl);refine Z7 (v:=.agg (ZB7 I)) A 1 I I rfl ag211.size rfl rfl rfl ao (Zax (A.Iw 1 rfl)) (by rw [an]; exact Cg _) (Zay (ao.trans an.symm)) λbo A=>dn (ZCi ?_)
  exact Zj rfl (Wq A 1 rfl ag211 rfl (T1 (A.Iw 1 rfl))) ⟨aa,I,O,rfl,h,(A.Iw 1 rfl),(λb hb=>ac b hb),A.below⟩ (.inl rfl)
 ·skip;exact⟨Cd 8 (ZFe none),[],(slq rfl),(λb hb=>absurd hb (by simp)),(A.sP [0,2,3,4,5] rfl)⟩
def Su (a0:Alg) (a1:List (A8×Int)) (K:List (A8×Int)->Prop):Prop :=
 Kr a0 (λac=>Ux (λ(B:A8×Int) (U:(List (A8×Int))) aa=>Z1 (λh (A:A8×(List (A8×Int))×Int) I=>(if B.1.get h > 0 then Xv (λ(L:A8×Int) ab=>(if L.2 < Zwt.wrap ((h:Int)+1) then((0<=L.2/\L.2 < 8)/\ab (L.1.set L.2.toNat 0,Zwt.wrap (L.2+1))) else(∃ V,ac[h]? = some (some V)/\Te (Yv ([]:List (A8×Int)) (A.1.set h (Zwt.wrap ((B.1.get h) - 1))) 1) a0.degrees V (λad=>Te ad a0.degrees (Yv ([]:List (A8×Int)) L.1 1) (λae=>T3 (Zwt.wrap ((Zwt.wrap (A.2.2 * B.2)) * (B.1.get h))) (λag=>Qx A.2.1 ae ag (λO=>(if(h:Int) < (a0.degrees.length:Int) then((0<=(h:Int)/\(h:Int) < (a0.degrees.length:Int))/\(if Fa (a0.degrees.getD h Ci) 2=1 then(if Fa (B.1.get h) 2=1 then I (A.1.set h (B.1.get h),O,Zwt.wrap (0 - A.2.2)) else I (A.1.set h (B.1.get h),O,A.2.2)) else I (A.1.set h (B.1.get h),O,A.2.2))) else I (A.1.set h (B.1.get h),O,A.2.2))))))))) (B.1,0) else(if(h:Int) < (a0.degrees.length:Int) then((0<=(h:Int)/\(h:Int) < (a0.degrees.length:Int))/\(if Fa (a0.degrees.getD h Ci) 2=1 then(if Fa (B.1.get h) 2=1 then I (A.1.set h (B.1.get h),A.2.1,Zwt.wrap (0 - A.2.2)) else I (A.1.set h (B.1.get h),A.2.1,A.2.2)) else I (A.1.set h (B.1.get h),A.2.1,A.2.2))) else I (A.1.set h (B.1.get h),A.2.1,A.2.2)))) (λ(A:A8×(List (A8×Int))×Int)=>aa A.2.1) 8 0 (ZCe,U,1)) (λ(U:(List (A8×Int)))=>K U) a1.length a1 ([]:List (A8×Int)))
theorem Zbb (a0:Alg) (a1:List (A8×Int))  {K:List (A8×Int)->Prop} (h:Su a0 a1 K) (w0:World) (q0:TAlg.rep a0 [Ia,Ic] Ib w0) (f3:(blk b0 32 [Ia,Ic]).holds w0) (q1:(mapS b1 a1).holds w0) :
  Calls ZCc 154 #[vQ b0,.map (some b1)] w0 λe w'=>∃ (r0:List (A8×Int)) (bl:Nat),
   e=.returned (.map (some bl))/\K r0/\(mapS bl r0).holds w'/\w0.heap.size<=bl/\Bel w0 w':=by
 unfold Su at h
 refine cof Tryz.func154 rfl 107 Tryz.ntmps154 ?_
 have A:=ZCu (X:=Nox) w0 [ZB8 TAlg a0 [Ia,Ic] Ib,blk b0 32 [Ia,Ic],mapS b1 a1] (alc q0 (alc f3 (al1 q1)));replace A:=A.dAlg 0 rfl;refine sr (Zd (v:=.map none) rfl (dn (sr (Md A (kvA .i64) (vvI .i64) λb6 w8 ae A=>Za (v:=vQ b0) rfl (Zf [vQ b0] _ Tryz.func191 rfl rfl rfl (Zmp a0 h _ (Yf (A.Iw 1 rfl) (A.Iw 0 rfl)) (A.Iw 3 rfl)) ?_)))))
 rintro _ gi ⟨a6,ah,a7,rfl,h,du,bm,dv⟩;refine rt ?_
 have gb:=Ta A.size bm;replace A:=A.pushR dv (ZB8 (Ws (kvA .i64) (vvI .i64) 8) a6 ah a7) du (λb hb=>.inl (bm b hb))
 refine Yt A (Cd 8 (ZFe none)) Za2 rfl λaq gj ae A=>Zd (v:=.map (some b6)) rfl ?_
 replace A:=A.pushE (ZB8 (Ws (kvA .i64) (vvI .i64) 8) (Cd 8 none:List (Option (List (A8×Int)))) (Cd 8 (ZFe none)) []) (En (kvA .i64) (vvI .i64) 8 _) rfl;have bn:=T1 (A.Iw 0 rfl);have bo:=T1 (A.Iw 1 rfl);refine Z7 (v:=.agg (ZB7 ah)) A 0 ah ah rfl ag211.size rfl rfl rfl bo (Zax (A.Iw 1 rfl)) (by rw [bn]; exact Cg _) (Zay (bo.trans bn.symm)) λgk A=>dn (ZB9 (sr (Za (v:=.map (some b1)) rfl (L5 A 6 rfl ZC8 rfl λax an ao gl ae bp cg A=>dn (ZCf ?_)))))
 refine L9 (S:=(List (A8×Int))) _ _ (λci bh e_ w_=>∃ (bq:Option MapEntry),Zt e_ [(0,vQ b0),(5,.map (some b6)),(6,vQ aq),(21,vQ ax)]/\Ctx Nox w0 w_ [itI (kvA .i64) (vvI .i64) ax b1 an ao bq ci,blk aq 211 ah,mapS b6 bh] [V0 b1 an ao,ZB8 (Ws (kvA .i64) (vvI .i64) 8) a6 ah a7,ZB8 ZCv.sl a0.images [Ic] Ib,ZB8 TInts a0.degrees [Ia] Ib,ZB8 TAlg a0 [Ia,Ic] Ib,blk b0 32 [Ia,Ic],mapS b1 a1]) ?_ (l0:=a1) (s0:=([]:List (A8×Int))) ?_ h
 ·clear A h;rintro ci bh e_ gm gc gn ⟨bq,ar,A⟩ h dw;rw [ue ar];refine sr ?_
  refine L6 A 0 0 rfl rfl bp cg rfl (λdx=>?_) (λL a8 az go br dy dz A=>?_)
  ·replace h:=h.1 dx;refine Y5 (v:=.bool false) rfl rfl (dn (ZB9 (Z4 rfl rfl ?_)))
   refine ZCo (Zi (Zi (Zy ?_)))
   refine Ze (sr (Za (v:=.map (some b6)) rfl (Zd (v:=.map (some b6)) rfl (dn (ZCi ?_)))))
   exact Zj rfl (Zg rfl) ⟨bh,b6,rfl,h,(A.Ix 2 rfl),(L4 A 2 rfl),A.below⟩ (.inl rfl)
  ·replace h:=h.2 L a8 br;refine Y5 (v:=.bool true) rfl rfl (dn (ZB9 (Z8 rfl rfl (ZCd (Ze (ZCf (sr (L7 A 0 0 L rfl rfl bp rfl dy dz (Y5 (v:=.agg (ZB7 (ZB6 .i64 L.1))) rfl rfl (Y5 (v:=vI L.2) rfl rfl (Yt A (ZB6 .i64 ZCe) z73 rfl λa2 gp ae A=>Z7 (v:=.agg (ZB7 (ZB6 .i64 L.1))) A 0 (ZB6 .i64 L.1) (ZB6 .i64 L.1) rfl ag73.size rfl rfl rfl rfl rfl (ZCh rfl) rfl λgq A=>Zd (v:=vI L.2) rfl (dn (sr (Wk [] rfl (Kd   _) (Yt A (ZB6 .i64 ZCe) z73 rfl λa3 gr ae A=>Z7 (v:=.agg (ZB7 (ZB6 .i64 ZCe))) A 0 (ZB6 .i64 ZCe) (ZB6 .i64 ZCe) rfl ag73.size rfl rfl rfl rfl rfl (ZCh rfl) rfl λgs A=>Zd (v:=vI 1) rfl (dn (sr (Yr A 1 (ZB6 .i64 L.1) rfl ag73 rfl rfl rfl (Za (v:=vI 0) rfl (dn (ZCf ?_)))))))))))))))))))))
   refine Yh (S:=A8×(List (A8×Int))×Int) _ _ (λB O e_ w_=>Zt e_ [(0,vQ b0),(5,.map (some b6)),(6,vQ aq),(7,vQ a2),(8,vI L.2),(9,vQ a3),(10,vI O.2.2),(21,vQ ax),(28,.agg (ZB7 (ZB6 .i64 L.1))),(29,vI (B:Int))]/\Ctx Nox w0 w_ [blk a3 73 (ZB6 .i64 O.1),blk a2 73 (ZB6 .i64 L.1),itI (kvA .i64) (vvI .i64) ax b1 an ao (some az) a8,blk aq 211 ah,mapS b6 O.2.1] [V0 b1 an ao,ZB8 (Ws (kvA .i64) (vvI .i64) 8) a6 ah a7,ZB8 ZCv.sl a0.images [Ic] Ib,ZB8 TInts a0.degrees [Ia] Ib,ZB8 TAlg a0 [Ia,Ic] Ib,blk b0 32 [Ia,Ic],mapS b1 a1]) 8 ?_ ?_ (s0:=(ZCe,bh,1)) ?_ h
   ·clear A h;rintro B O e_ gu a5 f4 ag ⟨ar,A⟩ h ap;rw [ue ar];refine sr (Zl rfl rfl (dn (ZB9 (Z8 rfl (decide_eq_true (by omega)) (ZCd (Ze (ZB9 (ZCf (sr (Za (v:=vI (B:Int)) rfl (G5 (vI (L.1.get B)) ZCw rfl rfl (ZCq _) (by omega) sc3 (ZCm _ _ ag) (Zd (v:=vI (B:Int)) rfl (Zd (v:=vI (L.1.get B)) rfl (dn (ZB9 (sr (Za (v:=vI (L.1.get B)) rfl (Jn rfl rfl (dn ?_)))))))))))))))))))
    refine Zs rfl (λbb=>?_) (λbb=>?_)
    ·replace h:=ift h (ct bb);refine sr (Yr A 1 (ZB6 .i64 L.1) rfl ag73 rfl rfl rfl (Yt A (ZB6 .i64 ZCe) z73 rfl λcj gv ae A=>Z7 (v:=.agg (ZB7 (ZB6 .i64 L.1))) A 0 (ZB6 .i64 L.1) (ZB6 .i64 L.1) rfl ag73.size rfl rfl rfl rfl rfl (ZCh rfl) rfl λgw A=>dn (ZB9 (sr (Za (v:=vI (B:Int)) rfl (Zm rfl rfl (Za (v:=vI 0) rfl (dn (ZCf ?_)))))))))
     refine Jb (S:=A8×Int) _ (λaa e_ w_=>Zt e_ [(0,vQ b0),(5,.map (some b6)),(6,vQ aq),(7,vQ a2),(8,vI L.2),(9,vQ a3),(10,vI O.2.2),(11,vI (B:Int)),(12,vI (L.1.get B)),(13,vQ cj),(21,vQ ax),(28,.agg (ZB7 (ZB6 .i64 L.1))),(29,vI (B:Int)),(37,vI (Zwt.wrap ((B:Int)+1))),(38,vI aa.2)]/\Ctx Nox w0 w_ [blk cj 73 (ZB6 .i64 aa.1),blk a3 73 (ZB6 .i64 O.1),blk a2 73 (ZB6 .i64 L.1),itI (kvA .i64) (vvI .i64) ax b1 an ao (some az) a8,blk aq 211 ah,mapS b6 O.2.1] [V0 b1 an ao,ZB8 (Ws (kvA .i64) (vvI .i64) 8) a6 ah a7,ZB8 ZCv.sl a0.images [Ic] Ib,ZB8 TInts a0.degrees [Ia] Ib,ZB8 TAlg a0 [Ia,Ic] Ib,blk b0 32 [Ia,Ic],mapS b1 a1]) ?_ (s0:=(L.1,0)) ?_ h
     ·clear A h;rintro aa e_ gx gf gy ⟨ar,A⟩ h d0;rw [ue ar];refine sr (Zl rfl rfl (dn (ZB9 ?_)))
      refine Zs rfl (λbc=>?_) (λbc=>?_)
      ·replace h:=ift h (ct bc);refine ZCd (Ze (ZB9 (ZCf (sr (Za (v:=vI aa.2) rfl (Zd (v:=vI aa.2) rfl (dn (Zh (Za (v:=vI aa.2) rfl ?_)))))))))
       obtain ⟨⟨f5,f6⟩,h⟩:=h;refine X0 aa.2.toNat ZCw sc3.size rfl rfl f5 f6 (by omega) (Z7 (v:=vI 0) A 0 [vI 0] (ZB6 .i64 (aa.1.set aa.2.toNat 0)) rfl sc3.size rfl rfl rfl rfl rfl (show aa.2.toNat < 8 by omega) (ZC3 _ _ _ (show aa.2.toNat < 8 by omega)) λgz A=>done (Zr (Ze (Zh (Zm rfl rfl (Za (v:=vI (Zwt.wrap (aa.2+1))) rfl (done ?_)))))))
       exact d0 (aa.1.set aa.2.toNat 0,Zwt.wrap (aa.2+1)) _ _ ⟨(slq rfl),A⟩ h
      ·replace h:=Zk h (cf bc);refine ZCo (Zi (Zi (Zy ?_)))
       refine Ze (sr (Yr A 1 (ZB6 .i64 O.1) rfl ag73 rfl rfl rfl (Yt A (ZB6 .i64 ZCe) z73 rfl λg0 g1 ae A=>Z7 (v:=.agg (ZB7 (ZB6 .i64 O.1))) A 0 (ZB6 .i64 O.1) (ZB6 .i64 O.1) rfl ag73.size rfl rfl rfl rfl rfl (ZCh rfl) rfl λg2 A=>dn (sr (Za (v:=vI (B:Int)) rfl (Za (v:=vI (L.1.get B)) rfl (X5 rfl rfl (X0 B ZCw sc3.size rfl rfl (ZCq _) (by omega) (by omega) (Z7 (v:=vI (Zwt.wrap ((L.1.get B) - 1))) A 0 [vI (Zwt.wrap ((L.1.get B) - 1))] (ZB6 .i64 (O.1.set B (Zwt.wrap ((L.1.get B) - 1)))) rfl sc3.size rfl rfl rfl rfl rfl ag (ZC3 _ _ _ ag) λg3 A=>dn (ZB9 ?_))))))))))
       refine Za0 20 Ym [0,0,3,7,0,16,48,112,0,256,768,2047,0,4096,12288,28672,0,0,196608,458752,1048575,2097151] [1,7,9,10,15,17] [3,4,5,6,8,12,13,14,19] (λaw ab ck ae=>?_)
       replace A:=A.Iy ae;have I:ck.heap.size<=ck.heap.size:=Cg _;refine W0 (Xf _) 1 (.agg (ZB7 (ZB6 .i64 (O.1.set B (Zwt.wrap ((L.1.get B) - 1)))))) rfl rfl (by kernel_rfl) (aw 1 rfl) (λw_ ae=>.inl ⟨rfl,by exact Y6 (A.Iy (Td ae)) 0 (ZB6 .i64 (O.1.set B (Zwt.wrap ((L.1.get B) - 1)))) rfl ag73 rfl rfl rfl⟩) (l9:=(Zc 22 2)) (by kernel_rfl) (bMR (Xf _) 4 (vQ b0) rfl ab (Zc 22 18) (Zv (Xf _) 5 (vQ b0) rfl rfl (by kernel_rfl) (ab 5 rfl) (λw_=>.inl ⟨rfl,by exact Wu rfl⟩) (l9:=(Zc 22 50)) (by kernel_rfl) (Zv (Xf _) 6 (vQ b0) rfl rfl (by kernel_rfl) (ab 6 rfl) (λw_=>.inl ⟨rfl,by exact Yq 0 ZCt rfl If.size rfl rfl⟩) (l9:=(Zc 22 114)) (by kernel_rfl) (W0 (Xf _) 7 (Ia) rfl rfl (by kernel_rfl) (aw 7 rfl) (λw_ ae=>.inl ⟨rfl,by exact Tx (Ia) ((A.Iy (Td ae)).Iw 5 rfl) If rfl rfl⟩) (l9:=(Zc 22 242)) (by kernel_rfl) (bMR (Xf _) 8 (vI (B:Int)) rfl ab (Zc 22 498) (W0 (Xf _) 9 (.pointer (some ⟨aq,B,none⟩)) rfl rfl (by kernel_rfl) (aw 9 rfl) (λw_ ae=>.inl ⟨rfl,by exact Wv B Tryz.underlying211 sc115.size rfl rfl (ZCq _) (by omega) (by omega)⟩) (l9:=(Zc 22 1010)) (by kernel_rfl) ?_))))))
       obtain ⟨ai,d1,h⟩:=h;obtain ⟨al,d2,ch,d3⟩:=Zlw (A.Iw 1 rfl) d1;replace A:=A.I0 1 rfl (mapS al ai) (λ_=>d3) (λc_ bs=>by obtain rfl:=Fc.1 bs; exact ch)
       refine W0 (Xf _) 10 (.map (some al)) rfl rfl (by kernel_rfl) (aw 10 rfl) (λw_ ae=>.inl ⟨rfl,by exact Yj (A.Iy (Td ae)) 5 (.map (some al)) rfl sc115 rfl (Zly d2 (by omega))⟩) (l9:=(Zc 22 2034)) (by kernel_rfl) (bMR (Xf _) 12 (vQ b0) rfl ab (Zc 22 6130) (Zv (Xf _) 13 (vQ b0) rfl rfl (by kernel_rfl) (ab 13 rfl) (λw_=>.inl ⟨rfl,by exact Wu rfl⟩) (l9:=(Zc 22 14322)) (by kernel_rfl) (Zv (Xf _) 14 (vQ b0) rfl rfl (by kernel_rfl) (ab 14 rfl) (λw_=>.inl ⟨rfl,by exact Yq 0 ZCt rfl If.size rfl rfl⟩) (l9:=(Zc 22 30706)) (by kernel_rfl) (W0 (Xf _) 15 (Ia) rfl rfl (by kernel_rfl) (aw 15 rfl) (λw_ ae=>.inl ⟨rfl,by exact Tx (Ia) ((A.Iy (Td ae)).Iw 6 rfl) If rfl rfl⟩) (l9:=(Zc 22 63474)) (by kernel_rfl) (W0 (Xf _) 17 (.agg (ZB7 (ZB6 .i64 aa.1))) rfl rfl (by kernel_rfl) (aw 17 rfl) (λw_ ae=>.inl ⟨rfl,by exact Y6 (A.Iy (Td ae)) 1 (ZB6 .i64 aa.1) rfl ag73 rfl rfl rfl⟩) (l9:=(Zc 22 194546)) (by kernel_rfl) ?_)))))
       refine U8 (λe_ w_=>∃ (a9:Nat),∃ (bi:List (A8×Int)),Zt e_ [(0,vQ b0),(5,.map (some b6)),(6,vQ aq),(7,vQ a2),(8,vI L.2),(9,vQ a3),(10,vI O.2.2),(11,vI (B:Int)),(12,vI (L.1.get B)),(16,.map (some a9)),(21,vQ ax),(28,.agg (ZB7 (ZB6 .i64 L.1))),(29,vI (B:Int))]/\Ctx Nox w0 w_ [mapS a9 bi,blk a3 73 (ZB6 .i64 O.1),blk a2 73 (ZB6 .i64 L.1),itI (kvA .i64) (vvI .i64) ax b1 an ao (some az) a8,blk aq 211 ah,mapS b6 O.2.1] [V0 b1 an ao,ZB8 (Ws (kvA .i64) (vvI .i64) 8) a6 ah a7,ZB8 ZCv.sl a0.images [Ic] Ib,ZB8 TInts a0.degrees [Ia] Ib,ZB8 TAlg a0 [Ia,Ic] Ib,blk b0 32 [Ia,Ic],mapS b1 a1]/\(T3 (Zwt.wrap ((Zwt.wrap (O.2.2 * L.2)) * (L.1.get B))) (λbj=>Qx O.2.1 bi bj (λau=>(if(B:Int) < (a0.degrees.length:Int) then((0<=(B:Int)/\(B:Int) < (a0.degrees.length:Int))/\(if Fa (a0.degrees.getD B Ci) 2=1 then(if Fa (L.1.get B) 2=1 then a5 (O.1.set B (L.1.get B),au,Zwt.wrap (0 - O.2.2)) else a5 (O.1.set B (L.1.get B),au,O.2.2)) else a5 (O.1.set B (L.1.get B),au,O.2.2))) else a5 (O.1.set B (L.1.get B),au,O.2.2)))))) ?_ ?_
       ·clear A h;rintro e_ g4 ⟨a9,bi,ar,A,h⟩;rw [ue ar];refine Ze (Zh (Za (v:=.map (some b6)) rfl (Za (v:=.map (some a9)) rfl (Za (v:=vI O.2.2) rfl (Za (v:=vI L.2) rfl (Wz rfl rfl (Za (v:=vI (L.1.get B)) rfl (Wz rfl rfl (Zf [vI (Zwt.wrap ((Zwt.wrap (O.2.2 * L.2)) * (L.1.get B)))] _ Tryz.func187 rfl rfl rfl (Za7 (Zwt.wrap ((Zwt.wrap (O.2.2 * L.2)) * (L.1.get B))) h _) ?_)))))))))
        rintro _ g5 ⟨bj,rfl,h,d4⟩;refine rt ?_
        replace A:=A.Iy d4;refine Zf [.map (some b6),.map (some a9),vI bj] _ Tryz.func165 rfl rfl rfl (Zmh O.2.1 bi bj h _ (A.Ix 5 rfl) (λc_ bs e_=>A.mm 0 5 rfl rfl (by decide) c_ bs (Fc.2 e_)) (A.Ix 0 rfl)) ?_
        rintro _ g6 ⟨au,rfl,h,d5,d6⟩;refine rt ?_
        replace A:=A.turnB 5 rfl d6 rfl rfl d5;refine dn (sr (Za (v:=vI (B:Int)) rfl (Za (v:=vI (L.1.get B)) rfl (X0 B ZCw sc3.size rfl rfl (ZCq _) (by omega) (by omega) (Z7 (v:=vI (L.1.get B)) A 1 [vI (L.1.get B)] (ZB6 .i64 (O.1.set B (L.1.get B))) rfl sc3.size rfl rfl rfl rfl rfl ag (ZC3 _ _ _ ag) λg7 A=>dn (sr (Za (v:=vI (B:Int)) rfl (Za (v:=vQ b0) rfl (Xd rfl (Z0 0 ZCt rfl If.size rfl rfl (U9 (Ia) (A.Iw 5 rfl) If rfl rfl (Zu A 3 rfl ZCs rfl (Zl rfl rfl (Za (v:=.bool (decide ((B:Int) < (a0.degrees.length:Int)))) rfl ?_))))))))))))))
        refine Xm (decide ((B:Int) < (a0.degrees.length:Int))) (λac=>?_) (λac=>?_)
        ·replace h:=ift h (ct ac);refine Zq 7 87 rfl rfl ac (Za (v:=vQ b0) rfl (Zq 7 87 rfl rfl ac (Xd rfl (Zq 7 87 rfl rfl ac (Z0 0 ZCt rfl If.size rfl rfl (Zq 7 87 rfl rfl ac (U9 (Ia) (A.Iw 5 rfl) If rfl rfl (Zq 7 87 rfl rfl ac (Za (v:=vI (B:Int)) rfl (Zq 7 87 rfl rfl ac ?_))))))))))
         obtain ⟨⟨f7,f8⟩,h⟩:=h;obtain ⟨gg,g8,bt⟩:=Zx (A.Iw 3 rfl) B (show B < a0.degrees.length by omega)
         refine Yn (len:=a0.degrees.length) ZCs sc2.size (tr rfl bt) rfl f7 f8 (Zq 7 87 rfl rfl ac (Ye (vI (a0.degrees.getD B Ci)) (Yi (A.Iw 3 rfl) bt B (show B < a0.degrees.length by omega)) sc2 rfl (Zq 7 87 rfl rfl ac (Jf rfl rfl (by decide) (Zq 7 87 rfl rfl ac (X6 rfl rfl (Ya (v:=.bool (decide (Fa (a0.degrees.getD B Ci) 2=1))) (b:=true) (tr rfl (I1 _ ac)) rfl (Za (v:=.bool (decide (Fa (a0.degrees.getD B Ci) 2=1))) rfl ?_))))))))
         refine Xm (decide (Fa (a0.degrees.getD B Ci) 2=1)) (λaj=>?_) (λaj=>?_)
         ·replace h:=ift h (ct aj);refine Zq 18 98 rfl rfl aj (Za (v:=vI (L.1.get B)) rfl (Zq 18 98 rfl rfl aj (Jf rfl rfl (by decide) (Zq 18 98 rfl rfl aj (X6 rfl rfl (Ya (v:=.bool (decide (Fa (L.1.get B) 2=1))) (b:=true) (tr rfl (I1 _ aj)) rfl (dn ?_)))))))
          refine Zs rfl (λbd=>?_) (λbd=>?_)
          ·replace h:=ift h (ct bd);refine Zh (Za (v:=vI O.2.2) rfl (G3 rfl (Zd (v:=vI (Zwt.wrap (0 - O.2.2))) rfl (done (Zr (Ze (Zh (Zm rfl rfl (Za (v:=vI (Zwt.wrap ((B:Int)+1))) rfl (done ?_))))))))))
           exact ap (O.1.set B (L.1.get B),au,Zwt.wrap (0 - O.2.2)) _ _ ⟨(sl ⟨rfl,rfl,rfl,rfl,rfl,rfl,rfl,rfl,rfl,(tr rfl (I1 _ (Z2 ag (by decide)))),trivial⟩),(A.xM [1,2,3,4,5] rfl)⟩ h
          ·replace h:=Zk h (cf bd);refine ZCd (Zr (Ze (Zh (Zm rfl rfl (Za (v:=vI (Zwt.wrap ((B:Int)+1))) rfl (done ?_))))))
           exact ap (O.1.set B (L.1.get B),au,O.2.2) _ _ ⟨(sl ⟨rfl,rfl,rfl,rfl,rfl,rfl,rfl,rfl,rfl,(tr rfl (I1 _ (Z2 ag (by decide)))),trivial⟩),(A.xM [1,2,3,4,5] rfl)⟩ h
         ·replace h:=Zk h (cf aj);refine Zp (b:=false) 18 98 rfl (tr rfl (I1 _ aj)) (by decide) (Zp (b:=false) 18 98 rfl (tr rfl (I1 _ aj)) (by decide) (Zp (b:=false) 18 98 rfl (tr rfl (I1 _ aj)) (by decide) (Ya (v:=.bool false) (b:=false) (tr rfl (I1 _ aj)) rfl (dn (Z4 rfl rfl (ZCd (Zr (Ze (Zh (Zm rfl rfl (Za (v:=vI (Zwt.wrap ((B:Int)+1))) rfl (done ?_))))))))))))
          exact ap (O.1.set B (L.1.get B),au,O.2.2) _ _ ⟨(sl ⟨rfl,rfl,rfl,rfl,rfl,rfl,rfl,rfl,rfl,(tr rfl (I1 _ (Z2 ag (by decide)))),trivial⟩),(A.xM [1,2,3,4,5] rfl)⟩ h
        ·replace h:=Zk h (cf ac);refine Zp (b:=false) 7 87 rfl (tr rfl (I1 _ ac)) (by decide) (Zp (b:=false) 7 87 rfl (tr rfl (I1 _ ac)) (by decide) (Zp (b:=false) 7 87 rfl (tr rfl (I1 _ ac)) (by decide) (Zp (b:=false) 7 87 rfl (tr rfl (I1 _ ac)) (by decide) (Zp (b:=false) 7 87 rfl (tr rfl (I1 _ ac)) (by decide) (Zp (b:=false) 7 87 rfl (tr rfl (I1 _ ac)) (by decide) (Zp (b:=false) 7 87 rfl (tr rfl (I1 _ ac)) (by decide) (Zp (b:=false) 7 87 rfl (tr rfl (I1 _ ac)) (by decide) (Zp (b:=false) 7 87 rfl (tr rfl (I1 _ ac)) (by decide) (Ya (v:=.bool false) (b:=false) (tr rfl (I1 _ ac)) rfl (Za (v:=.bool false) rfl (Zp (b:=false) 18 98 rfl (tr rfl (I1 _ rfl)) (by decide) (Zp (b:=false) 18 98 rfl (tr rfl (I1 _ rfl)) (by decide) (Zp (b:=false) 18 98 rfl (tr rfl (I1 _ rfl)) (by decide) (Ya (v:=.bool false) (b:=false) rfl rfl (dn (Z4 rfl rfl (ZCd (Zr (Ze (Zh (Zm rfl rfl (Za (v:=vI (Zwt.wrap ((B:Int)+1))) rfl (done ?_)))))))))))))))))))))))
         exact ap (O.1.set B (L.1.get B),au,O.2.2) _ _ ⟨(sl ⟨rfl,rfl,rfl,rfl,rfl,rfl,rfl,rfl,rfl,(tr rfl (I1 _ (Z2 ag (by decide)))),trivial⟩),(A.xM [1,2,3,4,5] rfl)⟩ h
       refine Jp 0 16 rfl rfl (by kernel_rfl) ?_ ?_
       ·skip;refine So A (kvA .i64) (vvI .i64) λav g9 am ae A=>?_
        have hnb_b12975:=Cj I am;refine done ?_
        refine Xc (Js I (by assumption)) I (l9:=(Zc 22 194547)) (by kernel_rfl) (λI=>?_)
        refine Jp 2 16 rfl rfl (by kernel_rfl) ?_ ?_
        ·skip;refine W3 A 0 (O.1.set B (Zwt.wrap ((L.1.get B) - 1))) 1 rfl J4 ZC8 rfl rfl rfl (λha U A=>?_) (.inr rfl)
         refine done ?_
         refine Xc (Wt I hnb_b12975 U) I (l9:=(Zc 22 194551)) (by kernel_rfl) (λI=>?_)
         refine bMR (Xf _) 3 (.map (some av)) rfl ab (Zc 22 194559) ?_
         refine Jp 11 16 rfl rfl (by kernel_rfl) ?_ ?_
         ·skip;refine Zf [.map (some av),Ia,.map (some al)] _ ZFd rfl rfl rfl (Wn (Yv ([]:List (A8×Int)) (O.1.set B (Zwt.wrap ((L.1.get B) - 1))) 1) a0.degrees ai h _ (A.Ix 0 rfl) (A.Iw 4 rfl) (A.Iw 0 rfl)) ?_
          rintro _ hc ⟨cl,cm,rfl,h,d7,d8,d9⟩;refine rt ?_
          replace A:=A.push d9 (mapS cm cl) d7 (λb_ V=>by obtain rfl:=Fc.1 V; exact d8)
          refine done ?_
          refine Xc (Js I (by assumption)) I (l9:=(Zc 22 196607)) (by kernel_rfl) (λI=>?_)
          refine aO 16 rfl (So A (kvA .i64) (vvI .i64) λcn he am ae A=>?_)
          have hnb_b12988:=Cj I am;refine done ?_
          refine Xc (Js I (by assumption)) I (l9:=(Zc 22 262143)) (by kernel_rfl) (λI=>?_)
          refine aO 18 rfl ?_
          refine W3 A 0 aa.1 1 rfl J4 ZC8 rfl rfl rfl (λhf U A=>?_) (.inr rfl)
          refine done ?_
          refine Xc (Wt I hnb_b12988 U) I (l9:=(Zc 22 524287)) (by kernel_rfl) (λI=>?_)
          refine bMR (Xf _) 19 (.map (some cn)) rfl ab (Zc 22 1048575) (Z5 20 (by decide) (by decide) (by kernel_rfl) (by kernel_rfl) rfl (Zf [.map (some cm),Ia,.map (some cn)] _ ZFd rfl rfl rfl (Wn cl a0.degrees (Yv ([]:List (A8×Int)) aa.1 1) h _ (A.Ix 1 rfl) (A.Iw 4 rfl) (A.Ix 0 rfl)) ?_))
          rintro _ hg ⟨cp,bu,rfl,h,ea,eb,ec⟩;refine rt ?_
          replace A:=A.push ec (mapS bu cp) ea (λb_ V=>by obtain rfl:=Fc.1 V; exact eb)
          refine Zd (v:=.map (some bu)) rfl (done (Z6 ?_))
          exact⟨rfl,_,rfl,⟨bu,cp,(slq rfl),((A.xM [0,6,7,8,9,10] rfl).sP [1,2,3,4,5,6,7] rfl),h⟩⟩
         ·skip;refine So A (kvA .i64) (vvI .i64) λbk hh am ae A=>?_
          have hnb_b13001:=Cj I am;refine done ?_
          refine Xc (Js I (by assumption)) I (l9:=(Zc 22 260095)) (by kernel_rfl) (λI=>?_)
          refine Jp 11 18 rfl rfl (by kernel_rfl) ?_ ?_
          ·skip;refine Zf [.map (some av),Ia,.map (some al)] _ ZFd rfl rfl rfl (Wn (Yv ([]:List (A8×Int)) (O.1.set B (Zwt.wrap ((L.1.get B) - 1))) 1) a0.degrees ai h _ (A.Ix 1 rfl) (A.Iw 4 rfl) (A.Iw 0 rfl)) ?_
           rintro _ hk ⟨cq,cr,rfl,h,ed,ee,ef⟩;refine rt ?_
           replace A:=A.push ef (mapS cr cq) ed (λb_ V=>by obtain rfl:=Fc.1 V; exact ee)
           refine done ?_
           refine Xc (Js I (by assumption)) I (l9:=(Zc 22 262143)) (by kernel_rfl) (λI=>?_)
           refine aO 18 rfl ?_
           refine W3 A 1 aa.1 1 rfl J4 ZC8 rfl rfl rfl (λhl U A=>?_) (.inr rfl)
           refine done ?_
           refine Xc (Wt I hnb_b13001 U) I (l9:=(Zc 22 524287)) (by kernel_rfl) (λI=>?_)
           refine bMR (Xf _) 19 (.map (some bk)) rfl ab (Zc 22 1048575) (Z5 20 (by decide) (by decide) (by kernel_rfl) (by kernel_rfl) rfl (Zf [.map (some cr),Ia,.map (some bk)] _ ZFd rfl rfl rfl (Wn cq a0.degrees (Yv ([]:List (A8×Int)) aa.1 1) h _ (A.Ix 0 rfl) (A.Iw 4 rfl) (A.Ix 1 rfl)) ?_))
           rintro _ hm ⟨cu,bv,rfl,h,eg,eh,ei⟩;refine rt ?_
           replace A:=A.push ei (mapS bv cu) eg (λb_ V=>by obtain rfl:=Fc.1 V; exact eh)
           refine Zd (v:=.map (some bv)) rfl (done (Z6 ?_))
           exact⟨rfl,_,rfl,⟨bv,cu,(slq rfl),((A.xM [0,6,7,8,9,10] rfl).sP [1,2,3,4,5,6,7] rfl),h⟩⟩
          ·skip;refine W3 A 0 aa.1 1 rfl J4 ZC8 rfl rfl rfl (λhn U A=>?_) (.inr rfl)
           refine done ?_
           refine Xc (Wt I hnb_b13001 U) I (l9:=(Zc 22 522239)) (by kernel_rfl) (λI=>?_)
           refine bMR (Xf _) 19 (.map (some bk)) rfl ab (Zc 22 1046527) (aO 11 rfl (Zf [.map (some av),Ia,.map (some al)] _ ZFd rfl rfl rfl (Wn (Yv ([]:List (A8×Int)) (O.1.set B (Zwt.wrap ((L.1.get B) - 1))) 1) a0.degrees ai h _ (A.Ix 1 rfl) (A.Iw 4 rfl) (A.Iw 0 rfl)) ?_))
           rintro _ ho ⟨cv,cw,rfl,h,ej,ek,en⟩;refine rt ?_
           replace A:=A.push en (mapS cw cv) ej (λb_ V=>by obtain rfl:=Fc.1 V; exact ek)
           refine done ?_
           refine Xc (Js I (by assumption)) I (l9:=(Zc 22 1048575)) (by kernel_rfl) (λI=>?_)
           refine Z5 20 (by decide) (by decide) (by kernel_rfl) (by kernel_rfl) rfl (Zf [.map (some cw),Ia,.map (some bk)] _ ZFd rfl rfl rfl (Wn cv a0.degrees (Yv ([]:List (A8×Int)) aa.1 1) h _ (A.Ix 0 rfl) (A.Iw 4 rfl) (A.Ix 1 rfl)) ?_)
           rintro _ hp ⟨cx,bw,rfl,h,eo,ep,er⟩;refine rt ?_
           replace A:=A.push er (mapS bw cx) eo (λb_ V=>by obtain rfl:=Fc.1 V; exact ep)
           refine Zd (v:=.map (some bw)) rfl (done (Z6 ?_))
           exact⟨rfl,_,rfl,⟨bw,cx,(slq rfl),((A.xM [0,6,7,8,9,10] rfl).sP [1,2,3,4,5,6,7] rfl),h⟩⟩
        ·skip;refine So A (kvA .i64) (vvI .i64) λa4 hq am ae A=>?_
         have hnb_b13042:=Cj I am;refine done ?_
         refine Xc (Js I (by assumption)) I (l9:=(Zc 22 260083)) (by kernel_rfl) (λI=>?_)
         refine Jp 2 18 rfl rfl (by kernel_rfl) ?_ ?_
         ·skip;refine W3 A 1 (O.1.set B (Zwt.wrap ((L.1.get B) - 1))) 1 rfl J4 ZC8 rfl rfl rfl (λhr U A=>?_) (.inr rfl)
          refine done ?_
          refine Xc (Wt I hnb_b12975 U) I (l9:=(Zc 22 260087)) (by kernel_rfl) (λI=>?_)
          refine bMR (Xf _) 3 (.map (some av)) rfl ab (Zc 22 260095) ?_
          refine Jp 11 18 rfl rfl (by kernel_rfl) ?_ ?_
          ·skip;refine Zf [.map (some av),Ia,.map (some al)] _ ZFd rfl rfl rfl (Wn (Yv ([]:List (A8×Int)) (O.1.set B (Zwt.wrap ((L.1.get B) - 1))) 1) a0.degrees ai h _ (A.Ix 1 rfl) (A.Iw 4 rfl) (A.Iw 0 rfl)) ?_
           rintro _ hs ⟨cy,cz,rfl,h,es,et,eu⟩;refine rt ?_
           replace A:=A.push eu (mapS cz cy) es (λb_ V=>by obtain rfl:=Fc.1 V; exact et)
           refine done ?_
           refine Xc (Js I (by assumption)) I (l9:=(Zc 22 262143)) (by kernel_rfl) (λI=>?_)
           refine aO 18 rfl ?_
           refine W3 A 1 aa.1 1 rfl J4 ZC8 rfl rfl rfl (λht U A=>?_) (.inr rfl)
           refine done ?_
           refine Xc (Wt I hnb_b13042 U) I (l9:=(Zc 22 524287)) (by kernel_rfl) (λI=>?_)
           refine bMR (Xf _) 19 (.map (some a4)) rfl ab (Zc 22 1048575) (Z5 20 (by decide) (by decide) (by kernel_rfl) (by kernel_rfl) rfl (Zf [.map (some cz),Ia,.map (some a4)] _ ZFd rfl rfl rfl (Wn cy a0.degrees (Yv ([]:List (A8×Int)) aa.1 1) h _ (A.Ix 0 rfl) (A.Iw 4 rfl) (A.Ix 1 rfl)) ?_))
           rintro _ hu ⟨c0,bx,rfl,h,ew,ex,ey⟩;refine rt ?_
           replace A:=A.push ey (mapS bx c0) ew (λb_ V=>by obtain rfl:=Fc.1 V; exact ex)
           refine Zd (v:=.map (some bx)) rfl (done (Z6 ?_))
           exact⟨rfl,_,rfl,⟨bx,c0,(slq rfl),((A.xM [0,6,7,8,9,10] rfl).sP [1,2,3,4,5,6,7] rfl),h⟩⟩
          ·skip;refine W3 A 0 aa.1 1 rfl J4 ZC8 rfl rfl rfl (λhv U A=>?_) (.inr rfl)
           refine done ?_
           refine Xc (Wt I hnb_b13042 U) I (l9:=(Zc 22 522239)) (by kernel_rfl) (λI=>?_)
           refine bMR (Xf _) 19 (.map (some a4)) rfl ab (Zc 22 1046527) (aO 11 rfl (Zf [.map (some av),Ia,.map (some al)] _ ZFd rfl rfl rfl (Wn (Yv ([]:List (A8×Int)) (O.1.set B (Zwt.wrap ((L.1.get B) - 1))) 1) a0.degrees ai h _ (A.Ix 1 rfl) (A.Iw 4 rfl) (A.Iw 0 rfl)) ?_))
           rintro _ hw ⟨c6,c7,rfl,h,ez,e1,e2⟩;refine rt ?_
           replace A:=A.push e2 (mapS c7 c6) ez (λb_ V=>by obtain rfl:=Fc.1 V; exact e1)
           refine done ?_
           refine Xc (Js I (by assumption)) I (l9:=(Zc 22 1048575)) (by kernel_rfl) (λI=>?_)
           refine Z5 20 (by decide) (by decide) (by kernel_rfl) (by kernel_rfl) rfl (Zf [.map (some c7),Ia,.map (some a4)] _ ZFd rfl rfl rfl (Wn c6 a0.degrees (Yv ([]:List (A8×Int)) aa.1 1) h _ (A.Ix 0 rfl) (A.Iw 4 rfl) (A.Ix 1 rfl)) ?_)
           rintro _ hx ⟨c8,bz,rfl,h,e3,e4,e5⟩;refine rt ?_
           replace A:=A.push e5 (mapS bz c8) e3 (λb_ V=>by obtain rfl:=Fc.1 V; exact e4)
           refine Zd (v:=.map (some bz)) rfl (done (Z6 ?_))
           exact⟨rfl,_,rfl,⟨bz,c8,(slq rfl),((A.xM [0,6,7,8,9,10] rfl).sP [1,2,3,4,5,6,7] rfl),h⟩⟩
         ·skip;refine W3 A 0 aa.1 1 rfl J4 ZC8 rfl rfl rfl (λhy U A=>?_) (.inr rfl)
          refine done ?_
          refine Xc (Wt I hnb_b13042 U) I (l9:=(Zc 22 522227)) (by kernel_rfl) (λI=>?_)
          refine bMR (Xf _) 19 (.map (some a4)) rfl ab (Zc 22 1046515) (aO 2 rfl ?_)
          refine W3 A 1 (O.1.set B (Zwt.wrap ((L.1.get B) - 1))) 1 rfl J4 ZC8 rfl rfl rfl (λhz U A=>?_) (.inr rfl)
          refine done ?_
          refine Xc (Wt I hnb_b12975 U) I (l9:=(Zc 22 1046519)) (by kernel_rfl) (λI=>?_)
          refine bMR (Xf _) 3 (.map (some av)) rfl ab (Zc 22 1046527) (aO 11 rfl (Zf [.map (some av),Ia,.map (some al)] _ ZFd rfl rfl rfl (Wn (Yv ([]:List (A8×Int)) (O.1.set B (Zwt.wrap ((L.1.get B) - 1))) 1) a0.degrees ai h _ (A.Ix 1 rfl) (A.Iw 4 rfl) (A.Iw 0 rfl)) ?_))
          rintro _ h0 ⟨c9,da,rfl,h,e6,e7,e8⟩;refine rt ?_
          replace A:=A.push e8 (mapS da c9) e6 (λb_ V=>by obtain rfl:=Fc.1 V; exact e7)
          refine done ?_
          refine Xc (Js I (by assumption)) I (l9:=(Zc 22 1048575)) (by kernel_rfl) (λI=>?_)
          refine Z5 20 (by decide) (by decide) (by kernel_rfl) (by kernel_rfl) rfl (Zf [.map (some da),Ia,.map (some a4)] _ ZFd rfl rfl rfl (Wn c9 a0.degrees (Yv ([]:List (A8×Int)) aa.1 1) h _ (A.Ix 0 rfl) (A.Iw 4 rfl) (A.Ix 1 rfl)) ?_)
          rintro _ h1 ⟨db,b8,rfl,h,e9,fa,fb⟩;refine rt ?_
          replace A:=A.push fb (mapS b8 db) e9 (λb_ V=>by obtain rfl:=Fc.1 V; exact fa)
          refine Zd (v:=.map (some b8)) rfl (done (Z6 ?_))
          exact⟨rfl,_,rfl,⟨b8,db,(slq rfl),((A.xM [0,6,7,8,9,10] rfl).sP [1,2,3,4,5,6,7] rfl),h⟩⟩
       ·skip;refine So A (kvA .i64) (vvI .i64) λay h2 am ae A=>?_
        have hnb_b13104:=Cj I am;refine done ?_
        refine Xc (Js I (by assumption)) I (l9:=(Zc 22 260082)) (by kernel_rfl) (λI=>?_)
        refine Jp 0 18 rfl rfl (by kernel_rfl) ?_ ?_
        ·skip;refine So A (kvA .i64) (vvI .i64) λba h3 am ae A=>?_
         have hnb_b13107:=Cj I am;refine done ?_
         refine Xc (Js I (by assumption)) I (l9:=(Zc 22 260083)) (by kernel_rfl) (λI=>?_)
         refine Jp 2 18 rfl rfl (by kernel_rfl) ?_ ?_
         ·skip;refine W3 A 0 (O.1.set B (Zwt.wrap ((L.1.get B) - 1))) 1 rfl J4 ZC8 rfl rfl rfl (λh4 U A=>?_) (.inr rfl)
          refine done ?_
          refine Xc (Wt I hnb_b13107 U) I (l9:=(Zc 22 260087)) (by kernel_rfl) (λI=>?_)
          refine bMR (Xf _) 3 (.map (some ba)) rfl ab (Zc 22 260095) ?_
          refine Jp 11 18 rfl rfl (by kernel_rfl) ?_ ?_
          ·skip;refine Zf [.map (some ba),Ia,.map (some al)] _ ZFd rfl rfl rfl (Wn (Yv ([]:List (A8×Int)) (O.1.set B (Zwt.wrap ((L.1.get B) - 1))) 1) a0.degrees ai h _ (A.Ix 0 rfl) (A.Iw 4 rfl) (A.Iw 0 rfl)) ?_
           rintro _ h5 ⟨dc,dd,rfl,h,fc,fd,fe⟩;refine rt ?_
           replace A:=A.push fe (mapS dd dc) fc (λb_ V=>by obtain rfl:=Fc.1 V; exact fd)
           refine done ?_
           refine Xc (Js I (by assumption)) I (l9:=(Zc 22 262143)) (by kernel_rfl) (λI=>?_)
           refine aO 18 rfl ?_
           refine W3 A 2 aa.1 1 rfl J4 ZC8 rfl rfl rfl (λh6 U A=>?_) (.inr rfl)
           refine done ?_
           refine Xc (Wt I hnb_b13104 U) I (l9:=(Zc 22 524287)) (by kernel_rfl) (λI=>?_)
           refine bMR (Xf _) 19 (.map (some ay)) rfl ab (Zc 22 1048575) (Z5 20 (by decide) (by decide) (by kernel_rfl) (by kernel_rfl) rfl (Zf [.map (some dd),Ia,.map (some ay)] _ ZFd rfl rfl rfl (Wn dc a0.degrees (Yv ([]:List (A8×Int)) aa.1 1) h _ (A.Ix 0 rfl) (A.Iw 4 rfl) (A.Ix 2 rfl)) ?_))
           rintro _ h7 ⟨de,b9,rfl,h,ff,fg,fh⟩;refine rt ?_
           replace A:=A.push fh (mapS b9 de) ff (λb_ V=>by obtain rfl:=Fc.1 V; exact fg)
           refine Zd (v:=.map (some b9)) rfl (done (Z6 ?_))
           exact⟨rfl,_,rfl,⟨b9,de,(slq rfl),((A.xM [0,6,7,8,9,10] rfl).sP [1,2,3,4,5,6,7] rfl),h⟩⟩
          ·skip;refine W3 A 1 aa.1 1 rfl J4 ZC8 rfl rfl rfl (λh8 U A=>?_) (.inr rfl)
           refine done ?_
           refine Xc (Wt I hnb_b13104 U) I (l9:=(Zc 22 522239)) (by kernel_rfl) (λI=>?_)
           refine bMR (Xf _) 19 (.map (some ay)) rfl ab (Zc 22 1046527) (aO 11 rfl (Zf [.map (some ba),Ia,.map (some al)] _ ZFd rfl rfl rfl (Wn (Yv ([]:List (A8×Int)) (O.1.set B (Zwt.wrap ((L.1.get B) - 1))) 1) a0.degrees ai h _ (A.Ix 0 rfl) (A.Iw 4 rfl) (A.Iw 0 rfl)) ?_))
           rintro _ h9 ⟨dg,dh,rfl,h,fi,fj,fk⟩;refine rt ?_
           replace A:=A.push fk (mapS dh dg) fi (λb_ V=>by obtain rfl:=Fc.1 V; exact fj)
           refine done ?_
           refine Xc (Js I (by assumption)) I (l9:=(Zc 22 1048575)) (by kernel_rfl) (λI=>?_)
           refine Z5 20 (by decide) (by decide) (by kernel_rfl) (by kernel_rfl) rfl (Zf [.map (some dh),Ia,.map (some ay)] _ ZFd rfl rfl rfl (Wn dg a0.degrees (Yv ([]:List (A8×Int)) aa.1 1) h _ (A.Ix 0 rfl) (A.Iw 4 rfl) (A.Ix 2 rfl)) ?_)
           rintro _ ia ⟨di,ca,rfl,h,fl,fo,fq⟩;refine rt ?_
           replace A:=A.push fq (mapS ca di) fl (λb_ V=>by obtain rfl:=Fc.1 V; exact fo)
           refine Zd (v:=.map (some ca)) rfl (done (Z6 ?_))
           exact⟨rfl,_,rfl,⟨ca,di,(slq rfl),((A.xM [0,6,7,8,9,10] rfl).sP [1,2,3,4,5,6,7] rfl),h⟩⟩
         ·skip;refine W3 A 1 aa.1 1 rfl J4 ZC8 rfl rfl rfl (λib U A=>?_) (.inr rfl)
          refine done ?_
          refine Xc (Wt I hnb_b13104 U) I (l9:=(Zc 22 522227)) (by kernel_rfl) (λI=>?_)
          refine bMR (Xf _) 19 (.map (some ay)) rfl ab (Zc 22 1046515) (aO 2 rfl ?_)
          refine W3 A 0 (O.1.set B (Zwt.wrap ((L.1.get B) - 1))) 1 rfl J4 ZC8 rfl rfl rfl (λic U A=>?_) (.inr rfl)
          refine done ?_
          refine Xc (Wt I hnb_b13107 U) I (l9:=(Zc 22 1046519)) (by kernel_rfl) (λI=>?_)
          refine bMR (Xf _) 3 (.map (some ba)) rfl ab (Zc 22 1046527) (aO 11 rfl (Zf [.map (some ba),Ia,.map (some al)] _ ZFd rfl rfl rfl (Wn (Yv ([]:List (A8×Int)) (O.1.set B (Zwt.wrap ((L.1.get B) - 1))) 1) a0.degrees ai h _ (A.Ix 0 rfl) (A.Iw 4 rfl) (A.Iw 0 rfl)) ?_))
          rintro _ ie ⟨dj,dk,rfl,h,fr,fs,ft⟩;refine rt ?_
          replace A:=A.push ft (mapS dk dj) fr (λb_ V=>by obtain rfl:=Fc.1 V; exact fs)
          refine done ?_
          refine Xc (Js I (by assumption)) I (l9:=(Zc 22 1048575)) (by kernel_rfl) (λI=>?_)
          refine Z5 20 (by decide) (by decide) (by kernel_rfl) (by kernel_rfl) rfl (Zf [.map (some dk),Ia,.map (some ay)] _ ZFd rfl rfl rfl (Wn dj a0.degrees (Yv ([]:List (A8×Int)) aa.1 1) h _ (A.Ix 0 rfl) (A.Iw 4 rfl) (A.Ix 2 rfl)) ?_)
          rintro _ ig ⟨dm,cb,rfl,h,fu,fv,fw⟩;refine rt ?_
          replace A:=A.push fw (mapS cb dm) fu (λb_ V=>by obtain rfl:=Fc.1 V; exact fv)
          refine Zd (v:=.map (some cb)) rfl (done (Z6 ?_))
          exact⟨rfl,_,rfl,⟨cb,dm,(slq rfl),((A.xM [0,6,7,8,9,10] rfl).sP [1,2,3,4,5,6,7] rfl),h⟩⟩
        ·skip;refine W3 A 0 aa.1 1 rfl J4 ZC8 rfl rfl rfl (λih U A=>?_) (.inr rfl)
         refine done ?_
         refine Xc (Wt I hnb_b13104 U) I (l9:=(Zc 22 522226)) (by kernel_rfl) (λI=>?_)
         refine bMR (Xf _) 19 (.map (some ay)) rfl ab (Zc 22 1046514) (aO 0 rfl (So A (kvA .i64) (vvI .i64) λdp ii am ae A=>?_))
         have hnb_b13170:=Cj I am;refine done ?_
         refine Xc (Js I (by assumption)) I (l9:=(Zc 22 1046515)) (by kernel_rfl) (λI=>?_)
         refine aO 2 rfl ?_
         refine W3 A 0 (O.1.set B (Zwt.wrap ((L.1.get B) - 1))) 1 rfl J4 ZC8 rfl rfl rfl (λij U A=>?_) (.inr rfl)
         refine done ?_
         refine Xc (Wt I hnb_b13170 U) I (l9:=(Zc 22 1046519)) (by kernel_rfl) (λI=>?_)
         refine bMR (Xf _) 3 (.map (some dp)) rfl ab (Zc 22 1046527) (aO 11 rfl (Zf [.map (some dp),Ia,.map (some al)] _ ZFd rfl rfl rfl (Wn (Yv ([]:List (A8×Int)) (O.1.set B (Zwt.wrap ((L.1.get B) - 1))) 1) a0.degrees ai h _ (A.Ix 0 rfl) (A.Iw 4 rfl) (A.Iw 0 rfl)) ?_))
         rintro _ il ⟨dq,dr,rfl,h,fx,fy,fz⟩;refine rt ?_
         replace A:=A.push fz (mapS dr dq) fx (λb_ V=>by obtain rfl:=Fc.1 V; exact fy)
         refine done ?_
         refine Xc (Js I (by assumption)) I (l9:=(Zc 22 1048575)) (by kernel_rfl) (λI=>?_)
         refine Z5 20 (by decide) (by decide) (by kernel_rfl) (by kernel_rfl) rfl (Zf [.map (some dr),Ia,.map (some ay)] _ ZFd rfl rfl rfl (Wn dq a0.degrees (Yv ([]:List (A8×Int)) aa.1 1) h _ (A.Ix 0 rfl) (A.Iw 4 rfl) (A.Ix 2 rfl)) ?_)
         rintro _ im ⟨dt,cc,rfl,h,f0,f1,f2⟩;refine rt ?_
         replace A:=A.push f2 (mapS cc dt) f0 (λb_ V=>by obtain rfl:=Fc.1 V; exact f1)
         refine Zd (v:=.map (some cc)) rfl (done (Z6 ?_))
         exact⟨rfl,_,rfl,⟨cc,dt,(slq rfl),((A.xM [0,6,7,8,9,10] rfl).sP [1,2,3,4,5,6,7] rfl),h⟩⟩
     ·skip;exact⟨(slq rfl),A⟩
    ·replace h:=Zk h (cf bb);refine ZCd (Ze (sr (Za (v:=vI (B:Int)) rfl (Za (v:=vI (L.1.get B)) rfl (X0 B ZCw sc3.size rfl rfl (ZCq _) (by omega) (by omega) (Z7 (v:=vI (L.1.get B)) A 0 [vI (L.1.get B)] (ZB6 .i64 (O.1.set B (L.1.get B))) rfl sc3.size rfl rfl rfl rfl rfl ag (ZC3 _ _ _ ag) λio A=>dn (sr (Za (v:=vI (B:Int)) rfl (Za (v:=vQ b0) rfl (Xd rfl (Z0 0 ZCt rfl If.size rfl rfl (U9 (Ia) (A.Iw 5 rfl) If rfl rfl (Zu A 3 rfl ZCs rfl (Zl rfl rfl (Za (v:=.bool (decide ((B:Int) < (a0.degrees.length:Int)))) rfl ?_)))))))))))))))
     refine Xm (decide ((B:Int) < (a0.degrees.length:Int))) (λad=>?_) (λad=>?_)
     ·replace h:=ift h (ct ad);refine Zq 7 87 rfl rfl ad (Za (v:=vQ b0) rfl (Zq 7 87 rfl rfl ad (Xd rfl (Zq 7 87 rfl rfl ad (Z0 0 ZCt rfl If.size rfl rfl (Zq 7 87 rfl rfl ad (U9 (Ia) (A.Iw 5 rfl) If rfl rfl (Zq 7 87 rfl rfl ad (Za (v:=vI (B:Int)) rfl (Zq 7 87 rfl rfl ad ?_))))))))))
      obtain ⟨⟨f9,ga⟩,h⟩:=h;obtain ⟨gh,ip,ce⟩:=Zx (A.Iw 3 rfl) B (show B < a0.degrees.length by omega)
      refine Yn (len:=a0.degrees.length) ZCs sc2.size (tr rfl ce) rfl f9 ga (Zq 7 87 rfl rfl ad (Ye (vI (a0.degrees.getD B Ci)) (Yi (A.Iw 3 rfl) ce B (show B < a0.degrees.length by omega)) sc2 rfl (Zq 7 87 rfl rfl ad (Jf rfl rfl (by decide) (Zq 7 87 rfl rfl ad (X6 rfl rfl (Ya (v:=.bool (decide (Fa (a0.degrees.getD B Ci) 2=1))) (b:=true) (tr rfl (I1 _ ad)) rfl (Za (v:=.bool (decide (Fa (a0.degrees.getD B Ci) 2=1))) rfl ?_))))))))
      refine Xm (decide (Fa (a0.degrees.getD B Ci) 2=1)) (λak=>?_) (λak=>?_)
      ·replace h:=ift h (ct ak);refine Zq 18 98 rfl rfl ak (Za (v:=vI (L.1.get B)) rfl (Zq 18 98 rfl rfl ak (Jf rfl rfl (by decide) (Zq 18 98 rfl rfl ak (X6 rfl rfl (Ya (v:=.bool (decide (Fa (L.1.get B) 2=1))) (b:=true) (tr rfl (I1 _ ak)) rfl (dn ?_)))))))
       refine Zs rfl (λbe=>?_) (λbe=>?_)
       ·replace h:=ift h (ct be);refine Zh (Za (v:=vI O.2.2) rfl (G3 rfl (Zd (v:=vI (Zwt.wrap (0 - O.2.2))) rfl (done (Zr (Ze (Zh (Zm rfl rfl (Za (v:=vI (Zwt.wrap ((B:Int)+1))) rfl (done ?_))))))))))
        exact ap (O.1.set B (L.1.get B),O.2.1,Zwt.wrap (0 - O.2.2)) _ _ ⟨(sl ⟨rfl,rfl,rfl,rfl,rfl,rfl,rfl,rfl,rfl,(tr rfl (I1 _ (Z2 ag (by decide)))),trivial⟩),A⟩ h
       ·replace h:=Zk h (cf be);refine ZCd (Zr (Ze (Zh (Zm rfl rfl (Za (v:=vI (Zwt.wrap ((B:Int)+1))) rfl (done ?_))))))
        exact ap (O.1.set B (L.1.get B),O.2.1,O.2.2) _ _ ⟨(sl ⟨rfl,rfl,rfl,rfl,rfl,rfl,rfl,rfl,rfl,(tr rfl (I1 _ (Z2 ag (by decide)))),trivial⟩),A⟩ h
      ·replace h:=Zk h (cf ak);refine Zp (b:=false) 18 98 rfl (tr rfl (I1 _ ak)) (by decide) (Zp (b:=false) 18 98 rfl (tr rfl (I1 _ ak)) (by decide) (Zp (b:=false) 18 98 rfl (tr rfl (I1 _ ak)) (by decide) (Ya (v:=.bool false) (b:=false) (tr rfl (I1 _ ak)) rfl (dn (Z4 rfl rfl (ZCd (Zr (Ze (Zh (Zm rfl rfl (Za (v:=vI (Zwt.wrap ((B:Int)+1))) rfl (done ?_))))))))))))
       exact ap (O.1.set B (L.1.get B),O.2.1,O.2.2) _ _ ⟨(sl ⟨rfl,rfl,rfl,rfl,rfl,rfl,rfl,rfl,rfl,(tr rfl (I1 _ (Z2 ag (by decide)))),trivial⟩),A⟩ h
     ·replace h:=Zk h (cf ad);refine Zp (b:=false) 7 87 rfl (tr rfl (I1 _ ad)) (by decide) (Zp (b:=false) 7 87 rfl (tr rfl (I1 _ ad)) (by decide) (Zp (b:=false) 7 87 rfl (tr rfl (I1 _ ad)) (by decide) (Zp (b:=false) 7 87 rfl (tr rfl (I1 _ ad)) (by decide) (Zp (b:=false) 7 87 rfl (tr rfl (I1 _ ad)) (by decide) (Zp (b:=false) 7 87 rfl (tr rfl (I1 _ ad)) (by decide) (Zp (b:=false) 7 87 rfl (tr rfl (I1 _ ad)) (by decide) (Zp (b:=false) 7 87 rfl (tr rfl (I1 _ ad)) (by decide) (Zp (b:=false) 7 87 rfl (tr rfl (I1 _ ad)) (by decide) (Ya (v:=.bool false) (b:=false) (tr rfl (I1 _ ad)) rfl (Za (v:=.bool false) rfl (Zp (b:=false) 18 98 rfl (tr rfl (I1 _ rfl)) (by decide) (Zp (b:=false) 18 98 rfl (tr rfl (I1 _ rfl)) (by decide) (Zp (b:=false) 18 98 rfl (tr rfl (I1 _ rfl)) (by decide) (Ya (v:=.bool false) (b:=false) rfl rfl (dn (Z4 rfl rfl (ZCd (Zr (Ze (Zh (Zm rfl rfl (Za (v:=vI (Zwt.wrap ((B:Int)+1))) rfl (done ?_)))))))))))))))))))))))
      exact ap (O.1.set B (L.1.get B),O.2.1,O.2.2) _ _ ⟨(sl ⟨rfl,rfl,rfl,rfl,rfl,rfl,rfl,rfl,rfl,(tr rfl (I1 _ (Z2 ag (by decide)))),trivial⟩),A⟩ h
   ·clear A h;rintro O e_ iq f4 ⟨ar,A⟩ h;rw [ue ar];refine sr (Zl rfl rfl (dn (ZB9 (Z4 rfl (decide_eq_false (by omega)) ?_))))
    refine ZCo (Zi (Zi (Zy ?_)))
    refine Zr ?_
    exact dw L a8 O.2.1 _ _ br ⟨(some az),(slq rfl),(A.xM [2,3,4] rfl)⟩ h
   ·skip;exact⟨(slq rfl),A⟩
 ·skip;exact⟨none,(slq rfl),(A.sP [0,2,3,4,5,6,7] rfl)⟩
def Ks (I:A8) (K:A8->Prop):Prop :=
 Z1 (λA (h:A8) B=>B (h.set A (I.get A))) (λ(h:A8)=>K h) 8 0 ZCe
theorem Zmq (O:A8)  {K:A8->Prop} (h:Ks O K) (w0:World)  :
  Calls ZCc 177 #[.agg (ZB7 (ZB6 .u8 O))] w0 λe w'=>∃ (r0:A8),
   e=.returned (.agg (ZB7 (ZB6 .u8 r0)))/\K r0/\Bel w0 w':=by
 unfold Ks at h
 refine cof Tryz.func177 rfl 15 Tryz.ntmps177 ?_
 have B:=ZCu (X:=Nox) w0 [] (by simp)
 refine sr (Yg (v:=.agg (ZB7 (ZB6 .u8 O))) B (ZB6 .u8 O) rfl rfl λb1 w3 V B=>Yt B (ZB6 .u8 ZCe) Uc rfl λb4 w6 V B=>dn (sr (Yt B (ZB6 .u8 ZCe) Uc rfl λb7 w9 V B=>dn (ZB9 (sr (Zd (v:=vI 0) rfl (dn (ZCf ?_))))))))
 refine Yh (S:=A8) _ _ (λA I e_ w_=>Zt e_ [(1,vQ b1),(2,vQ b4),(3,vQ b7),(4,vI (A:Int))]/\Ctx Nox w0 w_ [blk b7 136 (ZB6 .u8 I),blk b4 136 (ZB6 .u8 ZCe),blk b1 135 (ZB6 .u8 O)] []) 8 ?_ ?_ (s0:=ZCe) ?_ h
 ·clear B h;rintro A I e_ ad ac ab L ⟨U,B⟩ h aa;rw [ue U];refine ZB9 (sr (Za (v:=vI (A:Int)) rfl (Zl rfl rfl (dn (Z8 rfl (decide_eq_true (by omega)) (ZCd (Ze (ZB9 (ZCf (Zh (Za (v:=vI (A:Int)) rfl (Za (v:=vI (A:Int)) rfl (X0 A Tryz.underlying135 sc5.size rfl rfl (ZCq _) (by omega) (by omega) (Yc B 2 (.int .u8 (O.get A)) rfl sc5 rfl (ZCm _ _ L) (X0 A ZCr sc5.size rfl rfl (ZCq _) (by omega) (by omega) (Z7 (v:=.int .u8 (O.get A)) B 0 [.int .u8 (O.get A)] (ZB6 .u8 (I.set A (O.get A))) rfl sc5.size rfl rfl rfl rfl rfl L (ZC3 _ _ _ L) λae B=>done (Zr (Ze (Zh (Za (v:=vI (A:Int)) rfl (Zm rfl rfl (Zd (v:=vI (Zwt.wrap ((A:Int)+1))) rfl (done ?_)))))))))))))))))))))))
  exact aa (I.set A (O.get A)) _ _ ⟨(sl ⟨rfl,rfl,rfl,(tr rfl (I1 _ (Z2 L (by decide)))),trivial⟩),B⟩ h
 ·clear B h;rintro I e_ ag ab ⟨U,B⟩ h;rw [ue U];refine ZB9 (sr (Za (v:=vI 8) rfl (Zl rfl rfl (dn (Z4 rfl (decide_eq_false (by omega)) ?_)))))
  refine ZCo (Zi (Zi (Zy ?_)))
  refine Ze (sr (Yr B 0 (ZB6 .u8 I) rfl ag136 rfl rfl rfl (Z7 (v:=.agg (ZB7 (ZB6 .u8 I))) B 1 (ZB6 .u8 I) (ZB6 .u8 I) rfl ag136.size rfl rfl rfl rfl rfl (ZCh rfl) rfl λah B=>dn (ZCi ?_))))
  exact Zj rfl (Wq B 1 rfl ag136 rfl rfl) ⟨I,rfl,h,B.below⟩ (.inl rfl)
 ·skip;exact⟨(slq rfl),B⟩
def Kt (I:List Int) (K:List Int->Prop):Prop :=
 ((0<=(I.length:Int)/\(I.length:Int) * 8<=281474976710656)/\Z1 (λh (A:(List Int)) B=>((0<=(h:Int)/\(h:Int) < (A.length:Int))/\B (A.set h (I.getD h Ci)))) (λ(A:(List Int))=>K A) I.length 0 (Cd ((I.length:Int).toNat) (0:Int)))
theorem Zmr (a0:List Int)  {K:List Int->Prop} (h:Kt a0 K) (w0:World) (q0:ZFf.rep a0 [Ia] Ib w0) :
  Calls ZCc 41 #[Ia] w0 λe w'=>∃ (r0:List Int) (Ih:Value) (ab:List Nat),
   e=.returned (Ih)/\K r0/\(ZCn (Tr.sl 2 (eI.tr)) r0 [Ih] ab).holds w'/\(∀ b,b∈ab->w0.heap.size<=b)/\Bel w0 w':=by
 unfold Kt at h
 refine cof Tryz.func41 rfl 22 Tryz.ntmps41 ?_
 have B:=ZCu (X:=Nox) w0 [ZB8 TInts a0 [Ia] Ib] (al1 q0);refine sr (Zd (v:=.slice none 0 0) rfl (dn (sr (Za (v:=Ia) rfl (Zu B 0 rfl ZCs rfl ?_)))))
 obtain ⟨al,h⟩:=h;refine Uu (sz:=1) B (eI.encs (Cd ((a0.length:Int).toNat) (0:Int))) ZCs el2 (tr rfl (I1 (ZFk .i64) (ZFl al.1).symm)) (tr rfl (I1 (ZFk .i64) (ZFl al.1).symm)) (by omega) (by omega) (V9 (E:=eI) _ _) λv5 w6 am B=>?_
 replace B:=Y7 B 0 ((Cd ((a0.length:Int).toNat) (0:Int)).length) (eI.encs (Cd ((a0.length:Int).toNat) (0:Int))) rfl (by simp) rfl
 refine Zd (v:=v5) rfl (dn (ZB9 (sr (Zd (v:=vI 0) rfl (dn (ZCf ?_))))))
 have ac:a0.length<=9223372036854775807:=Yz (B.Iw 0 rfl);refine Yh (S:=(List Int)) _ _ (λA I e_ w_=>∃ (L:Value),Zt e_ [(0,Ia),(3,L),(4,vI (A:Int))]/\Ctx Nox w0 w_ [own 2 1 L I.length (eI.encs I)] [ZB8 TInts a0 [Ia] Ib]) a0.length ?_ ?_ (s0:=(Cd ((a0.length:Int).toNat) (0:Int))) ?_ h
 ·clear B h;rintro A I e_ an ai ae O ⟨L,U,B⟩ h ad;rw [ue U];refine ZB9 (sr (Za (v:=vI (A:Int)) rfl (Za (v:=Ia) rfl (Zu B 0 rfl ZCs rfl (Zl rfl rfl (dn (Z8 rfl (decide_eq_true (by omega)) (ZCd (Ze (ZB9 (ZCf (Zh (Za (v:=L) rfl (Za (v:=vI (A:Int)) rfl (Za (v:=Ia) rfl (Za (v:=vI (A:Int)) rfl ?_))))))))))))))))
  obtain ⟨aj,ao,V⟩:=Zx (B.Iw 0 rfl) A O;refine Yn (len:=a0.length) ZCs sc2.size (tr rfl V) rfl (ZCq _) (ZC9.2 O) (Ye (vI (a0.getD A Ci)) (Yi (B.Iw 0 rfl) V A O) sc2 rfl ?_)
  obtain ⟨⟨ag,ah⟩,h⟩:=h;obtain ⟨ak,ap,aa⟩:=Xx (B.Ix 0 rfl) (ZFu (Fq _) (show A < I.length by omega))
  refine X4 (A * 1) ZCs sc2.size (tr rfl aa) rfl ag ah rfl (U6 (v:=vI (a0.getD A Ci)) B 0 [vI (a0.getD A Ci)] (eI.encs (I.set A (a0.getD A Ci))) rfl aa sc2.size rfl rfl rfl rfl rfl (by rw [Enc.encs_len]; exact W8 (sz:=1) (show A < I.length by omega)) (U7 _ _ _ (show A < I.length by omega)) λaq B=>?_)
  replace B:=Y7 B 0 ((I.set A (a0.getD A Ci)).length) (eI.encs (I.set A (a0.getD A Ci))) rfl (by simp) rfl
  refine done (Zr (Ze (Zh (Za (v:=vI (A:Int)) rfl (Zm rfl rfl (Zd (v:=vI (Zwt.wrap ((A:Int)+1))) rfl (done ?_)))))))
  exact ad (I.set A (a0.getD A Ci)) _ _ ⟨L,(sl ⟨rfl,rfl,(tr rfl (I1 _ (Z2 O ac))),trivial⟩),B⟩ h
 ·clear B h;rintro I e_ ar ae ⟨L,U,B⟩ h;rw [ue U];refine ZB9 (sr (Za (v:=vI (a0.length:Int)) rfl (Za (v:=Ia) rfl (Zu B 0 rfl ZCs rfl (Zl rfl rfl (dn (Z4 rfl (decide_eq_false (by omega)) ?_)))))))
  refine ZCo (Zi (Zi (Zy ?_)))
  refine Ze (sr (Za (v:=L) rfl (Zd (v:=L) rfl (dn (ZCi ?_)))))
  exact Zj rfl (Zg rfl) ⟨I,L,(ZDa (Fe L)),rfl,h,(Xi (B.Ix 0 rfl)),(Xg B 0 rfl),B.below⟩ (.inl rfl)
 ·skip;exact⟨v5,(slq rfl),B⟩
def Ku (I:A8) (L:A8) (K:Bool->Prop):Prop :=
 Z1 (λh (B:Unit) A=>(if I.get h≠L.get h then K false else A ())) (λ(B:Unit)=>K true) 8 0 ()
theorem Zms (V:A8) (a1:A8)  {K:Bool->Prop} (h:Ku V a1 K) (w0:World)  :
  Calls ZCc 188 #[.agg (ZB7 (ZB6 .u8 V)),.agg (ZB7 (ZB6 .u8 a1))] w0 λe w'=>∃ (r0:Bool),
   e=.returned (.bool r0)/\K r0/\Bel w0 w':=by
 unfold Ku at h
 refine cof Tryz.func188 rfl 17 Tryz.ntmps188 ?_
 have B:=ZCu (X:=Nox) w0 [] (by simp)
 refine sr (Yg (v:=.agg (ZB7 (ZB6 .u8 V))) B (ZB6 .u8 V) rfl rfl λb1 w3 I B=>Yg (v:=.agg (ZB7 (ZB6 .u8 a1))) B (ZB6 .u8 a1) rfl rfl λb4 w6 I B=>Zd (v:=.bool false) rfl (dn (ZB9 (sr (Zd (v:=vI 0) rfl (dn (ZCf ?_)))))))
 refine Yh (S:=Unit) _ _ (λA ac e_ w_=>Zt e_ [(2,vQ b1),(3,vQ b4),(5,vI (A:Int))]/\Ctx Nox w0 w_ [blk b4 136 (ZB6 .u8 a1),blk b1 136 (ZB6 .u8 V)] []) 8 ?_ ?_ (s0:=()) ?_ h
 ·clear B h;rintro A ac e_ ah ag ae O ⟨aa,B⟩ h ad;rw [ue aa];refine ZB9 (sr (Za (v:=vI (A:Int)) rfl (Zl rfl rfl (dn (Z8 rfl (decide_eq_true (by omega)) (ZCd (Ze (ZB9 (ZCf (ZB9 ?_))))))))))
  refine cwd 6 Ym [0,1,3,0,8,24,63] [1,2,4,5] [0,3] (λL ab ai I=>?_)
  replace B:=B.Iy I;refine bM 0 (vI (A:Int)) rfl ab (Zc 7 1) (bL 1 (.pointer (some ⟨b1,A,none⟩)) rfl rfl L (λ_ I=>by exact Wv A ZCr sc5.size rfl rfl (ZCq _) (by omega) (by omega)) (Zc 7 3) (bL 2 (.int .u8 (V.get A)) rfl rfl L (λ_ I=>by exact Yj (B.Iy I) 1 (.int .u8 (V.get A)) rfl sc5 rfl (ZCm _ _ O)) (Zc 7 7) (bM 3 (vI (A:Int)) rfl ab (Zc 7 15) (bL 4 (.pointer (some ⟨b4,A,none⟩)) rfl rfl L (λ_ I=>by exact Wv A ZCr sc5.size rfl rfl (ZCq _) (by omega) (by omega)) (Zc 7 31) (bL 5 (.int .u8 (a1.get A)) rfl rfl L (λ_ I=>by exact Yj (B.Iy I) 0 (.int .u8 (a1.get A)) rfl sc5 rfl (ZCm _ _ O)) (Zc 7 63) (Z5 6 (by decide) (by decide) (by kernel_rfl) (by kernel_rfl) rfl (Xl rfl rfl (done (Z6 (Ze ?_))))))))))
  refine Zs rfl (λU=>?_) (λU=>?_)
  ·replace h:=ift h (ct U);refine sr (Zd (v:=.bool false) rfl (dn ?_))
   refine ZCi (Z9 (Zn (Zn (Z9 (Zn ?_)))))
   exact Zj rfl (Zg rfl) ⟨false,rfl,h,B.below⟩ (.inl rfl)
  ·replace h:=Zk h (cf U);refine ZCd (Zr (Ze (Zh (Za (v:=vI (A:Int)) rfl (Zm rfl rfl (Zd (v:=vI (Zwt.wrap ((A:Int)+1))) rfl (done ?_)))))))
   exact ad () _ _ ⟨(sl ⟨rfl,rfl,(tr rfl (I1 _ (Z2 O (by decide)))),trivial⟩),B⟩ h
 ·clear B h;rintro ac e_ aj ae ⟨aa,B⟩ h;rw [ue aa];refine ZB9 (sr (Za (v:=vI 8) rfl (Zl rfl rfl (dn (Z4 rfl (decide_eq_false (by omega)) ?_)))))
  refine ZCo (Zi (Zi (Zy ?_)))
  refine Ze (sr (Zd (v:=.bool true) rfl (dn (ZCi ?_))))
  exact Zj rfl (Zg rfl) ⟨true,rfl,h,B.below⟩ (.inl rfl)
 ·skip;exact⟨(slq rfl),B⟩
def Kv (I:List Int) (L:List Int) (K:Bool->Prop):Prop :=
 (if(I.length:Int)≠(L.length:Int) then K false else Z1 (λh (B:Unit) A=>((0<=(h:Int)/\(h:Int) < (L.length:Int))/\(if I.getD h Ci≠L.getD h Ci then K false else A ()))) (λ(B:Unit)=>K true) I.length 0 ())
theorem Zmt (a0:List Int) (a1:List Int)  {K:Bool->Prop} (h:Kv a0 a1 K) (w0:World) (q0:ZFf.rep a0 [Ia] Ib w0) (q1:ZFf.rep a1 [Ie] Ig w0) :
  Calls ZCc 25 #[Ia,Ie] w0 λe w'=>∃ (r0:Bool),
   e=.returned (.bool r0)/\K r0/\Bel w0 w':=by
 unfold Kv at h
 refine cof Tryz.func25 rfl 26 Tryz.ntmps25 ?_
 have B:=ZCu (X:=Nox) w0 [ZB8 TInts a0 [Ia] Ib,ZB8 TInts a1 [Ie] Ig] (alc q0 (al1 q1));refine sr (Zd (v:=.bool false) rfl (dn (ZB9 (sr (Za (v:=Ia) rfl (Zu B 0 rfl ZCs rfl (Za (v:=Ie) rfl (Zu B 1 rfl ZCs rfl (Xl rfl rfl (dn ?_))))))))))
 refine Zs rfl (λaa=>?_) (λaa=>?_)
 ·replace h:=ift h (ct aa);refine sr (Zd (v:=.bool false) rfl (dn ?_))
  refine ZCi (Zn ?_)
  exact Zj rfl (Zg rfl) ⟨false,rfl,h,B.below⟩ (.inl rfl)
 ·replace h:=Zk h (cf aa);refine ZCd (Ze (ZB9 (sr (Zd (v:=vI 0) rfl (dn (ZCf ?_))))))
  have ag:a0.length<=9223372036854775807:=Yz (B.Iw 0 rfl);refine Yh (S:=Unit) _ _ (λA ae e_ w_=>Zt e_ [(0,Ia),(1,Ie),(5,vI (A:Int))]/\Ctx Nox w0 w_ [] [ZB8 TInts a0 [Ia] Ib,ZB8 TInts a1 [Ie] Ig]) a0.length ?_ ?_ (s0:=()) ?_ h
  ·clear B h;rintro A ae e_ ao an ak L ⟨ab,B⟩ h ah;rw [ue ab];refine ZB9 (sr (Za (v:=vI (A:Int)) rfl (Za (v:=Ia) rfl (Zu B 0 rfl ZCs rfl (Zl rfl rfl (dn (Z8 rfl (decide_eq_true (by omega)) (ZCd (Ze (ZB9 (ZCf (ZB9 ?_))))))))))))
   refine cwd 8 Ym [0,0,3,7,0,0,48,112,255] [2,3,6,7] [0,1,4,5] (λO U ap I=>?_)
   replace B:=B.Iy I;refine bM 0 (Ia) rfl U (Zc 9 1) (bM 1 (vI (A:Int)) rfl U (Zc 9 3) ?_)
   obtain ⟨ai,aq,ac⟩:=Zx (B.Iw 0 rfl) A L;refine bL 2 (.pointer (some (ai.add (A * 1)))) rfl rfl O (λ_ I=>by exact Y3 (len:=a0.length) ZCs sc2.size (by exact tr rfl ac) rfl (ZCq _) (ZC9.2 L)) (Zc 9 7) (bL 3 (vI (a0.getD A Ci)) rfl rfl O (λ_ I=>by exact Xp (vI (a0.getD A Ci)) (Yi ((B.Iy I).Iw 0 rfl) ac A L) sc2 rfl) (Zc 9 15) (bM 4 (Ie) rfl U (Zc 9 31) (bM 5 (vI (A:Int)) rfl U (Zc 9 63) ?_)))
   obtain ⟨⟨al,am⟩,h⟩:=h;obtain ⟨aj,ar,ad⟩:=Zx (B.Iw 1 rfl) A (show A < a1.length by omega)
   refine bL 6 (.pointer (some (aj.add (A * 1)))) rfl rfl O (λ_ I=>by exact Y3 (len:=a1.length) ZCs sc2.size (by exact tr rfl ad) rfl al am) (Zc 9 127) (bL 7 (vI (a1.getD A Ci)) rfl rfl O (λ_ I=>by exact Xp (vI (a1.getD A Ci)) (Yi ((B.Iy I).Iw 1 rfl) ad A (show A < a1.length by omega)) sc2 rfl) (Zc 9 255) (Z5 8 (by decide) (by decide) (by kernel_rfl) (by kernel_rfl) rfl (Xl rfl rfl (done (Z6 (Ze ?_))))))
   refine Zs rfl (λV=>?_) (λV=>?_)
   ·replace h:=ift h (ct V);refine sr (Zd (v:=.bool false) rfl (dn ?_))
    refine ZCi (Z9 (Zn (Zn (Z9 (Zn ?_)))))
    exact Zj rfl (Zg rfl) ⟨false,rfl,h,B.below⟩ (.inl rfl)
   ·replace h:=Zk h (cf V);refine ZCd (Zr (Ze (Zh (Za (v:=vI (A:Int)) rfl (Zm rfl rfl (Zd (v:=vI (Zwt.wrap ((A:Int)+1))) rfl (done ?_)))))))
    exact ah () _ _ ⟨(sl ⟨rfl,rfl,(tr rfl (I1 _ (Z2 L ag))),trivial⟩),B⟩ h
  ·clear B h;rintro ae e_ au ak ⟨ab,B⟩ h;rw [ue ab];refine ZB9 (sr (Za (v:=vI (a0.length:Int)) rfl (Za (v:=Ia) rfl (Zu B 0 rfl ZCs rfl (Zl rfl rfl (dn (Z4 rfl (decide_eq_false (by omega)) ?_)))))))
   refine ZCo (Zi (Zi (Zy ?_)))
   refine Ze (sr (Zd (v:=.bool true) rfl (dn (ZCi ?_))))
   exact Zj rfl (Zg rfl) ⟨true,rfl,h,B.below⟩ (.inl rfl)
  ·skip;exact⟨(slq rfl),B⟩
def Kw (A:Term) (K:Term->Prop):Prop :=
 Ks A.mono (λh=>K (⟨h,A.factor⟩:Term))
theorem Zmu (I:Term)  {K:Term->Prop} (h:Kw I K) (w0:World)  :
  Calls ZCc 130 #[.agg (ZB7 (ZCk I))] w0 λe w'=>∃ (U:Term),
   e=.returned (.agg (ZB7 (ZCk U)))/\K U/\Bel w0 w':=by
 unfold Kw at h
 refine cof Tryz.func130 rfl 12 Tryz.ntmps130 ?_
 have A:=ZCu (X:=Nox) w0 [] (by simp)
 refine sr (Yg (v:=.agg (ZB7 (ZCk I))) A (ZCk I) rfl rfl λb1 w3 L A=>Yt A (ZCk (⟨ZCe,0⟩:Term)) Mk rfl λb4 w6 L A=>dn (sr (Yt A (ZCk (⟨ZCe,0⟩:Term)) Mk rfl λb7 w9 L A=>dn (sr (Z0 0 Tryz.underlying170 rfl ag135.size rfl rfl (Yr A 2 (ZB6 .u8 I.mono) rfl ag135 rfl rfl rfl (Zf [.agg (ZB7 (ZB6 .u8 I.mono))] _ Tryz.func177 rfl rfl rfl (Zmq I.mono h _) ?_)))))))
 rintro _ V ⟨B,rfl,h,O⟩;refine rt ?_
 replace A:=A.Iy O;refine Z0 0 ZCp rfl ag136.size rfl rfl (Z7 (v:=.agg (ZB7 (ZB6 .u8 B))) A 0 (ZB6 .u8 B) (ZCk (⟨B,0⟩:Term)) rfl ag136.size rfl rfl rfl rfl rfl (ZCh rfl) rfl λaa A=>dn (sr (Z0 8 Tryz.underlying170 rfl sc2.size rfl rfl (Yc A 2 (vI I.factor) rfl sc2 rfl rfl (Z0 8 ZCp rfl sc2.size rfl rfl (Z7 (v:=vI I.factor) A 0 [vI I.factor] (ZCk (⟨B,I.factor⟩:Term)) rfl sc2.size rfl rfl rfl rfl rfl (ZCh rfl) rfl λab A=>dn (sr (Yr A 0 (ZCk (⟨B,I.factor⟩:Term)) rfl ag162 rfl rfl rfl (Z7 (v:=.agg (ZB7 (ZCk (⟨B,I.factor⟩:Term)))) A 1 (ZCk (⟨B,I.factor⟩:Term)) (ZCk (⟨B,I.factor⟩:Term)) rfl ag162.size rfl rfl rfl rfl rfl (ZCh rfl) rfl λac A=>dn (ZCi ?_))))))))))
 exact Zj rfl (Wq A 1 rfl ag162 rfl rfl) ⟨(⟨B,I.factor⟩:Term),rfl,h,A.below⟩ (.inl rfl)
def Kx (L:List Term) (K:List Term->Prop):Prop :=
 ((0<=(L.length:Int)/\(L.length:Int) * 16<=281474976710656)/\Z1 (λh (A:(List Term)) B=>Kw (L.getD h Ci) (λI=>((0<=(h:Int)/\(h:Int) < (A.length:Int))/\B (A.set h I)))) (λ(A:(List Term))=>K A) L.length 0 (Cd ((L.length:Int).toNat) ((⟨ZCe,0⟩:Term):Term)))
theorem Zmv (a0:List Term)  {K:List Term->Prop} (h:Kx a0 K) (w0:World) (q0:ZCa.ty.sl.rep a0 [Ia] Ib w0) :
  Calls ZCc 74 #[Ia] w0 λe w'=>∃ (r0:List Term) (Ih:Value) (ac:List Nat),
   e=.returned (Ih)/\K r0/\(ZCn (Tr.sl 162 ZCa.tr) r0 [Ih] ac).holds w'/\(∀ b,b∈ac->w0.heap.size<=b)/\Bel w0 w':=by
 unfold Kx at h
 refine cof Tryz.func74 rfl 23 Tryz.ntmps74 ?_
 have B:=ZCu (X:=Nox) w0 [ZB8 ZCa.ty.sl a0 [Ia] Ib] (al1 q0);refine sr (Zd (v:=.slice none 0 0) rfl (dn (sr (Za (v:=Ia) rfl (Zu B 0 rfl ZFm rfl ?_)))))
 obtain ⟨an,h⟩:=h;refine Uu (sz:=9) B (ZCa.encs (Cd ((a0.length:Int).toNat) ((⟨ZCe,0⟩:Term):Term))) ZCj Mj (tr rfl (I1 (ZFk .i64) (ZFl an.1).symm)) (tr rfl (I1 (ZFk .i64) (ZFl an.1).symm)) (by omega) (by omega) (V9 (E:=ETerm) _ _) λv5 w6 ao B=>?_
 replace B:=Y7 B 0 ((Cd ((a0.length:Int).toNat) ((⟨ZCe,0⟩:Term):Term)).length) (ZCa.encs (Cd ((a0.length:Int).toNat) ((⟨ZCe,0⟩:Term):Term))) rfl (by simp) rfl
 refine Zd (v:=v5) rfl (dn (ZB9 (sr (Zd (v:=vI 0) rfl (dn (ZCf ?_))))))
 have ad:a0.length<=9223372036854775807:=Yz (B.Iw 0 rfl);refine Yh (S:=(List Term)) _ _ (λA I e_ w_=>∃ (L:Value),Zt e_ [(0,Ia),(3,L),(4,vI (A:Int))]/\Ctx Nox w0 w_ [own 162 9 L I.length (ZCa.encs I)] [ZB8 ZCa.ty.sl a0 [Ia] Ib]) a0.length ?_ ?_ (s0:=(Cd ((a0.length:Int).toNat) ((⟨ZCe,0⟩:Term):Term))) ?_ h
 ·clear B h;rintro A I e_ ap ak ah U ⟨L,V,B⟩ h ae;rw [ue V];refine ZB9 (sr (Za (v:=vI (A:Int)) rfl (Za (v:=Ia) rfl (Zu B 0 rfl ZFm rfl (Zl rfl rfl (dn (Z8 rfl (decide_eq_true (by omega)) (ZCd (Ze (ZB9 (ZCf (Zh (Za (v:=L) rfl (Za (v:=vI (A:Int)) rfl (Za (v:=Ia) rfl (Za (v:=vI (A:Int)) rfl ?_))))))))))))))))
  obtain ⟨al,aq,aa⟩:=Zx (B.Iw 0 rfl) A U;refine Yn (len:=a0.length) ZFm ag170.size (tr rfl aa) rfl (ZCq _) (ZC9.2 U) (Ji (ZCk (a0.getD A Ci)) (Yi (B.Iw 0 rfl) aa A U) ag170 rfl rfl (Zf [.agg (ZB7 (ZCk (a0.getD A Ci)))] _ Tryz.func130 rfl rfl rfl (Zmu (a0.getD A Ci) h _) ?_))
  rintro _ ar ⟨O,rfl,h,ag⟩;refine rt ?_
  replace B:=B.Iy ag;obtain ⟨⟨ai,aj⟩,h⟩:=h;obtain ⟨am,au,ab⟩:=Xx (B.Ix 0 rfl) (ZFu (Fq _) (show A < I.length by omega))
  refine X4 (A * 9) ZCj ag162.size (tr rfl ab) rfl ai aj rfl (U6 (v:=.agg (ZB7 (ZCk O))) B 0 (ZCk O) (ZCa.encs (I.set A O)) rfl ab ag162.size rfl rfl rfl rfl rfl (by rw [Enc.encs_len]; exact W8 (sz:=9) (show A < I.length by omega)) (U7 _ _ _ (show A < I.length by omega)) λav B=>?_)
  replace B:=Y7 B 0 ((I.set A O).length) (ZCa.encs (I.set A O)) rfl (by simp) rfl
  refine done (Zr (Ze (Zh (Za (v:=vI (A:Int)) rfl (Zm rfl rfl (Zd (v:=vI (Zwt.wrap ((A:Int)+1))) rfl (done ?_)))))))
  exact ae (I.set A O) _ _ ⟨L,(sl ⟨rfl,rfl,(tr rfl (I1 _ (Z2 U ad))),trivial⟩),B⟩ h
 ·clear B h;rintro I e_ aw ah ⟨L,V,B⟩ h;rw [ue V];refine ZB9 (sr (Za (v:=vI (a0.length:Int)) rfl (Za (v:=Ia) rfl (Zu B 0 rfl ZFm rfl (Zl rfl rfl (dn (Z4 rfl (decide_eq_false (by omega)) ?_)))))))
  refine ZCo (Zi (Zi (Zy ?_)))
  refine Ze (sr (Za (v:=L) rfl (Zd (v:=L) rfl (dn (ZCi ?_)))))
  exact Zj rfl (Zg rfl) ⟨I,L,(ZDa (Fe L)),rfl,h,(Xi (B.Ix 0 rfl)),(Xg B 0 rfl),B.below⟩ (.inl rfl)
 ·skip;exact⟨v5,(slq rfl),B⟩
def Ky (A:ZCb) (K:ZCb->Prop):Prop :=
 Kx A.terms (λh=>K (⟨h⟩:ZCb))
theorem Zmw (U:ZCb)  {K:ZCb->Prop} (h:Ky U K) (w0:World) (q0:ZCv.rep U [Ia] Ib w0) :
  Calls ZCc 30 #[.agg #[Ia]] w0 λe w'=>∃ (r0:ZCb) (Ih:Value) (L:List Nat),
   e=.returned (.agg #[Ih])/\K r0/\(ZCn (Y0 162) r0 [Ih] L).holds w'/\(∀ b,b∈L->w0.heap.size<=b)/\Bel w0 w':=by
 unfold Ky at h
 refine cof Tryz.func30 rfl 9 Tryz.ntmps30 ?_
 have A:=ZCu (X:=Nox) w0 [ZB8 TForm U [Ia] Ib] (al1 q0);have ae:=(A.Iw 0 rfl);replace A:=A.I0 0 rfl (ZB8 ZCa.ty.sl U.terms [Ia] Ib) (λ_=>(Xq ae)) (λ_ ag=>ag)
 refine sr (Yg (v:=.agg #[Ia]) A [Ia] rfl rfl λb4 w6 O A=>Yt A [.slice none 0 0] z55 rfl λb7 w9 O A=>dn (sr (Yt A [.slice none 0 0] z55 rfl λai aj O A=>dn (sr (Z0 0 ZFv rfl sc48.size rfl rfl (Yc A 2 (Ia) rfl sc48 rfl rfl (Zf [Ia] _ Tryz.func74 rfl rfl rfl (Zmv U.terms h _ (A.Iw 0 rfl)) ?_)))))))
 rintro _ ak ⟨I,B,ah,rfl,h,V,aa,ab⟩;refine rt ?_
 replace A:=A.push ab (ZCn (Tr.sl 162 ZCa.tr) I [B] ah) V aa;obtain ⟨ac,ad⟩:=Yx (A.Ix 0 rfl).1;subst ad;replace A:=A.Iz (c:=own 162 9 B I.length (ZCa.encs I)) (λ_ h_=>h_) (λ_=>ac)
 refine Z0 0 ZCg rfl Ii.size rfl rfl (Z7 (v:=B) A 1 [B] [B] rfl Ii.size rfl rfl (Uw (A.Ix 0 rfl)) rfl (Xy (Jc (A.Ix 0 rfl)) rfl) (ZCh rfl) rfl λal A=>dn (sr (Yr A 1 [B] rfl ag55 rfl rfl rfl (Z7 (v:=.agg #[B]) A 2 [B] [B] rfl ag55.size rfl rfl rfl rfl (Xy (Jc (A.Ix 0 rfl)) rfl) (ZCh rfl) rfl λam A=>dn (ZCi ?_)))))
 exact Zj rfl (Wq A 2 rfl ag55 rfl rfl) ⟨(⟨I⟩:ZCb),B,(ZDa (Fe B)),rfl,h,(Tb (Xi (A.Ix 0 rfl))),(Xg A 0 rfl),A.below⟩ (.inl rfl)
def Kz (A:Term) (B:Term) (K:Bool->Prop):Prop :=
 Ku A.mono B.mono (λh=>(if¬ (h=true) then K false else(if A.factor≠B.factor then K false else K true)))
theorem Zmx (L:Term) (O:Term)  {K:Bool->Prop} (h:Kz L O K) (w0:World)  :
  Calls ZCc 144 #[.agg (ZB7 (ZCk L)),.agg (ZB7 (ZCk O))] w0 λe w'=>∃ (V:Bool),
   e=.returned (.bool V)/\K V/\Bel w0 w':=by
 unfold Kz at h
 refine cof Tryz.func144 rfl 16 Tryz.ntmps144 ?_
 have A:=ZCu (X:=Nox) w0 [] (by simp)
 refine sr (Yg (v:=.agg (ZB7 (ZCk L))) A (ZCk L) rfl rfl λb1 w3 aa A=>Yg (v:=.agg (ZB7 (ZCk O))) A (ZCk O) rfl rfl λb4 w6 aa A=>Zd (v:=.bool false) rfl (dn (ZB9 (sr (Z0 0 ZCp rfl ag136.size rfl rfl (Yr A 1 (ZB6 .u8 L.mono) rfl ag136 rfl rfl rfl (Z0 0 ZCp rfl ag136.size rfl rfl (Yr A 0 (ZB6 .u8 O.mono) rfl ag136 rfl rfl rfl (Zf [.agg (ZB7 (ZB6 .u8 L.mono)),.agg (ZB7 (ZB6 .u8 O.mono))] _ Tryz.func188 rfl rfl rfl (Zms L.mono O.mono h _) ?_)))))))))
 rintro _ w9 ⟨ab,rfl,h,U⟩;refine rt ?_
 replace A:=A.Iy U;refine Xo rfl (dn ?_)
 refine Zs rfl (λB=>?_) (λB=>?_)
 ·replace h:=ift h (Xe (X1 B));refine sr (Zd (v:=.bool false) rfl (dn ?_))
  refine ZCi (Zn ?_)
  exact Zj rfl (Zg rfl) ⟨false,rfl,h,A.below⟩ (.inl rfl)
 ·replace h:=Zk h (not_not_intro ((X2 B)));refine ZCd (Ze (ZB9 (sr (Z0 8 ZCp rfl sc2.size rfl rfl (Yc A 1 (vI L.factor) rfl sc2 rfl rfl (Z0 8 ZCp rfl sc2.size rfl rfl (Yc A 0 (vI O.factor) rfl sc2 rfl rfl (Xl rfl rfl (dn ?_)))))))))
  refine Zs rfl (λI=>?_) (λI=>?_)
  ·replace h:=ift h (ct I);refine sr (Zd (v:=.bool false) rfl (dn ?_))
   refine ZCi (Zn ?_)
   exact Zj rfl (Zg rfl) ⟨false,rfl,h,A.below⟩ (.inl rfl)
  ·replace h:=Zk h (cf I);refine ZCd (Ze (sr (Zd (v:=.bool true) rfl (dn (ZCi ?_)))))
   exact Zj rfl (Zg rfl) ⟨true,rfl,h,A.below⟩ (.inl rfl)
def Ev (L:List Term) (O:List Term) (K:Bool->Prop):Prop :=
 (if(L.length:Int)≠(O.length:Int) then K false else Z1 (λh (B:Unit) A=>((0<=(h:Int)/\(h:Int) < (O.length:Int))/\Kz (L.getD h Ci) (O.getD h Ci) (λI=>(if¬ (I=true) then K false else A ())))) (λ(B:Unit)=>K true) L.length 0 ())
theorem Zmy (a0:List Term) (a1:List Term)  {K:Bool->Prop} (h:Ev a0 a1 K) (w0:World) (q0:ZCa.ty.sl.rep a0 [Ia] Ib w0) (q1:ZCa.ty.sl.rep a1 [Ie] Ig w0) :
  Calls ZCc 87 #[Ia,Ie] w0 λe w'=>∃ (r0:Bool),
   e=.returned (.bool r0)/\K r0/\Bel w0 w':=by
 unfold Ev at h
 refine cof Tryz.func87 rfl 27 Tryz.ntmps87 ?_
 have B:=ZCu (X:=Nox) w0 [ZB8 ZCa.ty.sl a0 [Ia] Ib,ZB8 ZCa.ty.sl a1 [Ie] Ig] (alc q0 (al1 q1));refine sr (Zd (v:=.bool false) rfl (dn (ZB9 (sr (Za (v:=Ia) rfl (Zu B 0 rfl ZCj rfl (Za (v:=Ie) rfl (Zu B 1 rfl ZCj rfl (Xl rfl rfl (dn ?_))))))))))
 refine Zs rfl (λaa=>?_) (λaa=>?_)
 ·replace h:=ift h (ct aa);refine sr (Zd (v:=.bool false) rfl (dn ?_))
  refine ZCi (Zn ?_)
  exact Zj rfl (Zg rfl) ⟨false,rfl,h,B.below⟩ (.inl rfl)
 ·replace h:=Zk h (cf aa);refine ZCd (Ze (ZB9 (sr (Zd (v:=vI 0) rfl (dn (ZCf ?_))))))
  have ag:a0.length<=9223372036854775807:=Yz (B.Iw 0 rfl);refine Yh (S:=Unit) _ _ (λA ae e_ w_=>Zt e_ [(0,Ia),(1,Ie),(5,vI (A:Int))]/\Ctx Nox w0 w_ [] [ZB8 ZCa.ty.sl a0 [Ia] Ib,ZB8 ZCa.ty.sl a1 [Ie] Ig]) a0.length ?_ ?_ (s0:=()) ?_ h
  ·clear B h;rintro A ae e_ ap ao al L ⟨ab,B⟩ h ah;rw [ue ab];refine ZB9 (sr (Za (v:=vI (A:Int)) rfl (Za (v:=Ia) rfl (Zu B 0 rfl ZCj rfl (Zl rfl rfl (dn (Z8 rfl (decide_eq_true (by omega)) (ZCd (Ze (ZB9 (ZCf (ZB9 ?_))))))))))))
   refine cwd 8 Ym [0,0,3,7,0,0,48,112,255,511] [2,3,6,7] [0,1,4,5] (λO U aq I=>?_)
   replace B:=B.Iy I;refine bM 0 (Ia) rfl U (Zc 10 1) (bM 1 (vI (A:Int)) rfl U (Zc 10 3) ?_)
   obtain ⟨ai,ar,ac⟩:=Zx (B.Iw 0 rfl) A L;refine bL 2 (.pointer (some (ai.add (A * 9)))) rfl rfl O (λ_ I=>by exact Y3 (len:=a0.length) ZCj ag162.size (by exact tr rfl ac) rfl (ZCq _) (ZC9.2 L)) (Zc 10 7) (bL 3 (.agg (ZB7 (ZCk (a0.getD A Ci)))) rfl rfl O (λ_ I=>by exact Jq (ZCk (a0.getD A Ci)) (Yi ((B.Iy I).Iw 0 rfl) ac A L) ag162 rfl rfl) (Zc 10 15) (bM 4 (Ie) rfl U (Zc 10 31) (bM 5 (vI (A:Int)) rfl U (Zc 10 63) ?_)))
   obtain ⟨⟨am,an⟩,h⟩:=h;obtain ⟨aj,au,ad⟩:=Zx (B.Iw 1 rfl) A (show A < a1.length by omega)
   refine bL 6 (.pointer (some (aj.add (A * 9)))) rfl rfl O (λ_ I=>by exact Y3 (len:=a1.length) ZCj ag162.size (by exact tr rfl ad) rfl am an) (Zc 10 127) (bL 7 (.agg (ZB7 (ZCk (a1.getD A Ci)))) rfl rfl O (λ_ I=>by exact Jq (ZCk (a1.getD A Ci)) (Yi ((B.Iy I).Iw 1 rfl) ad A (show A < a1.length by omega)) ag162 rfl rfl) (Zc 10 255) (Z5 8 (by decide) (by decide) (by kernel_rfl) (by kernel_rfl) rfl (Zf [.agg (ZB7 (ZCk (a0.getD A Ci))),.agg (ZB7 (ZCk (a1.getD A Ci)))] _ Tryz.func144 rfl rfl rfl (Zmx (a0.getD A Ci) (a1.getD A Ci) h _) ?_)))
   rintro _ av ⟨aw,rfl,h,ak⟩;refine rt ?_
   replace B:=B.Iy ak;refine Xo rfl (done (Z6 (Ze ?_)))
   refine Zs rfl (λV=>?_) (λV=>?_)
   ·replace h:=ift h (Xe (X1 V));refine sr (Zd (v:=.bool false) rfl (dn ?_))
    refine ZCi (Z9 (Zn (Zn (Z9 (Zn ?_)))))
    exact Zj rfl (Zg rfl) ⟨false,rfl,h,B.below⟩ (.inl rfl)
   ·replace h:=Zk h (not_not_intro ((X2 V)));refine ZCd (Zr (Ze (Zh (Za (v:=vI (A:Int)) rfl (Zm rfl rfl (Zd (v:=vI (Zwt.wrap ((A:Int)+1))) rfl (done ?_)))))))
    exact ah () _ _ ⟨(sl ⟨rfl,rfl,(tr rfl (I1 _ (Z2 L ag))),trivial⟩),B⟩ h
  ·clear B h;rintro ae e_ ax al ⟨ab,B⟩ h;rw [ue ab];refine ZB9 (sr (Za (v:=vI (a0.length:Int)) rfl (Za (v:=Ia) rfl (Zu B 0 rfl ZCj rfl (Zl rfl rfl (dn (Z4 rfl (decide_eq_false (by omega)) ?_)))))))
   refine ZCo (Zi (Zi (Zy ?_)))
   refine Ze (sr (Zd (v:=.bool true) rfl (dn (ZCi ?_))))
   exact Zj rfl (Zg rfl) ⟨true,rfl,h,B.below⟩ (.inl rfl)
  ·skip;exact⟨(slq rfl),B⟩
def K3 (A:ZCb) (B:ZCb) (K:Bool->Prop):Prop :=
 Ev A.terms B.terms (λh=>(if¬ (h=true) then K false else K true))
theorem Zmz (L:ZCb) (O:ZCb)  {K:Bool->Prop} (h:K3 L O K) (w0:World) (q0:ZCv.rep L [Ia] Ib w0) (q1:ZCv.rep O [Ie] Ig w0) :
  Calls ZCc 32 #[.agg #[Ia],.agg #[Ie]] w0 λe w'=>∃ (V:Bool),
   e=.returned (.bool V)/\K V/\Bel w0 w':=by
 unfold K3 at h
 refine cof Tryz.func32 rfl 11 Tryz.ntmps32 ?_
 have A:=ZCu (X:=Nox) w0 [ZB8 TForm L [Ia] Ib,ZB8 TForm O [Ie] Ig] (alc q0 (al1 q1));have aa:=(A.Iw 0 rfl);replace A:=A.I0 0 rfl (ZB8 ZCa.ty.sl L.terms [Ia] Ib) (λ_=>(Xq aa)) (λ_ I=>I)
 have ab:=(A.Iw 2 rfl);replace A:=A.I0 2 rfl (ZB8 ZCa.ty.sl O.terms [Ie] Ig) (λ_=>(Xq ab)) (λ_ I=>I)
 refine sr (Yg (v:=.agg #[Ia]) A [Ia] rfl rfl λb7 w9 ac A=>Yg (v:=.agg #[Ie]) A [Ie] rfl rfl λad ae ac A=>Zd (v:=.bool false) rfl (dn (ZB9 (sr (Z0 0 ZCg rfl Ii.size rfl rfl (Yc A 1 (Ia) rfl Ii rfl rfl (Z0 0 ZCg rfl Ii.size rfl rfl (Yc A 0 (Ie) rfl Ii rfl rfl (Zf [Ia,Ie] _ Tryz.func87 rfl rfl rfl (Zmy L.terms O.terms h _ (A.Iw 1 rfl) (A.Iw 0 rfl)) ?_)))))))))
 rintro _ ag ⟨ah,rfl,h,U⟩;refine rt ?_
 replace A:=A.Iy U;refine Xo rfl (dn ?_)
 refine Zs rfl (λB=>?_) (λB=>?_)
 ·replace h:=ift h (Xe (X1 B));refine sr (Zd (v:=.bool false) rfl (dn ?_))
  refine ZCi (Zn ?_)
  exact Zj rfl (Zg rfl) ⟨false,rfl,h,A.below⟩ (.inl rfl)
 ·replace h:=Zk h (not_not_intro ((X2 B)));refine ZCd (Ze (sr (Zd (v:=.bool true) rfl (dn (ZCi ?_)))))
  exact Zj rfl (Zg rfl) ⟨true,rfl,h,A.below⟩ (.inl rfl)
def Ew (L:List ZCb) (O:List ZCb) (K:Bool->Prop):Prop :=
 (if(L.length:Int)≠(O.length:Int) then K false else Z1 (λh (B:Unit) A=>((0<=(h:Int)/\(h:Int) < (O.length:Int))/\K3 (L.getD h Ci) (O.getD h Ci) (λI=>(if¬ (I=true) then K false else A ())))) (λ(B:Unit)=>K true) L.length 0 ())
theorem Zm0 (a0:List ZCb) (a1:List ZCb)  {K:Bool->Prop} (h:Ew a0 a1 K) (w0:World) (q0:ZCv.sl.rep a0 [Ia] Ib w0) (q1:ZCv.sl.rep a1 [Ie] Ig w0) :
  Calls ZCc 51 #[Ia,Ie] w0 λe w'=>∃ (r0:Bool),
   e=.returned (.bool r0)/\K r0/\Bel w0 w':=by
 unfold Ew at h
 refine cof Tryz.func51 rfl 27 Tryz.ntmps51 ?_
 have B:=ZCu (X:=Nox) w0 [ZB8 ZCv.sl a0 [Ia] Ib,ZB8 ZCv.sl a1 [Ie] Ig] (alc q0 (al1 q1));refine sr (Zd (v:=.bool false) rfl (dn (ZB9 (sr (Za (v:=Ia) rfl (Zu B 0 rfl ZCx rfl (Za (v:=Ie) rfl (Zu B 1 rfl ZCx rfl (Xl rfl rfl (dn ?_))))))))))
 refine Zs rfl (λac=>?_) (λac=>?_)
 ·replace h:=ift h (ct ac);refine sr (Zd (v:=.bool false) rfl (dn ?_))
  refine ZCi (Zn ?_)
  exact Zj rfl (Zg rfl) ⟨false,rfl,h,B.below⟩ (.inl rfl)
 ·replace h:=Zk h (cf ac);refine ZCd (Ze (ZB9 (sr (Zd (v:=vI 0) rfl (dn (ZCf ?_))))))
  have an:a0.length<=9223372036854775807:=Yz (B.Iw 0 rfl);refine Yh (S:=Unit) _ _ (λA am e_ w_=>Zt e_ [(0,Ia),(1,Ie),(5,vI (A:Int))]/\Ctx Nox w0 w_ [] [ZB8 ZCv.sl a0 [Ia] Ib,ZB8 ZCv.sl a1 [Ie] Ig]) a0.length ?_ ?_ (s0:=()) ?_ h
  ·clear B h;rintro A am e_ a5 a4 ay I ⟨ad,B⟩ h ao;rw [ue ad];refine ZB9 (sr (Za (v:=vI (A:Int)) rfl (Za (v:=Ia) rfl (Zu B 0 rfl ZCx rfl (Zl rfl rfl (dn (Z8 rfl (decide_eq_true (by omega)) (ZCd (Ze (ZB9 (ZCf (ZB9 ?_))))))))))))
   refine cwd 8 Ym [0,0,3,7,0,0,48,112,255,511] [2,3,6,7] [0,1,4,5] (λO U a6 L=>?_)
   replace B:=B.Iy L;refine bM 0 (Ia) rfl U (Zc 10 1) (bM 1 (vI (A:Int)) rfl U (Zc 10 3) ?_)
   obtain ⟨ap,a7,ae⟩:=Zx (B.Iw 0 rfl) A I;refine bL 2 (.pointer (some (ap.add (A * 1)))) rfl rfl O (λ_ L=>by exact Y3 (len:=a0.length) ZCx ag55.size (by exact tr rfl ae) rfl (ZCq _) (ZC9.2 I)) (Zc 10 7) ?_
   obtain ⟨az,ag,aq,ah⟩:=Xb (B.Iw 0 rfl) ae A I;obtain ⟨aa,rfl⟩:=ZC7.1 ag;clear ag;rw [Y9 _ _ I] at ah
   have ar:=ah;replace B:=B.I0 0 rfl (ZB8 ZCa.ty.sl ((a0.getD A Ci).terms) [aa] Ib) (λ_=>(Xq ar)) (λ_ ai=>ai)
   refine bL 3 (.agg #[aa]) rfl rfl O (λ_ L=>by exact Jq [aa] (Vd L aq) ag55 rfl rfl) (Zc 10 15) (bM 4 (Ie) rfl U (Zc 10 31) (bM 5 (vI (A:Int)) rfl U (Zc 10 63) ?_))
   obtain ⟨⟨a2,a3⟩,h⟩:=h;obtain ⟨au,a8,aj⟩:=Zx (B.Iw 2 rfl) A (show A < a1.length by omega)
   refine bL 6 (.pointer (some (au.add (A * 1)))) rfl rfl O (λ_ L=>by exact Y3 (len:=a1.length) ZCx ag55.size (by exact tr rfl aj) rfl a2 a3) (Zc 10 127) ?_
   obtain ⟨az,ak,av,al⟩:=Xb (B.Iw 2 rfl) aj A (show A < a1.length by omega)
   obtain ⟨ab,rfl⟩:=ZC7.1 ak;clear ak;rw [Y9 _ _ (show A < a1.length by omega)] at al
   have aw:=al;replace B:=B.I0 2 rfl (ZB8 ZCa.ty.sl ((a1.getD A Ci).terms) [ab] Ig) (λ_=>(Xq aw)) (λ_ ai=>ai)
   refine bL 7 (.agg #[ab]) rfl rfl O (λ_ L=>by exact Jq [ab] (Vd L av) ag55 rfl rfl) (Zc 10 255) (Z5 8 (by decide) (by decide) (by kernel_rfl) (by kernel_rfl) rfl (Zf [.agg #[aa],.agg #[ab]] _ Tryz.func32 rfl rfl rfl (Zmz (a0.getD A Ci) (a1.getD A Ci) h _ (Y1 (B.Iw 1 rfl)) (Y1 (B.Iw 0 rfl))) ?_))
   rintro _ a9 ⟨ba,rfl,h,ax⟩;refine rt ?_
   replace B:=B.Iy ax;refine Xo rfl (done (Z6 (Ze ?_)))
   refine Zs rfl (λV=>?_) (λV=>?_)
   ·replace h:=ift h (Xe (X1 V));refine sr (Zd (v:=.bool false) rfl (dn ?_))
    refine ZCi (Z9 (Zn (Zn (Z9 (Zn ?_)))))
    exact Zj rfl (Zg rfl) ⟨false,rfl,h,B.below⟩ (.inl rfl)
   ·replace h:=Zk h (not_not_intro ((X2 V)));refine ZCd (Zr (Ze (Zh (Za (v:=vI (A:Int)) rfl (Zm rfl rfl (Zd (v:=vI (Zwt.wrap ((A:Int)+1))) rfl (done ?_)))))))
    exact ao () _ _ ⟨(sl ⟨rfl,rfl,(tr rfl (I1 _ (Z2 I an))),trivial⟩),(B.sP [2,3] rfl)⟩ h
  ·clear B h;rintro am e_ bb ay ⟨ad,B⟩ h;rw [ue ad];refine ZB9 (sr (Za (v:=vI (a0.length:Int)) rfl (Za (v:=Ia) rfl (Zu B 0 rfl ZCx rfl (Zl rfl rfl (dn (Z4 rfl (decide_eq_false (by omega)) ?_)))))))
   refine ZCo (Zi (Zi (Zy ?_)))
   refine Ze (sr (Zd (v:=.bool true) rfl (dn (ZCi ?_))))
   exact Zj rfl (Zg rfl) ⟨true,rfl,h,B.below⟩ (.inl rfl)
  ·skip;exact⟨(slq rfl),B⟩
def T4 (h:Bool) (A:Int) (K:Int->Prop):Prop :=
 (if h=true then K A else K 0)
theorem K4 (I:Bool) (A:Int)  {K:Int->Prop} (h:T4 I A K) (w0:World)  :
  Calls ZCc 45 #[.bool I,vI A] w0 λe w'=>∃ (L:Int),
   e=.returned (vI L)/\K L/\Bel w0 w':=by
 unfold T4 at h
 refine cof Tryz.func45 rfl 7 Tryz.ntmps45 ?_
 have O:=ZCu (X:=Nox) w0 [] (by simp)
 refine sr (Zd (v:=vI 0) rfl (dn (ZB9 (sr (Za (v:=.bool I) rfl (dn ?_))))))
 refine Zs rfl (λB=>?_) (λB=>?_)
 ·replace h:=ift h (B);refine sr (Za (v:=vI A) rfl (Zd (v:=vI A) rfl (dn ?_)))
  refine ZCi (Zn ?_)
  exact Zj rfl (Zg rfl) ⟨A,rfl,h,O.below⟩ (.inl rfl)
 ·replace h:=Zk h (Xe B);refine ZCd (Ze (sr (Zd (v:=vI 0) rfl (dn (ZCi ?_)))))
  exact Zj rfl (Zg rfl) ⟨0,rfl,h,O.below⟩ (.inl rfl)
end Go.Proofs.YtaagfepgbofmlaaGreat
namespace Go.Proofs.YtaagfepgbofmlaaGreat
open Go Vc
theorem Zbc {a b c:Int} {K:Bool->Prop} (h:K (decide (b<=a/\a<=c))):Qt a b c K:=by
 unfold Qt;split
 ·rename_i A; simpa [show b<=a from A] using h
 ·rename_i A; simpa [show ¬ b<=a from A] using h
theorem Zm1 {ds:List Int} {K:Bool->Prop} (h:K (decide (OkDeg ds))):Ke ds K:=by
 unfold Ke;refine Yp (λi _=>∀ j,j < i->1<=ds.getD j Ci/\ds.getD j Ci<=12) ds.length ?_ ?_ _ _ _ (by omega) (by intro j hj; omega)
 ·intro i s next hi A hn;refine Zbc ?_
  split
  ·rename_i B;have:¬ OkDeg ds:=λhd=>B (by simpa using hd.2 i hi)
   simpa [this] using h
  ·rename_i B;refine hn _ λj hj=>?_
   by_cases hji:j=i
   ·subst hji; simpa using B
   ·exact A j (by omega)
 ·intro s A
  have:(decide ((ds.length:Int)<=8))=decide (OkDeg ds):=by
   rw [decide_eq_decide]; unfold OkDeg;constructor
   ·intro I; exact⟨by omega,A⟩
   ·intro I; have:=I.1; omega
  rw [this]; exact h
theorem Zm2 {ds:List Int} {a:A8} {K:Bool->Prop} (ha:∀ i,i < 8->0<=a.get i) (hl:ds.length<=8) (h:K (decide (OkMono ds a))):Kf ds a K:=by
 unfold Kf;refine Yp (λi _=>∀ j,j < i->(j < ds.length->a.get j<=20/\(Fa (ds.getD j Ci) 2≠0->a.get j<=1))/\(ds.length<=j->a.get j=0)) 8 ?_ ?_ _ _ _ (by omega) (by intro j hj; omega)
 ·intro i s next hi A hn
  have no:¬ ((i < ds.length->a.get i<=20/\(Fa (ds.getD i Ci) 2≠0->a.get i<=1))/\(ds.length<=i->a.get i=0))->K false:=by
   intro hno;have:¬ OkMono ds a:=λhm=>hno (hm i hi)
   simpa [this] using h
  have yes:((i < ds.length->a.get i<=20/\(Fa (ds.getD i Ci) 2≠0->a.get i<=1))/\(ds.length<=i->a.get i=0))->next ():=by
   intro hy;refine hn _ λj hj=>?_
   by_cases hji:j=i
   ·subst hji; exact hy
   ·exact A j (by omega)
  split
  ·split
   ·exact no (by intro q; have:=q.2 (by omega); contradiction)
   ·rename_i q;exact yes ⟨by omega,by intro _; simpa using q⟩
  ·split
   ·exact no (by intro q; have:=(q.1 (by omega)).1; omega)
   ·refine⟨by omega,?_⟩
    split
    ·split
     ·exact no (by intro q; rename_i B I; have:=(q.1 (by omega)).2 B; omega)
     ·exact yes ⟨λ_=>⟨by omega,λ_=>by omega⟩,by omega⟩
    ·rename_i B;exact yes ⟨λ_=>⟨by omega,λI=>absurd I B⟩,by omega⟩
 ·intro s A;have:OkMono ds a:=λi hi=>A i hi
  simpa [this] using h
theorem Zm3 {ds:List Int} {a:A8} {K:Bool->Prop} (hd:OkDeg ds) (ha:∀ i,i < 8->0<=a.get i) (h:K (decide (OkMono ds a))):Kn ds a K:=by
 unfold Kn;refine Yp (λi _=>∀ j,j < i->(j < ds.length->a.get j<=20/\(Fa (ds.getD j Ci) 2≠0->a.get j<=1))/\(ds.length<=j->a.get j=0)) 8 ?_ ?_ _ _ _ (by omega) (by intro j hj; omega)
 ·intro i s next hi A hn;have hai:=ha i hi
  have no:¬ ((i < ds.length->a.get i<=20/\(Fa (ds.getD i Ci) 2≠0->a.get i<=1))/\(ds.length<=i->a.get i=0))->K false:=by
   intro hno;have:¬ OkMono ds a:=λhm=>hno (hm i hi)
   simpa [this] using h
  have yes:((i < ds.length->a.get i<=20/\(Fa (ds.getD i Ci) 2≠0->a.get i<=1))/\(ds.length<=i->a.get i=0))->next ():=by
   intro hy;refine hn _ λj hj=>?_
   by_cases hji:j=i
   ·subst hji; exact hy
   ·exact A j (by omega)
  split
  ·refine⟨by omega,?_⟩
   rename_i hl;have hod:=hd.odd (show i < ds.length by omega)
   split
   ·rename_i B;split
    ·exact no (by intro q; have:=(q.1 (by omega)).2 (by omega); omega)
    ·exact yes ⟨λ_=>⟨by omega,λ_=>by omega⟩,by omega⟩
   ·rename_i B;split
    ·exact no (by intro q; have:=(q.1 (by omega)).1; omega)
    ·exact yes ⟨λ_=>⟨by omega,λq=>by omega⟩,by omega⟩
  ·split
   ·exact no (by intro q; have:=q.2 (by omega); omega)
   ·exact yes ⟨by omega,λ_=>by omega⟩
 ·intro s A;have:OkMono ds a:=λi hi=>A i hi
  simpa [this] using h
theorem Zbd {a b c:Int} {K:Bool->Prop} (h:K (decide (b<=a/\a<=c))):Qy a b c K:=by
 unfold Qy;split
 ·rename_i A; simpa [show b<=a from A] using h
 ·rename_i A; simpa [show ¬ b<=a from A] using h
theorem Zm4 {ds:List Int} {K:Bool->Prop} (h:K (decide (OkDeg ds))):Km ds K:=by
 unfold Km;split
 ·rename_i I;unfold Mn St;refine Yp (λi _=>∀ j,j < i->1<=ds.getD j Ci/\ds.getD j Ci<=12) ds.length ?_ ?_ _ _ _ (by omega) (by intro j hj; omega)
  ·intro i s next hi B hn;unfold Kl;refine Zbd ?_
   dsimp only;split
   ·rename_i A;have:¬ OkDeg ds:=λhd=>by have:=hd.2 i hi; simp only [Bool.not_eq_true',decide_eq_false_iff_not] at A; exact A this
    simpa [this,show (i:Int)≥0 by omega] using h
   ·rename_i A;refine hn _ λj hj=>?_
    by_cases hji:j=i
    ·subst hji; simp only [Bool.not_eq_true',decide_eq_false_iff_not,Zxc] at A; exact A
    ·exact B j (by omega)
  ·intro s B;have:OkDeg ds:=⟨by omega,B⟩
   simpa [this] using h
 ·have:¬ OkDeg ds:=λhd=>by have:=hd.1; omega
  simpa [this] using h
theorem Ex {a:A8} {K:A8->Prop} (ha:Ve .u8 a) (h:K a):Ss a K:=by
 unfold Ss;refine Yp (λi (s:A8)=>∀ j,j < 8->s.get j=if j < i then a.get j else 0) 8 ?_ ?_ _ _ _ (by omega) (by intro j hj; simp [A8.get_zero])
 ·intro i s next hi B hn;have:=Zar (Zas ha hi);rw [i64_in _ (by omega)]
  refine hn _ λj hj=>?_
  rw [ZFn hi];by_cases hji:j=i
  ·subst hji; simp
  ·rw [if_neg hji,B j hj];by_cases A:j < i
   ·rw [if_pos A,if_pos (by omega)]
   ·rw [if_neg A,if_neg (by omega)]
 ·intro s B;have:s=a:=ZFo λi hi=>by rw [B i hi,if_pos hi]
  rw [this]; exact h
theorem Zm5 {a:A8} {K:A8->Prop} (h:K a):Ks a K:=by
 unfold Ks;refine Yp (λi (s:A8)=>∀ j,j < 8->s.get j=if j < i then a.get j else 0) 8 ?_ ?_ _ _ _ (by omega) (by intro j hj; simp [A8.get_zero])
 ·intro i s next hi B hn;refine hn _ λj hj=>?_
  rw [ZFn hi];by_cases hji:j=i
  ·subst hji; simp
  ·rw [if_neg hji,B j hj];by_cases A:j < i
   ·rw [if_pos A,if_pos (by omega)]
   ·rw [if_neg A,if_neg (by omega)]
 ·intro s B;have:s=a:=ZFo λi hi=>by rw [B i hi,if_pos hi]
  rw [this]; exact h
theorem Zm6 {ds:List Int} {K:List Int->Prop} (hl:ds.length<=1048576) (h:K ds):Kt ds K:=by
 unfold Kt;refine⟨by omega,?_⟩
 refine Yp (λi (s:List Int)=>s.length=ds.length/\∀ j,j < i->s.getD j Ci=ds.getD j Ci) ds.length ?_ ?_ _ _ _ (by omega) (by simp)
 ·intro i s next hi A hn;refine⟨by omega,hn _ ⟨by simpa using A.1,λj hj=>?_⟩⟩
  by_cases hji:j=i
  ·subst hji; simp [Co,A.1,hi]
  ·rw [<- A.2 j (by omega)]; simp [Co,List.getElem?_set_ne (λe=>hji e.symm)]
 ·intro s A
  have:s=ds:=by
   apply List.ext_getElem A.1;intro i I B;have:=A.2 i B;simpa [Co,I,B] using this
  rw [this]; exact h
theorem Zm7 {a b:A8} {K:Bool->Prop} (h:K (decide (a=b))):Ku a b K:=by
 unfold Ku;refine Yp (λi _=>∀ j,j < i->a.get j=b.get j) 8 ?_ ?_ _ _ _ (by omega) (by intro j hj; omega)
 ·intro i s next hi A hn;split
  ·rename_i B;have:¬ a=b:=λe=>B (by rw [e])
   simpa [this] using h
  ·rename_i B;refine hn _ λj hj=>?_
   by_cases hji:j=i
   ·subst hji; simpa using B
   ·exact A j (by omega)
 ·intro s A;have:a=b:=ZFo A;simpa [this] using h
theorem Zm8 {a b:List Int} {K:Bool->Prop} (h:K (decide (a=b))):Kv a b K:=by
 unfold Kv;split
 ·rename_i A;have:¬ a=b:=λe=>A (by rw [e])
  simpa [this] using h
 ·rename_i A;have hl:a.length=b.length:=by omega
  refine Yp (λi _=>∀ j,j < i->a.getD j Ci=b.getD j Ci) a.length ?_ ?_ _ _ _ (by omega) (by intro j hj; omega)
  ·intro i s next hi B hn;refine⟨by omega,?_⟩
   split
   ·rename_i A;have:¬ a=b:=λe=>A (by rw [e])
    simpa [this] using h
   ·rename_i A;refine hn _ λj hj=>?_
    by_cases hji:j=i
    ·subst hji; simpa using A
    ·exact B j (by omega)
  ·intro s B
   have:a=b:=by
    apply List.ext_getElem hl;intro i A I;have:=B i A;simpa [Co,A,I] using this
   simpa [this] using h
theorem Ey {ds:List Int} {a:A8} (h:Jr ds a) (hl:ds.length<=8) {i:Nat} (hi:i < ds.length) (ho:Fa (ds.getD i Ci) 2≠0):a.get i<=1:=((h i (by omega)).1 hi).2 ho
theorem Zm9 {ds:List Int} {a b s:A8} (ha:Jr ds a) (hb:Jr ds b) (hl:ds.length<=8) (h:∀ j,j < 8->s.get j=if j < ds.length then a.get j+b.get j else 0):s=a.add b:=by
 refine ZFo λi hi=>?_
 rw [h i hi,A8.get_add];split
 ·rfl
 ·rw [(ha i hi).2 (by omega),(hb i hi).2 (by omega)]; rfl
theorem Zna {ds:List Int} {a b:A8} {K:A8->Int->Prop} (hd:OkDeg ds) (ha:Jr ds a) (hb:Jr ds b) (pa:∀ i,i < 8->0<=a.get i) (pb:∀ i,i < 8->0<=b.get i)
  (h:K (Yl ds a b).1 (Yl ds a b).2):Kg ds a b K:=by
 have h8:=hd.1;unfold Kg;refine Yp (λi (s:A8×Int)=>(∀ j,j < i->j < ds.length->Fa (ds.getD j Ci) 2≠0->¬ (0 < a.get j/\0 < b.get j))/\(∀ j,j < 8->s.1.get j=if j < i then a.get j+b.get j else 0)/\(s.2=1\/s.2=-1)/\s.2 * sg (Vq ds a b (ds.length - i) i)=sg (Vq ds a b ds.length 0)) ds.length ?_ ?_ _ _ _ (by omega) ⟨by intro j hj; omega,by intro j hj; simp [A8.get_zero],by simp,by simp⟩
 ·rintro i ⟨s1,s2⟩ next hi ⟨O,h2,h3,B⟩ hn;have L:i < 8:=by omega
  have pai:=pa i L;have pbi:=pb i L;have ad:=((ha i L).1 hi).1;have ae:=((hb i L).1 hi).1;have hr:ds.length - i=(ds.length - (i+1))+1:=by omega
  rw [hr] at B
  simp only [Vq] at B
  dsimp only at O h2 h3 B ⊢
  have hw:IntKind.u8.wrap (a.get i+b.get i)=a.get i+b.get i:=Zat _ (by omega)
  rw [hw]
  have hset:∀ j,j < 8->(s1.set i (a.get i+b.get i)).get j=if j < i+1 then a.get j+b.get j else 0:=by
   intro j hj;rw [ZFn L];by_cases hji:j=i
   ·subst hji; simp
   ·rw [if_neg hji,h2 j hj];by_cases aa:j < i
    ·rw [if_pos aa,if_pos (by omega)]
    ·rw [if_neg aa,if_neg (by omega)]
  refine⟨by omega,by omega,by omega,?_⟩
  split
  ·rename_i he;rw [if_pos (.inl he),F3] at B
   refine hn _ ⟨λj hj hjl ho=>?_,hset,h3,B⟩
   by_cases hji:j=i
   ·subst hji; exact absurd he ho
   ·exact O j (by omega) hjl ho
  ·rename_i he;have a1:=Ey ha h8 hi he;have b1:=Ey hb h8 hi he;refine⟨by omega,?_⟩
   rw [ZFn L,if_pos rfl];split
   ·rename_i hc;have:Clash ds a b:=⟨i,hi,he,by omega,by omega⟩
    simpa [Yl,this] using h
   ·rename_i hc
    have hnc:∀ j,j < i+1->j < ds.length->Fa (ds.getD j Ci) 2≠0->¬ (0 < a.get j/\0 < b.get j):=by
     intro j hj hjl ho;by_cases hji:j=i
     ·subst hji; omega
     ·exact O j (by omega) hjl ho
    rw [i64_in _ (by omega)]
    refine Jj (λ(t:Int×Int)=>((i:Int)+1<=t.1/\t.1<=ds.length)/\(t.2=1\/t.2=-1)/\(b.get i=1->t.2 * sg (V1 ds a (ds.length - t.1.toNat) t.1.toNat)=s2 * sg (V1 ds a (ds.length - (i+1)) (i+1)))/\(b.get i≠1->t.2=s2)) (λt=>ds.length - t.1.toNat) ?_ ⟨by omega,h3,λ_=>by rw [show ((i:Int)+1).toNat=i+1 by omega],λ_=>rfl⟩
    rintro ⟨j,c⟩ next' ⟨⟨q1,q2⟩,U,A,q5⟩ hn';dsimp only at q1 q2 U A q5 ⊢
    split
    ·rename_i hj;refine⟨by omega,?_⟩
     split
     ·rename_i I;have hjn:j.toNat < ds.length:=by omega
      refine⟨by omega,?_⟩
      have A:=A I;have ab:ds.length - j.toNat=(ds.length - (j.toNat+1))+1:=by omega
      rw [ab] at A
      simp only [V1] at A
      have V:(j+1).toNat=j.toNat+1:=by omega
      rw [i64_in (j+1) (by omega)]
      have pj:=pa j.toNat (by omega)
      split
      ·rename_i ho;have aj:=Ey ha h8 hjn ho;have od:=hd.odd hjn;have ac:Fa (ds.getD j.toNat Ci) 2=1:=by omega
       rw [ac,Int.one_mul] at A
       refine⟨by omega,?_⟩
       split
       ·rename_i haj;rw [haj,Int.add_comm,Ze9] at A
        rw [i64_in (0 - c) (by omega)]
        refine hn' _ ⟨⟨by dsimp only; omega,by dsimp only; omega⟩,by dsimp only; omega,λ_=>?_,λhne=>absurd I hne⟩ (by dsimp only; omega)
        dsimp only;rw [V,Int.zero_sub,Int.neg_mul,<- Int.mul_neg]; exact A
       ·rename_i haj;rw [show a.get j.toNat=0 by omega,F3] at A
        refine hn' _ ⟨⟨by dsimp only; omega,by dsimp only; omega⟩,U,λ_=>?_,λhne=>absurd I hne⟩ (by dsimp only; omega)
        dsimp only;rw [V]; exact A
      ·rename_i ho;rw [show Fa (ds.getD j.toNat Ci) 2=0 by simpa using ho,Int.zero_mul,F3] at A
       refine hn' _ ⟨⟨by dsimp only; omega,by dsimp only; omega⟩,U,λ_=>?_,λhne=>absurd I hne⟩ (by dsimp only; omega)
       dsimp only;rw [V]; exact A
     ·rename_i I;refine hn _ ⟨hnc,hset,U,?_⟩
      rw [if_pos (.inr (by omega)),F3] at B
      dsimp only;rw [q5 I]; exact B
    ·rename_i hj;refine hn _ ⟨hnc,hset,U,?_⟩
     dsimp only;by_cases I:b.get i=1
     ·have A:=A I;rw [show ds.length - j.toNat=0 by omega] at A
      simp only [V1] at A
      rw [show sg 0=1 from rfl,Int.mul_one] at A
      rw [if_neg (by omega),V2,<- Int.mul_assoc] at B
      rw [A]; exact B
     ·rw [if_pos (.inr (by omega)),F3] at B
      rw [q5 I]; exact B
 ·rintro ⟨s1,s2⟩ ⟨O,h2,h3,B⟩;have hnc:¬ Clash ds a b:=λ⟨i,hi,ho,hp⟩=>O i hi hi ho hp
  rw [Nat.sub_self] at B
  simp only [Vq] at B
  rw [show sg 0=1 from rfl,Int.mul_one] at B
  have hs:s1=a.add b:=Zm9 ha hb h8 h2;dsimp only at B ⊢
  rw [hs,B];simpa [Yl,hnc] using h
theorem Znb {ds:List Int} {a b:A8} {K:A8->Int->Prop} (hd:OkDeg ds) (ha:Jr ds a) (hb:Jr ds b) (pa:∀ i,i < 8->0<=a.get i) (pb:∀ i,i < 8->0<=b.get i)
  (h:K (Yl ds a b).1 (Yl ds a b).2):Kk a ds b K:=by
 have h8:=hd.1
 have bnd:∀ (x:A8),Jr ds x->∀ i,i < 8->x.get i<=100:=by
  intro x hx i hi;by_cases hl:i < ds.length
  ·exact((hx i hi).1 hl).1
  ·rw [(hx i hi).2 (by omega)]; omega
 unfold Kk;refine Yp (λi (c:Int)=>(∀ j,j < i->j < ds.length->Fa (ds.getD j Ci) 2≠0->¬ (0 < a.get j/\0 < b.get j))/\(0<=c/\c<=8 * i)/\c+Vq ds a b (ds.length - i) i=Vq ds a b ds.length 0) ds.length ?_ ?_ _ _ _ (by omega) ⟨by intro j hj; omega,by omega,by simp⟩
 ·rintro i c next hi ⟨I,h2,A⟩ hn;have O:i < 8:=by omega
  have pai:=pa i O;have pbi:=pb i O;have hr:ds.length - i=(ds.length - (i+1))+1:=by omega
  rw [hr] at A
  simp only [Vq] at A
  split
  ·rename_i he;rw [if_pos (.inl he),F3] at A
   refine hn _ ⟨λj hj hjl ho=>?_,by omega,A⟩
   by_cases hji:j=i
   ·subst hji; exact absurd he ho
   ·exact I j (by omega) hjl ho
  ·rename_i he;refine⟨by omega,?_⟩
   have hnc:¬ (0 < a.get i/\0 < b.get i)->∀ j,j < i+1->j < ds.length->Fa (ds.getD j Ci) 2≠0->¬ (0 < a.get j/\0 < b.get j):=by
    intro hno j hj hjl ho;by_cases hji:j=i
    ·subst hji; exact hno
    ·exact I j (by omega) hjl ho
   split
   ·rename_i hap;refine⟨by omega,?_⟩
    split
    ·rename_i hbp;have:Clash ds a b:=⟨i,hi,he,by omega,by omega⟩
     simpa [Yl,this] using h
    ·rename_i hbp;rw [if_pos (.inr (by omega)),F3] at A
     exact⟨by omega,hn _ ⟨hnc (by omega),by omega,A⟩⟩
   ·rename_i hap;refine⟨by omega,?_⟩
    split
    ·rename_i hbp;have V:¬ (Fa (ds.getD i Ci) 2=0\/b.get i<=0):=by rintro (q | q); exact he q; omega
     rw [if_neg V] at A
     rw [i64_in _ (by omega)]
     refine Jj (λ(t:Int×Int)=>((i:Int)+1<=t.1/\t.1<=ds.length)/\(0<=t.2/\t.2<=8 * i+(t.1 - (i+1)))/\t.2+V1 ds a (ds.length - t.1.toNat) t.1.toNat=c+V1 ds a (ds.length - (i+1)) (i+1)) (λt=>ds.length - t.1.toNat) ?_ ⟨by omega,by omega,by rw [show ((i:Int)+1).toNat=i+1 by omega]⟩
     rintro ⟨j,d⟩ next' ⟨⟨q1,q2⟩,q3,B⟩ hn';dsimp only at q1 q2 q3 B ⊢
     split
     ·rename_i hj;have hjn:j.toNat < ds.length:=by omega
      refine⟨by omega,by omega,?_⟩
      have aa:ds.length - j.toNat=(ds.length - (j.toNat+1))+1:=by omega
      rw [aa] at B
      simp only [V1] at B
      have ab:(j+1).toNat=j.toNat+1:=by omega
      have pj:=pa j.toNat (by omega)
      have hm:0<=Fa (ds.getD j.toNat Ci) 2 * a.get j.toNat/\Fa (ds.getD j.toNat Ci) 2 * a.get j.toNat<=1:=by
       rcases hd.odd hjn with od | od
       ·rw [od]; omega
       ·have:=Ey ha h8 hjn (by omega)
        rw [od]; omega
      rw [i64_in (Fa (ds.getD j.toNat Ci) 2 * a.get j.toNat) (by omega),i64_in (d+Fa (ds.getD j.toNat Ci) 2 * a.get j.toNat) (by omega),i64_in (j+1) (by omega)]
      refine hn' _ ⟨⟨by dsimp only; omega,by dsimp only; omega⟩,by dsimp only; omega,?_⟩ (by dsimp only; omega)
      dsimp only;rw [ab]; omega
     ·rename_i hj;rw [show ds.length - j.toNat=0 by omega] at B
      simp only [V1] at B
      refine hn _ ⟨hnc (by omega),by omega,by omega⟩
    ·rename_i hbp;rw [if_pos (.inr (by omega)),F3] at A
     exact hn _ ⟨hnc (by omega),by omega,A⟩
 ·rintro c ⟨I,h2,A⟩;have hnc:¬ Clash ds a b:=λ⟨i,hi,ho,hp⟩=>I i hi hi ho hp
  rw [Nat.sub_self] at A
  simp only [Vq,Int.add_zero] at A
  refine Yp (λi (s:A8)=>∀ j,j < 8->s.get j=if j < i then a.get j+b.get j else a.get j) 8 ?_ ?_ _ _ _ (by omega) (by intro j hj; simp)
  ·intro i s next hi L hn;have e1:=L i hi;rw [if_neg (by omega)] at e1
   have:=bnd a ha i hi;have:=bnd b hb i hi;have:=pa i hi;have:=pb i hi;rw [e1,i64_in _ (by omega)]
   refine hn _ λj hj=>?_
   rw [ZFn hi];by_cases hji:j=i
   ·subst hji; simp
   ·rw [if_neg hji,L j hj];by_cases U:j < i
    ·rw [if_pos U,if_pos (by omega)]
    ·rw [if_neg U,if_neg (by omega)]
  ·intro s L;have hs:s=a.add b:=ZFo λi hi=>by rw [L i hi,if_pos hi,A8.get_add]
   have hj:Yl ds a b=(a.add b,sg c):=by simp [Yl,hnc,A]
   rw [hj] at h
   rw [hs];split
   ·rename_i ho;have:sg c=-1:=by unfold sg; rw [ZFp (by omega)] at ho; rw [if_neg (by omega)]
    rw [this] at h; exact h
   ·rename_i ho;have:sg c=1:=by unfold sg; rw [ZFp (by omega)] at ho; rw [if_pos (by omega)]
    rw [this] at h; exact h
end Go.Proofs.YtaagfepgbofmlaaGreat
namespace Vc
open Go
theorem Zfp:∀ (xs ys:List Int),xs.length=ys.length->J8 xs ys=0->xs=ys
 | [],[],_,_=>rfl
 | x :: xs, y :: ys, h, A => by
  simp only [J8] at A
  split at A
  ·omega
  ·rename_i he;have he:x=y:=Zxc.1 he;rw [he,Zfp xs ys (by simpa using h) A]
 | [],_::_,h,_=>by simp at h
 | _::_,[],h,_=>by simp at h
theorem Zfq:∀ (xs ys:List Int),J8 xs ys=- J8 ys xs
 | [],[]=>rfl
 | x :: xs, y :: ys => by
  simp only [J8];have:=Zfq xs ys;split <;> split <;> omega
 | [],_::_=>rfl
 | _::_,[]=>rfl
theorem A8.list_inj {a b:A8} (h:a.list=b.list):a=b:=by
 cases a; cases b;simpa [A8.list] using h
theorem K6 (a:A8):pcmp a a=0:=Zk9 _
theorem Zfr (a b:A8):pcmp a b=- pcmp b a:=Zfq _ _
theorem Uz {a b c:A8} (h:pcmp a b < 0) (A:pcmp b c < 0):pcmp a c < 0:=Ze5 a.list b.list c.list rfl rfl h A
theorem Ez {a b:A8} (h:¬ pcmp a b < 0) (A:¬ pcmp b a < 0):a=b :=
 A8.list_inj (Zfp _ _ rfl (by have:=Zfr a b; unfold pcmp at *; omega))
theorem Ue {a b:A8} (h:pcmp a b < 0):a≠b:=by rintro rfl; rw [K6] at h; omega
theorem K7 {a b:A8} (h:pcmp a b < 0):b≠a:=λe=>Ue h e.symm
theorem E0 {a b:A8} (h:pcmp a b < 0):¬ pcmp b a < 0:=by have:=Zfr a b; omega
def tot {α:Type} (f:α->Int):List α->Int
 | []=>0
 | a::l=>f a+tot f l
theorem Qz {α:Type} (f:α->Int) (l k:List α):tot f (l++k)=tot f l+tot f k:=by
 induction l with
 | nil=>simp [tot]
 | cons a l ih=>simp only [List.cons_append,tot,ih]; omega
theorem Mp {α:Type} (f:α->Int) {l k:List α} (h:l.Perm k):tot f l=tot f k:=by
 induction h with
 | nil=>rfl
 | cons x _ ih=>simp only [tot,ih]
 | swap x y l=>simp only [tot]; omega
 | trans _ _ B A=>exact B.trans A
theorem Q0 {α β:Type} (f:β->Int) (g:α->β) (l:List α):tot f (l.map g)=tot (λa=>f (g a)) l:=by
 induction l with
 | nil=>rfl
 | cons a l ih=>simp only [Fm,tot,ih]
theorem Wa {α:Type} {f g:α->Int} {l:List α} (h:∀ a,a∈l->f a=g a):tot f l=tot g l:=by
 induction l with
 | nil=>rfl
 | cons a l ih=>simp only [tot]; rw [h a (by simp),ih λb hb=>h b (by simp [hb])]
theorem T5 {α:Type} (k:Int) (f:α->Int) (l:List α):tot (λa=>k * f a) l=k * tot f l:=by
 induction l with
 | nil=>simp [tot]
 | cons a l ih=>simp only [tot,ih,Int.mul_add]
theorem K9 {α:Type} (f g:α->Int) (l:List α):tot (λa=>f a+g a) l=tot f l+tot g l:=by
 induction l with
 | nil=>simp [tot]
 | cons a l ih=>simp only [tot,ih]; omega
theorem Tf {α:Type} {f:α->Int} {l:List α} (h:∀ a,a∈l->f a=0):tot f l=0:=by
 induction l with
 | nil=>rfl
 | cons a l ih=>simp only [tot]; rw [h a (by simp),ih λb hb=>h b (by simp [hb])]; rfl
theorem Zfs {α β:Type} (f:α->β->Int) (l:List α) (k:List β):tot (λa=>tot (f a) k) l=tot (λb=>tot (λa=>f a b) l) k:=by
 induction l with
 | nil=>simp only [tot]; rw [Tf]; intros; rfl
 | cons a l ih=>simp only [tot,ih,K9]
theorem E1 {α:Type} {f g:α->Int} {l:List α} (h:∀ a,a∈l->f a % 10007=g a % 10007):tot f l % 10007=tot g l % 10007:=by
 induction l with
 | nil=>rfl
 | cons a l ih =>
  have A:=h a (by simp)
  have B:=ih λb hb=>h b (by simp [hb])
  simp only [tot]; omega
def co (l:List (A8×Int)) (m:A8):Int:=tot (λp=>if p.1=m then p.2 else 0) l
def coT (l:List Term) (m:A8):Int:=tot (λt=>if t.mono=m then t.factor else 0) l
theorem Vs (p:A8×Int) (l:List (A8×Int)) (m:A8):co (p::l) m=(if p.1=m then p.2 else 0)+co l m:=rfl
theorem Uf (t:Term) (l:List Term) (m:A8):coT (t::l) m=(if t.mono=m then t.factor else 0)+coT l m:=rfl
theorem Q1 (m:A8):coT [] m=0:=rfl
theorem Mq (m:A8):co [] m=0:=rfl
theorem T6 (l:List Term) (t:Term) (m:A8):coT (l++[t]) m=coT l m+(if t.mono=m then t.factor else 0):=by
 rw [coT,Qz]; simp [tot,coT]
theorem Tg {l:List Term} {m:A8} (h:∀ t,t∈l->t.mono≠m):coT l m=0:=Tf λt ht=>if_neg (h t ht)
theorem T7 {l:List (A8×Int)} {m:A8} (h:∀ t,t∈l->t.1≠m):co l m=0:=Tf λt ht=>if_neg (h t ht)
def Canon (l:List Term):Prop:=l.Pairwise (λa b=>pcmp a.mono b.mono < 0)/\∀ t,t∈l->1<=t.factor/\t.factor<=10006
theorem Canon.nil:Canon []:=⟨ZGy,by simp⟩
theorem Canon.tail {t:Term} {l:List Term} (h:Canon (t::l)):Canon l:=⟨(Cl.1 h.1).2,λs hs=>h.2 s (by simp [hs])⟩
theorem Canon.head {t:Term} {l:List Term} (h:Canon (t::l)):∀ s,s∈l->pcmp t.mono s.mono < 0:=(Cl.1 h.1).1
theorem Canon.snoc {l:List Term} {t:Term} (h:Canon l) (hl:∀ s,s∈l->pcmp s.mono t.mono < 0) (hf:1<=t.factor/\t.factor<=10006):Canon (l++[t]):=by
 refine⟨Zwk.2 ⟨h.1,by simp,λa ha b hb=>?_⟩,λs hs=>?_⟩
 ·obtain rfl:b=t:=by simpa using hb
  exact hl a ha
 ·rcases Ch.1 hs with q | q
  ·exact h.2 s q
  ·obtain rfl:s=t:=by simpa using q
   exact hf
theorem Canon.at_head {t:Term} {l:List Term} (h:Canon (t::l)):coT (t::l) t.mono=t.factor:=by
 rw [Uf,if_pos rfl,Tg λs hs=>K7 (h.head s hs),Int.add_zero]
theorem Canon.range {l:List Term} (h:Canon l) (m:A8):0<=coT l m/\coT l m<=10006:=by
 induction l with
 | nil=>simp [Q1]
 | cons t l ih =>
  by_cases hm:t.mono=m
  ·subst hm;rw [h.at_head];have:=h.2 t (by simp)
   omega
  ·rw [Uf,if_neg hm,F3];exact ih h.tail
theorem Zft:∀ (A B:List Term),Canon A->Canon B->(∀ m,coT A m=coT B m)->A=B
 | [],[],_,_,_=>rfl
 | [], b :: B, _, I, h => by
  have:=h b.mono;rw [I.at_head,Q1] at this
  have:=I.2 b (by simp)
  omega
 | a :: A, [], L, _, h => by
  have:=h a.mono;rw [L.at_head,Q1] at this
  have:=L.2 a (by simp)
  omega
 | a :: A, b :: B, L, I, h => by
  have ha:=L.2 a (by simp)
  have hb:=I.2 b (by simp)
  by_cases O:pcmp a.mono b.mono < 0
  ·exfalso;have:=h a.mono;rw [L.at_head,Tg (l:=b::B)] at this
   ·omega
   ·intro t ht;rcases Cb.1 ht with rfl | ht
    ·exact K7 O
    ·exact K7 (Uz O (I.head t ht))
  ·by_cases U:pcmp b.mono a.mono < 0
   ·exfalso;have:=h b.mono;rw [I.at_head,Tg (l:=a::A)] at this
    ·omega
    ·intro t ht;rcases Cb.1 ht with rfl | ht
     ·exact K7 U
     ·exact K7 (Uz U (L.head t ht))
   ·have hm:a.mono=b.mono:=Ez O U
    have hf:a.factor=b.factor:=by
     have:=h a.mono;rw [L.at_head,hm,I.at_head] at this; exact this
    have hab:a=b:=by cases a; cases b; simp only at hm hf; rw [hm,hf]
    subst hab;rw [Zft A B L.tail I.tail λm=>?_]
    have:=h m;rw [Uf,Uf] at this
    omega
theorem Znc {A B:List Term} (I:Canon A) (L:Canon B) (h:∀ m,coT A m % 10007=coT B m % 10007):A=B :=
 Zft A B I L λm=>by have:=h m; have:=I.range m; have:=L.range m; omega
theorem Ha (x:Int):-10007 < Fa x 10007/\Fa x 10007 < 10007:=by
 rcases Int.le_total 0 x with h | h
 ·rw [ZFp h]; omega
 ·have e:Fa x 10007=- Fa (-x) 10007:=by rw [Int.neg_tmod]; omega
  rw [e,ZFp (by omega)]; omega
theorem Zfu (x:Int):Fa (Fa x 10007+10007) 10007=x % 10007:=by
 have h:=Ha x;rw [ZFp (by omega)]
 have A:x=10007 * Int.tdiv x 10007+Fa x 10007:=(ZG0 x 10007).symm;omega
theorem Zfv (x:Int):Fa x 10007 % 10007=x % 10007:=by
 have h:x=10007 * Int.tdiv x 10007+Fa x 10007:=(ZG0 x 10007).symm;omega
theorem Znd {d e:Nat} (h:d * e=10007):d=1\/e=1:=by
 have key:∀ k,k < 101->k ∣ 10007->k<=1:=by decide
 by_cases hd:d < 101
 ·left
  have:=key d hd ⟨e,h.symm⟩;rcases Nat.eq_zero_or_pos d with rfl | q
  ·simp at h
  ·omega
 ·by_cases he:e < 101
  ·right
   have:=key e he ⟨d,by rw [Nat.mul_comm]; exact h.symm⟩
   rcases Nat.eq_zero_or_pos e with rfl | q
   ·simp at h
   ·omega
  ·exfalso;have:101 * 101<=d * e:=Nat.mul_le_mul (by omega) (by omega)
   omega
theorem Zne {a:Nat} (h:1<=a) (A:a<=10006):Nat.Coprime 10007 a:=by
 obtain ⟨e,he⟩:=Nat.gcd_dvd_left 10007 a;rcases Znd he.symm with q | q
 ·exact q
 ·exfalso;rw [q,Nat.mul_one] at he
  have:=Nat.le_of_dvd (by omega) (Nat.gcd_dvd_right 10007 a)
  omega
theorem Znf {a b:Int} (ha:1<=a/\a<=10006) (hb:1<=b/\b<=10006):(a * b) % 10007≠0:=by
 obtain ⟨x,rfl⟩:=ZG3 (show 0<=a by omega)
 obtain ⟨y,rfl⟩:=ZG3 (show 0<=b by omega)
 intro h
 have h:(x * y) % 10007=0:=by
  have e:((x:Int) * (y:Int))=((x * y:Nat):Int):=(Int.natCast_mul x y).symm;rw [e] at h; omega
 have:=(Zne (a:=x) (by omega) (by omega)).dvd_of_dvd_mul_left (Nat.dvd_of_mod_eq_zero h)
 have:=Nat.le_of_dvd (by omega) this
 omega
theorem Zng {s a b:Int} (hs:s=1\/s=-1) (ha:1<=a/\a<=10006) (hb:1<=b/\b<=10006):1<=(s * (a * b)) % 10007/\(s * (a * b)) % 10007<=10006:=by
 have:=Znf ha hb;rcases hs with rfl | rfl <;> omega
theorem Zfw:∀ (a x y:List Int),a.length=x.length->x.length=y.length->J8 (List.zipWith (·+·) a x) (List.zipWith (·+·) a y)=J8 x y
 | [],[],[],_,_=>rfl
 | a :: ar, x :: xs, y :: ys, A, B => by
  simp only [List.zipWith_cons_cons,J8];have:=Zfw ar xs ys (by simpa using A) (by simpa using B)
  by_cases h:x=y
  ·subst h; simpa using this
  ·rw [if_pos (by omega),if_pos h]; omega
 | [],_::_,_,h,_=>by simp at h
 | _::_,[],_,h,_=>by simp at h
 | _::_,_::_,[],_,h=>by simp at h
 | [],[],_::_,_,h=>by simp at h
theorem Znh (a x y:A8):pcmp (a.add x) (a.add y)=pcmp x y:=Zfw a.list x.list y.list rfl rfl
theorem Xk {α:Type} [Inhabited α] {l:List α} {i:Nat} (h:i < l.length):l.take (i+1)=l.take i++[l.getD i Ci]:=by
 rw [List.take_add_one]; simp [Co,h]
theorem Canon.at_lt {l:List Term} (h:Canon l) {i j:Nat} (hij:i < j) (hj:j < l.length):pcmp (l.getD i Ci).mono (l.getD j Ci).mono < 0:=by
 have:=(List.pairwise_iff_getElem.1 h.1) i j (by omega) hj hij
 simpa [Co,hj,show i < l.length by omega] using this
theorem Canon.at_range {l:List Term} (h:Canon l) {i:Nat} (hi:i < l.length):1<=(l.getD i Ci).factor/\(l.getD i Ci).factor<=10006:=h.2 _ (by simp [Co,hi])
theorem Yw {α:Type} [Inhabited α] {l:List α} {i:Nat} (h:i < l.length):l.getD i Ci∈l:=by simp [Co,h]
structure AddI (f g:List Term) (k:Int) (out:List Term) (i j:Nat):Prop where
 hi:i<=f.length
 hj:j<=g.length
 can:Canon out
 cf:∀ m,coT out m % 10007=(coT (f.take i) m+k * coT (g.take j) m) % 10007
 bf:∀ x,x∈out->i < f.length->pcmp x.mono (f.getD i Ci).mono < 0
 bg:∀ x,x∈out->j < g.length->pcmp x.mono (g.getD j Ci).mono < 0
 mo:∀ x,x∈out->∃ y,(y∈f\/y∈g)/\y.mono=x.mono
 ln:out.length<=i+j
theorem AddI.zero (f g:List Term) (k:Int):AddI f g k [] 0 0 :=
 ⟨by omega,by omega,Canon.nil,by intro m; simp [Q1],by simp,by simp,by simp,by simp⟩
theorem Th {α:Type} {l:List α} {t x:α} (h:x∈l++[t]):x∈l\/x=t:=by simpa using h
theorem AddI.stepF {f g:List Term} {k:Int} {out:List Term} {i j:Nat} (h:AddI f g k out i j) (cf:Canon f) (cg:Canon g) (hi:i < f.length) (hb:j < g.length->pcmp (f.getD i Ci).mono (g.getD j Ci).mono < 0) :
  AddI f g k (out++[f.getD i Ci]) (i+1) j where
 hi:=hi
 hj:=h.hj
 can:=h.can.snoc (λs hs=>h.bf s hs hi) (cf.at_range hi)
 cf m:=by
  have:=h.cf m;rw [T6,Xk hi,T6];omega
 bf x hx hl:=by
  rcases Th hx with q | rfl
  ·exact Uz (h.bf x q hi) (cf.at_lt (by omega) hl)
  ·exact cf.at_lt (by omega) hl
 bg x hx hl:=by
  rcases Th hx with q | rfl
  ·exact h.bg x q hl
  ·exact hb hl
 mo x hx:=by
  rcases Th hx with q | rfl
  ·exact h.mo x q
  ·exact⟨_,.inl (Yw hi),rfl⟩
 ln:=by have:=h.ln; simp; omega
theorem AddI.cfG {f g:List Term} {k:Int} {out:List Term} {i j:Nat} (h:AddI f g k out i j) (hj:j < g.length) (m:A8) :
  k * coT (g.take (j+1)) m=k * coT (g.take j) m+(if(g.getD j Ci).mono=m then k * (g.getD j Ci).factor else 0):=by
 rw [Xk hj,T6,Int.mul_add];split <;> simp
theorem AddI.stepG0 {f g:List Term} {k:Int} {out:List Term} {i j:Nat} (h:AddI f g k out i j) (cf:Canon f) (cg:Canon g) (hj:j < g.length)
  (hz:(k * (g.getD j Ci).factor) % 10007=0):AddI f g k out i (j+1) where
 hi:=h.hi
 hj:=hj
 can:=h.can
 cf m:=by
  have:=h.cf m;rw [h.cfG hj m];split <;> omega
 bf:=h.bf
 bg x hx hl:=Uz (h.bg x hx hj) (cg.at_lt (by omega) hl)
 mo:=h.mo
 ln:=by have:=h.ln; omega
theorem AddI.stepG1 {f g:List Term} {k:Int} {out:List Term} {i j:Nat} (h:AddI f g k out i j) (cf:Canon f) (cg:Canon g) (hj:j < g.length) (hb:i < f.length->pcmp (g.getD j Ci).mono (f.getD i Ci).mono < 0)
  {v:Int} (hv:v=(k * (g.getD j Ci).factor) % 10007) (hz:v≠0):AddI f g k (out++[⟨(g.getD j Ci).mono,v⟩]) i (j+1) where
 hi:=h.hi
 hj:=hj
 can:=h.can.snoc (λs hs=>h.bg s hs hj) (by dsimp only; omega)
 cf m:=by
  have:=h.cf m;rw [h.cfG hj m,T6];dsimp only;split <;> omega
 bf x hx hl:=by
  rcases Th hx with q | rfl
  ·exact h.bf x q hl
  ·exact hb hl
 bg x hx hl:=by
  rcases Th hx with q | rfl
  ·exact Uz (h.bg x q hj) (cg.at_lt (by omega) hl)
  ·exact cg.at_lt (by omega) hl
 mo x hx:=by
  rcases Th hx with q | rfl
  ·exact h.mo x q
  ·exact⟨_,.inr (Yw hj),rfl⟩
 ln:=by have:=h.ln; simp; omega
theorem AddI.stepB0 {f g:List Term} {k:Int} {out:List Term} {i j:Nat} (h:AddI f g k out i j) (cf:Canon f) (cg:Canon g) (hi:i < f.length) (hj:j < g.length) (he:(f.getD i Ci).mono=(g.getD j Ci).mono)
  (hz:((f.getD i Ci).factor+k * (g.getD j Ci).factor) % 10007=0):AddI f g k out (i+1) (j+1) where
 hi:=hi
 hj:=hj
 can:=h.can
 cf m:=by
  have:=h.cf m;rw [h.cfG hj m,Xk hi,T6,he];split <;> omega
 bf x hx hl:=Uz (h.bf x hx hi) (cf.at_lt (by omega) hl)
 bg x hx hl:=Uz (h.bg x hx hj) (cg.at_lt (by omega) hl)
 mo:=h.mo
 ln:=by have:=h.ln; omega
theorem AddI.stepB1 {f g:List Term} {k:Int} {out:List Term} {i j:Nat} (h:AddI f g k out i j) (cf:Canon f) (cg:Canon g) (hi:i < f.length) (hj:j < g.length) (he:(f.getD i Ci).mono=(g.getD j Ci).mono)
  {v:Int} (hv:v=((f.getD i Ci).factor+k * (g.getD j Ci).factor) % 10007) (hz:v≠0):AddI f g k (out++[⟨(f.getD i Ci).mono,v⟩]) (i+1) (j+1) where
 hi:=hi
 hj:=hj
 can:=h.can.snoc (λs hs=>h.bf s hs hi) (by dsimp only; omega)
 cf m:=by
  have:=h.cf m;rw [h.cfG hj m,Xk hi,T6,T6,he];dsimp only;split <;> omega
 bf x hx hl:=by
  rcases Th hx with q | rfl
  ·exact Uz (h.bf x q hi) (cf.at_lt (by omega) hl)
  ·exact cf.at_lt (by omega) hl
 bg x hx hl:=by
  rcases Th hx with q | rfl
  ·exact Uz (h.bg x q hj) (cg.at_lt (by omega) hl)
  ·dsimp only; rw [he]; exact cg.at_lt (by omega) hl
 mo x hx:=by
  rcases Th hx with q | rfl
  ·exact h.mo x q
  ·exact⟨_,.inl (Yw hi),rfl⟩
 ln:=by have:=h.ln; simp; omega
structure IsAdd (f g:List Term) (k:Int) (out:List Term):Prop where
 can:Canon out
 cf:∀ m,coT out m % 10007=(coT f m+k * coT g m) % 10007
 mo:∀ x,x∈out->∃ y,(y∈f\/y∈g)/\y.mono=x.mono
 ln:out.length<=f.length+g.length
theorem AddI.done {f g:List Term} {k:Int} {out:List Term} {i j:Nat} (h:AddI f g k out i j) (hi:¬ i < f.length) (hj:¬ j < g.length):IsAdd f g k out where
 can:=h.can
 cf m:=by have:=h.cf m; rwa [Fs (by omega),Fs (by omega)] at this
 mo:=h.mo
 ln:=by have:=h.ln; have:=h.hi; have:=h.hj; omega
def pr1 (ds:List Int) (a:A8) (n:Int) (b:A8) (m':Int) (m:A8):Int:=if(Yl ds a b).1=m then(Yl ds a b).2 * (n * m') else 0
def shC (ds:List Int) (t:Term) (g:List Term) (m:A8):Int:=tot (λu=>pr1 ds t.mono t.factor u.mono u.factor m) g
def prC (ds:List Int) (f g:List Term) (m:A8):Int:=tot (λt=>shC ds t g m) f
structure IsShift (ds:List Int) (t:Term) (g out:List Term):Prop where
 can:Canon out
 cf:∀ m,coT out m % 10007=shC ds t g m % 10007
 mo:∀ x,x∈out->∃ u,u∈g/\x.mono=t.mono.add u.mono/\¬ Clash ds t.mono u.mono
 ln:out.length<=g.length
theorem IsShift.nil (ds:List Int) (t:Term):IsShift ds t [] []:=⟨Canon.nil,by intro m; rfl,by simp,by simp⟩
theorem Zfx (ds:List Int) (t:Term) (g:List Term) (u:Term) (m:A8):shC ds t (g++[u]) m=shC ds t g m+pr1 ds t.mono t.factor u.mono u.factor m:=by
 rw [shC,Qz]; simp [tot,shC]
theorem Canon.init {l:List Term} {u:Term} (h:Canon (l++[u])):Canon l/\∀ s,s∈l->pcmp s.mono u.mono < 0:=by
 have:=Zwk.1 h.1;exact⟨⟨this.1,λs hs=>h.2 s (by simp [hs])⟩,λs hs=>this.2.2 s hs u (by simp)⟩
theorem IsShift.skip {ds:List Int} {t:Term} {g out:List Term} {u:Term} (h:IsShift ds t g out) (hs:(Yl ds t.mono u.mono).2=0):IsShift ds t (g++[u]) out where
 can:=h.can
 cf m:=by
  have:=h.cf m;rw [Zfx,pr1,hs];split <;> simp [this]
 mo x hx:=by
  obtain ⟨u',hu,he⟩:=h.mo x hx;exact⟨u',by simp [hu],he⟩
 ln:=by have:=h.ln; simp; omega
theorem Q2 {ds:List Int} {a b:A8} (h:(Yl ds a b).2≠0):¬ Clash ds a b/\(Yl ds a b).1=a.add b/\((Yl ds a b).2=1\/(Yl ds a b).2=-1):=by
 have hc:¬ Clash ds a b:=λq=>h (by simp [Yl,q])
 refine⟨hc,by simp [Yl,hc],?_⟩
 simp only [Yl,hc,if_false];exact Em _
theorem IsShift.put {ds:List Int} {t:Term} {g out:List Term} {u:Term} (h:IsShift ds t g out) (cg:Canon (g++[u])) (ht:1<=t.factor/\t.factor<=10006) (hs:(Yl ds t.mono u.mono).2≠0) {v:Int} (hv:v=((Yl ds t.mono u.mono).2 * (t.factor * u.factor)) % 10007) :
  IsShift ds t (g++[u]) (out++[⟨(Yl ds t.mono u.mono).1,v⟩]):=by
 obtain ⟨hc,he,hsg⟩:=Q2 hs;have hu:=cg.2 u (by simp)
 have hnz:=Zng hsg ht hu;refine⟨h.can.snoc (λs hs'=>?_) (by dsimp only; omega),λm=>?_,λx hx=>?_,by have:=h.ln; simp; omega⟩
 ·obtain ⟨u',hu',he',_⟩:=h.mo s hs';dsimp only;rw [he,he',Znh];exact cg.init.2 u' hu'
 ·have:=h.cf m;rw [T6,Zfx,pr1];dsimp only;split <;> omega
 ·rcases Th hx with q | rfl
  ·obtain ⟨u',hu',he'⟩:=h.mo x q;exact⟨u',by simp [hu'],he'⟩
  ·exact⟨u,by simp,he,hc⟩
structure IsProd (ds:List Int) (f g out:List Term):Prop where
 can:Canon out
 cf:∀ m,coT out m % 10007=prC ds f g m % 10007
 mo:∀ x,x∈out->∃ t u,t∈f/\u∈g/\x.mono=t.mono.add u.mono/\¬ Clash ds t.mono u.mono
 ln:out.length<=f.length * g.length
theorem IsProd.nil (ds:List Int) (g:List Term):IsProd ds [] g []:=⟨Canon.nil,by intro m; rfl,by simp,by simp⟩
theorem IsProd.step {ds:List Int} {f g out sh out':List Term} {t:Term} (h:IsProd ds f g out) (hs:IsShift ds t g sh) (ha:IsAdd out sh 1 out'):IsProd ds (f++[t]) g out' where
 can:=ha.can
 cf m:=by
  have I:=h.cf m;have A:=hs.cf m;have B:=ha.cf m;rw [prC,Qz];simp only [tot];unfold prC at I
  omega
 mo x hx:=by
  obtain ⟨y,hy | hy,he⟩:=ha.mo x hx
  ·obtain ⟨a,u,I,A,B,L⟩:=h.mo y hy;exact⟨a,u,by simp [I],A,he ▸ B,L⟩
  ·obtain ⟨u,A,B,L⟩:=hs.mo y hy;exact⟨t,u,by simp,A,he ▸ B,L⟩
 ln:=by
  have I:=h.ln;have A:=hs.ln;have B:=ha.ln;have:(f++[t]).length * g.length=f.length * g.length+g.length:=by simp [Nat.add_mul]
  omega
def MapOk (l:List (A8×Int)):Prop:=(l.map Fo).Nodup/\∀ p,p∈l->1<=p.2/\p.2<=10006
theorem MapOk.nil:MapOk []:=⟨by simp,by simp⟩
theorem Ti {l:List (A8×Int)} (h:(l.map Fo).Nodup) (m:A8):(Xa l m).getD 0=co l m:=by
 induction l with
 | nil=>rfl
 | cons p l ih =>
  simp only [Fm,ZFj] at h
  simp only [Xa,Vs];by_cases hm:m=p.1
  ·subst hm;rw [if_pos rfl,if_pos rfl,T7]
   ·simp
   ·intro t ht e;exact h.1 (Cp.2 ⟨t,ht,e⟩)
  ·rw [if_neg hm,if_neg (λe=>hm e.symm),ih h.2,F3]
theorem Zbe {l:List (A8×Int)} (h:(l.map Fo).Nodup) (x:A8) (v:Int) (m:A8):co (Yv l x v) m=if m=x then v else co l m:=by
  induction l with
  | nil => simp only [Yv, Vs, Mq]; by_cases hm : m = x
           · subst hm; simp
           · rw [if_neg (fun e=>hm e.symm),if_neg hm]; rfl
  | cons p l ih =>
    simp only [Fm,ZFj] at h
    simp only [Yv]
    split
    · rename_i hx
      rw [Vs,Vs]
      dsimp only
      by_cases hm:m=x
      · subst hm
        rw [if_pos rfl,if_pos rfl,T7]
        · simp
        · intro t ht e
          exact h.1 (Cp.2 ⟨t,ht,by rw [e,hx]⟩)
      · rw [if_neg (fun e=>hm e.symm),if_neg hm,if_neg (fun e=>hm (by rw [hx,e]))]
    · rename_i hx
      rw [Vs,Vs,ih h.2]
      by_cases hm:m=x
      · subst hm; rw [if_pos rfl,if_pos rfl,if_neg (fun e=>hx e.symm)]; simp
      · rw [if_neg hm,if_neg hm]
theorem Zni {l:List (A8×Int)} (h:(l.map Fo).Nodup) (x:A8) (m:A8):co (Jy l x) m=if m=x then 0 else co l m:=by
 induction l with
 | nil=>simp [Jy,Mq]
 | cons p l ih =>
  simp only [Fm,ZFj] at h
  simp only [Jy];split
  ·rename_i hx;rw [Vs];by_cases hm:m=x
   ·subst hm;rw [if_pos rfl,T7];intro t ht e;exact h.1 (Cp.2 ⟨t,ht,by rw [e,hx]⟩)
   ·rw [if_neg hm,if_neg (λe=>hm (by rw [hx,e]))]; simp
  ·rename_i hx;rw [Vs,Vs,ih h.2];by_cases hm:m=x
   ·subst hm; rw [if_pos rfl,if_pos rfl,if_neg (λe=>hx e.symm)]; rfl
   ·rw [if_neg hm,if_neg hm]
theorem Zbf {l:List (A8×Int)} {x:A8} {p:A8×Int} (h:p∈Jy l x):p∈l:=by
 induction l with
 | nil=>simp [Jy] at h
 | cons q l ih =>
  simp only [Jy] at h
  split at h
  ·simp [h]
  ·rcases Cb.1 h with rfl | h
   ·simp
   ·simp [ih h]
theorem Znj {l:List (A8×Int)} (x:A8) (h:(l.map Fo).Nodup):((Jy l x).map Fo).Nodup:=by
 induction l with
 | nil=>simp [Jy]
 | cons q l ih =>
  simp only [Fm,ZFj] at h
  simp only [Jy];split
  ·exact h.2
  ·simp only [Fm,ZFj];refine⟨λhq=>h.1 ?_,ih h.2⟩
   obtain ⟨p,hp,he⟩:=Cp.1 hq;exact Cp.2 ⟨p,Zbf hp,he⟩
theorem Zbg {l:List (A8×Int)} {x:A8} {v:Int} {p:A8×Int} (h:p∈Yv l x v):p=(x,v)\/p∈l:=by
 induction l with
 | nil=>left; simpa [Yv] using h
 | cons q l ih =>
  simp only [Yv] at h
  split at h
  ·rcases Cb.1 h with rfl | h
   ·exact .inl rfl
   ·exact .inr (by simp [h])
  ·rcases Cb.1 h with rfl | h
   ·exact .inr (by simp)
   ·rcases ih h with e | e
    ·exact .inl e
    ·exact .inr (by simp [e])
theorem Znk (l:List (A8×Int)) (x:A8) (v:Int):(Yv l x v).length<=l.length+1:=by
 induction l with
 | nil=>simp [Yv]
 | cons q l ih=>simp only [Yv]; split <;> simp; omega
theorem Znl (l:List (A8×Int)) (x:A8):(Jy l x).length<=l.length:=by
 induction l with
 | nil=>simp [Jy]
 | cons q l ih=>simp only [Jy]; split <;> simp; omega
theorem MapOk.put {l:List (A8×Int)} (h:MapOk l) {x:A8} {v:Int} (hv:1<=v/\v<=10006):MapOk (Yv l x v) :=
 ⟨Ej h.1,λp hp=>by rcases Zbg hp with rfl | q; exact hv; exact h.2 p q⟩
theorem MapOk.del {l:List (A8×Int)} (h:MapOk l) (x:A8):MapOk (Jy l x):=⟨Znj x h.1,λp hp=>h.2 p (Zbf hp)⟩
theorem MapOk.range {l:List (A8×Int)} (h:MapOk l) (m:A8):0<=co l m/\co l m<=10006:=by
 rw [<- Ti h.1]
 cases hg:Xa l m with
 | none=>simp
 | some v =>
  have:(m,v)∈l:=by
   clear h
   induction l with
   | nil=>simp [Xa] at hg
   | cons p l ih =>
    simp only [Xa] at hg
    split at hg
    ·rename_i e; injection hg with A; subst A; subst e; simp
    ·simp [ih hg]
  have:=h.2 _ this;simp only [Option.getD_some];dsimp only at this
  omega
structure IsPut (l:List (A8×Int)) (x:A8) (c:Int) (l':List (A8×Int)):Prop where
 ok:MapOk l'
 cf:∀ m,co l' m % 10007=(co l m+if x=m then c else 0) % 10007
 ks:∀ p,p∈l'->p.1=x\/∃ q,q∈l/\q.1=p.1
 ln:l'.length<=l.length+1
theorem IsPut.put {l:List (A8×Int)} (h:MapOk l) {x:A8} {c v:Int} (hv:v=(co l x+c) % 10007) (hz:v≠0):IsPut l x c (Yv l x v) where
 ok:=h.put (by omega)
 cf m:=by
  rw [Zbe h.1];by_cases hm:m=x
  ·subst hm; rw [if_pos rfl,if_pos rfl]; omega
  ·rw [if_neg hm,if_neg (λe=>hm e.symm)]; simp
 ks p hp:=by
  rcases Zbg hp with rfl | q
  ·exact .inl rfl
  ·exact .inr ⟨p,q,rfl⟩
 ln:=Znk _ _ _
theorem IsPut.del {l:List (A8×Int)} (h:MapOk l) {x:A8} {c:Int} (hz:(co l x+c) % 10007=0):IsPut l x c (Jy l x) where
 ok:=h.del x
 cf m:=by
  rw [Zni h.1];by_cases hm:m=x
  ·subst hm; rw [if_pos rfl,if_pos rfl]; omega
  ·rw [if_neg hm,if_neg (λe=>hm e.symm)]; simp
 ks p hp:=.inr ⟨p,Zbf hp,rfl⟩
 ln:=by have:=Znl l x; omega
theorem Znm {l:List (A8×Int)} (h:MapOk l) {xs:List A8} (hp:xs.Perm (l.map Fo)) (hw:xs.Pairwise (λa b=>¬ pcmp b a < 0)):Canon (xs.map λx=>⟨x,(Xa l x).getD 0⟩)/\∀ m,coT (xs.map λx=>⟨x,(Xa l x).getD 0⟩) m=co l m:=by
 have hnd:xs.Nodup:=hp.nodup_iff.2 h.1
 have hmem:∀ x,x∈xs->∃ v,(x,v)∈l/\(Xa l x).getD 0=v:=by
  intro x hx;obtain ⟨p,hpl,rfl⟩:=Cp.1 (hp.mem_iff.1 hx);refine⟨p.2,hpl,?_⟩
  rw [Ti h.1];have A:=h.1;clear hp hx h
  induction l with
  | nil=>simp at hpl
  | cons q l ih =>
   simp only [Fm,ZFj] at A
   rw [Vs];rcases Cb.1 hpl with rfl | hpl
   ·rw [if_pos rfl,T7]
    ·simp
    ·intro t ht e; exact A.1 (Cp.2 ⟨t,ht,e⟩)
   ·rw [if_neg (λe=>A.1 (Cp.2 ⟨p,hpl,e.symm⟩)),ih hpl A.2,F3]
 refine⟨⟨?_,λt ht=>?_⟩,λm=>?_⟩
 ·rw [List.pairwise_map];have:xs.Pairwise (λa b=>a≠b):=hnd
  refine(hw.and this).imp λ{a b} hab=>?_
  by_cases q:pcmp a b < 0
  ·exact q
  ·exact absurd (Ez q hab.1) hab.2
 ·obtain ⟨x,hx,rfl⟩:=Cp.1 ht;obtain ⟨v,hv,he⟩:=hmem x hx;dsimp only;rw [he];exact h.2 _ hv
 ·rw [coT,Q0];dsimp only;rw [Mp _ hp,Q0];refine Wa λp hpl=>?_
  obtain ⟨v,hv,he⟩:=hmem p.1 (hp.mem_iff.2 (Cp.2 ⟨p,hpl,rfl⟩))
  have:v=p.2:=by
   rw [<- he,Ti h.1]
   have A:=h.1;clear hp h hmem he hv
   induction l with
   | nil=>simp at hpl
   | cons q l ih =>
    simp only [Fm,ZFj] at A
    rw [Vs];rcases Cb.1 hpl with rfl | hpl
    ·rw [if_pos rfl,T7]
     ·simp
     ·intro t ht e; exact A.1 (Cp.2 ⟨t,ht,e⟩)
    ·rw [if_neg (λe=>A.1 (Cp.2 ⟨p,hpl,e.symm⟩)),ih hpl A.2,F3]
  rw [he,this]
def Q3 (a:A8):List A8->List A8
 | []=>[a]
 | b::l=>if pcmp a b < 0 then a::b::l else b::Q3 a l
theorem Zfy (a:A8) (l:List A8):(Q3 a l).Perm (a::l):=by
 induction l with
 | nil=>exact ZFy _
 | cons b l ih =>
  simp only [Q3];split
  ·exact ZFy _
  ·exact(ih.cons b).trans (List.Perm.swap _ _ _)
theorem Znn {a b c:A8} (B:¬ pcmp b a < 0) (A:¬ pcmp c b < 0):¬ pcmp c a < 0:=λh=>by
 by_cases q:pcmp a b < 0
 ·exact A (Uz h q)
 ·have:=Ez q B;subst this;exact A h
theorem Zno {a:A8} {l:List A8} (h:l.Pairwise (λa b=>¬ pcmp b a < 0)):(Q3 a l).Pairwise (λa b=>¬ pcmp b a < 0):=by
 induction l with
 | nil=>simp [Q3]
 | cons b l ih =>
  simp only [Q3];have hb:=Cl.1 h;split
  ·rename_i q;refine Cl.2 ⟨λx hx=>?_,h⟩
   rcases Cb.1 hx with rfl | hx
   ·exact E0 q
   ·exact Znn (E0 q) (hb.1 x hx)
  ·rename_i q;refine Cl.2 ⟨λx hx=>?_,ih hb.2⟩
   rcases Cb.1 ((Zfy a l).mem_iff.1 hx) with rfl | hx
   ·exact q
   ·exact hb.1 x hx
theorem Zfz:∀ l:List A8,∃ xs:List A8,xs.Perm l/\xs.Pairwise (λa b=>¬ pcmp b a < 0)
 | []=>⟨[],ZFy _,ZGy⟩
 | a :: l => by
  obtain ⟨xs,A,h⟩:=Zfz l;exact⟨Q3 a xs,(Zfy a xs).trans (A.cons a),Zno h⟩
open Go Go.RowKit Go.ChangeShapes Go.WideShapes Go.ChangeAt
theorem Sv {α:Type} {t:Ty α} {x:α} {cs:List Value} {fp:List Nat} {w:World} (h:t.rep x cs fp w):t.all [x] cs fp w:=by
 have hl:=t.len h;refine⟨t.low h,by rw [hl]; simp,t.one h,λi hi=>?_⟩
 obtain rfl:i=0:=by simpa using hi
 rw [Nat.zero_mul,List.drop_zero,Fs (by omega)]
 exact h
section
variable {H:Type} {enc:TypeId×Value->H} {P:Program} {W:World}
end
end Vc
set_option maxRecDepth 4000
set_option maxHeartbeats 4000000
namespace Go.Proofs.YtaagfepgbofmlaaGreat
open Go Go.RowKit Vc
variable {b0 bp0 b1 bp1 b2 bp2 b3 bp3 b4 bp4 b5 bp5 b6 bp6 b7 bp7 mb0:Nat} {Ia Ic Ij Ip Iq Ir Ie Iu u1_2 u1_3 u1_4 u1_5 Ik u2_1 u2_2 u2_3 u2_4 u2_5 u3_0 u3_1 u3_2 u3_3 u3_4 u3_5 Is u4_1 u4_2 u4_3 u4_4 u4_5 u5_0 u5_1 u5_2 u5_3 u5_4 u5_5 u6_0 u6_1 u6_2 u6_3 u6_4 u6_5 u7_0 u7_1 u7_2 u7_3 u7_4 u7_5:Value} {Ib Ig It fp3 fp4 fp5 fp6 fp7 fp0_0 fp0_1 fp0_2 fp0_3 fp0_4 fp0_5 fp1_0 fp1_1 fp1_2 fp1_3 fp1_4 fp1_5 F0:List Nat}
theorem Iv:ScaT ZCc 66:=⟨⟨_,Tryz.underlying66,rfl⟩,by kernel_rfl⟩
theorem ag50:AggT ZCc 50 1:=⟨⟨_,ZFv,rfl⟩,by kernel_rfl⟩
theorem sc23:ScaT ZCc 23:=⟨⟨_,ZFi,rfl⟩,by kernel_rfl⟩
theorem Znp:Wm ZCc 55 (.agg #[.slice none 0 0]) 1 24:=by unfold Wm; kernel_rfl
theorem z32:Je ZCc 32 (.agg #[.slice none 0 0,.slice none 0 0]):=by unfold Je; kernel_rfl
def Hb (B:ZCb) (I:Alg) (K:Bool->Prop):Prop :=
 Qw B (λh=>Su I h (λA=>K (decide ((A.length:Int) > 0))))
theorem Znq (L:ZCb) (O:Alg)  {K:Bool->Prop} (h:Hb L O K) (w0:World) (q0:ZCv.rep L [Ia] Ib w0) (q1:TAlg.rep O [Ie,Iu] Ig w0) (ah:(blk b1 32 [Ie,Iu]).holds w0) :
  Calls ZCc 153 #[.agg #[Ia],vQ b1] w0 λe w'=>∃ (r0:Bool),
   e=.returned (.bool r0)/\K r0/\Bel w0 w':=by
 unfold Hb at h
 refine cof Tryz.func153 rfl 9 Tryz.ntmps153 ?_
 have A:=ZCu (X:=Nox) w0 [ZB8 TForm L [Ia] Ib,ZB8 TAlg O [Ie,Iu] Ig,blk b1 32 [Ie,Iu]] (alc q0 (alc q1 (al1 ah)));have ai:=(A.Iw 0 rfl);replace A:=A.I0 0 rfl (ZB8 ZCa.ty.sl L.terms [Ia] Ib) (λ_=>(Xq ai)) (λ_ B=>B)
 replace A:=A.dAlg 2 rfl;refine sr (Yg (v:=.agg #[Ia]) A [Ia] rfl rfl λb8 ak al A=>Zd (v:=.bool false) rfl (dn (sr (Yr A 0 [Ia] rfl ag55 rfl rfl rfl (Zf [.agg #[Ia]] _ Tryz.func78 rfl rfl rfl (Za9 L h _ (Y1 (A.Iw 2 rfl))) ?_)))))
 rintro _ am ⟨U,V,rfl,h,aa,ab,ac⟩;refine rt ?_
 replace A:=A.push ac (mapS V U) aa (λb_ B=>by obtain rfl:=Fc.1 B; exact ab)
 refine Zf [vQ b1,.map (some V)] _ Tryz.func154 rfl rfl rfl (Zbb O U h _ (Yf (A.Iw 1 rfl) (A.Iw 0 rfl)) (A.Iw 5 rfl) (A.Ix 0 rfl)) ?_
 rintro _ an ⟨I,aj,rfl,h,ad,ae,ag⟩;refine rt ?_
 replace A:=A.push ag (mapS aj I) ad (λb_ B=>by obtain rfl:=Fc.1 B; exact ae)
 refine Zk6 (A.Ix 0 rfl) ZC8 rfl rfl (Jn rfl rfl (Zd (v:=.bool (decide ((I.length:Int) > 0))) rfl (dn (ZCi ?_))))
 exact Zj rfl (Zg rfl) ⟨decide ((I.length:Int) > 0),rfl,h,A.below⟩ (.inl rfl)
def E2 (O:List ZCb) (L:ZCb->(Bool->Prop)->Prop) (K:Int->Prop):Prop :=
 Z1 (λh (B:Unit) A=>L (O.getD h Ci) (λI=>(if I=true then K (h:Int) else A ()))) (λ(B:Unit)=>K (-1)) O.length 0 ()
theorem Znr (a0:List ZCb) (p1:ZCb->(Bool->Prop)->Prop)  {K:Int->Prop} (h:E2 a0 p1 K) (w0:World) (q0:ZCv.sl.rep a0 [Ia] Ib w0) {g1:Nat} {cp1:List Value} {fn1:Func} (hf1:ZCc.funcs[g1]? = some fn1) (hb1:fn1.body.isNone=false) (hn1:(fn1.name == "runtime.NumGoroutine")=false) (hp1:∀ (y0:ZCb) (yu0_0:Value) (yf0:List Nat) (K_:Bool->Prop) (w_:World),Bel w0 w_->ZCv.rep y0 [yu0_0] yf0 w_->p1 y0 K_->Calls ZCc g1 (ZB7 ([.agg #[yu0_0]]++cp1)) w_ λe w'=>∃ (z0:Bool),e=.returned (.bool z0)/\K_ z0/\Bel w_ w') :
  Calls ZCc 155 #[Ia,.func (.func g1) #[] (ZB7 cp1)] w0 λe w'=>∃ (r0:Int),
   e=.returned (vI r0)/\K r0/\Bel w0 w':=by
 unfold E2 at h
 refine cof Tryz.func155 rfl 19 Tryz.ntmps155 ?_
 have hC:=ZCu (X:=Nox) w0 [ZB8 ZCv.sl a0 [Ia] Ib] (al1 q0);refine sr (Zd (v:=vI 0) rfl (dn (ZB9 (sr (Za (v:=Ia) rfl (Zu hC 0 rfl ZCx rfl (Za (v:=vI 0) rfl (dn (ZCf ?_)))))))))
 have hN10:a0.length<=9223372036854775807:=Yz (hC.Iw 0 rfl);refine Yh (S:=Unit) _ _ (λi10 s10 e_ w_=>Zt e_ [(0,Ia),(1,.func (.func g1) #[] (ZB7 cp1)),(7,vI (a0.length:Int)),(8,vI (i10:Int))]/\Ctx Nox w0 w_ [] [ZB8 ZCv.sl a0 [Ia] Ib]) a0.length ?_ ?_ (s0:=()) ?_ h
 ·clear hC h;rintro i10 s10 e_ w10 nx10 K10 hi10 ⟨hS_,hC⟩ h hK10;rw [ue hS_];refine sr (Zl rfl rfl (dn (ZB9 (Z8 rfl (decide_eq_true (by omega)) (ZCd (Ze (ZB9 (ZCf (sr (Za (v:=vI (i10:Int)) rfl (Zd (v:=vI (i10:Int)) rfl (dn (sr (Za (v:=.func (.func g1) #[] (ZB7 cp1)) rfl (Za (v:=Ia) rfl (Za (v:=vI (i10:Int)) rfl ?_))))))))))))))))
  obtain ⟨Ad10,c10,hv10⟩:=Zx (hC.Iw 0 rfl) i10 hi10;refine Yn (len:=a0.length) ZCx ag55.size (tr rfl hv10) rfl (ZCq _) (ZC9.2 hi10) ?_
  obtain ⟨cs_,hl10,hc10,hr10⟩:=Xb (hC.Iw 0 rfl) hv10 i10 hi10;obtain ⟨u10,rfl⟩:=ZC7.1 hl10;clear hl10;rw [Y9 _ _ hi10] at hr10
  have hp10:=hr10;replace hC:=hC.I0 0 rfl (ZB8 ZCa.ty.sl ((a0.getD i10 Ci).terms) [u10] Ib) (λ_=>(Xq hp10)) (λ_ hb_=>hb_)
  refine Ji [u10] hc10 ag55 rfl rfl ?_
  refine Zaj [.agg #[u10]] _ rfl hf1 hb1 hn1 rfl (hp1 _ _ _ _ _ hC.below (Y1 (hC.Iw 0 rfl)) h) (λret10 w11 hR10=>?_)
  obtain ⟨r10,rfl,h,hB10⟩:=hR10;refine⟨_,rfl,?_⟩
  replace hC:=hC.Iy hB10;refine dn ?_
  refine Zs rfl (λhb10=>?_) (λhb10=>?_)
  ·replace h:=ift h (hb10);refine sr (Za (v:=vI (i10:Int)) rfl (Zd (v:=vI (i10:Int)) rfl (dn ?_)))
   refine ZCi (Z9 (Zn (Zn (Z9 (Zn ?_)))))
   exact Zj rfl (Zg rfl) ⟨(i10:Int),rfl,h,hC.below⟩ (.inl rfl)
  ·replace h:=Zk h (Xe hb10);refine ZCd (Zr (Ze (Zh (Zm rfl rfl (Za (v:=vI (Zwt.wrap ((i10:Int)+1))) rfl (done ?_))))))
   exact hK10 () _ _ ⟨(sl ⟨rfl,rfl,rfl,(tr rfl (I1 _ (Z2 hi10 hN10))),trivial⟩),(hC.sP [1] rfl)⟩ h
 ·clear hC h;rintro s10 e_ w12 K10 ⟨hS_,hC⟩ h;rw [ue hS_];refine sr (Zl rfl rfl (dn (ZB9 (Z4 rfl (decide_eq_false (by omega)) ?_))))
  refine ZCo (Zi (Zi (Zy ?_)))
  refine Ze (sr (Zd (v:=vI (-1)) rfl (dn (ZCi ?_))))
  exact Zj rfl (Zg rfl) ⟨(-1),rfl,h,hC.below⟩ (.inl rfl)
 ·skip;exact⟨(slq rfl),hC⟩
def Mr (h:List ZCb) (A:ZCb->(Bool->Prop)->Prop) (K:Bool->Prop):Prop :=
 E2 h A (λB=>K (decide (B≥0)))
theorem Zf0 (a0:List ZCb) (p1:ZCb->(Bool->Prop)->Prop)  {K:Bool->Prop} (h:Mr a0 p1 K) (w0:World) (q0:ZCv.sl.rep a0 [Ia] Ib w0) {g1:Nat} {cp1:List Value} {fn1:Func} (hf1:ZCc.funcs[g1]? = some fn1) (hb1:fn1.body.isNone=false) (hn1:(fn1.name == "runtime.NumGoroutine")=false) (hp1:∀ (y0:ZCb) (yu0_0:Value) (yf0:List Nat) (K_:Bool->Prop) (w_:World),Bel w0 w_->ZCv.rep y0 [yu0_0] yf0 w_->p1 y0 K_->Calls ZCc g1 (ZB7 ([.agg #[yu0_0]]++cp1)) w_ λe w'=>∃ (z0:Bool),e=.returned (.bool z0)/\K_ z0/\Bel w_ w') :
  Calls ZCc 97 #[Ia,.func (.func g1) #[] (ZB7 cp1)] w0 λe w'=>∃ (r0:Bool),
   e=.returned (.bool r0)/\K r0/\Bel w0 w':=by
 unfold Mr at h
 refine cof Tryz.func97 rfl 9 Tryz.ntmps97 ?_
 have hC:=ZCu (X:=Nox) w0 [ZB8 ZCv.sl a0 [Ia] Ib] (al1 q0);refine sr (Zd (v:=.bool false) rfl (dn (sr (Za (v:=Ia) rfl (Za (v:=.func (.func g1) #[] (ZB7 cp1)) rfl (Zf [Ia,.func (.func g1) #[] (ZB7 cp1)] _ Tryz.func155 rfl rfl rfl (Znr a0 p1 h _ (hC.Iw 0 rfl) hf1 hb1 hn1 (λx0_ x1_ x2_ K_ w_ hb_=>hp1 x0_ x1_ x2_ K_ w_ (Zam hC.below hb_))) ?_))))))
 rintro _ w4 ⟨r5,rfl,h,hB6⟩;refine rt ?_
 replace hC:=hC.Iy hB6;refine Wp rfl rfl (Zd (v:=.bool (decide (r5≥0))) rfl (dn (ZCi ?_)))
 exact Zj rfl (Zg rfl) ⟨decide (r5≥0),rfl,h,hC.below⟩ (.inl rfl)
def Hc (a0:Alg) (K:Bool->Prop):Prop :=
 Km a0.degrees (λB=>(if¬ (B=true) then K false else(if(a0.images.length:Int)≠(a0.degrees.length:Int) then K false else Z1 (λh (I:Unit) A=>Mo a0.degrees (a0.images.getD h Ci) (λL=>(if¬ (L=true) then K false else((0<=(h:Int)/\(h:Int) < (a0.degrees.length:Int))/\Kq a0.degrees (a0.images.getD h Ci) (Zwt.wrap ((a0.degrees.getD h Ci)+1)) (λO=>(if¬ (O=true) then K false else A ())))))) (λ(I:Unit)=>Mr a0.images (λU K_=>Hb U a0 K_) (λV=>K (!V))) a0.images.length 0 ())))
theorem Zns (a0:Alg)  {K:Bool->Prop} (h:Hc a0 K) (w0:World) (q0:TAlg.rep a0 [Ia,Ic] Ib w0) :
  Calls ZCc 96 #[.agg #[Ia,Ic]] w0 λe w'=>∃ (r0:Bool),
   e=.returned (.bool r0)/\K r0/\Bel w0 w':=by
 unfold Hc at h
 refine cof Tryz.func96 rfl 50 Tryz.ntmps96 ?_
 have A:=ZCu (X:=Nox) w0 [ZB8 TAlg a0 [Ia,Ic] Ib] (al1 q0);replace A:=A.dAlg 0 rfl;refine sr (Yg (v:=.agg #[Ia,Ic]) A [Ia,Ic] rfl rfl λb4 w6 U A=>Zd (v:=.bool false) rfl (dn (ZB9 (sr (Z0 0 ZCt rfl If.size rfl rfl (Yc A 0 (Ia) rfl If rfl rfl (Zf [Ia] _ Tryz.func151 rfl rfl rfl (Zmj a0.degrees h _ (A.Iw 1 rfl)) ?_)))))))
 rintro _ w9 ⟨an,rfl,h,aq⟩;refine rt ?_
 replace A:=A.Iy aq;refine Xo rfl (Za (v:=.bool (!an)) rfl ?_)
 refine Xm (!an) (λI=>?_) (λI=>?_)
 ·replace h:=ift h (Xe (X1 I));refine Zp (b:=true) 4 9 rfl (tr rfl (I1 _ I)) (by decide) (Zp (b:=true) 4 9 rfl (tr rfl (I1 _ I)) (by decide) (Zp (b:=true) 4 9 rfl (tr rfl (I1 _ I)) (by decide) (Zp (b:=true) 4 9 rfl (tr rfl (I1 _ I)) (by decide) (Zp (b:=true) 4 9 rfl (tr rfl (I1 _ I)) (by decide) (Zp (b:=true) 4 9 rfl (tr rfl (I1 _ I)) (by decide) (Zp (b:=true) 4 9 rfl (tr rfl (I1 _ I)) (by decide) (Ya (v:=.bool true) (b:=true) (tr rfl (I1 _ I)) rfl (dn (Z8 rfl rfl (sr (Zd (v:=.bool false) rfl (dn ?_))))))))))))
  refine ZCi (Zn ?_)
  exact Zj rfl (Zg rfl) ⟨false,rfl,h,A.below⟩ (.inl rfl)
 ·replace h:=Zk h (not_not_intro ((X2 I)));refine Zq 4 9 rfl rfl I (Z0 1 ZCt rfl Il.size rfl rfl (Zq 4 9 rfl rfl I (Yc A 0 (Ic) rfl Il rfl rfl (Zq 4 9 rfl rfl I (Zu A 0 rfl ZCx rfl (Zq 4 9 rfl rfl I (Z0 0 ZCt rfl If.size rfl rfl (Zq 4 9 rfl rfl I (Yc A 0 (Ia) rfl If rfl rfl (Zq 4 9 rfl rfl I (Zu A 1 rfl ZCs rfl (Zq 4 9 rfl rfl I (Xl rfl rfl (Ya (v:=.bool (decide ((a0.images.length:Int)≠(a0.degrees.length:Int)))) (b:=false) (tr rfl (I1 _ I)) rfl (dn ?_)))))))))))))))
  refine Zs rfl (λad=>?_) (λad=>?_)
  ·replace h:=ift h (ct ad);refine sr (Zd (v:=.bool false) rfl (dn ?_))
   refine ZCi (Zn ?_)
   exact Zj rfl (Zg rfl) ⟨false,rfl,h,A.below⟩ (.inl rfl)
  ·replace h:=Zk h (cf ad);refine ZCd (Ze (ZB9 (sr (Z0 1 ZCt rfl Il.size rfl rfl (Yc A 0 (Ic) rfl Il rfl rfl (Zu A 0 rfl ZCx rfl (Za (v:=vI 0) rfl (dn (ZCf ?_)))))))))
   have ar:a0.images.length<=9223372036854775807:=Yz (A.Iw 0 rfl);refine Yh (S:=Unit) _ _ (λL ao e_ w_=>Zt e_ [(1,vQ b4),(19,Ic),(20,vI (a0.images.length:Int)),(21,vI (L:Int))]/\Ctx Nox w0 w_ [blk b4 32 [Ia,Ic]] [ZB8 ZCv.sl a0.images [Ic] Ib,ZB8 TInts a0.degrees [Ia] Ib,ZB8 TAlg a0 [Ia,Ic] Ib]) a0.images.length ?_ ?_ (s0:=()) ?_ h
   ·clear A h;rintro L ao e_ bb a8 a3 ab ⟨ag,A⟩ h au;rw [ue ag];refine sr (Zl rfl rfl (dn (ZB9 (Z8 rfl (decide_eq_true (by omega)) (ZCd (Ze (ZB9 (ZCf (sr (Za (v:=vI (L:Int)) rfl ?_))))))))))
    obtain ⟨a9,bc,ah⟩:=Zx (A.Iw 0 rfl) L ab;refine Yn (len:=a0.images.length) ZCx ag55.size (tr rfl ah) rfl (ZCq _) (ZC9.2 ab) ?_
    obtain ⟨bd,ai,av,aj⟩:=Xb (A.Iw 0 rfl) ah L ab;obtain ⟨V,rfl⟩:=ZC7.1 ai;clear ai;rw [Y9 _ _ ab] at aj
    have aw:=aj;replace A:=A.I0 0 rfl (ZB8 ZCa.ty.sl ((a0.images.getD L Ci).terms) [V] Ib) (λ_=>(Xq aw)) (λ_ ac=>ac)
    refine Ji [V] av ag55 rfl rfl (Yt A [.slice none 0 0] z55 rfl λbe bh U A=>Zd (v:=vI (L:Int)) rfl (Z7 (v:=.agg #[V]) A 0 [V] [V] rfl ag55.size rfl rfl rfl rfl (Xy (Sn (A.Iw 0 rfl)) rfl) (ZCh rfl) rfl λbi A=>dn (ZB9 ?_)))
    refine cwd 15 Ym [0,1,0,7,15,31,63,127,63,63,575,63,3647,7743,15935,32767,65535,131071] [1,2,7,8,10,12,13] [0,4,5,6,7,8,9,10,11,12,13,14] (λaa O bj U=>?_)
    replace A:=A.Iy U;refine bF 0 (vQ b4) rfl rfl O (λ_=>by exact Yq 0 ZCt rfl If.size rfl rfl) (Zc 18 1) (bL 1 (Ia) rfl rfl aa (λ_ U=>by exact Yj (A.Iy U) 1 (Ia) rfl If rfl rfl) (Zc 18 3) (bL 2 (.agg #[V]) rfl rfl aa (λ_ U=>by exact Y6 (A.Iy U) 0 [V] rfl ag55 rfl rfl rfl) (Zc 18 7) (aO 3 rfl (Zf [Ia,.agg #[V]] _ Tryz.func99 rfl rfl rfl (Zfo a0.degrees (a0.images.getD L Ci) h _ (A.Iw 2 rfl) (Y1 (A.Iw 0 rfl))) ?_))))
    rintro _ bk ⟨ak,rfl,h,ax⟩;refine rt ?_
    replace A:=A.Iy ax;refine done (aK (by assumption) (Zc 18 15) (bF 4 (.bool (!ak)) rfl rfl O (λ_=>by exact B9 rfl) (Zc 18 31) (bM 5 (.bool (!ak)) rfl O (Zc 18 63) ?_)))
    refine Xm (!ak) (λB=>?_) (λB=>?_)
    ·replace h:=ift h (Xe (X1 B));refine Zv Z3 6 undef rfl rfl (by kernel_rfl) (O 6 rfl) (λw_=>.inr ⟨Yk (b:=true) 5 31 rfl (tr rfl (I1 _ B)) (by decide),rfl⟩) (l9:=(Zc 18 127)) (by kernel_rfl) (Zv Z3 7 undef rfl rfl (by kernel_rfl) (O 7 rfl) (λw_=>.inr ⟨Yk (b:=true) 5 31 rfl (tr rfl (I1 _ B)) (by decide),rfl⟩) (l9:=(Zc 18 255)) (by kernel_rfl) (Zv Z3 8 undef rfl rfl (by kernel_rfl) (O 8 rfl) (λw_=>.inr ⟨Yk (b:=true) 5 31 rfl (tr rfl (I1 _ B)) (by decide),rfl⟩) (l9:=(Zc 18 511)) (by kernel_rfl) (Zv Z3 9 undef rfl rfl (by kernel_rfl) (O 9 rfl) (λw_=>.inr ⟨Yk (b:=true) 5 31 rfl (tr rfl (I1 _ B)) (by decide),rfl⟩) (l9:=(Zc 18 1023)) (by kernel_rfl) (Zv Z3 10 undef rfl rfl (by kernel_rfl) (O 10 rfl) (λw_=>.inr ⟨Yk (b:=true) 5 31 rfl (tr rfl (I1 _ B)) (by decide),rfl⟩) (l9:=(Zc 18 2047)) (by kernel_rfl) (Zv Z3 11 undef rfl rfl (by kernel_rfl) (O 11 rfl) (λw_=>.inr ⟨Yk (b:=true) 5 31 rfl (tr rfl (I1 _ B)) (by decide),rfl⟩) (l9:=(Zc 18 4095)) (by kernel_rfl) (Zv Z3 12 undef rfl rfl (by kernel_rfl) (O 12 rfl) (λw_=>.inr ⟨Yk (b:=true) 5 31 rfl (tr rfl (I1 _ B)) (by decide),rfl⟩) (l9:=(Zc 18 8191)) (by kernel_rfl) (Zv Z3 13 undef rfl rfl (by kernel_rfl) (O 13 rfl) (λw_=>.inr ⟨Yk (b:=true) 5 31 rfl (tr rfl (I1 _ B)) (by decide),rfl⟩) (l9:=(Zc 18 16383)) (by kernel_rfl) (Zv Z3 14 undef rfl rfl (by kernel_rfl) (O 14 rfl) (λw_=>.inr ⟨Yk (b:=true) 5 31 rfl (tr rfl (I1 _ B)) (by decide),rfl⟩) (l9:=(Zc 18 32767)) (by kernel_rfl) (Z5 15 (by decide) (by decide) (by kernel_rfl) (by kernel_rfl) rfl (Zp (b:=true) 5 31 rfl (tr rfl (I1 _ B)) (by decide) (Zp (b:=true) 5 31 rfl (tr rfl (I1 _ B)) (by decide) (Ya (v:=.bool true) (b:=true) (tr rfl (I1 _ B)) rfl (done (Z6 (Ze (Z8 rfl rfl (sr (Zd (v:=.bool false) rfl (dn ?_)))))))))))))))))))
     refine ZCi (Z9 (Zn (Zn (Z9 (Zn ?_)))))
     exact Zj rfl (Zg rfl) ⟨false,rfl,h,A.below⟩ (.inl rfl)
    ·replace h:=Zk h (not_not_intro ((X2 B)));refine aF 6 (vQ b4) rfl rfl (O 6 rfl) (Yo 5 31 rfl rfl B) (λ_=>by exact Yq 0 ZCt rfl If.size rfl rfl) (Zc 18 127) (aL 7 (Ia) rfl rfl (aa 7 rfl) (Yo 5 31 rfl rfl B) (λ_ U=>by exact Yj (A.Iy U) 1 (Ia) rfl If rfl rfl) (Zc 18 255) (aL 8 (.agg #[V]) rfl rfl (aa 8 rfl) (Yo 5 31 rfl rfl B) (λ_ U=>by exact Y6 (A.Iy U) 0 [V] rfl ag55 rfl rfl rfl) (Zc 18 511) (aF 9 (vQ b4) rfl rfl (O 9 rfl) (Yo 5 31 rfl rfl B) (λ_=>by exact Yq 0 ZCt rfl If.size rfl rfl) (Zc 18 1023) (aL 10 (Ia) rfl rfl (aa 10 rfl) (Yo 5 31 rfl rfl B) (λ_ U=>by exact Yj (A.Iy U) 1 (Ia) rfl If rfl rfl) (Zc 18 2047) (aF 11 (vI (L:Int)) rfl rfl (O 11 rfl) (Yo 5 31 rfl rfl B) (λ_=>by exact Vb (v:=vI (L:Int)) rfl) (Zc 18 4095) ?_)))))
     obtain ⟨⟨a4,a5⟩,h⟩:=h;obtain ⟨ay,bl,al⟩:=Zx (A.Iw 2 rfl) L (show L < a0.degrees.length by omega)
     refine aL 12 (.pointer (some (ay.add (L * 1)))) rfl rfl (aa 12 rfl) (Yo 5 31 rfl rfl B) (λ_ U=>by exact Y3 (len:=a0.degrees.length) ZCs sc2.size (by exact tr rfl al) rfl a4 a5) (Zc 18 8191) (aL 13 (vI (a0.degrees.getD L Ci)) rfl rfl (aa 13 rfl) (Yo 5 31 rfl rfl B) (λ_ U=>by exact Xp (vI (a0.degrees.getD L Ci)) (Yi ((A.Iy U).Iw 2 rfl) al L (show L < a0.degrees.length by omega)) sc2 rfl) (Zc 18 16383) (aF 14 (vI (Zwt.wrap ((a0.degrees.getD L Ci)+1))) rfl rfl (O 14 rfl) (Yo 5 31 rfl rfl B) (λ_=>by exact Vn rfl rfl) (Zc 18 32767) (Z5 15 (by decide) (by decide) (by kernel_rfl) (by kernel_rfl) rfl (Zq 5 31 rfl rfl B (Zf [Ia,.agg #[V],vI (Zwt.wrap ((a0.degrees.getD L Ci)+1))] _ Tryz.func152 rfl rfl rfl (Zmo a0.degrees (a0.images.getD L Ci) (Zwt.wrap ((a0.degrees.getD L Ci)+1)) h _ (A.Iw 2 rfl) (Y1 (A.Iw 0 rfl))) ?_)))))
     rintro _ bm ⟨a6,rfl,h,az⟩;refine rt ?_
     replace A:=A.Iy az;refine Zq 5 31 rfl rfl B (Xo rfl (Ya (v:=.bool (!a6)) (b:=false) (tr rfl (I1 _ B)) rfl (done (Z6 (Ze ?_)))))
     refine Zs rfl (λae=>?_) (λae=>?_)
     ·replace h:=ift h (Xe (X1 ae));refine sr (Zd (v:=.bool false) rfl (dn ?_))
      refine ZCi (Z9 (Zn (Zn (Z9 (Zn ?_)))))
      exact Zj rfl (Zg rfl) ⟨false,rfl,h,A.below⟩ (.inl rfl)
     ·replace h:=Zk h (not_not_intro ((X2 ae)));refine ZCd (Zr (Ze (Zh (Zm rfl rfl (Za (v:=vI (Zwt.wrap ((L:Int)+1))) rfl (done ?_))))))
      exact au () _ _ ⟨(sl ⟨rfl,rfl,rfl,(tr rfl (I1 _ (Z2 ab ar))),trivial⟩),((A.xM [1] rfl).sP [1,2,3] rfl)⟩ h
   ·clear A h;rintro ao e_ bn a3 ⟨ag,A⟩ h;rw [ue ag];refine sr (Zl rfl rfl (dn (ZB9 (Z4 rfl (decide_eq_false (by omega)) ?_))))
    refine ZCo (Zi (Zi (Zy ?_)))
    refine Ze (sr (Z0 1 ZCt rfl Il.size rfl rfl (Yc A 0 (Ic) rfl Il rfl rfl (Zal (g:=153) [vQ b4] (Zak rfl rfl) (Zf [Ic,.func (.func 153) #[] (ZB7 [vQ b4])] _ Tryz.func97 rfl rfl rfl (Zf0 a0.images (λam K_=>Hb am a0 K_) h _ (A.Iw 0 rfl) Tryz.func153 rfl rfl (λam yu0_0_ ba K_ w_ ac a1 a7=>Znq am a0 a7 w_ a1 (Yf ((A.Iy ac).Iw 1 rfl) ((A.Iy ac).Iw 0 rfl)) ((A.Iy ac).Ix 0 rfl))) ?_)))))
    rintro _ bo ⟨ap,rfl,h,a2⟩;refine rt ?_
    replace A:=A.Iy a2;refine Xo rfl (Zd (v:=.bool (!ap)) rfl (dn (ZCi ?_)))
    exact Zj rfl (Zg rfl) ⟨!ap,rfl,h,A.below⟩ (.inl rfl)
   ·skip;exact⟨(slq rfl),A⟩
def E3 (A:ZCb) (B:Alg) (K:Bool->Prop):Prop :=
 Mo B.degrees A (λh=>K (!h))
theorem Znt (O:ZCb) (V:Alg)  {K:Bool->Prop} (h:E3 O V K) (w0:World) (q0:ZCv.rep O [Ia] Ib w0) (q1:TAlg.rep V [Ie,Iu] Ig w0) (ac:(blk b1 32 [Ie,Iu]).holds w0) (aa:(blk bp1 66 [vQ b1]).holds w0) :
  Calls ZCc 98 #[.agg #[Ia],vQ bp1] w0 λe w'=>∃ (r0:Bool),
   e=.returned (.bool r0)/\K r0/\Bel w0 w':=by
 unfold E3 at h
 refine cof Tryz.func98 rfl 11 Tryz.ntmps98 ?_
 have A:=ZCu (X:=Nox) w0 [ZB8 TForm O [Ia] Ib,ZB8 TAlg V [Ie,Iu] Ig,blk b1 32 [Ie,Iu],blk bp1 66 [vQ b1]] (alc q0 (alc q1 (alc ac (al1 aa))));have ad:=(A.Iw 0 rfl);replace A:=A.I0 0 rfl (ZB8 ZCa.ty.sl O.terms [Ia] Ib) (λ_=>(Xq ad)) (λ_ ae=>ae)
 replace A:=A.dAlg 2 rfl;refine sr (Yg (v:=.agg #[Ia]) A [Ia] rfl rfl λb9 ag B A=>Zd (v:=.bool false) rfl (dn (ZB9 ?_)))
 refine cwd 5 Ym [0,1,3,7,0,31,63,127] [0,3,4] [1,2] (λI L ah B=>?_)
 replace A:=A.Iy B;refine bL 0 (vQ b1) rfl rfl I (λ_ B=>by exact Tx (vQ b1) ((A.Iy B).Iw 6 rfl) Iv rfl rfl) (Zc 8 1) (bF 1 (vQ b1) rfl rfl L (λ_=>by exact Wu rfl) (Zc 8 3) (bF 2 (vQ b1) rfl rfl L (λ_=>by exact Yq 0 ZCt rfl If.size rfl rfl) (Zc 8 7) (bL 3 (Ie) rfl rfl I (λ_ B=>by exact Tx (Ie) ((A.Iy B).Iw 5 rfl) If rfl rfl) (Zc 8 15) (bL 4 (.agg #[Ia]) rfl rfl I (λ_ B=>by exact Y6 (A.Iy B) 0 [Ia] rfl ag55 rfl rfl rfl) (Zc 8 31) (Z5 5 (by decide) (by decide) (by kernel_rfl) (by kernel_rfl) rfl (Zf [Ie,.agg #[Ia]] _ Tryz.func99 rfl rfl rfl (Zfo V.degrees O h _ (A.Iw 1 rfl) (Y1 (A.Iw 2 rfl))) ?_))))))
 rintro _ ai ⟨U,rfl,h,ab⟩;refine rt ?_
 replace A:=A.Iy ab;refine Xo rfl (Zd (v:=.bool (!U)) rfl (done (Z6 (Ze (ZCi ?_)))))
 exact Zj rfl (Zg rfl) ⟨!U,rfl,h,A.below⟩ (.inl rfl)
def Hd (h:Alg) (U:List ZCb) (K:Int->Prop):Prop :=
 Hc h (λA=>(if¬ (A=true) then T4 true 1 (λB=>K B) else Mr U (λI K_=>E3 I h K_) (λL=>T4 L 1 (λO=>K O))))
theorem Znu (O:Alg) (V:List ZCb)  {K:Int->Prop} (h:Hd O V K) (w0:World) (q0:TAlg.rep O [Ia,Ic] Ib w0) (aj:(blk b0 32 [Ia,Ic]).holds w0) (q1:ZCv.sl.rep V [Ie] Ig w0) :
  Calls ZCc 44 #[vQ b0,Ie] w0 λe w'=>∃ (r0:Int),
   e=.returned (vI r0)/\K r0/\Bel w0 w':=by
 unfold Hd at h
 refine cof Tryz.func44 rfl 18 Tryz.ntmps44 ?_
 have A:=ZCu (X:=Nox) w0 [ZB8 TAlg O [Ia,Ic] Ib,ZB8 ZCv.sl V [Ie] Ig,blk b0 32 [Ia,Ic]] (alc q0 (alc q1 (al1 aj)));replace A:=A.dAlg 0 rfl;refine sr (Yg (v:=vQ b0) A [vQ b0] rfl rfl λb6 w8 am A=>Zd (v:=vI 0) rfl (dn (sr (Yc A 0 (vQ b0) rfl Iv rfl rfl (Xd rfl (Zky [Ia,Ic] (A.Iw 4 rfl) ag32 rfl rfl rfl (Zf [.agg #[Ia,Ic]] _ Tryz.func96 rfl rfl rfl (Zns O h _ (Yf (A.Iw 1 rfl) (A.Iw 0 rfl))) ?_)))))))
 rintro _ an ⟨aa,rfl,h,ad⟩;refine rt ?_
 replace A:=A.Iy ad;refine Xo rfl (Za (v:=.bool (!aa)) rfl ?_)
 refine Xm (!aa) (λB=>?_) (λB=>?_)
 ·replace h:=ift h (Xe (X1 B));refine Zp (b:=true) 5 11 rfl (tr rfl (I1 _ B)) (by decide) (Zp (b:=true) 5 11 rfl (tr rfl (I1 _ B)) (by decide) (Zp (b:=true) 5 11 rfl (tr rfl (I1 _ B)) (by decide) (Ya (v:=.bool true) (b:=true) (tr rfl (I1 _ B)) rfl (Zd (v:=.bool true) rfl (dn (sr (Za (v:=.bool true) rfl (Zf [.bool true,vI 1] _ Tryz.func45 rfl rfl rfl (K4 true 1 h _) ?_))))))))
  rintro _ ao ⟨ab,rfl,h,ae⟩;refine rt ?_
  replace A:=A.Iy ae;refine Zd (v:=vI ab) rfl (dn (ZCi ?_))
  exact Zj rfl (Zg rfl) ⟨ab,rfl,h,A.below⟩ (.inl rfl)
 ·replace h:=Zk h (not_not_intro ((X2 B)));refine Zq 5 11 rfl rfl B (Za (v:=Ie) rfl (Zq 5 11 rfl rfl B (Zal (g:=98) [vQ b6] (Zak rfl rfl) (Zq 5 11 rfl rfl B (Zf [Ie,.func (.func 98) #[] (ZB7 [vQ b6])] _ Tryz.func97 rfl rfl rfl (Zf0 V (λU K_=>E3 U O K_) h _ (A.Iw 3 rfl) Tryz.func98 rfl rfl (λU yu0_0_ al K_ w_ L ag ak=>Znt U O ak w_ ag (Yf ((A.Iy L).Iw 1 rfl) ((A.Iy L).Iw 0 rfl)) ((A.Iy L).Iw 4 rfl) ((A.Iy L).Ix 0 rfl))) ?_)))))
  rintro _ ap ⟨I,rfl,h,ah⟩;refine rt ?_
  replace A:=A.Iy ah;refine Ya (v:=.bool I) (b:=false) (tr rfl (I1 _ B)) rfl (Zd (v:=.bool I) rfl (dn (sr (Za (v:=.bool I) rfl (Zf [.bool I,vI 1] _ Tryz.func45 rfl rfl rfl (K4 I 1 h _) ?_)))))
  rintro _ aq ⟨ac,rfl,h,ai⟩;refine rt ?_
  replace A:=A.Iy ai;refine Zd (v:=vI ac) rfl (dn (ZCi ?_))
  exact Zj rfl (Zg rfl) ⟨ac,rfl,h,A.below⟩ (.inl rfl)
def E4 (A:List Term) (h:Int) (K:Int->Prop):Prop :=
 (if Zwt.wrap (h - (A.length:Int)) < 0 then K (-1) else K (Zwt.wrap (h - (A.length:Int))))
theorem Znv (I:List Term) (A:Int)  {K:Int->Prop} (h:E4 I A K) (w0:World) (U:ZCa.ty.sl.rep I [Ia] Ib w0) :
  Calls ZCc 67 #[Ia,vI A] w0 λe w'=>∃ (O:Int),
   e=.returned (vI O)/\K O/\Bel w0 w':=by
 unfold E4 at h
 refine cof Tryz.func67 rfl 12 Tryz.ntmps67 ?_
 have L:=ZCu (X:=Nox) w0 [ZB8 ZCa.ty.sl I [Ia] Ib] (al1 U);refine sr (Zd (v:=vI 0) rfl (dn (sr (Za (v:=vI A) rfl (Za (v:=Ia) rfl (Zu L 0 rfl ZFm rfl (X5 rfl rfl (Zd (v:=vI (Zwt.wrap (A - (I.length:Int)))) rfl (dn (ZB9 (sr (Za (v:=vI (Zwt.wrap (A - (I.length:Int)))) rfl (Zl rfl rfl (dn ?_))))))))))))))
 refine Zs rfl (λB=>?_) (λB=>?_)
 ·replace h:=ift h (ct B);refine sr (Zd (v:=vI (-1)) rfl (dn ?_))
  refine ZCi (Zn ?_)
  exact Zj rfl (Zg rfl) ⟨(-1),rfl,h,L.below⟩ (.inl rfl)
 ·replace h:=Zk h (cf B);refine ZCd (Ze (sr (Za (v:=vI (Zwt.wrap (A - (I.length:Int)))) rfl (Zd (v:=vI (Zwt.wrap (A - (I.length:Int)))) rfl (dn (ZCi ?_))))))
  exact Zj rfl (Zg rfl) ⟨Zwt.wrap (A - (I.length:Int)),rfl,h,L.below⟩ (.inl rfl)
def Ms (B:ZCb) (A:Int) (K:Int->Prop):Prop :=
 E4 B.terms A (λh=>(if h < 0 then K (-1) else K h))
theorem Znw (O:ZCb) (L:Int)  {K:Int->Prop} (h:Ms O L K) (w0:World) (q0:ZCv.rep O [Ia] Ib w0) :
  Calls ZCc 28 #[.agg #[Ia],vI L] w0 λe w'=>∃ (V:Int),
   e=.returned (vI V)/\K V/\Bel w0 w':=by
 unfold Ms at h
 refine cof Tryz.func28 rfl 12 Tryz.ntmps28 ?_
 have A:=ZCu (X:=Nox) w0 [ZB8 TForm O [Ia] Ib] (al1 q0);have aa:=(A.Iw 0 rfl);replace A:=A.I0 0 rfl (ZB8 ZCa.ty.sl O.terms [Ia] Ib) (λ_=>(Xq aa)) (λ_ ab=>ab)
 refine sr (Yg (v:=.agg #[Ia]) A [Ia] rfl rfl λb4 w6 ac A=>Zd (v:=vI 0) rfl (dn (sr (Z0 0 ZFv rfl sc48.size rfl rfl (Yc A 0 (Ia) rfl sc48 rfl rfl (Za (v:=vI L) rfl (Zf [Ia,vI L] _ Tryz.func67 rfl rfl rfl (Znv O.terms L h _ (A.Iw 0 rfl)) ?_)))))))
 rintro _ w9 ⟨B,rfl,h,U⟩;refine rt ?_
 replace A:=A.Iy U;refine Zd (v:=vI B) rfl (dn (ZB9 (sr (Za (v:=vI B) rfl (Zl rfl rfl (dn ?_))))))
 refine Zs rfl (λI=>?_) (λI=>?_)
 ·replace h:=ift h (ct I);refine sr (Zd (v:=vI (-1)) rfl (dn ?_))
  refine ZCi (Zn ?_)
  exact Zj rfl (Zg rfl) ⟨(-1),rfl,h,A.below⟩ (.inl rfl)
 ·replace h:=Zk h (cf I);refine ZCd (Ze (sr (Za (v:=vI B) rfl (Zd (v:=vI B) rfl (dn (ZCi ?_))))))
  exact Zj rfl (Zg rfl) ⟨B,rfl,h,A.below⟩ (.inl rfl)
def He (O:List ZCb) (I:Int) (K:Int->Prop):Prop :=
 (if Zwt.wrap (I - (O.length:Int)) < 0 then K (-1) else Z1 (λL (h:Int) B=>Ms (O.getD L Ci) h (λA=>(if A < 0 then K (-1) else B A))) (λ(h:Int)=>K h) O.length 0 (Zwt.wrap (I - (O.length:Int))))
theorem Znx (a0:List ZCb) (U:Int)  {K:Int->Prop} (h:He a0 U K) (w0:World) (q0:ZCv.sl.rep a0 [Ia] Ib w0) :
  Calls ZCc 38 #[Ia,vI U] w0 λe w'=>∃ (r0:Int),
   e=.returned (vI r0)/\K r0/\Bel w0 w':=by
 unfold He at h
 refine cof Tryz.func38 rfl 27 Tryz.ntmps38 ?_
 have A:=ZCu (X:=Nox) w0 [ZB8 ZCv.sl a0 [Ia] Ib] (al1 q0);refine sr (Zd (v:=vI 0) rfl (dn (sr (Za (v:=vI U) rfl (Za (v:=Ia) rfl (Zu A 0 rfl ZFi rfl (X5 rfl rfl (Zd (v:=vI (Zwt.wrap (U - (a0.length:Int)))) rfl (dn (ZB9 (sr (Za (v:=vI (Zwt.wrap (U - (a0.length:Int)))) rfl (Zl rfl rfl (dn ?_))))))))))))))
 refine Zs rfl (λV=>?_) (λV=>?_)
 ·replace h:=ift h (ct V);refine sr (Zd (v:=vI (-1)) rfl (dn ?_))
  refine ZCi (Zn ?_)
  exact Zj rfl (Zg rfl) ⟨(-1),rfl,h,A.below⟩ (.inl rfl)
 ·replace h:=Zk h (cf V);refine ZCd (Ze (ZB9 (sr (Zd (v:=vI 0) rfl (dn (ZCf ?_))))))
  have ah:a0.length<=9223372036854775807:=Yz (A.Iw 0 rfl);refine Yh (S:=Int) _ _ (λB I e_ w_=>Zt e_ [(0,Ia),(1,vI I),(5,vI (B:Int))]/\Ctx Nox w0 w_ [] [ZB8 ZCv.sl a0 [Ia] Ib]) a0.length ?_ ?_ (s0:=(Zwt.wrap (U - (a0.length:Int)))) ?_ h
  ·clear A h;rintro B I e_ aq ao am L ⟨aa,A⟩ h ai;rw [ue aa];refine ZB9 (sr (Za (v:=vI (B:Int)) rfl (Za (v:=Ia) rfl (Zu A 0 rfl ZFi rfl (Zl rfl rfl (dn (Z8 rfl (decide_eq_true (by omega)) (ZCd (Ze (ZB9 (ZCf (sr (Za (v:=Ia) rfl (Za (v:=vI (B:Int)) rfl ?_))))))))))))))
   obtain ⟨ap,ar,ab⟩:=Zx (A.Iw 0 rfl) B L;refine Yn (len:=a0.length) ZFi ag50.size (tr rfl ab) rfl (ZCq _) (ZC9.2 L) ?_
   obtain ⟨au,ac,aj,ad⟩:=Xb (A.Iw 0 rfl) ab B L;obtain ⟨ae,rfl⟩:=ZC7.1 ac;clear ac;rw [Y9 _ _ L] at ad
   have ak:=ad;replace A:=A.I0 0 rfl (ZB8 ZCa.ty.sl ((a0.getD B Ci).terms) [ae] Ib) (λ_=>(Xq ak)) (λ_ an=>an)
   refine Ji [ae] aj ag50 rfl rfl (Za (v:=vI I) rfl (Zf [.agg #[ae],vI I] _ Tryz.func28 rfl rfl rfl (Znw (a0.getD B Ci) I h _ (Y1 (A.Iw 0 rfl))) ?_))
   rintro _ av ⟨ag,rfl,h,al⟩;refine rt ?_
   replace A:=A.Iy al;refine Zd (v:=vI ag) rfl (dn (sr (Za (v:=vI ag) rfl (Zl rfl rfl (dn ?_)))))
   refine Zs rfl (λO=>?_) (λO=>?_)
   ·replace h:=ift h (ct O);refine sr (Zd (v:=vI (-1)) rfl (dn ?_))
    refine ZCi (Z9 (Zn (Zn (Z9 (Zn ?_)))))
    exact Zj rfl (Zg rfl) ⟨(-1),rfl,h,A.below⟩ (.inl rfl)
   ·replace h:=Zk h (cf O);refine ZCd (Zr (Ze (Zh (Za (v:=vI (B:Int)) rfl (Zm rfl rfl (Zd (v:=vI (Zwt.wrap ((B:Int)+1))) rfl (done ?_)))))))
    exact ai ag _ _ ⟨(sl ⟨rfl,rfl,(tr rfl (I1 _ (Z2 L ah))),trivial⟩),(A.sP [1] rfl)⟩ h
  ·clear A h;rintro I e_ aw am ⟨aa,A⟩ h;rw [ue aa];refine ZB9 (sr (Za (v:=vI (a0.length:Int)) rfl (Za (v:=Ia) rfl (Zu A 0 rfl ZFi rfl (Zl rfl rfl (dn (Z4 rfl (decide_eq_false (by omega)) ?_)))))))
   refine ZCo (Zi (Zi (Zy ?_)))
   refine Ze (sr (Za (v:=vI I) rfl (Zd (v:=vI I) rfl (dn (ZCi ?_)))))
   exact Zj rfl (Zg rfl) ⟨I,rfl,h,A.below⟩ (.inl rfl)
  ·skip;exact⟨(slq rfl),A⟩
def E5 (A:List Int) (h:Int) (K:Int->Prop):Prop :=
 (if Zwt.wrap (h - (A.length:Int)) < 0 then K (-1) else K (Zwt.wrap (h - (A.length:Int))))
theorem Zny (I:List Int) (A:Int)  {K:Int->Prop} (h:E5 I A K) (w0:World) (U:ZFf.rep I [Ia] Ib w0) :
  Calls ZCc 37 #[Ia,vI A] w0 λe w'=>∃ (O:Int),
   e=.returned (vI O)/\K O/\Bel w0 w':=by
 unfold E5 at h
 refine cof Tryz.func37 rfl 12 Tryz.ntmps37 ?_
 have L:=ZCu (X:=Nox) w0 [ZB8 TInts I [Ia] Ib] (al1 U);refine sr (Zd (v:=vI 0) rfl (dn (sr (Za (v:=vI A) rfl (Za (v:=Ia) rfl (Zu L 0 rfl ZCs rfl (X5 rfl rfl (Zd (v:=vI (Zwt.wrap (A - (I.length:Int)))) rfl (dn (ZB9 (sr (Za (v:=vI (Zwt.wrap (A - (I.length:Int)))) rfl (Zl rfl rfl (dn ?_))))))))))))))
 refine Zs rfl (λB=>?_) (λB=>?_)
 ·replace h:=ift h (ct B);refine sr (Zd (v:=vI (-1)) rfl (dn ?_))
  refine ZCi (Zn ?_)
  exact Zj rfl (Zg rfl) ⟨(-1),rfl,h,L.below⟩ (.inl rfl)
 ·replace h:=Zk h (cf B);refine ZCd (Ze (sr (Za (v:=vI (Zwt.wrap (A - (I.length:Int)))) rfl (Zd (v:=vI (Zwt.wrap (A - (I.length:Int)))) rfl (dn (ZCi ?_))))))
  exact Zj rfl (Zg rfl) ⟨Zwt.wrap (A - (I.length:Int)),rfl,h,L.below⟩ (.inl rfl)
def Hf (I:Alg) (B:Int) (K:Int->Prop):Prop :=
 E5 I.degrees B (λh=>(if h < 0 then K (-1) else He I.images h (λA=>(if A < 0 then K (-1) else K A))))
theorem Znz (V:Alg) (U:Int)  {K:Int->Prop} (h:Hf V U K) (w0:World) (q0:TAlg.rep V [Ia,Ic] Ib w0) :
  Calls ZCc 10 #[.agg #[Ia,Ic],vI U] w0 λe w'=>∃ (r0:Int),
   e=.returned (vI r0)/\K r0/\Bel w0 w':=by
 unfold Hf at h
 refine cof Tryz.func10 rfl 18 Tryz.ntmps10 ?_
 have A:=ZCu (X:=Nox) w0 [ZB8 TAlg V [Ia,Ic] Ib] (al1 q0);replace A:=A.dAlg 0 rfl;refine sr (Yg (v:=.agg #[Ia,Ic]) A [Ia,Ic] rfl rfl λb4 w6 ac A=>Zd (v:=vI 0) rfl (dn (sr (Z0 0 ZFq rfl If.size rfl rfl (Yc A 0 (Ia) rfl If rfl rfl (Za (v:=vI U) rfl (Zf [Ia,vI U] _ Tryz.func37 rfl rfl rfl (Zny V.degrees U h _ (A.Iw 1 rfl)) ?_)))))))
 rintro _ w9 ⟨B,rfl,h,aa⟩;refine rt ?_
 replace A:=A.Iy aa;refine Zd (v:=vI B) rfl (dn (ZB9 (sr (Za (v:=vI B) rfl (Zl rfl rfl (dn ?_))))))
 refine Zs rfl (λL=>?_) (λL=>?_)
 ·replace h:=ift h (ct L);refine sr (Zd (v:=vI (-1)) rfl (dn ?_))
  refine ZCi (Zn ?_)
  exact Zj rfl (Zg rfl) ⟨(-1),rfl,h,A.below⟩ (.inl rfl)
 ·replace h:=Zk h (cf L);refine ZCd (Ze (sr (Z0 1 ZFq rfl sc23.size rfl rfl (Yc A 0 (Ic) rfl sc23 rfl rfl (Za (v:=vI B) rfl (Zf [Ic,vI B] _ Tryz.func38 rfl rfl rfl (Znx V.images B h _ (A.Iw 0 rfl)) ?_))))))
  rintro _ ad ⟨I,rfl,h,ab⟩;refine rt ?_
  replace A:=A.Iy ab;refine Zd (v:=vI I) rfl (dn (ZB9 (sr (Za (v:=vI I) rfl (Zl rfl rfl (dn ?_))))))
  refine Zs rfl (λO=>?_) (λO=>?_)
  ·replace h:=ift h (ct O);refine sr (Zd (v:=vI (-1)) rfl (dn ?_))
   refine ZCi (Zn ?_)
   exact Zj rfl (Zg rfl) ⟨(-1),rfl,h,A.below⟩ (.inl rfl)
  ·replace h:=Zk h (cf O);refine ZCd (Ze (sr (Za (v:=vI I) rfl (Zd (v:=vI I) rfl (dn (ZCi ?_))))))
   exact Zj rfl (Zg rfl) ⟨I,rfl,h,A.below⟩ (.inl rfl)
def Hg (L:List ZCb) (K:List ZCb->Prop):Prop :=
 ((0<=(L.length:Int)/\(L.length:Int) * 24<=281474976710656)/\Z1 (λh (A:(List ZCb)) B=>Ky (L.getD h Ci) (λI=>((0<=(h:Int)/\(h:Int) < (A.length:Int))/\B (A.set h I)))) (λ(A:(List ZCb))=>K A) L.length 0 (Cd ((L.length:Int).toNat) ((⟨[]⟩:ZCb):ZCb)))
theorem Zn0 (a0:List ZCb)  {K:List ZCb->Prop} (h:Hg a0 K) (w0:World) (q0:ZCv.sl.rep a0 [Ia] Ib w0) :
  Calls ZCc 42 #[Ia] w0 λe w'=>∃ (r0:List ZCb) (Ih:Value) (aj:List Nat),
   e=.returned (Ih)/\K r0/\(ZCn (Tr.sl 55 (Y0 162)) r0 [Ih] aj).holds w'/\(∀ b,b∈aj->w0.heap.size<=b)/\Bel w0 w':=by
 unfold Hg at h
 refine cof Tryz.func42 rfl 23 Tryz.ntmps42 ?_
 have A:=ZCu (X:=Nox) w0 [ZB8 ZCv.sl a0 [Ia] Ib] (al1 q0);refine sr (Zd (v:=.slice none 0 0) rfl (dn (sr (Za (v:=Ia) rfl (Zu A 0 rfl ZFi rfl ?_)))))
 obtain ⟨a9,h⟩:=h;refine Uu (sz:=1) A (Cd ((a0.length:Int).toNat) (.slice none 0 0)) ZCx Znp (tr rfl (I1 (ZFk .i64) (ZFl a9.1).symm)) (tr rfl (I1 (ZFk .i64) (ZFl a9.1).symm)) (by omega) (by omega) (Zln _) λv5 w6 ba A=>?_
 replace A:=A.pushM0 (Zz (Y0 162) (Cd ((a0.length:Int).toNat) ((⟨[]⟩:ZCb):ZCb)) (Cd ((a0.length:Int).toNat) (.slice none 0 0)) (Cd ((a0.length:Int).toNat) [])) (Zlp (Tb (Mg _ _ _)) rfl _) (Zlo _);replace A:=A.gather (c:=ZCn (Tr.sl 55 (Y0 162)) (Cd ((a0.length:Int).toNat) ((⟨[]⟩:ZCb):ZCb)) [v5] ((ZDa (Fe v5))++(Cd ((a0.length:Int).toNat) ([]:List Nat)).flatten)) (λx_ aw=>(Ch.1 aw).symm) (λax ay az=>Xj (by rw [List.length_replicate]; exact ay) ax (λb_ ab ak=>az b_ ak ab))
 refine Zd (v:=v5) rfl (dn (ZB9 (sr (Zd (v:=vI 0) rfl (dn (ZCf ?_))))))
 have al:a0.length<=9223372036854775807:=Yz (A.Iw 0 rfl);refine Yh (S:=(List ZCb)) _ _ (λB L e_ w_=>∃ (I:Value),∃ (aa:List Nat),Zt e_ [(0,Ia),(3,I),(4,vI (B:Int))]/\Ctx Nox w0 w_ [ZCn (Tr.sl 55 (Y0 162)) L [I] aa] [ZB8 ZCv.sl a0 [Ia] Ib]) a0.length ?_ ?_ (s0:=(Cd ((a0.length:Int).toNat) ((⟨[]⟩:ZCb):ZCb))) ?_ h
 ·clear A h;rintro B L e_ bb a7 a1 O ⟨I,aa,ac,A⟩ h am;rw [ue ac];refine ZB9 (sr (Za (v:=vI (B:Int)) rfl (Za (v:=Ia) rfl (Zu A 0 rfl ZFi rfl (Zl rfl rfl (dn (Z8 rfl (decide_eq_true (by omega)) (ZCd (Ze (ZB9 (ZCf (Zh (Za (v:=I) rfl (Za (v:=vI (B:Int)) rfl (Za (v:=Ia) rfl (Za (v:=vI (B:Int)) rfl ?_))))))))))))))))
  obtain ⟨a8,bc,ad⟩:=Zx (A.Iw 0 rfl) B O;refine Yn (len:=a0.length) ZFi ag50.size (tr rfl ad) rfl (ZCq _) (ZC9.2 O) ?_
  obtain ⟨bd,ae,an,ag⟩:=Xb (A.Iw 0 rfl) ad B O;obtain ⟨ah,rfl⟩:=ZC7.1 ae;clear ae;rw [Y9 _ _ O] at ag
  have ao:=ag;replace A:=A.I0 0 rfl (ZB8 ZCa.ty.sl ((a0.getD B Ci).terms) [ah] Ib) (λ_=>(Xq ao)) (λ_ ab=>ab)
  refine Ji [ah] an ag50 rfl rfl (Zf [.agg #[ah]] _ Tryz.func30 rfl rfl rfl (Zmw (a0.getD B Ci) h _ (Y1 (A.Iw 0 rfl))) ?_)
  rintro _ be ⟨V,U,a2,rfl,h,ap,aq,ar⟩;refine rt ?_
  replace A:=A.push ar (ZCn (Y0 162) V [U] a2) ap aq;obtain ⟨au,av⟩:=X7 (A.Ix 0 rfl);subst av;replace A:=A.Iz (c:=own 162 9 U V.terms.length (ZCa.encs V.terms)) (λ_ h_=>h_) (λ_=>au)
  obtain ⟨⟨a3,a4⟩,h⟩:=h;obtain ⟨bh,a6,ai⟩:=Zl3 (A.Ix 1 rfl) (ZFu (Fq _) (show B < L.length by omega))
  refine X4 (B * 1) ZCx ag55.size (tr rfl ai) rfl a3 a4 rfl ?_
  replace A:=A.Iz (c:=ZCn (Y0 162) V [U] (ZDa (Fe U))) (λ_ h_=>h_) (λh_=>Tb (Xi h_))
  replace A:=A.sM [1,0] (M':=[ZCn (Tr.sl 55 (Y0 162)) L [I] aa,ZCn (Y0 162) V [U] (ZDa (Fe U))]) (by decide) rfl
  refine Zl4 (u:=.agg #[U]) A (show B < L.length by omega) ai ag55.size rfl rfl rfl rfl λa5 bi A=>done (Zr (Ze (Zh (Za (v:=vI (B:Int)) rfl (Zm rfl rfl (Zd (v:=vI (Zwt.wrap ((B:Int)+1))) rfl (done ?_)))))))
  exact am (L.set B V) _ _ ⟨I,a5,(sl ⟨rfl,rfl,(tr rfl (I1 _ (Z2 O al))),trivial⟩),(A.sP [1] rfl)⟩ h
 ·clear A h;rintro L e_ bj a1 ⟨I,aa,ac,A⟩ h;rw [ue ac];refine ZB9 (sr (Za (v:=vI (a0.length:Int)) rfl (Za (v:=Ia) rfl (Zu A 0 rfl ZFi rfl (Zl rfl rfl (dn (Z4 rfl (decide_eq_false (by omega)) ?_)))))))
  refine ZCo (Zi (Zi (Zy ?_)))
  refine Ze (sr (Za (v:=I) rfl (Zd (v:=I) rfl (dn (ZCi ?_)))))
  exact Zj rfl (Zg rfl) ⟨L,I,aa,rfl,h,(A.Ix 0 rfl),(J9 A 0 rfl),A.below⟩ (.inl rfl)
 ·skip;exact⟨v5,((ZDa (Fe v5))++(Cd ((a0.length:Int).toNat) ([]:List Nat)).flatten),(slq rfl),A⟩
def Q4 (B:Alg) (K:Alg->Prop):Prop :=
 Kt B.degrees (λh=>Hg B.images (λA=>K (⟨h,A⟩:Alg)))
theorem Zbh (a0:Alg)  {K:Alg->Prop} (h:Q4 a0 K) (w0:World) (q0:TAlg.rep a0 [Ia,Ic] Ib w0) :
  Calls ZCc 12 #[.agg #[Ia,Ic]] w0 λe w'=>∃ (r0:Alg) (Ih:Value) (z0_1:Value) (O:List Nat),
   e=.returned (.agg #[Ih,z0_1])/\K r0/\(ZCn (Mf 2 162 55) r0 [Ih,z0_1] O).holds w'/\(∀ b,b∈O->w0.heap.size<=b)/\Bel w0 w':=by
 unfold Q4 at h
 refine cof Tryz.func12 rfl 13 Tryz.ntmps12 ?_
 have A:=ZCu (X:=Nox) w0 [ZB8 TAlg a0 [Ia,Ic] Ib] (al1 q0);replace A:=A.dAlg 0 rfl;refine sr (Yg (v:=.agg #[Ia,Ic]) A [Ia,Ic] rfl rfl λb4 w6 U A=>Yt A [.slice none 0 0,.slice none 0 0] z32 rfl λb7 w9 U A=>dn (sr (Yt A [.slice none 0 0,.slice none 0 0] z32 rfl λal am U A=>dn (sr (Z0 0 ZFq rfl If.size rfl rfl (Yc A 2 (Ia) rfl If rfl rfl (Zf [Ia] _ Tryz.func41 rfl rfl rfl (Zmr a0.degrees h _ (A.Iw 1 rfl)) ?_)))))))
 rintro _ an ⟨L,B,ak,rfl,h,ab,ac,ad⟩;refine rt ?_
 replace A:=A.push ad (ZCn (Tr.sl 2 (eI.tr)) L [B] ak) ab ac;obtain ⟨ae,ag⟩:=Yx (A.Ix 0 rfl).1;subst ag;replace A:=A.Iz (c:=own 2 1 B L.length (eI.encs L)) (λ_ h_=>h_) (λ_=>ae)
 refine Z0 0 ZCt rfl If.size rfl rfl (Z7 (v:=B) A 1 [B] [B,.slice none 0 0] rfl If.size rfl rfl (Uw (A.Ix 0 rfl)) rfl (Xy (Jc (A.Ix 0 rfl)) rfl) (ZCh rfl) rfl λao A=>dn (sr (Z0 1 ZFq rfl sc23.size rfl rfl (Yc A 3 (Ic) rfl sc23 rfl rfl (Zf [Ic] _ Tryz.func42 rfl rfl rfl (Zn0 a0.images h _ (A.Iw 0 rfl)) ?_)))))
 rintro _ ap ⟨V,I,aa,rfl,h,ah,ai,aj⟩;refine rt ?_
 replace A:=A.push aj (ZCn (Tr.sl 55 (Y0 162)) V [I] aa) ah ai;refine Z0 1 ZCt rfl Il.size rfl rfl (Z7 (v:=I) A 2 [I] [B,I] rfl Il.size rfl rfl (Zan (Tr.trep _ (A.Ix 0 rfl).1)) rfl (Xy (Sn (Tr.trep _ (A.Ix 0 rfl).1)) rfl) (ZCh rfl) rfl λaq A=>dn (sr (Yr A 2 [B,I] rfl ag32 rfl rfl rfl (Z7 (v:=.agg #[B,I]) A 3 [B,I] [B,I] rfl ag32.size rfl rfl rfl rfl (Xy (Jc (A.Ix 1 rfl)) (Xy (Sn (Tr.trep _ (A.Ix 0 rfl).1)) rfl)) (ZCh rfl) rfl λar A=>dn (ZCi ?_)))))
 exact Zj rfl (Wq A 3 rfl ag32 rfl rfl) ⟨(⟨L,V⟩:Alg),B,I,((ZDa (Fe B))++aa),rfl,h,(Zlm (Xi (A.Ix 1 rfl)) (A.Ix 0 rfl) (λx hx hx'=>A.mm 1 0 rfl rfl (by decide) x hx hx')),(λb hb=>(Ch.1 hb).elim (λhb=>(Xg A 1 rfl) b hb) (λhb=>(J9 A 0 rfl) b hb)),A.below⟩ (.inl rfl)
def Mt (B:Alg) (I:Alg) (K:Bool->Prop):Prop :=
 Kv B.degrees I.degrees (λh=>(if¬ (h=true) then K false else Ew B.images I.images (λA=>(if¬ (A=true) then K false else K true))))
theorem Zn1 (L:Alg) (O:Alg)  {K:Bool->Prop} (h:Mt L O K) (w0:World) (q0:TAlg.rep L [Ia,Ic] Ib w0) (q1:TAlg.rep O [Ie,Iu] Ig w0) :
  Calls ZCc 15 #[.agg #[Ia,Ic],.agg #[Ie,Iu]] w0 λe w'=>∃ (r0:Bool),
   e=.returned (.bool r0)/\K r0/\Bel w0 w':=by
 unfold Mt at h
 refine cof Tryz.func15 rfl 17 Tryz.ntmps15 ?_
 have A:=ZCu (X:=Nox) w0 [ZB8 TAlg L [Ia,Ic] Ib,ZB8 TAlg O [Ie,Iu] Ig] (alc q0 (al1 q1));replace A:=A.dAlg 0 rfl;replace A:=A.dAlg 3 rfl;refine sr (Yg (v:=.agg #[Ia,Ic]) A [Ia,Ic] rfl rfl λb7 w9 aa A=>Yg (v:=.agg #[Ie,Iu]) A [Ie,Iu] rfl rfl λab ac aa A=>Zd (v:=.bool false) rfl (dn (ZB9 (sr (Z0 0 ZCt rfl If.size rfl rfl (Yc A 1 (Ia) rfl If rfl rfl (Z0 0 ZCt rfl If.size rfl rfl (Yc A 0 (Ie) rfl If rfl rfl (Zf [Ia,Ie] _ Tryz.func25 rfl rfl rfl (Zmt L.degrees O.degrees h _ (A.Iw 3 rfl) (A.Iw 1 rfl)) ?_)))))))))
 rintro _ ad ⟨ae,rfl,h,U⟩;refine rt ?_
 replace A:=A.Iy U;refine Xo rfl (dn ?_)
 refine Zs rfl (λB=>?_) (λB=>?_)
 ·replace h:=ift h (Xe (X1 B));refine sr (Zd (v:=.bool false) rfl (dn ?_))
  refine ZCi (Zn ?_)
  exact Zj rfl (Zg rfl) ⟨false,rfl,h,A.below⟩ (.inl rfl)
 ·replace h:=Zk h (not_not_intro ((X2 B)));refine ZCd (Ze (ZB9 (sr (Z0 1 ZCt rfl Il.size rfl rfl (Yc A 1 (Ic) rfl Il rfl rfl (Z0 1 ZCt rfl Il.size rfl rfl (Yc A 0 (Iu) rfl Il rfl rfl (Zf [Ic,Iu] _ Tryz.func51 rfl rfl rfl (Zm0 L.images O.images h _ (A.Iw 2 rfl) (A.Iw 0 rfl)) ?_))))))))
  rintro _ ag ⟨ah,rfl,h,V⟩;refine rt ?_
  replace A:=A.Iy V;refine Xo rfl (dn ?_)
  refine Zs rfl (λI=>?_) (λI=>?_)
  ·replace h:=ift h (Xe (X1 I));refine sr (Zd (v:=.bool false) rfl (dn ?_))
   refine ZCi (Zn ?_)
   exact Zj rfl (Zg rfl) ⟨false,rfl,h,A.below⟩ (.inl rfl)
  ·replace h:=Zk h (not_not_intro ((X2 I)));refine ZCd (Ze (sr (Zd (v:=.bool true) rfl (dn (ZCi ?_)))))
   exact Zj rfl (Zg rfl) ⟨true,rfl,h,A.below⟩ (.inl rfl)
def Q5 (I:List Int) (K:Int->Prop):Prop :=
 Z1 (λh (B:Unit) A=>(if I.getD h Ci≠0 then K (I.getD h Ci) else A ())) (λ(B:Unit)=>K 0) I.length 0 ()
theorem Zbi (V:List Int)  {K:Int->Prop} (h:Q5 V K) (w0:World) (q0:ZFf.rep V [Ia] Ib w0) :
  Calls ZCc 43 #[Ia] w0 λe w'=>∃ (r0:Int),
   e=.returned (vI r0)/\K r0/\Bel w0 w':=by
 unfold Q5 at h
 refine cof Tryz.func43 rfl 15 Tryz.ntmps43 ?_
 have B:=ZCu (X:=Nox) w0 [ZB8 TInts V [Ia] Ib] (al1 q0);refine sr (Zd (v:=vI 0) rfl (dn (ZB9 (sr (Za (v:=Ia) rfl (Zu B 0 rfl ZCs rfl (Za (v:=vI 0) rfl (dn (ZCf ?_)))))))))
 have ab:V.length<=9223372036854775807:=Yz (B.Iw 0 rfl);refine Yh (S:=Unit) _ _ (λA aa e_ w_=>Zt e_ [(5,Ia),(6,vI (V.length:Int)),(7,vI (A:Int))]/\Ctx Nox w0 w_ [] [ZB8 TInts V [Ia] Ib]) V.length ?_ ?_ (s0:=()) ?_ h
 ·clear B h;rintro A aa e_ ah ae ad I ⟨O,B⟩ h ac;rw [ue O];refine sr (Zl rfl rfl (dn (ZB9 (Z8 rfl (decide_eq_true (by omega)) (ZCd (Ze (ZB9 (ZCf (sr ?_)))))))))
  obtain ⟨ag,ai,U⟩:=Zx (B.Iw 0 rfl) A I;refine Yn (len:=V.length) ZCs sc2.size (tr rfl U) rfl (ZCq _) (ZC9.2 I) (Ye (vI (V.getD A Ci)) (Yi (B.Iw 0 rfl) U A I) sc2 rfl (Zd (v:=vI (V.getD A Ci)) rfl (dn (sr (Za (v:=vI (V.getD A Ci)) rfl (Xl rfl rfl (dn ?_)))))))
  refine Zs rfl (λL=>?_) (λL=>?_)
  ·replace h:=ift h (ct L);refine sr (Za (v:=vI (V.getD A Ci)) rfl (Zd (v:=vI (V.getD A Ci)) rfl (dn ?_)))
   refine ZCi (Z9 (Zn (Zn (Z9 (Zn ?_)))))
   exact Zj rfl (Zg rfl) ⟨V.getD A Ci,rfl,h,B.below⟩ (.inl rfl)
  ·replace h:=Zk h (cf L);refine ZCd (Zr (Ze (Zh (Zm rfl rfl (Za (v:=vI (Zwt.wrap ((A:Int)+1))) rfl (done ?_))))))
   exact ac () _ _ ⟨(sl ⟨rfl,rfl,(tr rfl (I1 _ (Z2 I ab))),trivial⟩),B⟩ h
 ·clear B h;rintro aa e_ aj ad ⟨O,B⟩ h;rw [ue O];refine sr (Zl rfl rfl (dn (ZB9 (Z4 rfl (decide_eq_false (by omega)) ?_))))
  refine ZCo (Zi (Zi (Zy ?_)))
  refine Ze (sr (Zd (v:=vI 0) rfl (dn (ZCi ?_))))
  exact Zj rfl (Zg rfl) ⟨0,rfl,h,B.below⟩ (.inl rfl)
 ·skip;exact⟨(slq rfl),B⟩
end Go.Proofs.YtaagfepgbofmlaaGreat
