import Derived.Test.YtaagfepgbofmlaaGreatQ5
set_option linter.unusedSectionVars false
set_option linter.unusedSimpArgs false
set_option linter.unusedVariables false
open Classical renaming choose→ZRr,byContradiction→ZRv
open Decidable renaming not_not→Zxc
open Go renaming wp_seq→ZB9,wp_ret→ZCi,wp_block→ZCf,wp_skip→ZCd,wp_exit→ZCo
open Go.IntKind renaming i64→Zwt
open Go.Proofs.Tryz renaming prog→ZCc,underlying85→ZKd,underlying22→ZCs,underlying32→ZCt,func94→ZP2,underlying120→ZP7,func117→ZP8,func115→ZKk,f62→ZQa,underlying132→ZN8,func129→ZQd,func81→ZQe,underlying125→ZJo,underlying198→ZKc,f114→ZQf,func176→ZQi,func148→ZQj,func116→ZQn,underlying122→ZJm,func171→ZQp,ntmps171→ZQq,func100→ZQr
open Go.Value renaming ownBlock→Fe
open Inhabited renaming default→Ci
open Int renaming mul_emod→Ct,natCast_nonneg→ZCq,ofNat_lt→ZC9,toNat_natCast→ZPx,add_zero→ZP1,tmod→Fa,mul_zero→ZP5,zero_add→F3,one_mul→ZQb,zero_mul→ZQc,tmod_eq_emod_of_nonneg→ZFp,emod_emod→F4
open List renaming mem_append→Ch,mem_singleton_self→ZJp,mem_map→Cp,range→C9,mem_range→Zvt,length_map→ZPv,getD→Co,length_take→ZJv,toArray→ZB7,replicate→Cd,length_append→C8,mem_filter→ZPz,take_length→ZP0,length_cons→Zw3,length_set→ZC4,length_drop→Zwa,pairwise_map→ZP3,length_eq_one_iff→ZC7,pairwise_singleton→ZK0,nodup_cons→ZFj,map_append→ZJn,take_of_length_le→Fs,append_nil→ZJz,map_cons→Fm,mem_cons→Cb,mem_singleton→Fc,filter_cons_of_pos→ZQw,filter_cons_of_neg→ZQx,length_nil→ZOi,nil_append→ZQy,length_replicate→ZJ5,getElem_cons_drop→ZRj,take_append_drop→Zya,pairwise_iff_getElem→Cq,getElem_of_mem→Cw
open List.Pairwise renaming filter→ZRn
open Nat renaming le_of_ble_eq_true→ZCh,zero_le→Fq,lt_of_le_of_lt→ZFu,add_sub_cancel_left→ZP4,le_trans→Cj,le_refl→Cg,lt_or_ge→Fb,add_sub_cancel'→ZQ0
open Option renaming toList→ZDa
open Vc renaming TInts→ZFf,TForm→ZCv,Lvl→ZPy
open Vc.A8 renaming enc→ZB6,zero→ZCe
open Vc.Ctx renaming start→ZCu,startL→ZP9
open Vc.Enc renaming encs_append→ZC1,encs_one'→ZDf
open Vc.Term renaming mono→ZP6
open Vc.Tr renaming sl→ZJh,item→ZCn,trep→ZJu
open Vc.Ty renaming item→ZB8
set_option maxRecDepth 4000
set_option maxHeartbeats 4000000
namespace Go.Proofs.YtaagfepgbofmlaaGreat
open Go Go.RowKit Vc
variable {b0 bp0 b1 bp1 b2 bp2 b3 bp3 b4 bp4 b5 bp5 b6 bp6 b7 bp7 mb0:Nat} {Ia Ic Ij Ip Iq Ir Ie Iu u1_2 u1_3 u1_4 u1_5 Ik u2_1 u2_2 u2_3 u2_4 u2_5 u3_0 u3_1 u3_2 u3_3 u3_4 u3_5 Is u4_1 u4_2 u4_3 u4_4 u4_5 u5_0 u5_1 u5_2 u5_3 u5_4 u5_5 u6_0 u6_1 u6_2 u6_3 u6_4 u6_5 u7_0 u7_1 u7_2 u7_3 u7_4 u7_5:Value} {Ib Ig It fp3 fp4 fp5 fp6 fp7 fp0_0 fp0_1 fp0_2 fp0_3 fp0_4 fp0_5 fp1_0 fp1_1 fp1_2 fp1_3 fp1_4 fp1_5 F0:List Nat} {D0:List Lev}
def M6 (a0:Alg) (I:Int) (K:List (List Int)->Prop):Prop :=
 Sc a0.degrees I (λA=>Sc a0.degrees (Zwt.wrap (I+1)) (λL=>Z1 (λO (h:(List (List Int))) B=>Wh (A.getD O Ci) 1 (λU=>Uy (⟨a0.degrees,a0.images⟩:Alg) U (λV=>Vu V L (λaa=>(Zw (h.length+1) 24/\B (h++[aa])))))) (λ(h:(List (List Int)))=>K h) A.length 0 []))
theorem Zg2 (a0:Alg) (a1:Int)  {K:List (List Int)->Prop} (h:M6 a0 a1 K) (w0:World) (q0:TAlg.rep a0 [Ia,Ic] Ib w0) :
  Calls ZCc 176 #[.agg #[Ia,Ic],vI a1] w0 λe w'=>∃ (r0:List (List Int)) (Ih:Value) (bh:List Nat),
   e=.returned (Ih)/\K r0/\(ZCn (ZJh 22 (ZJh 2 (eI.tr))) r0 [Ih] bh).holds w'/\(∀ b,b∈bh->w0.heap.size<=b)/\Bel w0 w':=by
 unfold M6 at h
 refine cof ZQi rfl 38 Tryz.ntmps176 ?_
 have A:=ZCu (X:=Nox) w0 [ZB8 TAlg a0 [Ia,Ic] Ib] (al1 q0);replace A:=A.dAlg 0 rfl;refine sr (Yg (v:=.agg #[Ia,Ic]) A [Ia,Ic] rfl rfl λb4 w6 I A=>Zd (v:=.slice none 0 0) rfl (dn (ZB9 ?_)))
 refine cwd 12 Ym [0,1,0,7,0,16,0,64,255,0,511,1535,4095] [1,5] [0,2,4,6,7,10,11] (λhM8 hM9 w7 I=>?_)
 replace A:=A.Iy I;refine bF 0 (vQ b4) rfl rfl hM9 (λ_=>by exact Yq 0 ZCt rfl If.size rfl rfl) (Zc 13 1) (bL 1 (Ia) rfl rfl hM8 (λ_ I=>by exact Yj (A.Iy I) 0 (Ia) rfl If rfl rfl) (Zc 13 3) (bM 2 (vI a1) rfl hM9 (Zc 13 7) (bF 4 (vQ b4) rfl rfl hM9 (λ_=>by exact Yq 0 ZCt rfl If.size rfl rfl) (Zc 13 23) (bL 5 (Ia) rfl rfl hM8 (λ_ I=>by exact Yj (A.Iy I) 0 (Ia) rfl If rfl rfl) (Zc 13 55) (bM 6 (vI a1) rfl hM9 (Zc 13 119) (bF 7 (vI (Zwt.wrap (a1+1))) rfl rfl hM9 (λ_=>by exact Vn rfl rfl) (Zc 13 247) ?_))))))
 refine U8 (λe_ w_=>∃ (an:Nat),∃ (ag:Value),∃ (U:List A8),∃ (ad:Value),∃ (B:List A8),Zt e_ [(2,vQ b4),(5,ad),(6,ag),(7,.slice (some ⟨an,0,none⟩) 0 0)]/\Ctx Nox w0 w_ [ZCn (ZJh 22 (ZJh 2 (eI.tr))) [] [.slice (some ⟨an,0,none⟩) 0 0] ((ZDa (Fe (.slice (some ⟨an,0,none⟩) 0 0)))++([]:List (List Nat)).flatten),own 136 8 ag U.length ((EA .u8).encs U),own 136 8 ad B.length ((EA .u8).encs B),blk b4 32 [Ia,Ic]] [ZB8 ZCv.sl a0.images [Ic] Ib,ZB8 TInts a0.degrees [Ia] Ib,ZB8 TAlg a0 [Ia,Ic] Ib]/\(Z1 (λL (V:(List (List Int))) bd=>Wh (B.getD L Ci) 1 (λaa=>Uy (⟨a0.degrees,a0.images⟩:Alg) aa (λab=>Vu ab U (λac=>(Zw (V.length+1) 24/\bd (V++[ac])))))) (λ(V:(List (List Int)))=>K V) B.length 0 [])) ?_ ?_
 ·clear A h;rintro e_ dm ⟨an,ag,U,ad,B,aw,A,h⟩;rw [ue aw];refine Ze (ZB9 (sr (Zd (v:=vI 0) rfl (dn (ZCf ?_)))))
  have bj:B.length<=9223372036854775807:=Uv (A.Ix 2 rfl);refine Yh (S:=(List (List Int))) _ _ (λL V e_ w_=>∃ (ae:Value),∃ (al:List Nat),Zt e_ [(2,vQ b4),(5,ad),(6,ag),(7,ae),(8,vI (L:Int))]/\Ctx Nox w0 w_ [ZCn (ZJh 22 (ZJh 2 (eI.tr))) V [ae] al,own 136 8 ag U.length ((EA .u8).encs U),own 136 8 ad B.length ((EA .u8).encs B),blk b4 32 [Ia,Ic]] [ZB8 ZCv.sl a0.images [Ic] Ib,ZB8 TInts a0.degrees [Ia] Ib,ZB8 TAlg a0 [Ia,Ic] Ib]) B.length ?_ ?_ (s0:=[]) ?_ h
  ·clear A h;rintro L V e_ dp bd da au ⟨ae,al,aw,A⟩ h bk;rw [ue aw];refine ZB9 (sr (Za (v:=vI (L:Int)) rfl (Za (v:=ad) rfl (J3 A 2 rfl ZN8 rfl (Zl rfl rfl (dn (Z8 rfl (decide_eq_true (by omega)) (ZCd (Ze (ZB9 (ZCf ?_)))))))))))
   refine cwd 11 Ym [0,0,0,0,12,28,60,126,0,510,1022,2047,4095] [1,4,5] [0,2,3,8] (λaz av dq I=>?_)
   replace A:=A.Iy I;refine bM 0 (ae) rfl av (Zc 13 1) (bL 1 (.agg #[Ia,Ic]) rfl rfl az (λ_ I=>by exact Y6 (A.Iy I) 3 [Ia,Ic] rfl ag32 rfl rfl rfl) (Zc 13 3) (bM 2 (ad) rfl av (Zc 13 7) (bM 3 (vI (L:Int)) rfl av (Zc 13 15) ?_)))
   obtain ⟨bl,dr,be⟩:=Xx (A.Ix 2 rfl) (ZFu (Fq _) au);refine bL 4 (.pointer (some ⟨bl,L * 8,none⟩)) rfl rfl az (λ_ I=>by exact Vz (L * 8) ZN8 ag136.size (by exact tr rfl be) rfl (ZCq _) (ZC9.2 au) rfl) (Zc 13 31) (bL 5 (.agg (ZB7 (ZB6 .u8 (B.getD L Ci)))) rfl rfl az (λ_ I=>by exact Jq (ZB6 .u8 (B.getD L Ci)) (J7 ((A.Iy I).Ix 2 rfl) be L au) ag136 rfl rfl) (Zc 13 63) (bM 8 (ag) rfl av (Zc 13 319) (aO 6 rfl (Zf [.agg (ZB7 (ZB6 .u8 (B.getD L Ci))),vI 1] _ Tryz.func95 rfl rfl rfl (T2 (B.getD L Ci) 1 h _) ?_))))
   rintro _ dt ⟨aa,ao,db,rfl,h,bm,bn,bo⟩;refine rt ?_
   replace A:=A.push bo (ZCn (Y0 162) aa [ao] db) bm bn;obtain ⟨bp,bq⟩:=X7 (A.Ix 0 rfl);subst bq;replace A:=A.Iz (c:=own 162 9 ao aa.terms.length (ETerm.encs aa.terms)) (λ_ h_=>h_) (λ_=>bp)
   refine done (aK (by assumption) (Zc 13 383) (aO 7 rfl (Zf [.agg #[Ia,Ic],.agg #[ao]] _ Tryz.func71 rfl rfl rfl (Ml (⟨a0.degrees,a0.images⟩:Alg) aa h _ (Yf (A.Iw 1 rfl) (A.Iw 0 rfl)) (Y1 (Yu (A.Ix 0 rfl)))) ?_)))
   rintro _ du ⟨ab,ap,dc,rfl,h,br,bs,bt⟩;refine rt ?_
   replace A:=A.push bt (ZCn (Y0 162) ab [ap] dc) br bs;obtain ⟨bu,bv⟩:=X7 (A.Ix 0 rfl);subst bv;replace A:=A.Iz (c:=own 162 9 ap ab.terms.length (ETerm.encs ab.terms)) (λ_ h_=>h_) (λ_=>bu)
   refine done (aK (by assumption) (Zc 13 511) (aO 9 rfl (Zf [.agg #[ap],ag] _ Tryz.func128 rfl rfl rfl (S2 ab U h _ (Y1 (Yu (A.Ix 0 rfl))) (Yu (A.Ix 3 rfl))) ?_)))
   rintro _ dv ⟨ac,O,dd,rfl,h,bw,bx,bz⟩;refine rt ?_
   replace A:=A.push bz (ZCn (ZJh 2 (eI.tr)) ac [O] dd) bw bx;obtain ⟨b8,b9⟩:=Yx (A.Ix 0 rfl).1;subst b9;replace A:=A.Iz (c:=own 2 1 O ac.length (eI.encs ac)) (λ_ h_=>h_) (λ_=>b8)
   refine done (aK (by assumption) (Zc 13 1023) (aO 10 rfl (Yd (sz:=1) A [(0,O)] [O] rfl (λ_=>Wc O (Va (A.Ix 0 rfl)) _) rfl (by decide) λaq dw I A=>?_)))
   replace A:=A.pushM0 (Zz (ZJh 2 (eI.tr)) [] [] []) (Xn _ _) rfl;replace A:=A.sM [2,0,1,3,4,5,6,7,8] (M':=[own 2 1 O ac.length (eI.encs ac),Zz (ZJh 2 (eI.tr)) [] [] [],own 22 1 (.slice (some ⟨aq,0,none⟩) 1 1) 1 [O],own 162 9 ap ab.terms.length (ETerm.encs ab.terms),own 162 9 ao aa.terms.length (ETerm.encs aa.terms),ZCn (ZJh 22 (ZJh 2 (eI.tr))) V [ae] al,own 136 8 ag U.length ((EA .u8).encs U),own 136 8 ad B.length ((EA .u8).encs B),blk b4 32 [Ia,Ic]]) (by decide) rfl
   replace A:=A.gather (c:=Zz (ZJh 2 (eI.tr)) [ac] [O] [(ZDa (Fe O))]) (λx_ ah=>Vf ah) (λai aj ak=>W9 (c:=[O]) (id (Xi ai)) aj ak)
   replace A:=A.sM [1,0,2,3,4,5,6,7] (M':=[own 22 1 (.slice (some ⟨aq,0,none⟩) 1 1) 1 [O],Zz (ZJh 2 (eI.tr)) [ac] [O] [(ZDa (Fe O))],own 162 9 ap ab.terms.length (ETerm.encs ab.terms),own 162 9 ao aa.terms.length (ETerm.encs aa.terms),ZCn (ZJh 22 (ZJh 2 (eI.tr))) V [ae] al,own 136 8 ag U.length ((EA .u8).encs U),own 136 8 ad B.length ((EA .u8).encs B),blk b4 32 [Ia,Ic]]) (by decide) rfl
   replace A:=A.gather (c:=ZCn (ZJh 22 (ZJh 2 (eI.tr))) [ac] [.slice (some ⟨aq,0,none⟩) 1 1] ((ZDa (Fe (.slice (some ⟨aq,0,none⟩) 1 1)))++([(ZDa (Fe O))]:List (List Nat)).flatten)) (λx_ ah=>Ch.1 ah) (λai aj ak=>Xj ai aj ak)
   refine done (aK (by assumption) (Zc 13 2047) (Z5 11 (by decide) (by decide) (by kernel_rfl) (by kernel_rfl) rfl ?_))
   replace A:=A.sM [3,0,1,2,4,5,6] (M':=[ZCn (ZJh 22 (ZJh 2 (eI.tr))) V [ae] al,ZCn (ZJh 22 (ZJh 2 (eI.tr))) [ac] [.slice (some ⟨aq,0,none⟩) 1 1] ((ZDa (Fe (.slice (some ⟨aq,0,none⟩) 1 1)))++([(ZDa (Fe O))]:List (List Nat)).flatten),own 162 9 ap ab.terms.length (ETerm.encs ab.terms),own 162 9 ao aa.terms.length (ETerm.encs aa.terms),own 136 8 ag U.length ((EA .u8).encs U),own 136 8 ad B.length ((EA .u8).encs B),blk b4 32 [Ia,Ic]]) (by decide) rfl
   obtain ⟨ca,h⟩:=h;refine W1 A ZKd J0 rfl (by decide) (by decide) rfl rfl ca λbi de dx A=>Zd (v:=bi) rfl (done (Z6 (Zr (Ze (Zh (Za (v:=vI (L:Int)) rfl (Zm rfl rfl (Zd (v:=vI (Zwt.wrap ((L:Int)+1))) rfl (done ?_)))))))))
   exact bk (V++[ac]) _ _ ⟨bi,de,(sl ⟨rfl,rfl,rfl,rfl,(tr rfl (I1 _ (Z2 au bj))),trivial⟩),(A.xM [0,3,4,5] rfl)⟩ h
  ·clear A h;rintro V e_ dy da ⟨ae,al,aw,A⟩ h;rw [ue aw];refine ZB9 (sr (Za (v:=vI (B.length:Int)) rfl (Za (v:=ad) rfl (J3 A 2 rfl ZN8 rfl (Zl rfl rfl (dn (Z4 rfl (decide_eq_false (by omega)) ?_)))))))
   refine ZCo (Zi (Zi (Zy ?_)))
   refine Ze (sr (Za (v:=ae) rfl (Zd (v:=ae) rfl (dn (ZCi ?_)))))
   exact Zj rfl (Zg rfl) ⟨V,ae,al,rfl,h,(A.Ix 0 rfl),(J9 A 0 rfl),A.below⟩ (.inl rfl)
  ·skip;exact⟨.slice (some ⟨an,0,none⟩) 0 0,((ZDa (Fe (.slice (some ⟨an,0,none⟩) 0 0)))++([]:List (List Nat)).flatten),(slq rfl),A⟩
 refine Jp 3 9 rfl rfl (by kernel_rfl) ?_ ?_
 ·skip;refine Zf [Ia,vI a1] _ ZP2 rfl rfl rfl (S1 a0.degrees a1 h _ (A.Iw 1 rfl)) ?_
  rintro _ dz ⟨ax,ar,dg,rfl,h,cb,cc,ce⟩;refine rt ?_
  replace A:=A.push ce (ZCn (ZJh 136 ((EA .u8).tr)) ax [ar] dg) cb cc;obtain ⟨cg,ch⟩:=Yx (A.Ix 0 rfl).1;subst ch;replace A:=A.Iz (c:=own 136 8 ar ax.length ((EA .u8).encs ax)) (λ_ h_=>h_) (λ_=>cg)
  refine done (aK (by assumption) (Zc 13 255) ?_)
  refine Jp 8 9 rfl rfl (by kernel_rfl) ?_ ?_
  ·skip;refine Zf [Ia,vI (Zwt.wrap (a1+1))] _ ZP2 rfl rfl rfl (S1 a0.degrees (Zwt.wrap (a1+1)) h _ (A.Iw 1 rfl)) ?_
   rintro _ d0 ⟨a2,a3,dh,rfl,h,ci,cj,ck⟩;refine rt ?_
   replace A:=A.push ck (ZCn (ZJh 136 ((EA .u8).tr)) a2 [a3] dh) ci cj;obtain ⟨cl,cm⟩:=Yx (A.Ix 0 rfl).1;subst cm;replace A:=A.Iz (c:=own 136 8 a3 a2.length ((EA .u8).encs a2)) (λ_ h_=>h_) (λ_=>cl)
   refine done (aK (by assumption) (Zc 13 511) (bA 10 (ar) rfl hM9 (Zc 13 1535) (bA 11 (a3) rfl hM9 (Zc 13 3583) (aO 9 rfl (Yd (sz:=1) A [] [] rfl (λ_=>Jl _) rfl (by decide) λa4 d1 I A=>?_)))))
   replace A:=A.pushM0 (Zz (ZJh 2 (eI.tr)) ([]:List (List Int)) [] []) (Xn _ _) rfl;replace A:=A.gather (c:=ZCn (ZJh 22 (ZJh 2 (eI.tr))) [] [.slice (some ⟨a4,0,none⟩) 0 0] ((ZDa (Fe (.slice (some ⟨a4,0,none⟩) 0 0)))++([]:List (List Nat)).flatten)) (λx_ ah=>(Ch.1 ah).symm) (λai aj ak=>Xj aj ai (λb_ ay am=>ak b_ am ay))
   refine done (aK (by assumption) (Zc 13 4095) (Z5 12 (by decide) (by decide) (by kernel_rfl) (by kernel_rfl) rfl (Zd (v:=.slice (some ⟨a4,0,none⟩) 0 0) rfl (done (Z6 ?_)))))
   exact⟨rfl,_,rfl,⟨a4,a3,a2,ar,ax,(slq rfl),A,h⟩⟩
  ·skip;refine Yd (sz:=1) A [] [] rfl (λ_=>Jl _) rfl (by decide) λa5 d2 I A=>?_
   replace A:=A.pushM0 (Zz (ZJh 2 (eI.tr)) ([]:List (List Int)) [] []) (Xn _ _) rfl;replace A:=A.gather (c:=ZCn (ZJh 22 (ZJh 2 (eI.tr))) [] [.slice (some ⟨a5,0,none⟩) 0 0] ((ZDa (Fe (.slice (some ⟨a5,0,none⟩) 0 0)))++([]:List (List Nat)).flatten)) (λx_ ah=>(Ch.1 ah).symm) (λai aj ak=>Xj aj ai (λb_ ay am=>ak b_ am ay))
   refine done (aK (by assumption) (Zc 13 767) (aO 8 rfl (Zf [Ia,vI (Zwt.wrap (a1+1))] _ ZP2 rfl rfl rfl (S1 a0.degrees (Zwt.wrap (a1+1)) h _ (A.Iw 1 rfl)) ?_)))
   rintro _ d3 ⟨a6,a7,di,rfl,h,cn,cp,cq⟩;refine rt ?_
   replace A:=A.push cq (ZCn (ZJh 136 ((EA .u8).tr)) a6 [a7] di) cn cp;obtain ⟨cr,cu⟩:=Yx (A.Ix 0 rfl).1;subst cu;replace A:=A.Iz (c:=own 136 8 a7 a6.length ((EA .u8).encs a6)) (λ_ h_=>h_) (λ_=>cr)
   refine done (aK (by assumption) (Zc 13 1023) (bA 10 (ar) rfl hM9 (Zc 13 2047) (bA 11 (a7) rfl hM9 (Zc 13 4095) (Z5 12 (by decide) (by decide) (by kernel_rfl) (by kernel_rfl) rfl (Zd (v:=.slice (some ⟨a5,0,none⟩) 0 0) rfl (done (Z6 ?_)))))))
   exact⟨rfl,_,rfl,⟨a5,a7,a6,ar,ax,(slq rfl),(A.xM [1,0,2,3] rfl),h⟩⟩
 ·skip;refine Yd (sz:=1) A [] [] rfl (λ_=>Jl _) rfl (by decide) λa8 d4 I A=>?_
  replace A:=A.pushM0 (Zz (ZJh 2 (eI.tr)) ([]:List (List Int)) [] []) (Xn _ _) rfl;replace A:=A.gather (c:=ZCn (ZJh 22 (ZJh 2 (eI.tr))) [] [.slice (some ⟨a8,0,none⟩) 0 0] ((ZDa (Fe (.slice (some ⟨a8,0,none⟩) 0 0)))++([]:List (List Nat)).flatten)) (λx_ ah=>(Ch.1 ah).symm) (λai aj ak=>Xj aj ai (λb_ ay am=>ak b_ am ay))
  refine done (aK (by assumption) (Zc 13 759) (aO 3 rfl (Zf [Ia,vI a1] _ ZP2 rfl rfl rfl (S1 a0.degrees a1 h _ (A.Iw 1 rfl)) ?_)))
  rintro _ d5 ⟨a9,ba,dj,rfl,h,cv,cw,cx⟩;refine rt ?_
  replace A:=A.push cx (ZCn (ZJh 136 ((EA .u8).tr)) a9 [ba] dj) cv cw;obtain ⟨cy,cz⟩:=Yx (A.Ix 0 rfl).1;subst cz;replace A:=A.Iz (c:=own 136 8 ba a9.length ((EA .u8).encs a9)) (λ_ h_=>h_) (λ_=>cy)
  refine done (aK (by assumption) (Zc 13 767) (aO 8 rfl (Zf [Ia,vI (Zwt.wrap (a1+1))] _ ZP2 rfl rfl rfl (S1 a0.degrees (Zwt.wrap (a1+1)) h _ (A.Iw 1 rfl)) ?_)))
  rintro _ d6 ⟨bb,bc,dk,rfl,h,c0,c6,c7⟩;refine rt ?_
  replace A:=A.push c7 (ZCn (ZJh 136 ((EA .u8).tr)) bb [bc] dk) c0 c6;obtain ⟨c8,c9⟩:=Yx (A.Ix 0 rfl).1;subst c9;replace A:=A.Iz (c:=own 136 8 bc bb.length ((EA .u8).encs bb)) (λ_ h_=>h_) (λ_=>c8)
  refine done (aK (by assumption) (Zc 13 1023) (bA 10 (ba) rfl hM9 (Zc 13 2047) (bA 11 (bc) rfl hM9 (Zc 13 4095) (Z5 12 (by decide) (by decide) (by kernel_rfl) (by kernel_rfl) rfl (Zd (v:=.slice (some ⟨a8,0,none⟩) 0 0) rfl (done (Z6 ?_)))))))
  exact⟨rfl,_,rfl,⟨a8,bc,bb,ba,a9,(slq rfl),(A.xM [2,0,1,3] rfl),h⟩⟩
def H0 (I:Alg) (h:Int) (K:List (List Int)->Prop):Prop :=
 (if h=0 then K [] else M6 I (Zwt.wrap (h - 1)) (λA=>V5 A (λB=>K B)))
theorem Zca (a0:Alg) (B:Int)  {K:List (List Int)->Prop} (h:H0 a0 B K) (w0:World) (q0:TAlg.rep a0 [Ia,Ic] Ib w0) :
  Calls ZCc 129 #[.agg #[Ia,Ic],vI B] w0 λe w'=>∃ (r0:List (List Int)) (Ih:Value) (ad:List Nat),
   e=.returned (Ih)/\K r0/\(ZFf.sl).rep r0 [Ih] ad w'/\(∀ b,b∈ad->w0.heap.size<=b)/\Bel w0 w':=by
 unfold H0 at h
 refine cof ZQd rfl 13 Tryz.ntmps129 ?_
 have A:=ZCu (X:=Nox) w0 [ZB8 TAlg a0 [Ia,Ic] Ib] (al1 q0);replace A:=A.dAlg 0 rfl;refine sr (Yg (v:=.agg #[Ia,Ic]) A [Ia,Ic] rfl rfl λb4 w6 ap A=>Zd (v:=.slice none 0 0) rfl (dn (ZB9 (sr (Za (v:=vI B) rfl (X6 rfl rfl (dn ?_)))))))
 refine Zs rfl (λI=>?_) (λI=>?_)
 ·replace h:=ift h (ct I);refine sr (Yd (sz:=1) A [] [] rfl (λ_=>Jl _) rfl (by decide) λL w9 ap A=>?_)
  replace A:=A.pushM0 (Zz (ZJh 2 (eI.tr)) ([]:List (List Int)) [] []) (Xn _ _) rfl;replace A:=A.gather (c:=ZCn (ZJh 22 (ZJh 2 (eI.tr))) [] [.slice (some ⟨L,0,none⟩) 0 0] ((ZDa (Fe (.slice (some ⟨L,0,none⟩) 0 0)))++([]:List (List Nat)).flatten)) (λx_ aq=>(Ch.1 aq).symm) (λar au av=>Xj au ar (λb_ O ah=>av b_ ah O))
  refine Zd (v:=.slice (some ⟨L,0,none⟩) 0 0) rfl (dn ?_)
  refine ZCi (Zn ?_)
  exact Zj rfl (Zg rfl) ⟨[],.slice (some ⟨L,0,none⟩) 0 0,((ZDa (Fe (.slice (some ⟨L,0,none⟩) 0 0)))++([]:List (List Nat)).flatten),rfl,h,(ZJu _ (A.Ix 0 rfl).1),(λb hb=>(J9 A 0 rfl) b hb),A.below⟩ (.inl rfl)
 ·replace h:=Zk h (cf I);refine ZCd (Ze (sr (Yr A 0 [Ia,Ic] rfl ag32 rfl rfl rfl (Za (v:=vI B) rfl (X5 rfl rfl (Zf [.agg #[Ia,Ic],vI (Zwt.wrap (B - 1))] _ ZQi rfl rfl rfl (Zg2 a0 (Zwt.wrap (B - 1)) h _ (Yf (A.Iw 1 rfl) (A.Iw 0 rfl))) ?_))))))
  rintro _ aw ⟨U,V,ae,rfl,h,ai,aj,ak⟩;refine rt ?_
  replace A:=A.push ak (ZCn (ZJh 22 (ZJh 2 (eI.tr))) U [V] ae) ai aj;have al:=J9 A 0 rfl;replace A:=A.thaw 0 rfl (ZB8 (ZFf.sl) U [V] ae) (λh_=>ZJu _ h_.1) (λ_ O=>O)
  refine Zf [V] _ Tryz.func55 rfl rfl rfl (Nk U h _ (A.Iw 0 rfl)) ?_
  rintro _ ax ⟨ag,aa,ab,rfl,h,am,ac,an⟩;refine rt ?_
  have ao:∀ b,b∈ab->w0.heap.size<=b:=(λb hb=>(ac b hb).elim (λh_=>Cj A.size h_) (λhb=>al b hb))
  replace A:=A.pushR an (ZB8 (ZFf.sl) ag [aa] ab) am (λb hb=>(ac b hb).elim .inl (λhb=>.inr (⟨_,mg 0 rfl,hb⟩)))
  refine Zd (v:=aa) rfl (dn (ZCi ?_))
  exact Zj rfl (Zg rfl) ⟨ag,aa,ab,rfl,h,(A.Iw 0 rfl),(λb hb=>ao b hb),A.below⟩ (.inl rfl)
def H1 (L:Alg) (h:Int) (K:List (List Int)->Prop):Prop :=
 M6 L h (λA=>Sc L.degrees (Zwt.wrap (h+1)) (λB=>Nl A (B.length:Int) (λI=>K I)))
theorem Zg3 (V:Alg) (I:Int)  {K:List (List Int)->Prop} (h:H1 V I K) (w0:World) (q0:TAlg.rep V [Ia,Ic] Ib w0) :
  Calls ZCc 148 #[.agg #[Ia,Ic],vI I] w0 λe w'=>∃ (r0:List (List Int)) (Ih:Value) (aa:List Nat),
   e=.returned (Ih)/\K r0/\(ZFf.sl).rep r0 [Ih] aa w'/\(∀ b,b∈aa->w0.heap.size<=b)/\Bel w0 w':=by
 unfold H1 at h
 refine cof ZQj rfl 15 Tryz.ntmps148 ?_
 have A:=ZCu (X:=Nox) w0 [ZB8 TAlg V [Ia,Ic] Ib] (al1 q0);replace A:=A.dAlg 0 rfl;refine sr (Yg (v:=.agg #[Ia,Ic]) A [Ia,Ic] rfl rfl λb4 w6 B A=>Zd (v:=.slice none 0 0) rfl (dn (ZB9 ?_)))
 refine cwd 7 Ym [0,0,3,0,8,0,32,127,255,511,1023] [0,4] [1,3,5,6] (λhM8 hM9 w7 B=>?_)
 replace A:=A.Iy B;refine bL 0 (.agg #[Ia,Ic]) rfl rfl hM8 (λ_ B=>by exact Y6 (A.Iy B) 0 [Ia,Ic] rfl ag32 rfl rfl rfl) (Zc 11 1) (bM 1 (vI I) rfl hM9 (Zc 11 3) (bF 3 (vQ b4) rfl rfl hM9 (λ_=>by exact Yq 0 ZCt rfl If.size rfl rfl) (Zc 11 11) (bL 4 (Ia) rfl rfl hM8 (λ_ B=>by exact Yj (A.Iy B) 0 (Ia) rfl If rfl rfl) (Zc 11 27) (bM 5 (vI I) rfl hM9 (Zc 11 59) (bF 6 (vI (Zwt.wrap (I+1))) rfl rfl hM9 (λ_=>by exact Vn rfl rfl) (Zc 11 123) (aO 2 rfl (Zf [.agg #[Ia,Ic],vI I] _ ZQi rfl rfl rfl (Zg2 V I h _ (Yf (A.Iw 1 rfl) (A.Iw 0 rfl))) ?_)))))))
 rintro _ aw ⟨ab,ac,au,rfl,h,ah,ai,aj⟩;refine rt ?_
 replace A:=A.push aj (ZCn (ZJh 22 (ZJh 2 (eI.tr))) ab [ac] au) ah ai;refine done (aK (by assumption) (Zc 11 127) (Z5 7 (by decide) (by decide) (by kernel_rfl) (by kernel_rfl) rfl (Zf [Ia,vI (Zwt.wrap (I+1))] _ ZP2 rfl rfl rfl (S1 V.degrees (Zwt.wrap (I+1)) h _ (A.Iw 1 rfl)) ?_)))
 rintro _ ax ⟨L,ad,av,rfl,h,ak,al,am⟩;refine rt ?_
 replace A:=A.push am (ZCn (ZJh 136 ((EA .u8).tr)) L [ad] av) ak al;obtain ⟨an,ao⟩:=Yx (A.Ix 0 rfl).1;subst ao;replace A:=A.Iz (c:=own 136 8 ad L.length ((EA .u8).encs L)) (λ_ h_=>h_) (λ_=>an)
 refine J3 A 0 rfl ZN8 rfl (Zf [ac,vI (L.length:Int)] _ Tryz.func169 rfl rfl rfl (Zb8 ab (L.length:Int) h _ (ZJu _ (A.Ix 1 rfl).1)) ?_)
 rintro _ ay ⟨ae,O,ag,rfl,h,ap,U,aq⟩;refine rt ?_
 have ar:=Ta A.size U;replace A:=A.pushR aq (ZB8 (ZFf.sl) ae [O] ag) ap (λb hb=>.inl (U b hb))
 refine Zd (v:=O) rfl (done (Z6 (Ze (ZCi ?_))))
 exact Zj rfl (Zg rfl) ⟨ae,O,ag,rfl,h,(A.Iw 0 rfl),(λb hb=>ar b hb),A.below⟩ (.inl rfl)
def H2 (I:Alg) (L:Int) (K:List (List Int)->Prop):Prop :=
 H1 I L (λA=>H0 I L (λO=>Z1 (λU (h:(List (List Int))) B=>Nh (A.getD U Ci) O (λV=>Nj h V (λaa=>B aa))) (λ(h:(List (List Int)))=>K h) A.length 0 []))
theorem Zqh (a0:Alg) (L:Int)  {K:List (List Int)->Prop} (h:H2 a0 L K) (w0:World) (q0:TAlg.rep a0 [Ia,Ic] Ib w0) :
  Calls ZCc 91 #[.agg #[Ia,Ic],vI L] w0 λe w'=>∃ (r0:List (List Int)) (Ih:Value) (bo:List Nat),
   e=.returned (Ih)/\K r0/\(ZFf.sl).rep r0 [Ih] bo w'/\(∀ b,b∈bo->w0.heap.size<=b)/\Bel w0 w':=by
 unfold H2 at h
 refine cof Tryz.func91 rfl 31 Tryz.ntmps91 ?_
 have A:=ZCu (X:=Nox) w0 [ZB8 TAlg a0 [Ia,Ic] Ib] (al1 q0);replace A:=A.dAlg 0 rfl;refine sr (Yg (v:=.agg #[Ia,Ic]) A [Ia,Ic] rfl rfl λb4 w6 O A=>Zd (v:=.slice none 0 0) rfl (dn (ZB9 ?_)))
 refine cwd 9 Ym [0,0,3,0,0,31,0,63,191,511] [0,3] [1,4,7,8] (λhM8 hM9 w7 O=>?_)
 replace A:=A.Iy O;refine bL 0 (.agg #[Ia,Ic]) rfl rfl hM8 (λ_ O=>by exact Y6 (A.Iy O) 0 [Ia,Ic] rfl ag32 rfl rfl rfl) (Zc 10 1) (bM 1 (vI L) rfl hM9 (Zc 10 3) (bL 3 (.agg #[Ia,Ic]) rfl rfl hM8 (λ_ O=>by exact Y6 (A.Iy O) 0 [Ia,Ic] rfl ag32 rfl rfl rfl) (Zc 10 11) (bM 4 (vI L) rfl hM9 (Zc 10 27) ?_)))
 refine U8 (λe_ w_=>∃ (ab:Nat),∃ (ah:List (List Int)),∃ (ad:Value),∃ (ar:List Nat),∃ (I:List (List Int)),∃ (ac:Value),∃ (ai:List Nat),Zt e_ [(5,ac),(6,ad),(7,.slice (some ⟨ab,0,none⟩) 0 0)]/\(∀ b,b∈ar->w0.heap.size<=b)/\(∀ b,b∈ai->w0.heap.size<=b)/\Ctx Nox w0 w_ [ZCn (ZJh 22 (ZJh 2 (eI.tr))) [] [.slice (some ⟨ab,0,none⟩) 0 0] ((ZDa (Fe (.slice (some ⟨ab,0,none⟩) 0 0)))++([]:List (List Nat)).flatten)] [ZB8 (ZFf.sl) ah [ad] ar,ZB8 (ZFf.sl) I [ac] ai,ZB8 ZCv.sl a0.images [Ic] Ib,ZB8 TInts a0.degrees [Ia] Ib,ZB8 TAlg a0 [Ia,Ic] Ib]/\(Z1 (λB (U:(List (List Int))) az=>Nh (I.getD B Ci) ah (λau=>Nj U au (λav=>az av))) (λ(U:(List (List Int)))=>K U) I.length 0 [])) ?_ ?_
 ·clear A h;rintro e_ da ⟨ab,ah,ad,ar,I,ac,ai,aj,b8,b9,A,h⟩;rw [ue aj];refine Ze (ZB9 (sr (Zd (v:=vI 0) rfl (dn (ZCf ?_)))))
  have ca:=J9 A 0 rfl;replace A:=A.thaw 0 rfl (ZB8 (ZFf.sl) [] [.slice (some ⟨ab,0,none⟩) 0 0] ((ZDa (Fe (.slice (some ⟨ab,0,none⟩) 0 0)))++([]:List (List Nat)).flatten)) (λh_=>ZJu _ h_.1) (λ_ V=>V)
  have cb:I.length<=9223372036854775807:=Yz (A.Iw 2 rfl);refine Yh (S:=(List (List Int))) _ _ (λB U e_ w_=>∃ (aa:Value),∃ (ak:List Nat),Zt e_ [(5,ac),(6,ad),(7,aa),(8,vI (B:Int))]/\(∀ b,b∈ak->w0.heap.size<=b)/\Ctx Nox w0 w_ [] [ZB8 (ZFf.sl) U [aa] ak,ZB8 (ZFf.sl) ah [ad] ar,ZB8 (ZFf.sl) I [ac] ai,ZB8 ZCv.sl a0.images [Ic] Ib,ZB8 TInts a0.degrees [Ia] Ib,ZB8 TAlg a0 [Ia,Ic] Ib]) I.length ?_ ?_ (s0:=[]) ?_ h
  ·clear A h;rintro B U e_ db az c8 ae ⟨aa,ak,aj,aq,A⟩ h cc;rw [ue aj];refine ZB9 (sr (Za (v:=vI (B:Int)) rfl (Za (v:=ac) rfl (Zu A 2 rfl ZKd rfl (Zl rfl rfl (dn (Z8 rfl (decide_eq_true (by omega)) (ZCd (Ze (ZB9 (ZCf (Zh (Za (v:=aa) rfl (Za (v:=ac) rfl (Za (v:=vI (B:Int)) rfl ?_)))))))))))))))
   obtain ⟨c9,dc,a2⟩:=Zx (A.Iw 2 rfl) B ae;refine Yn (len:=I.length) ZKd If.size (tr rfl a2) rfl (ZCq _) (ZC9.2 ae) ?_
   obtain ⟨dd,a3,ce,a4⟩:=Xb (A.Iw 2 rfl) a2 B ae;obtain ⟨a5,rfl⟩:=ZC7.1 a3;clear a3;rw [Y9 _ _ ae] at a4
   replace A:=A.I0 2 rfl (ZB8 TInts (I.getD B Ci) [a5] ai) (λ_=>a4) (λ_ V=>V)
   refine Ye (a5) ce If rfl (Za (v:=ad) rfl (Zf [a5,ad] _ Tryz.func127 rfl rfl rfl (Zgz (I.getD B Ci) ah h _ (A.Iw 0 rfl) (A.Iw 2 rfl)) ?_))
   rintro _ de ⟨au,bp,bq,rfl,h,cg,a6,ch⟩;refine rt ?_
   have ci:∀ b,b∈bq->w0.heap.size<=b:=(λb hb=>(a6 b hb).elim (λh_=>Cj A.size h_) (λhb=>(Ch.1 hb).elim (λhb=>b9 b hb) (λhb=>b8 b hb)))
   replace A:=A.pushR ch (ZB8 TInts au [bp] bq) cg (λb hb=>(a6 b hb).elim .inl (λhb=>.inr ((Ch.1 hb).elim (λhb=>⟨_,mg 0 rfl,hb⟩) (λhb=>⟨_,mg 2 rfl,hb⟩))))
   refine Zf [aa,bp] _ Tryz.func106 rfl rfl rfl (Zg1 U au h _ (A.Iw 2 rfl) (A.Iw 0 rfl)) ?_
   rintro _ dg ⟨av,a7,a8,rfl,h,cj,a9,ck⟩;refine rt ?_
   have cl:∀ b,b∈a8->w0.heap.size<=b:=(λb hb=>(a9 b hb).elim (λh_=>Cj A.size h_) (λhb=>(Ch.1 hb).elim (λhb=>aq b hb) (λhb=>ci b hb)))
   replace A:=A.pushR ck (ZB8 (ZFf.sl) av [a7] a8) cj (λb hb=>(a9 b hb).elim .inl (λhb=>.inr ((Ch.1 hb).elim (λhb=>⟨_,mg 2 rfl,hb⟩) (λhb=>⟨_,mg 0 rfl,hb⟩))))
   refine Zd (v:=a7) rfl (done (Zr (Ze (Zh (Za (v:=vI (B:Int)) rfl (Zm rfl rfl (Zd (v:=vI (Zwt.wrap ((B:Int)+1))) rfl (done ?_))))))))
   exact cc av _ _ ⟨a7,a8,(sl ⟨rfl,rfl,rfl,(tr rfl (I1 _ (Z2 ae cb))),trivial⟩),cl,(A.sP [0,4,5,6,7,8] rfl)⟩ h
  ·clear A h;rintro U e_ dh c8 ⟨aa,ak,aj,aq,A⟩ h;rw [ue aj];refine ZB9 (sr (Za (v:=vI (I.length:Int)) rfl (Za (v:=ac) rfl (Zu A 2 rfl ZKd rfl (Zl rfl rfl (dn (Z4 rfl (decide_eq_false (by omega)) ?_)))))))
   refine ZCo (Zi (Zi (Zy ?_)))
   refine Ze (sr (Za (v:=aa) rfl (Zd (v:=aa) rfl (dn (ZCi ?_)))))
   exact Zj rfl (Zg rfl) ⟨U,aa,ak,rfl,h,(A.Iw 0 rfl),(λb hb=>aq b hb),A.below⟩ (.inl rfl)
  ·skip;exact⟨.slice (some ⟨ab,0,none⟩) 0 0,((ZDa (Fe (.slice (some ⟨ab,0,none⟩) 0 0)))++([]:List (List Nat)).flatten),(slq rfl),ca,A⟩
 refine Jp 2 6 rfl rfl (by kernel_rfl) ?_ ?_
 ·skip;refine Zf [.agg #[Ia,Ic],vI L] _ ZQj rfl rfl rfl (Zg3 a0 L h _ (Yf (A.Iw 1 rfl) (A.Iw 0 rfl))) ?_
  rintro _ di ⟨ba,al,bb,rfl,h,cm,bc,cn⟩;refine rt ?_
  have bd:=Ta A.size bc;replace A:=A.pushR cn (ZB8 (ZFf.sl) ba [al] bb) cm (λb hb=>.inl (bc b hb))
  refine done (aK (by assumption) (Zc 10 31) ?_)
  refine Jp 5 6 rfl rfl (by kernel_rfl) ?_ ?_
  ·skip;refine Zf [.agg #[Ia,Ic],vI L] _ ZQd rfl rfl rfl (Zca a0 L h _ (Yf (A.Iw 2 rfl) (A.Iw 1 rfl))) ?_
   rintro _ dj ⟨br,be,bs,rfl,h,cp,bh,cq⟩;refine rt ?_
   have cr:=Ta A.size bh;replace A:=A.pushR cq (ZB8 (ZFf.sl) br [be] bs) cp (λb hb=>.inl (bh b hb))
   refine done (aK (by assumption) (Zc 10 63) (bA 7 (al) rfl hM9 (Zc 10 191) (bA 8 (be) rfl hM9 (Zc 10 447) (aO 6 rfl (Yd (sz:=1) A [] [] rfl (λ_=>Jl _) rfl (by decide) λaw dk O A=>?_)))))
   replace A:=A.pushM0 (Zz (ZJh 2 (eI.tr)) ([]:List (List Int)) [] []) (Xn _ _) rfl;replace A:=A.gather (c:=ZCn (ZJh 22 (ZJh 2 (eI.tr))) [] [.slice (some ⟨aw,0,none⟩) 0 0] ((ZDa (Fe (.slice (some ⟨aw,0,none⟩) 0 0)))++([]:List (List Nat)).flatten)) (λx_ am=>(Ch.1 am).symm) (λan ao ap=>Xj ao an (λb_ V ag=>ap b_ ag V))
   refine done (aK (by assumption) (Zc 10 511) (Z5 9 (by decide) (by decide) (by kernel_rfl) (by kernel_rfl) rfl (Zd (v:=.slice (some ⟨aw,0,none⟩) 0 0) rfl (done (Z6 ?_)))))
   exact⟨rfl,_,rfl,⟨aw,br,be,bs,ba,al,bb,(slq rfl),cr,bd,(A.xM [0] rfl),h⟩⟩
  ·skip;refine Yd (sz:=1) A [] [] rfl (λ_=>Jl _) rfl (by decide) λax dm O A=>?_
   replace A:=A.pushM0 (Zz (ZJh 2 (eI.tr)) ([]:List (List Int)) [] []) (Xn _ _) rfl;replace A:=A.gather (c:=ZCn (ZJh 22 (ZJh 2 (eI.tr))) [] [.slice (some ⟨ax,0,none⟩) 0 0] ((ZDa (Fe (.slice (some ⟨ax,0,none⟩) 0 0)))++([]:List (List Nat)).flatten)) (λx_ am=>(Ch.1 am).symm) (λan ao ap=>Xj ao an (λb_ V ag=>ap b_ ag V))
   refine done (aK (by assumption) (Zc 10 95) (aO 5 rfl (Zf [.agg #[Ia,Ic],vI L] _ ZQd rfl rfl rfl (Zca a0 L h _ (Yf (A.Iw 2 rfl) (A.Iw 1 rfl))) ?_)))
   rintro _ dp ⟨bt,bi,bu,rfl,h,cu,bj,cv⟩;refine rt ?_
   have cw:=Ta A.size bj;replace A:=A.pushR cv (ZB8 (ZFf.sl) bt [bi] bu) cu (λb hb=>.inl (bj b hb))
   refine done (aK (by assumption) (Zc 10 127) (bA 7 (al) rfl hM9 (Zc 10 255) (bA 8 (bi) rfl hM9 (Zc 10 511) (Z5 9 (by decide) (by decide) (by kernel_rfl) (by kernel_rfl) rfl (Zd (v:=.slice (some ⟨ax,0,none⟩) 0 0) rfl (done (Z6 ?_)))))))
   exact⟨rfl,_,rfl,⟨ax,bt,bi,bu,ba,al,bb,(slq rfl),cw,bd,(A.xM [0] rfl),h⟩⟩
 ·skip;refine Yd (sz:=1) A [] [] rfl (λ_=>Jl _) rfl (by decide) λay dq O A=>?_
  replace A:=A.pushM0 (Zz (ZJh 2 (eI.tr)) ([]:List (List Int)) [] []) (Xn _ _) rfl;replace A:=A.gather (c:=ZCn (ZJh 22 (ZJh 2 (eI.tr))) [] [.slice (some ⟨ay,0,none⟩) 0 0] ((ZDa (Fe (.slice (some ⟨ay,0,none⟩) 0 0)))++([]:List (List Nat)).flatten)) (λx_ am=>(Ch.1 am).symm) (λan ao ap=>Xj ao an (λb_ V ag=>ap b_ ag V))
  refine done (aK (by assumption) (Zc 10 91) (aO 2 rfl (Zf [.agg #[Ia,Ic],vI L] _ ZQj rfl rfl rfl (Zg3 a0 L h _ (Yf (A.Iw 1 rfl) (A.Iw 0 rfl))) ?_)))
  rintro _ dr ⟨bv,bk,bw,rfl,h,cx,bl,cy⟩;refine rt ?_
  have cz:=Ta A.size bl;replace A:=A.pushR cy (ZB8 (ZFf.sl) bv [bk] bw) cx (λb hb=>.inl (bl b hb))
  refine done (aK (by assumption) (Zc 10 95) (aO 5 rfl (Zf [.agg #[Ia,Ic],vI L] _ ZQd rfl rfl rfl (Zca a0 L h _ (Yf (A.Iw 2 rfl) (A.Iw 1 rfl))) ?_)))
  rintro _ dt ⟨bx,bm,bz,rfl,h,c0,bn,c6⟩;refine rt ?_
  have c7:=Ta A.size bn;replace A:=A.pushR c6 (ZB8 (ZFf.sl) bx [bm] bz) c0 (λb hb=>.inl (bn b hb))
  refine done (aK (by assumption) (Zc 10 127) (bA 7 (bk) rfl hM9 (Zc 10 255) (bA 8 (bm) rfl hM9 (Zc 10 511) (Z5 9 (by decide) (by decide) (by kernel_rfl) (by kernel_rfl) rfl (Zd (v:=.slice (some ⟨ay,0,none⟩) 0 0) rfl (done (Z6 ?_)))))))
  exact⟨rfl,_,rfl,⟨ay,bx,bm,bz,bv,bk,bw,(slq rfl),c7,cz,(A.xM [0] rfl),h⟩⟩
def H3 (L:Alg) (O:Int) (K:Int->Int->Prop):Prop :=
 Dl L O (λB=>(if B≠0 then K 0 B else H2 L O (λaa=>Xv (λ(h:Int) U=>M5 L h O (λI=>Z1 (λab (A:Int) V=>V (Zwt.wrap (A+(I.getD ab Ci)))) (λ(A:Int)=>(if A=(aa.length:Int) then K h 0 else U (Zwt.wrap (h+1)))) I.length 0 0)) 0)))
theorem Zqi (a0:Alg) (O:Int)  {K:Int->Int->Prop} (h:H3 a0 O K) (w0:World) (q0:TAlg.rep a0 [Ia,Ic] Ib w0) :
  Calls ZCc 35 #[.agg #[Ia,Ic],vI O] w0 λe w'=>∃ (r0:Int) (r1:Int),
   e=.returned (.tuple #[vI r0,vI r1])/\K r0 r1/\Bel w0 w':=by
 unfold H3 at h
 refine cof Tryz.func35 rfl 44 Tryz.ntmps35 ?_
 have A:=ZCu (X:=Nox) w0 [ZB8 TAlg a0 [Ia,Ic] Ib] (al1 q0);replace A:=A.dAlg 0 rfl;refine sr (Yg (v:=.agg #[Ia,Ic]) A [Ia,Ic] rfl rfl λb4 w6 a6 A=>Zd (v:=vI 0) rfl (Zd (v:=vI 0) rfl (dn (ZB9 (sr (Yr A 0 [Ia,Ic] rfl ag32 rfl rfl rfl (Za (v:=vI O) rfl (Zf [.agg #[Ia,Ic],vI O] _ Tryz.func90 rfl rfl rfl (Zqg a0 O h _ (Yf (A.Iw 1 rfl) (A.Iw 0 rfl))) ?_))))))))
 rintro _ w9 ⟨ab,rfl,h,aj⟩;refine rt ?_
 replace A:=A.Iy aj;refine Zd (v:=vI ab) rfl (dn (sr (Za (v:=vI ab) rfl (Xl rfl rfl (dn ?_)))))
 refine Zs rfl (λae=>?_) (λae=>?_)
 ·replace h:=ift h (ct ae);refine sr (Za (v:=vI ab) rfl (Zd (v:=vI 0) rfl (Zd (v:=vI ab) rfl (dn ?_))))
  refine ZCi (Zn ?_)
  exact Jw rfl (Zg rfl) (Zg rfl) ⟨0,ab,rfl,h,A.below⟩ (.inl rfl)
 ·replace h:=Zk h (cf ae);refine ZCd (Ze (sr (Yr A 0 [Ia,Ic] rfl ag32 rfl rfl rfl (Za (v:=vI O) rfl (Zf [.agg #[Ia,Ic],vI O] _ Tryz.func91 rfl rfl rfl (Zqh a0 O h _ (Yf (A.Iw 1 rfl) (A.Iw 0 rfl))) ?_)))))
  rintro _ a7 ⟨ac,aw,ax,rfl,h,ak,ah,al⟩;refine rt ?_
  have a2:=Ta A.size ah;replace A:=A.pushR al (ZB8 (ZFf.sl) ac [aw] ax) ak (λb hb=>.inl (ah b hb))
  refine Zu A 0 rfl ZKd rfl (Zd (v:=vI (ac.length:Int)) rfl (dn (sr (Zd (v:=vI 0) rfl (dn (ZCf ?_))))))
  refine Jb (S:=Int) _ (λB e_ w_=>Zt e_ [(1,vI O),(2,vQ b4),(7,vI (ac.length:Int)),(8,vI B)]/\Ctx Nox w0 w_ [blk b4 32 [Ia,Ic]] [ZB8 ZCv.sl a0.images [Ic] Ib,ZB8 TInts a0.degrees [Ia] Ib,ZB8 TAlg a0 [Ia,Ic] Ib]) ?_ (s0:=0) ?_ h
  ·clear A h;rintro B e_ a8 a3 a9 ⟨ad,A⟩ h am;rw [ue ad];refine ZB9 (ZCf (sr (Yr A 0 [Ia,Ic] rfl ag32 rfl rfl rfl (Za (v:=vI B) rfl (Za (v:=vI O) rfl (Zf [.agg #[Ia,Ic],vI B,vI O] _ Tryz.func65 rfl rfl rfl (Zqa a0 B O h _ (Yf (A.Iw 1 rfl) (A.Iw 0 rfl))) ?_))))))
   rintro _ ba ⟨I,U,ay,rfl,h,an,ao,ap⟩;refine rt ?_
   replace A:=A.push ap (ZCn (ZJh 2 (eI.tr)) I [U] ay) an ao;obtain ⟨aq,ar⟩:=Yx (A.Ix 0 rfl).1;subst ar;replace A:=A.Iz (c:=own 2 1 U I.length (eI.encs I)) (λ_ h_=>h_) (λ_=>aq)
   refine Zd (v:=U) rfl (Zd (v:=vI 0) rfl (dn (ZB9 (sr (Zd (v:=vI 0) rfl (dn (ZCf ?_)))))))
   have au:I.length<=9223372036854775807:=Uv (A.Ix 0 rfl);refine Yh (S:=Int) _ _ (λL V e_ w_=>Zt e_ [(1,vI O),(2,vQ b4),(7,vI (ac.length:Int)),(8,vI B),(9,U),(10,vI V),(11,vI (L:Int))]/\Ctx Nox w0 w_ [own 2 1 U I.length (eI.encs I),blk b4 32 [Ia,Ic]] [ZB8 ZCv.sl a0.images [Ic] Ib,ZB8 TInts a0.degrees [Ia] Ib,ZB8 TAlg a0 [Ia,Ic] Ib]) I.length ?_ ?_ (s0:=0) ?_ h
   ·clear A h;rintro L V e_ bb a4 az aa ⟨ad,A⟩ h av;rw [ue ad];refine ZB9 (sr (Za (v:=vI (L:Int)) rfl (Za (v:=U) rfl (J3 A 0 rfl ZCs rfl (Zl rfl rfl (dn (Z8 rfl (decide_eq_true (by omega)) (ZCd (Ze (ZB9 (ZCf (Zh (Za (v:=vI V) rfl (Za (v:=U) rfl (Za (v:=vI (L:Int)) rfl ?_)))))))))))))))
    obtain ⟨a5,bc,ai⟩:=Xx (A.Ix 0 rfl) (ZFu (Fq _) aa);refine X4 (L * 1) ZCs sc2.size (tr rfl ai) rfl (ZCq _) (ZC9.2 aa) rfl (Ye (vI (I.getD L Ci)) (J7 (A.Ix 0 rfl) ai L aa) sc2 rfl (Zm rfl rfl (Zd (v:=vI (Zwt.wrap (V+(I.getD L Ci)))) rfl (done (Zr (Ze (Zh (Za (v:=vI (L:Int)) rfl (Zm rfl rfl (Zd (v:=vI (Zwt.wrap ((L:Int)+1))) rfl (done ?_)))))))))))
    exact av (Zwt.wrap (V+(I.getD L Ci))) _ _ ⟨(sl ⟨rfl,rfl,rfl,rfl,rfl,rfl,(tr rfl (I1 _ (Z2 aa au))),trivial⟩),A⟩ h
   ·clear A h;rintro V e_ bd az ⟨ad,A⟩ h;rw [ue ad];refine ZB9 (sr (Za (v:=vI (I.length:Int)) rfl (Za (v:=U) rfl (J3 A 0 rfl ZCs rfl (Zl rfl rfl (dn (Z4 rfl (decide_eq_false (by omega)) ?_)))))))
    refine ZCo (Zi (Zi (Zy ?_)))
    refine Ze (sr (Za (v:=vI V) rfl (Za (v:=vI (ac.length:Int)) rfl (X6 rfl rfl (dn ?_)))))
    refine Zs rfl (λag=>?_) (λag=>?_)
    ·replace h:=ift h (ct ag);refine sr (Za (v:=vI B) rfl (Zd (v:=vI B) rfl (Zd (v:=vI 0) rfl (dn ?_))))
     refine ZCi (Z9 (Zn (Zn (Z9 ?_))))
     exact Jw rfl (Zg rfl) (Zg rfl) ⟨B,0,rfl,h,A.below⟩ (.inl rfl)
    ·replace h:=Zk h (cf ag);refine ZCd (Zr (Ze (Zh (Za (v:=vI B) rfl (Zm rfl rfl (Zd (v:=vI (Zwt.wrap (B+1))) rfl (done ?_)))))))
     exact am (Zwt.wrap (B+1)) _ _ ⟨(slq rfl),(A.xM [1] rfl)⟩ h
   ·skip;exact⟨(slq rfl),A⟩
  ·skip;exact⟨(slq rfl),(A.sP [1,2,3] rfl)⟩
def Dm (h:List (List Int)) (A:(List Int)->(Bool->Prop)->Prop) (K:Bool->Prop):Prop :=
 Nf h A (λB=>K (decide (B≥0)))
theorem Zqj (a0:List (List Int)) (p1:(List Int)->(Bool->Prop)->Prop)  {K:Bool->Prop} (h:Dm a0 p1 K) (w0:World) (q0:(ZFf.sl).rep a0 [Ia] Ib w0) {g1:Nat} {cp1:List Value} {fn1:Func} (hf1:ZCc.funcs[g1]? = some fn1) (hb1:fn1.body.isNone=false) (hn1:(fn1.name == "runtime.NumGoroutine")=false) (hp1:∀ (y0:List Int) (yu0_0:Value) (yf0:List Nat) (K_:Bool->Prop) (w_:World),Bel w0 w_->ZFf.rep y0 [yu0_0] yf0 w_->p1 y0 K_->Calls ZCc g1 (ZB7 ([yu0_0]++cp1)) w_ λe w'=>∃ (z0:Bool),e=.returned (.bool z0)/\K_ z0/\Bel w_ w') :
  Calls ZCc 178 #[Ia,.func (.func g1) #[] (ZB7 cp1)] w0 λe w'=>∃ (r0:Bool),
   e=.returned (.bool r0)/\K r0/\Bel w0 w':=by
 unfold Dm at h
 refine cof Tryz.func178 rfl 9 Tryz.ntmps178 ?_
 have hC:=ZCu (X:=Nox) w0 [ZB8 (ZFf.sl) a0 [Ia] Ib] (al1 q0);refine sr (Zd (v:=.bool false) rfl (dn (sr (Za (v:=Ia) rfl (Za (v:=.func (.func g1) #[] (ZB7 cp1)) rfl (Zf [Ia,.func (.func g1) #[] (ZB7 cp1)] _ Tryz.func141 rfl rfl rfl (Zgw a0 p1 h _ (hC.Iw 0 rfl) hf1 hb1 hn1 (λx0_ x1_ x2_ K_ w_ hb_=>hp1 x0_ x1_ x2_ K_ w_ (Zam hC.below hb_))) ?_))))))
 rintro _ w4 ⟨r5,rfl,h,hB6⟩;refine rt ?_
 replace hC:=hC.Iy hB6;refine Wp rfl rfl (Zd (v:=.bool (decide (r5≥0))) rfl (dn (ZCi ?_)))
 exact Zj rfl (Zg rfl) ⟨decide (r5≥0),rfl,h,hC.below⟩ (.inl rfl)
def Dn (h:Int) (K:A8->Prop):Prop :=
 ((0<=h/\h < 8)/\K (ZCe.set h.toNat 1))
theorem Zqk (B:Int)  {K:A8->Prop} (h:Dn B K) (w0:World)  :
  Calls ZCc 202 #[vI B] w0 λe w'=>∃ (I:A8),
   e=.returned (.agg (ZB7 (ZB6 .i64 I)))/\K I/\Bel w0 w':=by
 unfold Dn at h
 refine cof Tryz.func202 rfl 8 Tryz.ntmps202 ?_
 have A:=ZCu (X:=Nox) w0 [] (by simp)
 refine sr (Yt A (ZB6 .i64 ZCe) z73 rfl λb1 w3 L A=>dn (sr (Wk [] rfl (Kd   _) (Yt A (ZB6 .i64 ZCe) z73 rfl λb4 V L A=>Z7 (v:=.agg (ZB7 (ZB6 .i64 ZCe))) A 0 (ZB6 .i64 ZCe) (ZB6 .i64 ZCe) rfl ag73.size rfl rfl rfl rfl rfl (ZCh rfl) rfl λw7 A=>dn (sr (Za (v:=vI B) rfl ?_))))))
 obtain ⟨⟨h0_8,h1_9⟩,h⟩:=h;refine X0 B.toNat Tryz.underlying73 sc3.size rfl rfl h0_8 h1_9 (by omega) (Z7 (v:=vI 1) A 0 [vI 1] (ZB6 .i64 (ZCe.set B.toNat 1)) rfl sc3.size rfl rfl rfl rfl rfl (show B.toNat < 8 by omega) (A8.enc_set _ _ _ (show B.toNat < 8 by omega)) λO A=>dn (sr (Yr A 0 (ZB6 .i64 (ZCe.set B.toNat 1)) rfl ag73 rfl rfl rfl (Z7 (v:=.agg (ZB7 (ZB6 .i64 (ZCe.set B.toNat 1)))) A 1 (ZB6 .i64 (ZCe.set B.toNat 1)) (ZB6 .i64 (ZCe.set B.toNat 1)) rfl ag73.size rfl rfl rfl rfl rfl (ZCh rfl) rfl λU A=>dn (ZCi ?_)))))
 exact Zj rfl (Wq A 1 rfl ag73 rfl rfl) ⟨ZCe.set B.toNat 1,rfl,h,A.below⟩ (.inl rfl)
def H4 (U:List Int) (O:Vc.Form) (K:List Int->Prop):Prop :=
 Qw O (λB=>Z1 (λI (h:(List Int)) A=>Dn (I:Int) (λL=>(Zw (h.length+1) 8/\A (h++[(Xa B L).getD 0])))) (λ(h:(List Int))=>K h) U.length 0 [])
theorem Zql (a0:List Int) (a1:Vc.Form)  {K:List Int->Prop} (h:H4 a0 a1 K) (w0:World) (q0:ZFf.rep a0 [Ia] Ib w0) (q1:ZCv.rep a1 [Ie] Ig w0) :
  Calls ZCc 197 #[Ia,.agg #[Ie]] w0 λe w'=>∃ (r0:List Int) (Ih:Value) (ac:List Nat),
   e=.returned (Ih)/\K r0/\(ZCn (ZJh 2 (eI.tr)) r0 [Ih] ac).holds w'/\(∀ b,b∈ac->w0.heap.size<=b)/\Bel w0 w':=by
 unfold H4 at h
 refine cof Tryz.func197 rfl 25 Tryz.ntmps197 ?_
 have A:=ZCu (X:=Nox) w0 [ZB8 TInts a0 [Ia] Ib,ZB8 TForm a1 [Ie] Ig] (alc q0 (al1 q1));have ap:=(A.Iw 1 rfl);replace A:=A.I0 1 rfl (ZB8 ETerm.ty.sl a1.terms [Ie] Ig) (λ_=>(Xq ap)) (λ_ aa=>aa)
 refine sr (Yg (v:=.agg #[Ie]) A [Ie] rfl rfl λb5 w7 ad A=>Zd (v:=.slice none 0 0) rfl (dn (sr (Yr A 0 [Ie] rfl ag55 rfl rfl rfl (Zf [.agg #[Ie]] _ Tryz.func78 rfl rfl rfl (Za9 a1 h _ (Y1 (A.Iw 0 rfl))) ?_)))))
 rintro _ au ⟨I,V,rfl,h,ah,ai,aj⟩;refine rt ?_
 replace A:=A.push aj (mapS V I) ah (λb_ aa=>by obtain rfl:=Fc.1 aa; exact ai)
 refine Yd (sz:=1) A [] (eI.encs []) rfl (λ_=>U1  _) rfl (by decide) λae av ad A=>Zd (v:=.map (some V)) rfl (Zd (v:=.slice (some ⟨ae,0,none⟩) 0 0) rfl (dn (ZB9 (sr (Za (v:=Ia) rfl (Zu A 1 rfl ZCs rfl (Za (v:=vI 0) rfl (dn (ZCf ?_)))))))))
 have ak:a0.length<=9223372036854775807:=Yz (A.Iw 1 rfl);refine Yh (S:=(List Int)) _ _ (λL O e_ w_=>∃ (B:Value),Zt e_ [(5,.map (some V)),(6,B),(12,vI (a0.length:Int)),(13,vI (L:Int))]/\Ctx Nox w0 w_ [own 2 1 B O.length (eI.encs O),mapS V I] [ZB8 ETerm.ty.sl a1.terms [Ie] Ig,ZB8 TInts a0 [Ia] Ib,ZB8 TForm a1 [Ie] Ig]) a0.length ?_ ?_ (s0:=[]) ?_ h
 ·clear A h;rintro L O e_ aw ar aq al ⟨B,ab,A⟩ h am;rw [ue ab];refine sr (Zl rfl rfl (dn (ZB9 (Z8 rfl (decide_eq_true (by omega)) (ZCd (Ze (ZB9 (ZCf (sr (Za (v:=vI (L:Int)) rfl (Zd (v:=vI (L:Int)) rfl (dn (Zh (Za (v:=B) rfl (Za (v:=.map (some V)) rfl (Za (v:=vI (L:Int)) rfl (Zf [vI (L:Int)] _ Tryz.func202 rfl rfl rfl (Zqk (L:Int) h _) ?_)))))))))))))))))
  rintro _ ax ⟨U,rfl,h,an⟩;refine rt ?_
  replace A:=A.Iy an;refine Ze3 U 0 (A.Ix 1 rfl) J4 Tryz.underlying115 z2 rfl rfl (Yd (sz:=1) A [(0,vI ((Xa I U).getD 0))] (eI.encs [(Xa I U).getD 0]) rfl (λ_=>M4 ((Xa I U).getD 0) _) rfl (by decide) λay az ad A=>?_)
  obtain ⟨ao,h⟩:=h;refine Jg A 1 ZCs el2 rfl (by decide) (by decide) rfl (Wl (A.Ix 0 rfl)) (λq hq=>ZDf (E:=eI) _ q hq) rfl rfl ao λag a2 A=>?_
  replace A:=Y7 A 1 ((O++[(Xa I U).getD 0]).length) (eI.encs (O++[(Xa I U).getD 0])) rfl (by simp) (by first | (simp [ZC1]; done) | simp [ZC1,Enc.encs])
  refine Zd (v:=ag) rfl (done (Zr (Ze (Zh (Zm rfl rfl (Za (v:=vI (Zwt.wrap ((L:Int)+1))) rfl (done ?_)))))))
  exact am (O++[(Xa I U).getD 0]) _ _ ⟨ag,(sl ⟨rfl,rfl,rfl,(tr rfl (I1 _ (Z2 al ak))),trivial⟩),(A.xM [1,2] rfl)⟩ h
 ·clear A h;rintro O e_ a3 aq ⟨B,ab,A⟩ h;rw [ue ab];refine sr (Zl rfl rfl (dn (ZB9 (Z4 rfl (decide_eq_false (by omega)) ?_))))
  refine ZCo (Zi (Zi (Zy ?_)))
  refine Ze (sr (Za (v:=B) rfl (Zd (v:=B) rfl (dn (ZCi ?_)))))
  exact Zj rfl (Zg rfl) ⟨O,B,(ZDa (Fe B)),rfl,h,(Xi (A.Ix 0 rfl)),(Xg A 0 rfl),A.below⟩ (.inl rfl)
 ·skip;exact⟨.slice (some ⟨ae,0,none⟩) 0 0,(slq rfl),(A.xM [0,1] rfl)⟩
def Do (L:Alg) (K:List (List Int)->Prop):Prop :=
 Z1 (λB (h:(List (List Int))) A=>H4 L.degrees (L.images.getD B Ci) (λI=>(Zw (h.length+1) 24/\A (h++[I])))) (λ(h:(List (List Int)))=>K h) L.images.length 0 []
theorem Zqm (a0:Alg)  {K:List (List Int)->Prop} (h:Do a0 K) (w0:World) (q0:TAlg.rep a0 [Ia,Ic] Ib w0) (a7:(blk b0 32 [Ia,Ic]).holds w0) :
  Calls ZCc 179 #[vQ b0] w0 λe w'=>∃ (r0:List (List Int)) (Ih:Value) (ar:List Nat),
   e=.returned (Ih)/\K r0/\(ZCn (ZJh 22 (ZJh 2 (eI.tr))) r0 [Ih] ar).holds w'/\(∀ b,b∈ar->w0.heap.size<=b)/\Bel w0 w':=by
 unfold Do at h
 refine cof Tryz.func179 rfl 27 Tryz.ntmps179 ?_
 have A:=ZCu (X:=Nox) w0 [ZB8 TAlg a0 [Ia,Ic] Ib,blk b0 32 [Ia,Ic]] (alc q0 (al1 a7));replace A:=A.dAlg 0 rfl;refine sr (Zd (v:=.slice none 0 0) rfl (dn (sr (Yd (sz:=1) A [] [] rfl (λ_=>Jl _) rfl (by decide) λb5 w6 U A=>?_))))
 replace A:=A.pushM0 (Zz (ZJh 2 (eI.tr)) ([]:List (List Int)) [] []) (Xn _ _) rfl;replace A:=A.gather (c:=ZCn (ZJh 22 (ZJh 2 (eI.tr))) [] [.slice (some ⟨b5,0,none⟩) 0 0] ((ZDa (Fe (.slice (some ⟨b5,0,none⟩) 0 0)))++([]:List (List Nat)).flatten)) (λx_ ag=>(Ch.1 ag).symm) (λah ai aj=>Xj ai ah (λb_ ak av=>aj b_ av ak))
 refine Zd (v:=.slice (some ⟨b5,0,none⟩) 0 0) rfl (dn (ZB9 (sr (Za (v:=vQ b0) rfl (Xd rfl (Z0 1 ZCt rfl Il.size rfl rfl (U9 (Ic) (A.Iw 3 rfl) Il rfl rfl (Zu A 0 rfl Tryz.underlying30 rfl (Za (v:=vI 0) rfl (dn (ZCf ?_)))))))))))
 have aw:a0.images.length<=9223372036854775807:=Yz (A.Iw 0 rfl);refine Yh (S:=(List (List Int))) _ _ (λaa V e_ w_=>∃ (I:Value),∃ (ab:List Nat),Zt e_ [(0,vQ b0),(3,I),(10,Ic),(11,vI (a0.images.length:Int)),(12,vI (aa:Int))]/\Ctx Nox w0 w_ [ZCn (ZJh 22 (ZJh 2 (eI.tr))) V [I] ab] [ZB8 ZCv.sl a0.images [Ic] Ib,ZB8 TInts a0.degrees [Ia] Ib,ZB8 TAlg a0 [Ia,Ic] Ib,blk b0 32 [Ia,Ic]]) a0.images.length ?_ ?_ (s0:=[]) ?_ h
 ·clear A h;rintro aa V e_ bd bb a8 ac ⟨I,ab,al,A⟩ h ax;rw [ue al];refine sr (Zl rfl rfl (dn (ZB9 (Z8 rfl (decide_eq_true (by omega)) (ZCd (Ze (ZB9 (ZCf (sr ?_)))))))))
  obtain ⟨bc,be,am⟩:=Zx (A.Iw 0 rfl) aa ac;refine Yn (len:=a0.images.length) Tryz.underlying30 ag55.size (tr rfl am) rfl (ZCq _) (ZC9.2 ac) ?_
  obtain ⟨bh,an,ay,ao⟩:=Xb (A.Iw 0 rfl) am aa ac;obtain ⟨L,rfl⟩:=ZC7.1 an;clear an;rw [Y9 _ _ ac] at ao
  have az:=ao;replace A:=A.I0 0 rfl (ZB8 ETerm.ty.sl ((a0.images.getD aa Ci).terms) [L] Ib) (λ_=>(Xq az)) (λ_ ak=>ak)
  refine Ji [L] ay ag55 rfl rfl (Yt A [.slice none 0 0] z55 rfl λap bi U A=>Z7 (v:=.agg #[L]) A 0 [L] [L] rfl ag55.size rfl rfl rfl rfl (Xy (Sn (A.Iw 0 rfl)) rfl) (ZCh rfl) rfl λbj A=>dn ?_)
  refine cwd 8 Ym [0,0,2,6,14,0,62,126,255,511] [4,5] [0,1,2,3] (λaq ae bk U=>?_)
  replace A:=A.Iy U;refine bM 0 (I) rfl ae (Zc 10 1) (bM 1 (vQ b0) rfl ae (Zc 10 3) (bF 2 (vQ b0) rfl rfl ae (λ_=>by exact Wu rfl) (Zc 10 7) (bF 3 (vQ b0) rfl rfl ae (λ_=>by exact Yq 0 ZCt rfl If.size rfl rfl) (Zc 10 15) (bL 4 (Ia) rfl rfl aq (λ_ U=>by exact Tx (Ia) ((A.Iy U).Iw 4 rfl) If rfl rfl) (Zc 10 31) (bL 5 (.agg #[L]) rfl rfl aq (λ_ U=>by exact Y6 (A.Iy U) 0 [L] rfl ag55 rfl rfl rfl) (Zc 10 63) (aO 6 rfl (Zf [Ia,.agg #[L]] _ Tryz.func197 rfl rfl rfl (Zql a0.degrees (a0.images.getD aa Ci) h _ (A.Iw 2 rfl) (Y1 (A.Iw 0 rfl))) ?_)))))))
  rintro _ bl ⟨O,B,a9,rfl,h,a1,a2,a3⟩;refine rt ?_
  replace A:=A.push a3 (ZCn (ZJh 2 (eI.tr)) O [B] a9) a1 a2;obtain ⟨a4,a5⟩:=Yx (A.Ix 0 rfl).1;subst a5;replace A:=A.Iz (c:=own 2 1 B O.length (eI.encs O)) (λ_ h_=>h_) (λ_=>a4)
  refine done (aK (by assumption) (Zc 10 127) (aO 7 rfl (Yd (sz:=1) A [(0,B)] [B] rfl (λ_=>Wc B (Va (A.Ix 0 rfl)) _) rfl (by decide) λad bm U A=>?_)))
  replace A:=A.pushM0 (Zz (ZJh 2 (eI.tr)) [] [] []) (Xn _ _) rfl;replace A:=A.sM [2,0,1,3,4] (M':=[own 2 1 B O.length (eI.encs O),Zz (ZJh 2 (eI.tr)) [] [] [],own 22 1 (.slice (some ⟨ad,0,none⟩) 1 1) 1 [B],blk ap 55 [L],ZCn (ZJh 22 (ZJh 2 (eI.tr))) V [I] ab]) (by decide) rfl
  replace A:=A.gather (c:=Zz (ZJh 2 (eI.tr)) [O] [B] [(ZDa (Fe B))]) (λx_ ag=>Vf ag) (λah ai aj=>W9 (c:=[B]) (id (Xi ah)) ai aj)
  replace A:=A.sM [1,0,2,3] (M':=[own 22 1 (.slice (some ⟨ad,0,none⟩) 1 1) 1 [B],Zz (ZJh 2 (eI.tr)) [O] [B] [(ZDa (Fe B))],blk ap 55 [L],ZCn (ZJh 22 (ZJh 2 (eI.tr))) V [I] ab]) (by decide) rfl
  replace A:=A.gather (c:=ZCn (ZJh 22 (ZJh 2 (eI.tr))) [O] [.slice (some ⟨ad,0,none⟩) 1 1] ((ZDa (Fe (.slice (some ⟨ad,0,none⟩) 1 1)))++([(ZDa (Fe B))]:List (List Nat)).flatten)) (λx_ ag=>Ch.1 ag) (λah ai aj=>Xj ah ai aj)
  refine done (aK (by assumption) (Zc 10 255) (Z5 8 (by decide) (by decide) (by kernel_rfl) (by kernel_rfl) rfl ?_))
  replace A:=A.sM [2,0,1] (M':=[ZCn (ZJh 22 (ZJh 2 (eI.tr))) V [I] ab,ZCn (ZJh 22 (ZJh 2 (eI.tr))) [O] [.slice (some ⟨ad,0,none⟩) 1 1] ((ZDa (Fe (.slice (some ⟨ad,0,none⟩) 1 1)))++([(ZDa (Fe B))]:List (List Nat)).flatten),blk ap 55 [L]]) (by decide) rfl
  obtain ⟨a6,h⟩:=h;refine W1 A ZKd J0 rfl (by decide) (by decide) rfl rfl a6 λau ba bn A=>Zd (v:=au) rfl (done (Z6 (Zr (Ze (Zh (Zm rfl rfl (Za (v:=vI (Zwt.wrap ((aa:Int)+1))) rfl (done ?_))))))))
  exact ax (V++[O]) _ _ ⟨au,ba,(sl ⟨rfl,rfl,rfl,rfl,(tr rfl (I1 _ (Z2 ac aw))),trivial⟩),((A.xM [0] rfl).sP [1,2,3,4] rfl)⟩ h
 ·clear A h;rintro V e_ bo a8 ⟨I,ab,al,A⟩ h;rw [ue al];refine sr (Zl rfl rfl (dn (ZB9 (Z4 rfl (decide_eq_false (by omega)) ?_))))
  refine ZCo (Zi (Zi (Zy ?_)))
  refine Ze (sr (Za (v:=I) rfl (Zd (v:=I) rfl (dn (ZCi ?_)))))
  exact Zj rfl (Zg rfl) ⟨V,I,ab,rfl,h,(A.Ix 0 rfl),(J9 A 0 rfl),A.below⟩ (.inl rfl)
 ·skip;exact⟨.slice (some ⟨b5,0,none⟩) 0 0,((ZDa (Fe (.slice (some ⟨b5,0,none⟩) 0 0)))++([]:List (List Nat)).flatten),(slq rfl),A⟩
def M7 (h:Int) (K:Bool->Prop):Prop :=
 K (decide (h≠0))
theorem Zqn (A:Int)  {K:Bool->Prop} (h:M7 A K) (w0:World)  :
  Calls ZCc 182 #[vI A] w0 λe w'=>∃ (B:Bool),
   e=.returned (.bool B)/\K B/\Bel w0 w':=by
 unfold M7 at h
 refine cof Tryz.func182 rfl 5 Tryz.ntmps182 ?_
 have I:=ZCu (X:=Nox) w0 [] (by simp)
 refine sr (Zd (v:=.bool false) rfl (dn (sr (Za (v:=vI A) rfl (Xl rfl rfl (Zd (v:=.bool (decide (A≠0))) rfl (dn (ZCi ?_))))))))
 exact Zj rfl (Zg rfl) ⟨decide (A≠0),rfl,h,I.below⟩ (.inl rfl)
def M8 (h:List Int) (K:Bool->Prop):Prop :=
 Mn h M7 (λA=>K A)
theorem Zqo (A:List Int)  {K:Bool->Prop} (h:M8 A K) (w0:World) (V:ZFf.rep A [Ia] Ib w0) :
  Calls ZCc 180 #[Ia] w0 λe w'=>∃ (I:Bool),
   e=.returned (.bool I)/\K I/\Bel w0 w':=by
 unfold M8 at h
 refine cof Tryz.func180 rfl 5 Tryz.ntmps180 ?_
 have B:=ZCu (X:=Nox) w0 [ZB8 TInts A [Ia] Ib] (al1 V);refine sr (Zd (v:=.bool false) rfl (dn (sr (Za (v:=Ia) rfl (Zf [Ia,.func (.func 182) #[] (ZB7 [])] _ Tryz.func181 rfl rfl rfl (Zfn A M7 h _ (B.Iw 0 rfl) Tryz.func182 rfl rfl (λL K_ w_ _ O=>Zqn L O w_)) ?_)))))
 rintro _ w4 ⟨U,rfl,h,hB6⟩;refine rt ?_
 replace B:=B.Iy hB6;refine Zd (v:=.bool U) rfl (dn (ZCi ?_))
 exact Zj rfl (Zg rfl) ⟨U,rfl,h,B.below⟩ (.inl rfl)
def H5 (B:Alg) (K:Bool->Prop):Prop :=
 Do B (λI=>Dm I (λh K_=>M8 h K_) (λA=>K (!A)))
theorem Zqp (I:Alg)  {K:Bool->Prop} (h:H5 I K) (w0:World) (q0:TAlg.rep I [Ia,Ic] Ib w0) (ac:(blk b0 32 [Ia,Ic]).holds w0) :
  Calls ZCc 131 #[vQ b0] w0 λe w'=>∃ (r0:Bool),
   e=.returned (.bool r0)/\K r0/\Bel w0 w':=by
 unfold H5 at h
 refine cof Tryz.func131 rfl 7 Tryz.ntmps131 ?_
 have A:=ZCu (X:=Nox) w0 [ZB8 TAlg I [Ia,Ic] Ib,blk b0 32 [Ia,Ic]] (alc q0 (al1 ac));replace A:=A.dAlg 0 rfl;refine sr (Zd (v:=.bool false) rfl (dn (sr (Za (v:=vQ b0) rfl (Zf [vQ b0] _ Tryz.func179 rfl rfl rfl (Zqm I h _ (Yf (A.Iw 1 rfl) (A.Iw 0 rfl)) (A.Iw 3 rfl)) ?_)))))
 rintro _ w7 ⟨r8,u9,ad,rfl,h,O,U,V⟩;refine rt ?_
 replace A:=A.push V (ZCn (ZJh 22 (ZJh 2 (eI.tr))) r8 [u9] ad) O U;refine Zf [u9,.func (.func 180) #[] (ZB7 [])] _ Tryz.func178 rfl rfl rfl (Zqj r8 (λB K_=>M8 B K_) h _ (ZJu _ (A.Ix 0 rfl).1) Tryz.func180 rfl rfl (λB yu0_0_ ag K_ w_ ah aa ae=>Zqo B ae w_ aa)) ?_
 rintro _ ai ⟨L,rfl,h,ab⟩;refine rt ?_
 replace A:=A.Iy ab;refine Xo rfl (Zd (v:=.bool (!L)) rfl (dn (ZCi ?_)))
 exact Zj rfl (Zg rfl) ⟨!L,rfl,h,A.below⟩ (.inl rfl)
def H6 (B:Alg) (h:Bool) (K:Int->Prop):Prop :=
 Hd B [] (λA=>(if A=0 then H5 B (λI=>(if¬ (I=true) then T4 (!h) 2 (λL=>Q5 [5,L] (λO=>K O)) else T4 (!h) 2 (λU=>Q5 [A,U] (λV=>K V)))) else T4 (!h) 2 (λaa=>Q5 [A,aa] (λab=>K ab))))
theorem Zqq (a0:Alg) (L:Bool)  {K:Int->Prop} (h:H6 a0 L K) (w0:World) (q0:TAlg.rep a0 [Ia,Ic] Ib w0) (an:(blk b0 32 [Ia,Ic]).holds w0) :
  Calls ZCc 75 #[vQ b0,.bool L] w0 λe w'=>∃ (r0:Int),
   e=.returned (vI r0)/\K r0/\Bel w0 w':=by
 unfold H6 at h
 refine cof Tryz.func75 rfl 21 Tryz.ntmps75 ?_
 have A:=ZCu (X:=Nox) w0 [ZB8 TAlg a0 [Ia,Ic] Ib,blk b0 32 [Ia,Ic]] (alc q0 (al1 an));replace A:=A.dAlg 0 rfl;refine sr (Zd (v:=vI 0) rfl (dn (sr (Za (v:=vQ b0) rfl (Zf [vQ b0,.slice none 0 0] _ Tryz.func44 rfl rfl rfl (Znu a0 [] h _ (Yf (A.Iw 1 rfl) (A.Iw 0 rfl)) (A.Iw 3 rfl) (Zac _ _)) ?_)))))
 rintro _ w7 ⟨I,rfl,h,hB9⟩;refine rt ?_
 replace A:=A.Iy hB9;refine Zd (v:=vI I) rfl (dn (ZB9 (sr (Za (v:=vI I) rfl (X6 rfl rfl (Za (v:=.bool (decide (I=0))) rfl ?_))))))
 refine Xm (decide (I=0)) (λB=>?_) (λB=>?_)
 ·replace h:=ift h (ct B);refine Zq 2 10 rfl rfl B (Za (v:=vQ b0) rfl (Zq 2 10 rfl rfl B (Zf [vQ b0] _ Tryz.func131 rfl rfl rfl (Zqp a0 h _ (Yf (A.Iw 1 rfl) (A.Iw 0 rfl)) (A.Iw 3 rfl)) ?_)))
  rintro _ au ⟨ao,rfl,h,ag⟩;refine rt ?_
  replace A:=A.Iy ag;refine Zq 2 10 rfl rfl B (Xo rfl (Ya (v:=.bool (!ao)) (b:=true) (tr rfl (I1 _ B)) rfl (dn ?_)))
  refine Zs rfl (λO=>?_) (λO=>?_)
  ·replace h:=ift h (Xe (X1 O));refine Zh (Zd (v:=vI 5) rfl (dn (sr (Za (v:=vI 5) rfl (Za (v:=.bool L) rfl (Xo rfl (Zf [.bool (!L),vI 2] _ Tryz.func45 rfl rfl rfl (K4 (!L) 2 h _) ?_)))))))
   rintro _ av ⟨U,rfl,h,ah⟩;refine rt ?_
   replace A:=A.Iy ah;refine Yd (sz:=1) A [(0,vI 5),(1,vI U)] (eI.encs [5,U]) rfl (λ_=>Zb7 5 U _) rfl (by decide) λap aw ab A=>Zf [.slice (some ⟨ap,0,none⟩) 2 2] _ Tryz.func43 rfl rfl rfl (Zbi [5,U] h _ (Yu (A.Ix 0 rfl))) ?_
   rintro _ ax ⟨ac,rfl,h,ai⟩;refine rt ?_
   replace A:=A.Iy ai;refine Zd (v:=vI ac) rfl (dn (ZCi ?_))
   exact Zj rfl (Zg rfl) ⟨ac,rfl,h,A.below⟩ (.inl rfl)
  ·replace h:=Zk h (not_not_intro ((X2 O)));refine ZCd (Ze (sr (Za (v:=vI I) rfl (Za (v:=.bool L) rfl (Xo rfl (Zf [.bool (!L),vI 2] _ Tryz.func45 rfl rfl rfl (K4 (!L) 2 h _) ?_))))))
   rintro _ ay ⟨V,rfl,h,aj⟩;refine rt ?_
   replace A:=A.Iy aj;refine Yd (sz:=1) A [(0,vI I),(1,vI V)] (eI.encs [I,V]) rfl (λ_=>Zb7 I V _) rfl (by decide) λaq az ab A=>Zf [.slice (some ⟨aq,0,none⟩) 2 2] _ Tryz.func43 rfl rfl rfl (Zbi [I,V] h _ (Yu (A.Ix 0 rfl))) ?_
   rintro _ a2 ⟨ad,rfl,h,ak⟩;refine rt ?_
   replace A:=A.Iy ak;refine Zd (v:=vI ad) rfl (dn (ZCi ?_))
   exact Zj rfl (Zg rfl) ⟨ad,rfl,h,A.below⟩ (.inl rfl)
 ·replace h:=Zk h (cf B);refine Zp (b:=false) 2 10 rfl (tr rfl (I1 _ B)) (by decide) (Zp (b:=false) 2 10 rfl (tr rfl (I1 _ B)) (by decide) (Zp (b:=false) 2 10 rfl (tr rfl (I1 _ B)) (by decide) (Ya (v:=.bool false) (b:=false) (tr rfl (I1 _ B)) rfl (dn (Z4 rfl rfl (ZCd (Ze (sr (Za (v:=vI I) rfl (Za (v:=.bool L) rfl (Xo rfl (Zf [.bool (!L),vI 2] _ Tryz.func45 rfl rfl rfl (K4 (!L) 2 h _) ?_))))))))))))
  rintro _ a3 ⟨aa,rfl,h,al⟩;refine rt ?_
  replace A:=A.Iy al;refine Yd (sz:=1) A [(0,vI I),(1,vI aa)] (eI.encs [I,aa]) rfl (λ_=>Zb7 I aa _) rfl (by decide) λar a4 ab A=>Zf [.slice (some ⟨ar,0,none⟩) 2 2] _ Tryz.func43 rfl rfl rfl (Zbi [I,aa] h _ (Yu (A.Ix 0 rfl))) ?_
  rintro _ a5 ⟨ae,rfl,h,am⟩;refine rt ?_
  replace A:=A.Iy am;refine Zd (v:=vI ae) rfl (dn (ZCi ?_))
  exact Zj rfl (Zg rfl) ⟨ae,rfl,h,A.below⟩ (.inl rfl)
def Dp (h:Int) (K:Bool->Prop):Prop :=
 Qy h 0 20 (λA=>K A)
theorem Zqr (A:Int)  {K:Bool->Prop} (h:Dp A K) (w0:World)  :
  Calls ZCc 112 #[vI A] w0 λe w'=>∃ (I:Bool),
   e=.returned (.bool I)/\K I/\Bel w0 w':=by
 unfold Dp at h
 refine cof Tryz.func112 rfl 5 Tryz.ntmps112 ?_
 have B:=ZCu (X:=Nox) w0 [] (by simp)
 refine sr (Zd (v:=.bool false) rfl (dn (sr (Za (v:=vI A) rfl (Zf [vI A,vI 0,vI 20] _ Tryz.func46 rfl rfl rfl (Zba A 0 20 h _) ?_)))))
 rintro _ w3 ⟨L,rfl,h,hB5⟩;refine rt ?_
 replace B:=B.Iy hB5;refine Zd (v:=.bool L) rfl (dn (ZCi ?_))
 exact Zj rfl (Zg rfl) ⟨L,rfl,h,B.below⟩ (.inl rfl)
def Nm (h:List (List Int)) (K:Int->Prop):Prop :=
 Uh h (λA=>K (A.length:Int))
theorem Zg4 (B:List (List Int))  {K:Int->Prop} (h:Nm B K) (w0:World) (V:(ZFf.sl).rep B [Ia] Ib w0) :
  Calls ZCc 57 #[Ia] w0 λe w'=>∃ (L:Int),
   e=.returned (vI L)/\K L/\Bel w0 w':=by
 unfold Nm at h
 refine cof Tryz.func57 rfl 6 Tryz.ntmps57 ?_
 have A:=ZCu (X:=Nox) w0 [ZB8 (ZFf.sl) B [Ia] Ib] (al1 V);refine sr (Zd (v:=vI 0) rfl (dn (sr (Za (v:=Ia) rfl (Zf [Ia] _ Tryz.func86 rfl rfl rfl (M2 B h _ (A.Iw 0 rfl)) ?_)))))
 rintro _ w4 ⟨r5,u6,f7,rfl,h,O,U,I⟩;refine rt ?_
 replace A:=A.push I (ZCn (ZJh 22 (ZJh 2 (eI.tr))) r5 [u6] f7) O U;refine Qs A 0 rfl ZKd rfl (Zd (v:=vI (r5.length:Int)) rfl (dn (ZCi ?_)))
 exact Zj rfl (Zg rfl) ⟨(r5.length:Int),rfl,h,A.below⟩ (.inl rfl)
def Nn (I:List Bool) (K:Int->Prop):Prop :=
 Z1 (λB (h:Int) A=>(if(I.getD B Ci)=true then A (Zwt.wrap (h+1)) else A h)) (λ(h:Int)=>K h) I.length 0 0
theorem Zg5 (a0:List Bool)  {K:Int->Prop} (h:Nn a0 K) (w0:World) (q0:EB.ty.sl.rep a0 [Ia] Ib w0) :
  Calls ZCc 116 #[Ia] w0 λe w'=>∃ (r0:Int),
   e=.returned (vI r0)/\K r0/\Bel w0 w':=by
 unfold Nn at h
 refine cof ZQn rfl 17 Tryz.ntmps116 ?_
 have I:=ZCu (X:=Nox) w0 [ZB8 EB.ty.sl a0 [Ia] Ib] (al1 q0);refine sr (Zd (v:=vI 0) rfl (dn (sr (Zd (v:=vI 0) rfl (dn (ZB9 (sr (Za (v:=Ia) rfl (Zu I 0 rfl ZP7 rfl (Za (v:=vI 0) rfl (dn (ZCf ?_))))))))))))
 have U:a0.length<=9223372036854775807:=Yz (I.Iw 0 rfl);refine Yh (S:=Int) _ _ (λB A e_ w_=>Zt e_ [(3,vI A),(6,Ia),(7,vI (a0.length:Int)),(8,vI (B:Int))]/\Ctx Nox w0 w_ [] [ZB8 EB.ty.sl a0 [Ia] Ib]) a0.length ?_ ?_ (s0:=0) ?_ h
 ·clear I h;rintro B A e_ ag ad ac L ⟨V,I⟩ h aa;rw [ue V];refine sr (Zl rfl rfl (dn (ZB9 (Z8 rfl (decide_eq_true (by omega)) (ZCd (Ze (ZB9 (ZCf (sr ?_)))))))))
  obtain ⟨ae,ah,ab⟩:=Zx (I.Iw 0 rfl) B L;refine Yn (len:=a0.length) ZP7 sc4.size (tr rfl ab) rfl (ZCq _) (ZC9.2 L) (Ye (.bool (a0.getD B Ci)) (Yi (I.Iw 0 rfl) ab B L) sc4 rfl (Zd (v:=.bool (a0.getD B Ci)) rfl (dn (sr (Za (v:=.bool (a0.getD B Ci)) rfl (dn ?_))))))
  refine Zs rfl (λO=>?_) (λO=>?_)
  ·replace h:=ift h (O);refine Zh (Za (v:=vI A) rfl (Zm rfl rfl (Zd (v:=vI (Zwt.wrap (A+1))) rfl (done (Zr (Ze (Zh (Zm rfl rfl (Za (v:=vI (Zwt.wrap ((B:Int)+1))) rfl (done ?_))))))))))
   exact aa (Zwt.wrap (A+1)) _ _ ⟨(sl ⟨rfl,rfl,rfl,(tr rfl (I1 _ (Z2 L U))),trivial⟩),I⟩ h
  ·replace h:=Zk h (Xe O);refine ZCd (Zr (Ze (Zh (Zm rfl rfl (Za (v:=vI (Zwt.wrap ((B:Int)+1))) rfl (done ?_))))))
   exact aa A _ _ ⟨(sl ⟨rfl,rfl,rfl,(tr rfl (I1 _ (Z2 L U))),trivial⟩),I⟩ h
 ·clear I h;rintro A e_ ai ac ⟨V,I⟩ h;rw [ue V];refine sr (Zl rfl rfl (dn (ZB9 (Z4 rfl (decide_eq_false (by omega)) ?_))))
  refine ZCo (Zi (Zi (Zy ?_)))
  refine Ze (sr (Za (v:=vI A) rfl (Zd (v:=vI A) rfl (dn (ZCi ?_)))))
  exact Zj rfl (Zg rfl) ⟨A,rfl,h,I.below⟩ (.inl rfl)
 ·skip;exact⟨(slq rfl),I⟩
def Se (C:Cx) (a0:Alg) (a1:Int) (a2:Int) (A:Int) (K:List (List Int)->Prop):Prop :=
 (if A < 0 then K [] else(M0 C a0 A/\(Ug C a0.degrees (Zwt.wrap (A+1))/\Sx (⟨C.LV (Zwt.wrap (A+1)),C.PL (Zwt.wrap (A+1))⟩:ZPy) (Zwt.wrap (a2+a1)) (λad=>Sx (⟨C.LV A,C.PL A⟩:ZPy) a2 (λae=>Z1 (λB (h:(List Int)×(List (List Int))×Int) aa=>(if¬ ((ae.getD B Ci)=true) then aa (h.1,h.2.1,h.2.2) else(Zw (h.1.length+1) 8/\((0<=(B:Int)/\(B:Int) < ((C.MX A).length:Int))/\Z1 (λO (I:(List Int)) ab=>((0<=(O:Int)/\(O:Int) < (ad.length:Int))/\(if¬ ((ad.getD O Ci)=true) then(Zw (I.length+1) 8/\ab (I++[((C.MX A).getD B Ci).getD O Ci])) else ab I))) (λ(I:(List Int))=>(Zw (h.2.1.length+1) 24/\aa (h.1++[(B:Int)],h.2.1++[I],(I.length:Int)))) (((C.MX A).getD B Ci).length) 0 [])))) (λ(h:(List Int)×(List (List Int))×Int)=>M3 h.2.1 h.2.2 (λac=>Z1 (λag (U:(List (List Int))) ah=>((0<=((C.LV A).length:Int)/\((C.LV A).length:Int) * 8<=281474976710656)/\Z1 (λL (V:(List Int)) ai=>((0<=(L:Int)/\(L:Int) < (h.1.length:Int))/\((0<=h.1.getD L Ci/\h.1.getD L Ci < (V.length:Int))/\ai (V.set ((h.1.getD L Ci).toNat) ((ac.getD ag Ci).getD L Ci))))) (λ(V:(List Int))=>(Zw (U.length+1) 24/\ah (U++[V]))) ((ac.getD ag Ci).length) 0 (Cd (((C.LV A).length:Int).toNat) (0:Int)))) (λ(U:(List (List Int)))=>K U) ac.length 0 [])) ae.length 0 ([],[],0))))))
theorem Dq (C:Cx) (a0:Alg) (a1:Int) (a2:Int) (U:Int)  {K:List (List Int)->Prop} (h:Se C a0 a1 a2 U K) (w0:World) (q0:TAlg.rep a0 [Ia,Ic] Ib w0) (eg:(blk b0 32 [Ia,Ic]).holds w0) (cy:(blk bp0 198 [vQ b0,.map (some mb0)]).holds w0) (eh:(cpx C 125 mb0 D0 F0).holds w0) (ei:∀ b,b∈Ib->b∉(cpx C 125 mb0 D0 F0).fp) (ej:b0∉(cpx C 125 mb0 D0 F0).fp) (cz:bp0∉(cpx C 125 mb0 D0 F0).fp) :
  Calls ZCc 117 #[vQ bp0,vI a1,vI a2,vI U] w0 λe w'=>∃ (r0:List (List Int)) (Ih:Value) (bq:List Nat) (Dz:List Lev) (Fz:List Nat),
   e=.returned (Ih)/\K r0/\(ZCn (ZJh 22 (ZJh 2 (eI.tr))) r0 [Ih] bq).holds w'/\(∀ b,b∈bq->w0.heap.size<=b\/b∈(cpx C 125 mb0 D0 F0).fp)/\(∀ b,b∈bq->b∉(cpx C 125 mb0 Dz Fz).fp)/\CpLe D0 Dz F0 Fz/\(cpx C 125 mb0 Dz Fz).holds w'/\(∀ x,x∈(cpx C 125 mb0 Dz Fz).fp->x∈(cpx C 125 mb0 D0 F0).fp\/w0.heap.size<=x)/\BelO ((cpx C 125 mb0 D0 F0).fp) w0 w':=by
 unfold Se at h
 refine cof ZP8 rfl 124 Tryz.ntmps117 ?_
 have A:=ZP9 w0 ((cpx C 125 mb0 D0 F0).fp) [cpx C 125 mb0 D0 F0] [ZB8 TAlg a0 [Ia,Ic] Ib,blk b0 32 [Ia,Ic],blk bp0 198 [vQ b0,.map (some mb0)]] (al1 eh) (alc q0 (alc eg (al1 cy))) (al1 (λb_ aj=>aj)) (ZK0 _ _) (alc (λb_ aj=>ei b_ aj) (alc (Vr ej) (al1 (Vr cz))))
 replace A:=A.dAlg 0 rfl;refine sr (Zd (v:=.slice none 0 0) rfl (dn (ZB9 (sr (Za (v:=vI U) rfl (Zl rfl rfl (dn ?_)))))))
 refine Zs rfl (λbr=>?_) (λbr=>?_)
 ·replace h:=ift h (ct br);refine sr (Zd (v:=.slice none 0 0) rfl (dn ?_))
  refine ZCi (Zn ?_)
  exact Zj rfl (Zg rfl) ⟨[],.slice none 0 0,[],D0,F0,rfl,h,(Mg _ _ _),(λb hb=>absurd hb (by simp)),(λx_ O=>absurd O (by simp)),(CpX.refl _ _),(A.Ix 0 rfl),(λx_ O=>(A.anyX 0 rfl x_ O).symm),A.belO⟩ (.inl rfl)
 ·replace h:=Zk h (cf br);refine ZCd (Ze (sr (Za (v:=vQ bp0) rfl (Za (v:=vI U) rfl ?_))))
  obtain ⟨c0,h⟩:=h;refine Zf [vQ bp0,vI U] _ Tryz.func135 rfl rfl rfl (Zb3 C a0 U c0 _ (Yf (A.Iw 1 rfl) (A.Iw 0 rfl)) (A.Iw 3 rfl) (A.Iw 4 rfl) (A.Ix 0 rfl) (λb_ hb ao=>(Ch.1 hb).elim (λhb=>A.pdk 1 0 rfl rfl b_ hb ao) (λhb=>A.pdk 0 0 rfl rfl b_ hb ao)) (λO=>A.pdk 3 0 rfl rfl _ (ZJp _) O) (λO=>A.pdk 4 0 rfl rfl _ (ZJp _) O)) ?_
  rintro _ fr ⟨aw,fs,ft,rfl,bj,cl,c6,c7,c8⟩;refine rt ?_
  replace A:=A.turnI 0 rfl c8 c6 c7;refine Za (v:=vQ bp0) rfl (Za (v:=vI U) rfl (Zm rfl rfl ?_))
  obtain ⟨c9,h⟩:=h;refine Zf [vQ bp0,vI (Zwt.wrap (U+1))] _ ZKk rfl rfl rfl (Nc C a0 (Zwt.wrap (U+1)) c9 _ (Yf (A.Iw 1 rfl) (A.Iw 0 rfl)) (A.Iw 3 rfl) (A.Iw 4 rfl) (A.Ix 0 rfl) (λb_ hb ao=>(Ch.1 hb).elim (λhb=>A.pdk 1 0 rfl rfl b_ hb ao) (λhb=>A.pdk 0 0 rfl rfl b_ hb ao)) (λO=>A.pdk 3 0 rfl rfl _ (ZJp _) O) (λO=>A.pdk 4 0 rfl rfl _ (ZJp _) O)) ?_
  rintro _ fu ⟨bs,bb,av,rfl,cm,a6,da,db,dc⟩;refine rt ?_
  replace A:=A.turnI 0 rfl (dc.belO Vg) da db;refine Zd (v:=vvP aw) rfl (Zd (v:=vvP bs) rfl (dn (sr (Za (v:=vvP bs) rfl (Za (v:=vI a2) rfl (Za (v:=vI a1) rfl (Zm rfl rfl ?_)))))))
  obtain ⟨fv,fw,fx,fy,fz,f0,dd,de⟩:=My (A.Ix 0 rfl) cm;refine Zf [vvP bs,vI (Zwt.wrap (a2+a1))] _ ZQe rfl rfl rfl (Dd (⟨C.LV (Zwt.wrap (U+1)),C.PL (Zwt.wrap (U+1))⟩:ZPy) (Zwt.wrap (a2+a1)) h _ dd de) ?_
  rintro _ f1 ⟨ai,ap,ek,rfl,h,dg,dh,di⟩;refine rt ?_
  replace A:=A.push di (ZCn (ZJh 4 EB.tr) ai [ap] ek) dg dh;obtain ⟨dj,dk⟩:=Yx (A.Ix 0 rfl).1;subst dk;replace A:=A.Iz (c:=own 4 1 ap ai.length (EB.encs ai)) (λ_ h_=>h_) (λ_=>dj)
  refine Yd (sz:=1) A [] (eI.encs []) rfl (λ_=>Zp3  _) rfl (by decide) λcn f2 az A=>Zd (v:=ap) rfl (Zd (v:=.slice (some ⟨cn,0,none⟩) 0 0) rfl (dn (sr (Yd (sz:=1) A [] [] rfl (λ_=>Jl _) rfl (by decide) λbl f3 az A=>?_))))
  replace A:=A.pushM0 (Zz (ZJh 2 (eI.tr)) ([]:List (List Int)) [] []) (Xn _ _) rfl;replace A:=A.gather (c:=ZCn (ZJh 22 (ZJh 2 (eI.tr))) [] [.slice (some ⟨bl,0,none⟩) 0 0] ((ZDa (Fe (.slice (some ⟨bl,0,none⟩) 0 0)))++([]:List (List Nat)).flatten)) (λx_ O=>(Ch.1 O).symm) (λaq ar au=>Xj ar aq (λb_ aj ao=>au b_ ao aj))
  refine Zd (v:=.slice (some ⟨bl,0,none⟩) 0 0) rfl (Zd (v:=vI 0) rfl (dn (ZB9 (sr (Za (v:=vvP aw) rfl (Za (v:=vI a2) rfl ?_))))))
  obtain ⟨f4,f5,f6,f7,f8,f9,dm,dp⟩:=My (A.Ix 3 rfl) (bj.up a6);refine Zf [vvP aw,vI a2] _ ZQe rfl rfl rfl (Dd (⟨C.LV U,C.PL U⟩:ZPy) a2 h _ dm dp) ?_
  rintro _ ga ⟨ad,ax,en,rfl,h,dq,dr,dt⟩;refine rt ?_
  replace A:=A.push dt (ZCn (ZJh 4 EB.tr) ad [ax] en) dq dr;obtain ⟨du,dv⟩:=Yx (A.Ix 0 rfl).1;subst dv;replace A:=A.Iz (c:=own 4 1 ax ad.length (EB.encs ad)) (λ_ h_=>h_) (λ_=>du)
  refine J3 A 0 rfl ZP7 rfl (Za (v:=vI 0) rfl (dn (ZCf ?_)))
  have dw:=A.anyX 4 rfl;replace A:=A.thaw 4 rfl (cpx C 125 mb0 bb av) id (λ_ aj=>aj)
  have bt:ad.length<=9223372036854775807:=Uv (A.Ix 0 rfl);refine Yh (S:=(List Int)×(List (List Int))×Int) _ _ (λI B e_ w_=>∃ (al:Value),∃ (am:Value),∃ (a4:List Nat),Zt e_ [(9,vvP aw),(11,ap),(12,al),(13,am),(14,vI B.2.2),(44,ax),(45,vI (ad.length:Int)),(46,vI (I:Int))]/\Ctx (λc_=>c_∈(cpx C 125 mb0 D0 F0).fp) w0 w_ [own 4 1 ax ad.length (EB.encs ad),ZCn (ZJh 22 (ZJh 2 (eI.tr))) B.2.1 [am] a4,own 3 1 al B.1.length (eI.encs B.1),own 4 1 ap ai.length (EB.encs ai)] [cpx C 125 mb0 bb av,ZB8 ZCv.sl a0.images [Ic] Ib,ZB8 TInts a0.degrees [Ia] Ib,ZB8 TAlg a0 [Ia,Ic] Ib,blk b0 32 [Ia,Ic],blk bp0 198 [vQ b0,.map (some mb0)]]) ad.length ?_ ?_ (s0:=([],[],0)) ?_ h
  ·clear A h;rintro I B e_ gb e7 eo a7 ⟨al,am,a4,ak,A⟩ h bu;rw [ue ak];refine sr (Zl rfl rfl (dn (ZB9 (Z8 rfl (decide_eq_true (by omega)) (ZCd (Ze (ZB9 (ZCf (sr (Za (v:=vI (I:Int)) rfl ?_))))))))))
   obtain ⟨e8,gc,bv⟩:=Xx (A.Ix 0 rfl) (ZFu (Fq _) a7);refine X4 (I * 1) ZP7 sc4.size (tr rfl bv) rfl (ZCq _) (ZC9.2 a7) rfl (Ye (.bool (ad.getD I Ci)) (J7 (A.Ix 0 rfl) bv I a7) sc4 rfl (Zd (v:=vI (I:Int)) rfl (Zd (v:=.bool (ad.getD I Ci)) rfl (dn (ZB9 (sr (Za (v:=.bool (ad.getD I Ci)) rfl (Xo rfl (dn ?_)))))))))
   refine Zs rfl (λbn=>?_) (λbn=>?_)
   ·replace h:=ift h (Xe (X1 bn));refine ZCo (Zi (Zy ?_))
    refine Ze (Zh (Zm rfl rfl (Za (v:=vI (Zwt.wrap ((I:Int)+1))) rfl (done ?_))))
    exact bu (B.1,B.2.1,B.2.2) _ _ ⟨al,am,a4,(sl ⟨rfl,rfl,rfl,rfl,rfl,rfl,rfl,(tr rfl (I1 _ (Z2 a7 bt))),trivial⟩),A⟩ h
   ·replace h:=Zk h (not_not_intro ((X2 bn)));refine ZCd (Ze (sr (Za (v:=al) rfl (Za (v:=vI (I:Int)) rfl (Yd (sz:=1) A [(0,vI (I:Int))] (eI.encs [(I:Int)]) rfl (λ_=>Zp4 (I:Int) _) rfl (by decide) λgf gg az A=>?_)))))
    obtain ⟨dx,h⟩:=h;refine Jg A 3 Tryz.underlying200 el3 rfl (by decide) (by decide) rfl (Wl (A.Ix 0 rfl)) (λq hq=>ZDf (E:=eI) _ q hq) rfl rfl dx λa8 gh A=>?_
    replace A:=Y7 A 3 ((B.1++[(I:Int)]).length) (eI.encs (B.1++[(I:Int)])) rfl (by simp) (by first | (simp [ZC1]; done) | simp [ZC1,Enc.encs])
    refine Zd (v:=a8) rfl (dn (sr (Yd (sz:=1) A [] (eI.encs []) rfl (λ_=>U1  _) rfl (by decide) λcp gi az A=>Zd (v:=.slice (some ⟨cp,0,none⟩) 0 0) rfl (dn (ZB9 (sr (Za (v:=vvP aw) rfl (Xd rfl (Z0 2 ZJo rfl Im.size rfl rfl ?_)))))))))
    obtain ⟨gj,gk,cq,gl,gm,gn,dy,e9,dz,fa⟩:=Mz (A.Iw 0 rfl) (bj.up a6);have d0:=dz rfl;replace A:=A.I0 0 rfl (ZB8 (ZFf.sl) (C.MX U) [cq] av) (λ_=>d0) (λ_ h_=>Tk h_)
    refine Ye (cq) (Jv (off:=2) (sz:=1) dy rfl) Im rfl (Za (v:=vI (I:Int)) rfl ?_)
    obtain ⟨⟨ep,er⟩,h⟩:=h;obtain ⟨fb,go,bw⟩:=Zx (A.Iw 0 rfl) I (show I < (C.MX U).length by omega)
    refine Yn (len:=(C.MX U).length) ZKd If.size (tr rfl bw) rfl ep er ?_
    obtain ⟨es,bx,d1,bz⟩:=Xb (A.Iw 0 rfl) bw I (show I < (C.MX U).length by omega)
    obtain ⟨bp,rfl⟩:=ZC7.1 bx;clear bx;rw [Y9 _ _ (show I < (C.MX U).length by omega)] at bz
    replace A:=A.I0 0 rfl (ZB8 TInts ((C.MX U).getD I Ci) [bp] av) (λ_=>bz) (λ_ aj=>aj)
    refine Ye (bp) d1 If rfl (Zu A 0 rfl ZCs rfl (Za (v:=vI 0) rfl (dn (ZCf ?_))))
    have b8:((C.MX U).getD I Ci).length<=9223372036854775807:=Yz (A.Iw 0 rfl);refine Yh (S:=(List Int)) _ _ (λaa ah e_ w_=>∃ (ab:Value),Zt e_ [(9,vvP aw),(11,ap),(12,a8),(13,am),(17,ab),(44,ax),(45,vI (ad.length:Int)),(46,vI (I:Int)),(64,bp),(65,vI (((C.MX U).getD I Ci).length:Int)),(66,vI (aa:Int))]/\Ctx (λc_=>c_∈(cpx C 125 mb0 D0 F0).fp) w0 w_ [own 2 1 ab ah.length (eI.encs ah),own 4 1 ax ad.length (EB.encs ad),ZCn (ZJh 22 (ZJh 2 (eI.tr))) B.2.1 [am] a4,own 3 1 a8 ((B.1++[(I:Int)]).length) (eI.encs (B.1++[(I:Int)])),own 4 1 ap ai.length (EB.encs ai)] [ZB8 TInts ((C.MX U).getD I Ci) [bp] av,cpx C 125 mb0 bb av,ZB8 ZCv.sl a0.images [Ic] Ib,ZB8 TInts a0.degrees [Ia] Ib,ZB8 TAlg a0 [Ia,Ic] Ib,blk b0 32 [Ia,Ic],blk bp0 198 [vQ b0,.map (some mb0)]]) (((C.MX U).getD I Ci).length) ?_ ?_ (s0:=[]) ?_ h
    ·clear A h;rintro aa ah e_ gp fc et a9 ⟨ab,ak,A⟩ h b9;rw [ue ak];refine sr (Zl rfl rfl (dn (ZB9 (Z8 rfl (decide_eq_true (by omega)) (ZCd (Ze (ZB9 (ZCf (sr (Za (v:=vI (aa:Int)) rfl ?_))))))))))
     obtain ⟨fd,gq,ca⟩:=Zx (A.Iw 0 rfl) aa a9;refine Yn (len:=((C.MX U).getD I Ci).length) ZCs sc2.size (tr rfl ca) rfl (ZCq _) (ZC9.2 a9) (Ye (vI (((C.MX U).getD I Ci).getD aa Ci)) (Yi (A.Iw 0 rfl) ca aa a9) sc2 rfl (Zd (v:=vI (aa:Int)) rfl (Zd (v:=vI (((C.MX U).getD I Ci).getD aa Ci)) rfl (dn (sr (Za (v:=ap) rfl (Za (v:=vI (aa:Int)) rfl ?_)))))))
     obtain ⟨⟨eu,ew⟩,h⟩:=h;obtain ⟨fe,gr,cb⟩:=Xx (A.Ix 4 rfl) (ZFu (Fq _) (show aa < ai.length by omega))
     refine X4 (aa * 1) ZP7 sc4.size (tr rfl cb) rfl eu ew rfl (Ye (.bool (ai.getD aa Ci)) (J7 (A.Ix 4 rfl) cb aa (show aa < ai.length by omega)) sc4 rfl (Xo rfl (dn ?_)))
     refine Zs rfl (λbo=>?_) (λbo=>?_)
     ·replace h:=ift h (Xe (X1 bo));refine Zh (Za (v:=ab) rfl (Za (v:=vI (((C.MX U).getD I Ci).getD aa Ci)) rfl (Yd (sz:=1) A [(0,vI (((C.MX U).getD I Ci).getD aa Ci))] (eI.encs [((C.MX U).getD I Ci).getD aa Ci]) rfl (λ_=>M4 (((C.MX U).getD I Ci).getD aa Ci) _) rfl (by decide) λgs gu az A=>?_)))
      obtain ⟨d2,h⟩:=h;refine Jg A 1 ZCs el2 rfl (by decide) (by decide) rfl (Wl (A.Ix 0 rfl)) (λq hq=>ZDf (E:=eI) _ q hq) rfl rfl d2 λcr gv A=>?_
      replace A:=Y7 A 1 ((ah++[((C.MX U).getD I Ci).getD aa Ci]).length) (eI.encs (ah++[((C.MX U).getD I Ci).getD aa Ci])) rfl (by simp) (by first | (simp [ZC1]; done) | simp [ZC1,Enc.encs])
      refine Zd (v:=cr) rfl (done (Zr (Ze (Zh (Zm rfl rfl (Za (v:=vI (Zwt.wrap ((aa:Int)+1))) rfl (done ?_)))))))
      exact b9 (ah++[((C.MX U).getD I Ci).getD aa Ci]) _ _ ⟨cr,(sl ⟨rfl,rfl,rfl,rfl,rfl,rfl,rfl,rfl,rfl,rfl,(tr rfl (I1 _ (Z2 a9 b8))),trivial⟩),(A.xM [1,2,3,4,5] rfl)⟩ h
     ·replace h:=Zk h (not_not_intro ((X2 bo)));refine ZCd (Zr (Ze (Zh (Zm rfl rfl (Za (v:=vI (Zwt.wrap ((aa:Int)+1))) rfl (done ?_))))))
      exact b9 ah _ _ ⟨ab,(sl ⟨rfl,rfl,rfl,rfl,rfl,rfl,rfl,rfl,rfl,rfl,(tr rfl (I1 _ (Z2 a9 b8))),trivial⟩),A⟩ h
    ·clear A h;rintro ah e_ gw et ⟨ab,ak,A⟩ h;rw [ue ak];refine sr (Zl rfl rfl (dn (ZB9 (Z4 rfl (decide_eq_false (by omega)) ?_))))
     refine ZCo (Zi (Zi (Zy ?_)))
     refine Ze (sr (Za (v:=ab) rfl (J3 A 0 rfl ZCs rfl (Zd (v:=vI (ah.length:Int)) rfl (dn (Zh (Za (v:=am) rfl (Za (v:=ab) rfl (Yd (sz:=1) A [(0,ab)] [ab] rfl (λ_=>Wc ab (Va (A.Ix 0 rfl)) _) rfl (by decide) λbc gx az A=>?_)))))))))
     replace A:=A.pushM0 (Zz (ZJh 2 (eI.tr)) [] [] []) (Xn _ _) rfl;replace A:=A.sM [2,0,1,3,4,5,6] (M':=[own 2 1 ab ah.length (eI.encs ah),Zz (ZJh 2 (eI.tr)) [] [] [],own 22 1 (.slice (some ⟨bc,0,none⟩) 1 1) 1 [ab],own 4 1 ax ad.length (EB.encs ad),ZCn (ZJh 22 (ZJh 2 (eI.tr))) B.2.1 [am] a4,own 3 1 a8 ((B.1++[(I:Int)]).length) (eI.encs (B.1++[(I:Int)])),own 4 1 ap ai.length (EB.encs ai)]) (by decide) rfl
     replace A:=A.gather (c:=Zz (ZJh 2 (eI.tr)) [ah] [ab] [(ZDa (Fe ab))]) (λx_ O=>Vf O) (λaq ar au=>W9 (c:=[ab]) (id (Xi aq)) ar au)
     replace A:=A.sM [1,0,2,3,4,5] (M':=[own 22 1 (.slice (some ⟨bc,0,none⟩) 1 1) 1 [ab],Zz (ZJh 2 (eI.tr)) [ah] [ab] [(ZDa (Fe ab))],own 4 1 ax ad.length (EB.encs ad),ZCn (ZJh 22 (ZJh 2 (eI.tr))) B.2.1 [am] a4,own 3 1 a8 ((B.1++[(I:Int)]).length) (eI.encs (B.1++[(I:Int)])),own 4 1 ap ai.length (EB.encs ai)]) (by decide) rfl
     replace A:=A.gather (c:=ZCn (ZJh 22 (ZJh 2 (eI.tr))) [ah] [.slice (some ⟨bc,0,none⟩) 1 1] ((ZDa (Fe (.slice (some ⟨bc,0,none⟩) 1 1)))++([(ZDa (Fe ab))]:List (List Nat)).flatten)) (λx_ O=>Ch.1 O) (λaq ar au=>Xj aq ar au)
     replace A:=A.sM [2,0,1,3,4] (M':=[ZCn (ZJh 22 (ZJh 2 (eI.tr))) B.2.1 [am] a4,ZCn (ZJh 22 (ZJh 2 (eI.tr))) [ah] [.slice (some ⟨bc,0,none⟩) 1 1] ((ZDa (Fe (.slice (some ⟨bc,0,none⟩) 1 1)))++([(ZDa (Fe ab))]:List (List Nat)).flatten),own 4 1 ax ad.length (EB.encs ad),own 3 1 a8 ((B.1++[(I:Int)]).length) (eI.encs (B.1++[(I:Int)])),own 4 1 ap ai.length (EB.encs ai)]) (by decide) rfl
     obtain ⟨d3,h⟩:=h;refine W1 A ZKd J0 rfl (by decide) (by decide) rfl rfl d3 λcu ex gy A=>Zd (v:=cu) rfl (done (Zr (Ze (Zh (Zm rfl rfl (Za (v:=vI (Zwt.wrap ((I:Int)+1))) rfl (done ?_)))))))
     exact bu (B.1++[(I:Int)],B.2.1++[ah],(ah.length:Int)) _ _ ⟨a8,cu,ex,(sl ⟨rfl,rfl,rfl,rfl,rfl,rfl,rfl,(tr rfl (I1 _ (Z2 a7 bt))),trivial⟩),((A.xM [1,0,2,3] rfl).sP [1,2,3,4,5,6] rfl)⟩ h
    ·skip;exact⟨.slice (some ⟨cp,0,none⟩) 0 0,(slq rfl),((A.xM [0,2,3,4,5] rfl).sP [0,2,3,4,5,6,7] rfl)⟩
  ·clear A h;rintro B e_ gz eo ⟨al,am,a4,ak,A⟩ h;rw [ue ak];refine sr (Zl rfl rfl (dn (ZB9 (Z4 rfl (decide_eq_false (by omega)) ?_))))
   refine ZCo (Zi (Zi (Zy ?_)))
   refine Ze (sr (Yd (sz:=1) A [] [] rfl (λ_=>Jl _) rfl (by decide) λbm g0 az A=>?_))
   replace A:=A.pushM0 (Zz (ZJh 2 (eI.tr)) ([]:List (List Int)) [] []) (Xn _ _) rfl;replace A:=A.gather (c:=ZCn (ZJh 22 (ZJh 2 (eI.tr))) [] [.slice (some ⟨bm,0,none⟩) 0 0] ((ZDa (Fe (.slice (some ⟨bm,0,none⟩) 0 0)))++([]:List (List Nat)).flatten)) (λx_ O=>(Ch.1 O).symm) (λaq ar au=>Xj ar aq (λb_ aj ao=>au b_ ao aj))
   refine Zd (v:=.slice (some ⟨bm,0,none⟩) 0 0) rfl (dn (ZB9 (sr (Za (v:=am) rfl (Za (v:=vI B.2.2) rfl (Zf [am,vI B.2.2] _ Tryz.func136 rfl rfl rfl (Zgx B.2.1 B.2.2 h _ (ZJu _ (A.Ix 2 rfl).1)) ?_))))))
   rintro _ g1 ⟨V,bd,be,rfl,h,d4,d5,d6⟩;refine rt ?_
   replace A:=A.push d6 (ZCn (ZJh 22 (ZJh 2 (eI.tr))) V [bd] be) d4 d5;refine Qs A 0 rfl ZKd rfl (Za (v:=vI 0) rfl (dn (ZCf ?_)))
   have ff:=A.anyX 0 rfl;replace A:=A.thaw 0 rfl (ZB8 (ZFf.sl) V [bd] be) (λh_=>ZJu _ h_.1) (λ_ aj=>aj)
   have d7:V.length<=9223372036854775807:=Yz (A.Iw 0 rfl);refine Yh (S:=(List (List Int))) _ _ (λac ay e_ w_=>∃ (an:Value),∃ (a5:List Nat),Zt e_ [(9,vvP aw),(12,al),(20,an),(91,bd),(92,vI (V.length:Int)),(93,vI (ac:Int))]/\Ctx (λc_=>c_∈(cpx C 125 mb0 D0 F0).fp) w0 w_ [ZCn (ZJh 22 (ZJh 2 (eI.tr))) ay [an] a5,own 3 1 al B.1.length (eI.encs B.1)] [ZB8 (ZFf.sl) V [bd] be,cpx C 125 mb0 bb av,ZB8 ZCv.sl a0.images [Ic] Ib,ZB8 TInts a0.degrees [Ia] Ib,ZB8 TAlg a0 [Ia,Ic] Ib,blk b0 32 [Ia,Ic],blk bp0 198 [vQ b0,.map (some mb0)]]) V.length ?_ ?_ (s0:=[]) ?_ h
   ·clear A h;rintro ac ay e_ g2 fg ey ba ⟨an,a5,ak,A⟩ h d8;rw [ue ak];refine sr (Zl rfl rfl (dn (ZB9 (Z8 rfl (decide_eq_true (by omega)) (ZCd (Ze (ZB9 (ZCf (sr ?_)))))))))
    obtain ⟨fh,g3,cc⟩:=Zx (A.Iw 0 rfl) ac ba;refine Yn (len:=V.length) ZKd If.size (tr rfl cc) rfl (ZCq _) (ZC9.2 ba) ?_
    obtain ⟨es,ce,d9,cg⟩:=Xb (A.Iw 0 rfl) cc ac ba;obtain ⟨bh,rfl⟩:=ZC7.1 ce;clear ce;rw [Y9 _ _ ba] at cg
    replace A:=A.I0 0 rfl (ZB8 TInts (V.getD ac Ci) [bh] be) (λ_=>cg) (λ_ aj=>aj)
    refine Ye (bh) d9 If rfl (Zd (v:=bh) rfl (dn (sr (Za (v:=vvP aw) rfl (Xd rfl (Z0 0 ZJo rfl Io.size rfl rfl ?_))))))
    obtain ⟨cv,g4,g5,g6,g7,g8,ea,eb,fi,fj⟩:=Mz (A.Iw 2 rfl) (bj.up a6);have ec:=eb;replace A:=A.I0 2 rfl (ZB8 ((EA .i64).ty.sl) (C.LV U) [cv] av) (λ_=>ec) (λ_ h_=>Tk h_)
    refine Ye (cv) (Jv (off:=0) (sz:=1) ea rfl) Io rfl (Zu A 0 rfl ZJm rfl ?_)
    obtain ⟨ch,h⟩:=h;refine Uu (sz:=1) A (eI.encs (Cd (((C.LV U).length:Int).toNat) (0:Int))) ZCs el2 (tr rfl (I1 (Value.int .i64) (Int.toNat_of_nonneg ch.1).symm)) (tr rfl (I1 (Value.int .i64) (Int.toNat_of_nonneg ch.1).symm)) (by omega) (by omega) (V9 (E:=eI) _ _) λcw g9 az A=>?_
    replace A:=Y7 A 0 ((Cd (((C.LV U).length:Int).toNat) (0:Int)).length) (eI.encs (Cd (((C.LV U).length:Int).toNat) (0:Int))) rfl (by simp) rfl
    refine Zd (v:=cw) rfl (dn (ZB9 (sr (Za (v:=bh) rfl (Zu A 1 rfl ZCs rfl (Za (v:=vI 0) rfl (dn (ZCf ?_))))))))
    have ed:(V.getD ac Ci).length<=9223372036854775807:=Yz (A.Iw 1 rfl);refine Yh (S:=(List Int)) _ _ (λL ag e_ w_=>∃ (ae:Value),Zt e_ [(9,vvP aw),(12,al),(20,an),(23,ae),(91,bd),(92,vI (V.length:Int)),(93,vI (ac:Int)),(103,bh),(104,vI ((V.getD ac Ci).length:Int)),(105,vI (L:Int))]/\Ctx (λc_=>c_∈(cpx C 125 mb0 D0 F0).fp) w0 w_ [own 2 1 ae ag.length (eI.encs ag),ZCn (ZJh 22 (ZJh 2 (eI.tr))) ay [an] a5,own 3 1 al B.1.length (eI.encs B.1)] [ZB8 TInts (V.getD ac Ci) [bh] be,ZB8 (ZFf.sl) V [bd] be,cpx C 125 mb0 bb av,ZB8 ZCv.sl a0.images [Ic] Ib,ZB8 TInts a0.degrees [Ia] Ib,ZB8 TAlg a0 [Ia,Ic] Ib,blk b0 32 [Ia,Ic],blk bp0 198 [vQ b0,.map (some mb0)]]) ((V.getD ac Ci).length) ?_ ?_ (s0:=(Cd (((C.LV U).length:Int).toNat) (0:Int))) ?_ h
    ·clear A h;rintro L ag e_ ha fk ez bk ⟨ae,ak,A⟩ h ee;rw [ue ak];refine sr (Zl rfl rfl (dn (ZB9 (Z8 rfl (decide_eq_true (by omega)) (ZCd (Ze (ZB9 (ZCf (sr (Za (v:=vI (L:Int)) rfl ?_))))))))))
     obtain ⟨fl,hc,ci⟩:=Zx (A.Iw 0 rfl) L bk;refine Yn (len:=(V.getD ac Ci).length) ZCs sc2.size (tr rfl ci) rfl (ZCq _) (ZC9.2 bk) (Ye (vI ((V.getD ac Ci).getD L Ci)) (Yi (A.Iw 0 rfl) ci L bk) sc2 rfl (Zd (v:=vI (L:Int)) rfl (Zd (v:=vI ((V.getD ac Ci).getD L Ci)) rfl (dn (Zh (Za (v:=ae) rfl (Za (v:=al) rfl (Za (v:=vI (L:Int)) rfl ?_))))))))
     obtain ⟨⟨e1,e2⟩,h⟩:=h;obtain ⟨fo,he,cj⟩:=Xx (A.Ix 2 rfl) (ZFu (Fq _) (show L < B.1.length by omega))
     refine X4 (L * 1) Tryz.underlying200 sc3.size (tr rfl cj) rfl e1 e2 rfl (Ye (vI (B.1.getD L Ci)) (J7 (A.Ix 2 rfl) cj L (show L < B.1.length by omega)) sc3 rfl (Za (v:=vI ((V.getD ac Ci).getD L Ci)) rfl ?_))
     obtain ⟨⟨e3,e4⟩,h⟩:=h;obtain ⟨fq,hf,ck⟩:=Xx (A.Ix 0 rfl) (ZFu (Fq _) (show (B.1.getD L Ci).toNat < ag.length by omega))
     refine X4 ((B.1.getD L Ci).toNat * 1) ZCs sc2.size (tr rfl ck) rfl e3 e4 rfl (U6 (v:=vI ((V.getD ac Ci).getD L Ci)) A 0 [vI ((V.getD ac Ci).getD L Ci)] (eI.encs (ag.set ((B.1.getD L Ci).toNat) ((V.getD ac Ci).getD L Ci))) rfl ck sc2.size rfl rfl rfl rfl rfl (by rw [Enc.encs_len]; exact W8 (sz:=1) (show (B.1.getD L Ci).toNat < ag.length by omega)) (U7 _ _ _ (show (B.1.getD L Ci).toNat < ag.length by omega)) λhg A=>?_)
     replace A:=Y7 A 0 ((ag.set ((B.1.getD L Ci).toNat) ((V.getD ac Ci).getD L Ci)).length) (eI.encs (ag.set ((B.1.getD L Ci).toNat) ((V.getD ac Ci).getD L Ci))) rfl (by simp) rfl
     refine done (Zr (Ze (Zh (Zm rfl rfl (Za (v:=vI (Zwt.wrap ((L:Int)+1))) rfl (done ?_))))))
     exact ee (ag.set ((B.1.getD L Ci).toNat) ((V.getD ac Ci).getD L Ci)) _ _ ⟨ae,(sl ⟨rfl,rfl,rfl,rfl,rfl,rfl,rfl,rfl,rfl,(tr rfl (I1 _ (Z2 bk ed))),trivial⟩),A⟩ h
    ·clear A h;rintro ag e_ hh ez ⟨ae,ak,A⟩ h;rw [ue ak];refine sr (Zl rfl rfl (dn (ZB9 (Z4 rfl (decide_eq_false (by omega)) ?_))))
     refine ZCo (Zi (Zi (Zy ?_)))
     refine Ze (Zh (Za (v:=an) rfl (Za (v:=ae) rfl (Yd (sz:=1) A [(0,ae)] [ae] rfl (λ_=>Wc ae (Va (A.Ix 0 rfl)) _) rfl (by decide) λbi hk az A=>?_))))
     replace A:=A.pushM0 (Zz (ZJh 2 (eI.tr)) [] [] []) (Xn _ _) rfl;replace A:=A.sM [2,0,1,3,4] (M':=[own 2 1 ae ag.length (eI.encs ag),Zz (ZJh 2 (eI.tr)) [] [] [],own 22 1 (.slice (some ⟨bi,0,none⟩) 1 1) 1 [ae],ZCn (ZJh 22 (ZJh 2 (eI.tr))) ay [an] a5,own 3 1 al B.1.length (eI.encs B.1)]) (by decide) rfl
     replace A:=A.gather (c:=Zz (ZJh 2 (eI.tr)) [ag] [ae] [(ZDa (Fe ae))]) (λx_ O=>Vf O) (λaq ar au=>W9 (c:=[ae]) (id (Xi aq)) ar au)
     replace A:=A.sM [1,0,2,3] (M':=[own 22 1 (.slice (some ⟨bi,0,none⟩) 1 1) 1 [ae],Zz (ZJh 2 (eI.tr)) [ag] [ae] [(ZDa (Fe ae))],ZCn (ZJh 22 (ZJh 2 (eI.tr))) ay [an] a5,own 3 1 al B.1.length (eI.encs B.1)]) (by decide) rfl
     replace A:=A.gather (c:=ZCn (ZJh 22 (ZJh 2 (eI.tr))) [ag] [.slice (some ⟨bi,0,none⟩) 1 1] ((ZDa (Fe (.slice (some ⟨bi,0,none⟩) 1 1)))++([(ZDa (Fe ae))]:List (List Nat)).flatten)) (λx_ O=>Ch.1 O) (λaq ar au=>Xj aq ar au)
     replace A:=A.sM [1,0,2] (M':=[ZCn (ZJh 22 (ZJh 2 (eI.tr))) ay [an] a5,ZCn (ZJh 22 (ZJh 2 (eI.tr))) [ag] [.slice (some ⟨bi,0,none⟩) 1 1] ((ZDa (Fe (.slice (some ⟨bi,0,none⟩) 1 1)))++([(ZDa (Fe ae))]:List (List Nat)).flatten),own 3 1 al B.1.length (eI.encs B.1)]) (by decide) rfl
     obtain ⟨ef,h⟩:=h;refine W1 A ZKd J0 rfl (by decide) (by decide) rfl rfl ef λcx e5 hl A=>Zd (v:=cx) rfl (done (Zr (Ze (Zh (Zm rfl rfl (Za (v:=vI (Zwt.wrap ((ac:Int)+1))) rfl (done ?_)))))))
     exact d8 (ay++[ag]) _ _ ⟨cx,e5,(sl ⟨rfl,rfl,rfl,rfl,rfl,(tr rfl (I1 _ (Z2 ba d7))),trivial⟩),(A.sP [1,2,3,4,5,6,7] rfl)⟩ h
    ·skip;exact⟨cw,(slq rfl),(A.sP [1,2,3,4,5,6,7,8] rfl)⟩
   ·clear A h;rintro ay e_ hm ey ⟨an,a5,ak,A⟩ h;rw [ue ak];refine sr (Zl rfl rfl (dn (ZB9 (Z4 rfl (decide_eq_false (by omega)) ?_))))
    refine ZCo (Zi (Zi (Zy ?_)))
    refine Ze (sr (Za (v:=an) rfl (Zd (v:=an) rfl (dn (ZCi ?_)))))
    exact Zj rfl (Zg rfl) ⟨ay,an,a5,bb,av,rfl,h,(A.Ix 0 rfl),(A.anyX 0 rfl),(λx_ O e6=>A.pdk 1 0 rfl rfl x_ e6 O),(cl.trans a6),(A.Iw 1 rfl),(λx_ O=>(dw x_ O).symm),A.belO⟩ (.inl rfl)
   ·skip;exact⟨.slice (some ⟨bm,0,none⟩) 0 0,((ZDa (Fe (.slice (some ⟨bm,0,none⟩) 0 0)))++([]:List (List Nat)).flatten),(slq rfl),(A.xM [0,3] rfl)⟩
  ·skip;exact⟨.slice (some ⟨cn,0,none⟩) 0 0,.slice (some ⟨bl,0,none⟩) 0 0,((ZDa (Fe (.slice (some ⟨bl,0,none⟩) 0 0)))++([]:List (List Nat)).flatten),(slq rfl),A⟩
def H7 (C:Cx) (V:Alg) (A:Int) (a2:List (List Int)) (K:List (List Int)->Prop):Prop :=
 Z1 (λI (h:(List (List Int))) B=>(Ug C V.degrees (Zwt.wrap (A+1))/\(Ug C V.degrees A/\Hj (⟨C.LV A,C.PL A⟩:ZPy) (a2.getD I Ci) (λL=>Su V L (λO=>Nb (⟨C.LV (Zwt.wrap (A+1)),C.PL (Zwt.wrap (A+1))⟩:ZPy) O (λU=>(Zw (h.length+1) 24/\B (h++[U])))))))) (λ(h:(List (List Int)))=>K h) a2.length 0 []
theorem Zqs (C:Cx) (a0:Alg) (a1:Int) (a2:List (List Int))  {K:List (List Int)->Prop} (h:H7 C a0 a1 a2 K) (w0:World) (q0:TAlg.rep a0 [Ia,Ic] Ib w0) (bw:(blk b0 32 [Ia,Ic]).holds w0) (az:(blk bp0 198 [vQ b0,.map (some mb0)]).holds w0) (bx:(cpx C 125 mb0 D0 F0).holds w0) (bz:∀ b,b∈Ib->b∉(cpx C 125 mb0 D0 F0).fp) (b9:b0∉(cpx C 125 mb0 D0 F0).fp) (a3:bp0∉(cpx C 125 mb0 D0 F0).fp) (q2:(ZFf.sl).rep a2 [Ik] It w0) (ca:∀ b,b∈It->b∉(cpx C 125 mb0 D0 F0).fp) :
  Calls ZCc 118 #[vQ bp0,vI a1,Ik] w0 λe w'=>∃ (r0:List (List Int)) (Ih:Value) (ar:List Nat) (Dz:List Lev) (Fz:List Nat),
   e=.returned (Ih)/\K r0/\(ZCn (ZJh 22 (ZJh 2 (eI.tr))) r0 [Ih] ar).holds w'/\(∀ b,b∈ar->w0.heap.size<=b\/b∈(cpx C 125 mb0 D0 F0).fp)/\(∀ b,b∈ar->b∉(cpx C 125 mb0 Dz Fz).fp)/\CpLe D0 Dz F0 Fz/\(cpx C 125 mb0 Dz Fz).holds w'/\(∀ x,x∈(cpx C 125 mb0 Dz Fz).fp->x∈(cpx C 125 mb0 D0 F0).fp\/w0.heap.size<=x)/\BelO ((cpx C 125 mb0 D0 F0).fp) w0 w':=by
 unfold H7 at h
 refine cof Tryz.func118 rfl 37 Tryz.ntmps118 ?_
 have A:=ZP9 w0 ((cpx C 125 mb0 D0 F0).fp) [cpx C 125 mb0 D0 F0] [ZB8 TAlg a0 [Ia,Ic] Ib,ZB8 (ZFf.sl) a2 [Ik] It,blk b0 32 [Ia,Ic],blk bp0 198 [vQ b0,.map (some mb0)]] (al1 bx) (alc q0 (alc q2 (alc bw (al1 az)))) (al1 (λb_ O=>O)) (ZK0 _ _) (alc (λb_ O=>bz b_ O) (alc (λb_ O=>ca b_ O) (alc (Vr b9) (al1 (Vr a3)))))
 replace A:=A.dAlg 0 rfl;refine sr (Zd (v:=.slice none 0 0) rfl (dn (sr (Yd (sz:=1) A [] [] rfl (λ_=>Jl _) rfl (by decide) λb8 w9 ah A=>?_))))
 replace A:=A.pushM0 (Zz (ZJh 2 (eI.tr)) ([]:List (List Int)) [] []) (Xn _ _) rfl;replace A:=A.gather (c:=ZCn (ZJh 22 (ZJh 2 (eI.tr))) [] [.slice (some ⟨b8,0,none⟩) 0 0] ((ZDa (Fe (.slice (some ⟨b8,0,none⟩) 0 0)))++([]:List (List Nat)).flatten)) (λx_ B=>(Ch.1 B).symm) (λai aj ak=>Xj aj ai (λb_ O aa=>ak b_ aa O))
 refine Zd (v:=.slice (some ⟨b8,0,none⟩) 0 0) rfl (dn (ZB9 (sr (Za (v:=Ik) rfl (Zu A 3 rfl ZKd rfl (Za (v:=vI 0) rfl (dn (ZCf ?_))))))))
 have a4:a2.length<=9223372036854775807:=Yz (A.Iw 3 rfl);refine Yh (S:=(List (List Int))) _ _ (λac ab e_ w_=>∃ (D209:List Lev),∃ (F210:List Nat),∃ (U:Value),∃ (ad:List Nat),Zt e_ [(0,vQ bp0),(1,vI a1),(7,U),(11,Ik),(12,vI (a2.length:Int)),(13,vI (ac:Int))]/\CpLe D0 D209 F0 F210/\Ctx (λc_=>c_∈(cpx C 125 mb0 D0 F0).fp) w0 w_ [ZCn (ZJh 22 (ZJh 2 (eI.tr))) ab [U] ad,cpx C 125 mb0 D209 F210] [ZB8 ZCv.sl a0.images [Ic] Ib,ZB8 TInts a0.degrees [Ia] Ib,ZB8 TAlg a0 [Ia,Ic] Ib,ZB8 (ZFf.sl) a2 [Ik] It,blk b0 32 [Ia,Ic],blk bp0 198 [vQ b0,.map (some mb0)]]) a2.length ?_ ?_ (s0:=[]) ?_ h
 ·clear A h;rintro ac ab e_ ck ci cb ae ⟨D209,F210,U,ad,au,aq,A⟩ h a5;rw [ue au];refine sr (Zl rfl rfl (dn (ZB9 (Z8 rfl (decide_eq_true (by omega)) (ZCd (Ze (ZB9 (ZCf (sr ?_)))))))))
  obtain ⟨cj,cl,av⟩:=Zx (A.Iw 3 rfl) ac ae;refine Yn (len:=a2.length) ZKd If.size (tr rfl av) rfl (ZCq _) (ZC9.2 ae) ?_
  obtain ⟨cm,aw,a6,ax⟩:=Xb (A.Iw 3 rfl) av ac ae;obtain ⟨al,rfl⟩:=ZC7.1 aw;clear aw;rw [Y9 _ _ ae] at ax
  replace A:=A.I0 3 rfl (ZB8 TInts (a2.getD ac Ci) [al] It) (λ_=>ax) (λ_ O=>O)
  refine Ye (al) a6 If rfl (Zd (v:=al) rfl (dn ?_))
  refine Zgj mb0 17 Ym [0,0,0,4,14,0,32,96,224,0,0,1566,0,7710,16382,32766,65534,131071,262143] [8] [0,1,2,3,5,6,7,9,10,12] (by kernel_rfl) (by kernel_rfl) (by kernel_rfl) (λa7 L cn ah=>?_)
  replace A:=A.Iy ah;refine bMR (J5 mb0) 0 (U) rfl L (Zc 19 1) (bMR (J5 mb0) 1 (vQ bp0) rfl L (Zc 19 3) (bMR (J5 mb0) 2 (vI a1) rfl L (Zc 19 7) (Zv (J5 mb0) 3 (vI (Zwt.wrap (a1+1))) rfl rfl (by kernel_rfl) (L 3 rfl) (λw_=>.inl ⟨rfl,by exact Vn rfl rfl⟩) (l9:=(Zc 19 15)) (by kernel_rfl) (bMR (J5 mb0) 5 (vQ bp0) rfl L (Zc 19 47) (Zv (J5 mb0) 6 (vQ bp0) rfl rfl (by kernel_rfl) (L 6 rfl) (λw_=>.inl ⟨rfl,by exact Wu rfl⟩) (l9:=(Zc 19 111)) (by kernel_rfl) (Zv (J5 mb0) 7 (vQ bp0) rfl rfl (by kernel_rfl) (L 7 rfl) (λw_=>.inl ⟨rfl,by exact Yq 0 ZKc rfl Iv.size rfl rfl⟩) (l9:=(Zc 19 239)) (by kernel_rfl) (W0 (J5 mb0) 8 (vQ b0) rfl rfl (by kernel_rfl) (a7 8 rfl) (λw_ ah=>.inl ⟨rfl,by exact Tx (vQ b0) ((A.growC 1 rfl Vg ah).Iw 6 rfl) Iv rfl rfl⟩) (l9:=(Zc 19 495)) (by kernel_rfl) (bMR (J5 mb0) 9 (vQ bp0) rfl L (Zc 19 1007) (bMR (J5 mb0) 10 (vI a1) rfl L (Zc 19 2031) (bMR (J5 mb0) 12 (al) rfl L (Zc 19 6127) (aO 4 rfl ?_)))))))))))
  obtain ⟨a8,h⟩:=h;refine Zf [vQ bp0,vI (Zwt.wrap (a1+1))] _ ZKk rfl rfl rfl (Nc C a0 (Zwt.wrap (a1+1)) a8 _ (Yf (A.Iw 2 rfl) (A.Iw 1 rfl)) (A.Iw 5 rfl) (A.Iw 6 rfl) (A.Ix 1 rfl) (λb_ hb aa=>(Ch.1 hb).elim (λhb=>A.pdk 2 1 rfl rfl b_ hb aa) (λhb=>A.pdk 1 1 rfl rfl b_ hb aa)) (λB=>A.pdk 5 1 rfl rfl _ (ZJp _) B) (λB=>A.pdk 6 1 rfl rfl _ (ZJp _) B)) ?_
  rintro _ cp ⟨cc,D234,F235,rfl,hat242,hle236,hx237,a9,ba⟩;refine rt ?_
  replace A:=A.turnI 1 rfl (ba.belO Vg) hx237 a9;refine done (aK (by first | assumption | exact Sw (by assumption)) (Zc 19 6143) (aO 11 rfl ?_))
  obtain ⟨bb,h⟩:=h;refine Zf [vQ bp0,vI a1] _ ZKk rfl rfl rfl (Nc C a0 a1 bb _ (Yf (A.Iw 2 rfl) (A.Iw 1 rfl)) (A.Iw 5 rfl) (A.Iw 6 rfl) (A.Ix 1 rfl) (λb_ hb aa=>(Ch.1 hb).elim (λhb=>A.pdk 2 1 rfl rfl b_ hb aa) (λhb=>A.pdk 1 1 rfl rfl b_ hb aa)) (λB=>A.pdk 5 1 rfl rfl _ (ZJp _) B) (λB=>A.pdk 6 1 rfl rfl _ (ZJp _) B)) ?_
  rintro _ cq ⟨ce,D246,F247,rfl,hat254,hle248,hx249,bc,bd⟩;refine rt ?_
  replace A:=A.turnI 1 rfl (bd.belO Vg) hx249 bc;refine done (aK (by first | assumption | exact Sw (by assumption)) (Zc 19 8191) (aO 13 rfl ?_))
  obtain ⟨cr,cu,cv,cw,cx,cy,be,bh⟩:=My (A.Ix 1 rfl) hat254;refine Zf [vvP ce,al] _ Tryz.func172 rfl rfl rfl (Zpc (⟨C.LV a1,C.PL a1⟩:ZPy) (a2.getD ac Ci) h _ be bh (A.Iw 0 rfl)) ?_
  rintro _ cz ⟨am,an,rfl,h,bi,bj,bk⟩;refine rt ?_
  replace A:=A.push bk (mapS an am) bi (λb_ O=>by obtain rfl:=Fc.1 O; exact bj)
  refine done (aK (by first | assumption | exact Sw (by assumption)) (Zc 19 16383) (aO 14 rfl (Zf [vQ b0,.map (some an)] _ Tryz.func154 rfl rfl rfl (Zbb a0 am h _ (Yf (A.Iw 2 rfl) (A.Iw 1 rfl)) (A.Iw 5 rfl) (A.Ix 0 rfl)) ?_)))
  rintro _ c0 ⟨ao,ap,rfl,h,bl,bm,bn⟩;refine rt ?_
  replace A:=A.push bn (mapS ap ao) bl (λb_ O=>by obtain rfl:=Fc.1 O; exact bm)
  refine done (aK (by first | assumption | exact Sw (by assumption)) (Zc 19 32767) (aO 15 rfl ?_))
  obtain ⟨c6,c7,c8,c9,da,db,bo,bp⟩:=My (A.Ix 3 rfl) (hat242.up hle248);refine Zf [vvP cc,.map (some ap)] _ Tryz.func85 rfl rfl rfl (Zgl (⟨C.LV (Zwt.wrap (a1+1)),C.PL (Zwt.wrap (a1+1))⟩:ZPy) ao h _ bo bp (A.Ix 0 rfl)) ?_
  rintro _ dc ⟨V,I,cg,rfl,h,bq,br,bs⟩;refine rt ?_
  replace A:=A.push bs (ZCn (ZJh 2 (eI.tr)) V [I] cg) bq br;obtain ⟨bt,bu⟩:=Yx (A.Ix 0 rfl).1;subst bu;replace A:=A.Iz (c:=own 2 1 I V.length (eI.encs V)) (λ_ h_=>h_) (λ_=>bt)
  refine done (aK (by first | assumption | exact Sw (by assumption)) (Zc 19 65535) (aO 16 rfl (Yd (sz:=1) A [(0,I)] [I] rfl (λ_=>Wc I (Va (A.Ix 0 rfl)) _) rfl (by decide) λag dd ah A=>?_)))
  replace A:=A.pushM0 (Zz (ZJh 2 (eI.tr)) [] [] []) (Xn _ _) rfl;replace A:=A.sM [2,0,1,3,4,5,6] (M':=[own 2 1 I V.length (eI.encs V),Zz (ZJh 2 (eI.tr)) [] [] [],own 22 1 (.slice (some ⟨ag,0,none⟩) 1 1) 1 [I],mapS ap ao,mapS an am,ZCn (ZJh 22 (ZJh 2 (eI.tr))) ab [U] ad,cpx C 125 mb0 D246 F247]) (by decide) rfl
  replace A:=A.gather (c:=Zz (ZJh 2 (eI.tr)) [V] [I] [(ZDa (Fe I))]) (λx_ B=>Vf B) (λai aj ak=>W9 (c:=[I]) (id (Xi ai)) aj ak)
  replace A:=A.sM [1,0,2,3,4,5] (M':=[own 22 1 (.slice (some ⟨ag,0,none⟩) 1 1) 1 [I],Zz (ZJh 2 (eI.tr)) [V] [I] [(ZDa (Fe I))],mapS ap ao,mapS an am,ZCn (ZJh 22 (ZJh 2 (eI.tr))) ab [U] ad,cpx C 125 mb0 D246 F247]) (by decide) rfl
  replace A:=A.gather (c:=ZCn (ZJh 22 (ZJh 2 (eI.tr))) [V] [.slice (some ⟨ag,0,none⟩) 1 1] ((ZDa (Fe (.slice (some ⟨ag,0,none⟩) 1 1)))++([(ZDa (Fe I))]:List (List Nat)).flatten)) (λx_ B=>Ch.1 B) (λai aj ak=>Xj ai aj ak)
  refine done (aK (by first | assumption | exact Sw (by assumption)) (Zc 19 131071) (Z5 17 (by decide) (by decide) (by kernel_rfl) (by kernel_rfl) rfl ?_))
  replace A:=A.sM [3,0,1,2,4] (M':=[ZCn (ZJh 22 (ZJh 2 (eI.tr))) ab [U] ad,ZCn (ZJh 22 (ZJh 2 (eI.tr))) [V] [.slice (some ⟨ag,0,none⟩) 1 1] ((ZDa (Fe (.slice (some ⟨ag,0,none⟩) 1 1)))++([(ZDa (Fe I))]:List (List Nat)).flatten),mapS ap ao,mapS an am,cpx C 125 mb0 D246 F247]) (by decide) rfl
  obtain ⟨bv,h⟩:=h;refine W1 A ZKd J0 rfl (by decide) (by decide) rfl rfl bv λay ch de A=>Zd (v:=ay) rfl (done (Z6 (Zr (Ze (Zh (Zm rfl rfl (Za (v:=vI (Zwt.wrap ((ac:Int)+1))) rfl (done ?_))))))))
  exact a5 (ab++[V]) _ _ ⟨D246,F247,ay,ch,(sl ⟨rfl,rfl,rfl,rfl,rfl,(tr rfl (I1 _ (Z2 ae a4))),trivial⟩),((aq.trans hle236).trans hle248),((A.xM [0,3] rfl).sP [1,2,3,4,5,6] rfl)⟩ h
 ·clear A h;rintro ab e_ dg cb ⟨D209,F210,U,ad,au,aq,A⟩ h;rw [ue au];refine sr (Zl rfl rfl (dn (ZB9 (Z4 rfl (decide_eq_false (by omega)) ?_))))
  refine ZCo (Zi (Zi (Zy ?_)))
  refine Ze (sr (Za (v:=U) rfl (Zd (v:=U) rfl (dn (ZCi ?_)))))
  exact Zj rfl (Zg rfl) ⟨ab,U,ad,D209,F210,rfl,h,(A.Ix 0 rfl),(A.anyX 0 rfl),(A.mm 0 1 rfl rfl (by decide)),aq,(A.Ix 1 rfl),(λx_ B=>(A.anyX 1 rfl x_ B).symm),A.belO⟩ (.inl rfl)
 ·skip;exact⟨D0,F0,.slice (some ⟨b8,0,none⟩) 0 0,((ZDa (Fe (.slice (some ⟨b8,0,none⟩) 0 0)))++([]:List (List Nat)).flatten),(slq rfl),(CpX.refl _ _),A⟩
def H8 (C:Cx) (I:Alg) (A:Int) (B:Int) (h:Int) (K:Int->Prop):Prop :=
 (if A=0 then(Ug C I.degrees h/\Sx (⟨C.LV h,C.PL h⟩:ZPy) B (λU=>Nn U (λV=>Sx (⟨C.LV h,C.PL h⟩:ZPy) (Zwt.wrap (B+1)) (λaa=>Nn aa (λab=>K (Zwt.wrap (V - ab))))))) else Se C I (Zwt.wrap (A - 1)) (Zwt.wrap (B+1)) h (λL=>(if h > 0 then Se C I (Zwt.wrap (A - 1)) (Zwt.wrap ((Zwt.wrap (B - A))+1)) (Zwt.wrap (h - 1)) (λac=>H7 C I (Zwt.wrap (h - 1)) ac (λO=>(Zw (L.length+O.length) 24/\Se C I A B h (λad=>Nm (L++O) (λae=>K (Zwt.wrap ((ad.length:Int) - ae))))))) else Se C I A B h (λag=>Nm L (λah=>K (Zwt.wrap ((ag.length:Int) - ah)))))))
theorem Zqt (C:Cx) (a0:Alg) (a1:Int) (U:Int) (O:Int)  {K:Int->Prop} (h:H8 C a0 a1 U O K) (w0:World) (q0:TAlg.rep a0 [Ia,Ic] Ib w0) (cw:(blk b0 32 [Ia,Ic]).holds w0) (a5:(blk bp0 198 [vQ b0,.map (some mb0)]).holds w0) (cx:(cpx C 125 mb0 D0 F0).holds w0) (cy:∀ b,b∈Ib->b∉(cpx C 125 mb0 D0 F0).fp) (cz:b0∉(cpx C 125 mb0 D0 F0).fp) (a6:bp0∉(cpx C 125 mb0 D0 F0).fp) :
  Calls ZCc 64 #[vQ bp0,vI a1,vI U,vI O] w0 λe w'=>∃ (r0:Int) (Dz:List Lev) (Fz:List Nat),
   e=.returned (vI r0)/\K r0/\CpLe D0 Dz F0 Fz/\(cpx C 125 mb0 Dz Fz).holds w'/\(∀ x,x∈(cpx C 125 mb0 Dz Fz).fp->x∈(cpx C 125 mb0 D0 F0).fp\/w0.heap.size<=x)/\BelO ((cpx C 125 mb0 D0 F0).fp) w0 w':=by
 unfold H8 at h
 refine cof Tryz.func64 rfl 60 Tryz.ntmps64 ?_
 have A:=ZP9 w0 ((cpx C 125 mb0 D0 F0).fp) [cpx C 125 mb0 D0 F0] [ZB8 TAlg a0 [Ia,Ic] Ib,blk b0 32 [Ia,Ic],blk bp0 198 [vQ b0,.map (some mb0)]] (al1 cx) (alc q0 (alc cw (al1 a5))) (al1 (λL V=>V)) (ZK0 _ _) (alc (λL V=>cy L V) (alc (Vr cz) (al1 (Vr a6))))
 replace A:=A.dAlg 0 rfl;refine sr (Zd (v:=vI 0) rfl (dn (ZB9 (sr (Za (v:=vI a1) rfl (X6 rfl rfl (dn ?_)))))))
 refine Zs rfl (λai=>?_) (λai=>?_)
 ·replace h:=ift h (ct ai);refine sr (Za (v:=vQ bp0) rfl (Za (v:=vI O) rfl ?_))
  obtain ⟨a7,h⟩:=h;refine Zf [vQ bp0,vI O] _ ZKk rfl rfl rfl (Nc C a0 O a7 _ (Yf (A.Iw 1 rfl) (A.Iw 0 rfl)) (A.Iw 3 rfl) (A.Iw 4 rfl) (A.Ix 0 rfl) (λL hb I=>(Ch.1 hb).elim (λhb=>A.pdk 1 0 rfl rfl L hb I) (λhb=>A.pdk 0 0 rfl rfl L hb I)) (λB=>A.pdk 3 0 rfl rfl _ (ZJp _) B) (λB=>A.pdk 4 0 rfl rfl _ (ZJp _) B)) ?_
  rintro _ dd ⟨aa,c0,c6,rfl,ad,an,a8,a9,ba⟩;refine rt ?_
  replace A:=A.turnI 0 rfl (ba.belO Vg) a8 a9;refine Zd (v:=vvP aa) rfl (dn (sr (Za (v:=vvP aa) rfl (Za (v:=vI U) rfl ?_))))
  obtain ⟨de,dg,dh,di,dj,dk,bb,bc⟩:=My (A.Ix 0 rfl) ad;refine Zf [vvP aa,vI U] _ ZQe rfl rfl rfl (Dd (⟨C.LV O,C.PL O⟩:ZPy) U h _ bb bc) ?_
  rintro _ dm ⟨ae,aj,c7,rfl,h,bd,be,bh⟩;refine rt ?_
  replace A:=A.push bh (ZCn (ZJh 4 EB.tr) ae [aj] c7) bd be;obtain ⟨bi,bj⟩:=Yx (A.Ix 0 rfl).1;subst bj;replace A:=A.Iz (c:=own 4 1 aj ae.length (EB.encs ae)) (λ_ h_=>h_) (λ_=>bi)
  refine Zf [aj] _ ZQn rfl rfl rfl (Zg5 ae h _ (Yu (A.Ix 0 rfl))) ?_
  rintro _ dp ⟨aq,rfl,h,bk⟩;refine rt ?_
  replace A:=A.Iy bk;refine Za (v:=vvP aa) rfl (Za (v:=vI U) rfl (Zm rfl rfl ?_))
  obtain ⟨dq,dr,dt,du,dv,dw,bl,bm⟩:=My (A.Ix 1 rfl) ad;refine Zf [vvP aa,vI (Zwt.wrap (U+1))] _ ZQe rfl rfl rfl (Dd (⟨C.LV O,C.PL O⟩:ZPy) (Zwt.wrap (U+1)) h _ bl bm) ?_
  rintro _ dx ⟨ag,ak,c8,rfl,h,bn,bo,bp⟩;refine rt ?_
  replace A:=A.push bp (ZCn (ZJh 4 EB.tr) ag [ak] c8) bn bo;obtain ⟨bq,br⟩:=Yx (A.Ix 0 rfl).1;subst br;replace A:=A.Iz (c:=own 4 1 ak ag.length (EB.encs ag)) (λ_ h_=>h_) (λ_=>bq)
  refine Zf [ak] _ ZQn rfl rfl rfl (Zg5 ag h _ (Yu (A.Ix 0 rfl))) ?_
  rintro _ dy ⟨ar,rfl,h,bs⟩;refine rt ?_
  replace A:=A.Iy bs;refine X5 rfl rfl (Zd (v:=vI (Zwt.wrap (aq - ar))) rfl (dn ?_))
  refine ZCi (Zn ?_)
  exact Zj rfl (Zg rfl) ⟨Zwt.wrap (aq - ar),c0,c6,rfl,h,an,(A.Ix 2 rfl),(λx_ B=>(A.anyX 2 rfl x_ B).symm),A.belO⟩ (.inl rfl)
 ·replace h:=Zk h (cf ai);refine ZCd (Ze (sr (Za (v:=vQ bp0) rfl (Za (v:=vI a1) rfl (X5 rfl rfl (Za (v:=vI U) rfl (Zm rfl rfl (Za (v:=vI O) rfl (Zf [vQ bp0,vI (Zwt.wrap (a1 - 1)),vI (Zwt.wrap (U+1)),vI O] _ ZP8 rfl rfl rfl (Dq C a0 (Zwt.wrap (a1 - 1)) (Zwt.wrap (U+1)) O h _ (Yf (A.Iw 1 rfl) (A.Iw 0 rfl)) (A.Iw 3 rfl) (A.Iw 4 rfl) (A.Ix 0 rfl) (λL hb I=>(Ch.1 hb).elim (λhb=>A.pdk 1 0 rfl rfl L hb I) (λhb=>A.pdk 0 0 rfl rfl L hb I)) (λB=>A.pdk 3 0 rfl rfl _ (ZJp _) B) (λB=>A.pdk 4 0 rfl rfl _ (ZJp _) B)) ?_)))))))))
  rintro _ dz ⟨al,ab,c9,d0,d1,rfl,h,bt,ao,bu,ah,bv,bw,bx⟩;refine rt ?_
  replace A:=A.turnPush 0 rfl bx bv bw bt (λL V=>(ao L V).symm) bu
  refine Zd (v:=ab) rfl (dn (ZB9 (sr (Za (v:=vI O) rfl (Jn rfl rfl (dn ?_))))))
  refine Zs rfl (λac=>?_) (λac=>?_)
  ·replace h:=ift h (ct ac);refine Zh (Za (v:=ab) rfl (Za (v:=vQ bp0) rfl (Za (v:=vI O) rfl (X5 rfl rfl (Za (v:=vQ bp0) rfl (Za (v:=vI a1) rfl (X5 rfl rfl (Za (v:=vI U) rfl (Za (v:=vI a1) rfl (X5 rfl rfl (Zm rfl rfl (Za (v:=vI O) rfl (X5 rfl rfl (Zf [vQ bp0,vI (Zwt.wrap (a1 - 1)),vI (Zwt.wrap ((Zwt.wrap (U - a1))+1)),vI (Zwt.wrap (O - 1))] _ ZP8 rfl rfl rfl (Dq C a0 (Zwt.wrap (a1 - 1)) (Zwt.wrap ((Zwt.wrap (U - a1))+1)) (Zwt.wrap (O - 1)) h _ (Yf (A.Iw 1 rfl) (A.Iw 0 rfl)) (A.Iw 3 rfl) (A.Iw 4 rfl) (A.Ix 1 rfl) (λL hb I=>(Ch.1 hb).elim (λhb=>A.pdk 1 1 rfl rfl L hb I) (λhb=>A.pdk 0 1 rfl rfl L hb I)) (λB=>A.pdk 3 1 rfl rfl _ (ZJp _) B) (λB=>A.pdk 4 1 rfl rfl _ (ZJp _) B)) ?_))))))))))))))
   rintro _ d2 ⟨au,av,da,d3,d4,rfl,h,bz,hfr102,b8,ap,b9,ca,cb⟩;refine rt ?_
   replace A:=A.turnPush 1 rfl cb b9 ca bz (λL V=>(hfr102 L V).symm) b8
   refine Zf [vQ bp0,vI (Zwt.wrap (O - 1)),av] _ Tryz.func118 rfl rfl rfl (Zqs C a0 (Zwt.wrap (O - 1)) au h _ (Yf (A.Iw 1 rfl) (A.Iw 0 rfl)) (A.Iw 3 rfl) (A.Iw 4 rfl) (A.Ix 2 rfl) (λL hb I=>(Ch.1 hb).elim (λhb=>A.pdk 1 2 rfl rfl L hb I) (λhb=>A.pdk 0 2 rfl rfl L hb I)) (λB=>A.pdk 3 2 rfl rfl _ (ZJp _) B) (λB=>A.pdk 4 2 rfl rfl _ (ZJp _) B) (ZJu _ (A.Ix 0 rfl).1) (λL hb I=>A.mm 0 2 rfl rfl (by decide) L hb I)) ?_
   rintro _ d5 ⟨aw,db,dc,D108,F109,rfl,h,cc,hfr118,ce,hle110,hx111,cg,ch⟩;refine rt ?_
   replace A:=A.turnPush 2 rfl ch hx111 cg cc (λL V=>(hfr118 L V).symm) ce
   replace A:=A.sM [2,0,1,3] (M':=[ZCn (ZJh 22 (ZJh 2 (eI.tr))) al [ab] c9,ZCn (ZJh 22 (ZJh 2 (eI.tr))) aw [db] dc,ZCn (ZJh 22 (ZJh 2 (eI.tr))) au [av] da,cpx C 125 mb0 D108 F109]) (by decide) rfl
   obtain ⟨ci,h⟩:=h;refine W1 A ZKd J0 rfl (by decide) (by decide) rfl rfl ci λam d6 d7 A=>Zd (v:=am) rfl (dn (sr (Za (v:=vQ bp0) rfl (Za (v:=vI a1) rfl (Za (v:=vI U) rfl (Za (v:=vI O) rfl (Zf [vQ bp0,vI a1,vI U,vI O] _ ZP8 rfl rfl rfl (Dq C a0 a1 U O h _ (Yf (A.Iw 1 rfl) (A.Iw 0 rfl)) (A.Iw 3 rfl) (A.Iw 4 rfl) (A.Ix 2 rfl) (λL hb I=>(Ch.1 hb).elim (λhb=>A.pdk 1 2 rfl rfl L hb I) (λhb=>A.pdk 0 2 rfl rfl L hb I)) (λB=>A.pdk 3 2 rfl rfl _ (ZJp _) B) (λB=>A.pdk 4 2 rfl rfl _ (ZJp _) B)) ?_)))))))
   rintro _ d8 ⟨ax,d9,ea,D128,F129,rfl,h,cj,hfr138,ck,hle130,hx131,cl,cm⟩;refine rt ?_
   replace A:=A.turnPush 2 rfl cm hx131 cl cj (λL V=>(hfr138 L V).symm) ck
   refine Qs A 0 rfl ZKd rfl (Za (v:=am) rfl (Zf [am] _ Tryz.func57 rfl rfl rfl (Zg4 (al++aw) h _ (ZJu _ (A.Ix 1 rfl).1)) ?_))
   rintro _ eb ⟨ay,rfl,h,cn⟩;refine rt ?_
   replace A:=A.Iy cn;refine X5 rfl rfl (Zd (v:=vI (Zwt.wrap ((ax.length:Int) - ay))) rfl (dn (ZCi ?_)))
   exact Zj rfl (Zg rfl) ⟨Zwt.wrap ((ax.length:Int) - ay),D128,F129,rfl,h,(((ah.trans ap).trans hle110).trans hle130),(A.Ix 3 rfl),(λx_ B=>(A.anyX 3 rfl x_ B).symm),A.belO⟩ (.inl rfl)
  ·replace h:=Zk h (cf ac);refine ZCd (Ze (sr (Za (v:=vQ bp0) rfl (Za (v:=vI a1) rfl (Za (v:=vI U) rfl (Za (v:=vI O) rfl (Zf [vQ bp0,vI a1,vI U,vI O] _ ZP8 rfl rfl rfl (Dq C a0 a1 U O h _ (Yf (A.Iw 1 rfl) (A.Iw 0 rfl)) (A.Iw 3 rfl) (A.Iw 4 rfl) (A.Ix 1 rfl) (λL hb I=>(Ch.1 hb).elim (λhb=>A.pdk 1 1 rfl rfl L hb I) (λhb=>A.pdk 0 1 rfl rfl L hb I)) (λB=>A.pdk 3 1 rfl rfl _ (ZJp _) B) (λB=>A.pdk 4 1 rfl rfl _ (ZJp _) B)) ?_)))))))
   rintro _ ec ⟨az,ed,ee,D152,F153,rfl,h,cp,hfr162,cq,hle154,hx155,cr,cu⟩;refine rt ?_
   replace A:=A.turnPush 1 rfl cu hx155 cr cp (λL V=>(hfr162 L V).symm) cq
   refine Qs A 0 rfl ZKd rfl (Za (v:=ab) rfl (Zf [ab] _ Tryz.func57 rfl rfl rfl (Zg4 al h _ (ZJu _ (A.Ix 1 rfl).1)) ?_))
   rintro _ ef ⟨a4,rfl,h,cv⟩;refine rt ?_
   replace A:=A.Iy cv;refine X5 rfl rfl (Zd (v:=vI (Zwt.wrap ((az.length:Int) - a4))) rfl (dn (ZCi ?_)))
   exact Zj rfl (Zg rfl) ⟨Zwt.wrap ((az.length:Int) - a4),D152,F153,rfl,h,(ah.trans hle154),(A.Ix 2 rfl),(λx_ B=>(A.anyX 2 rfl x_ B).symm),A.belO⟩ (.inl rfl)
def H9 (C:Cx) (O:Alg) (B:Int) (K:Int->Prop):Prop :=
 (Ug C O.degrees B/\Z1 (λL (h:Int) I=>Na ((C.LV B).getD L Ci) (λA=>I (if h < A then A else h))) (λ(h:Int)=>K h) ((C.LV B).length) 0 0)
theorem Zqu (C:Cx) (a0:Alg) (I:Int)  {K:Int->Prop} (h:H9 C a0 I K) (w0:World) (q0:TAlg.rep a0 [Ia,Ic] Ib w0) (az:(blk b0 32 [Ia,Ic]).holds w0) (ak:(blk bp0 198 [vQ b0,.map (some mb0)]).holds w0) (a2:(cpx C 125 mb0 D0 F0).holds w0) (a3:∀ b,b∈Ib->b∉(cpx C 125 mb0 D0 F0).fp) (a4:b0∉(cpx C 125 mb0 D0 F0).fp) (al:bp0∉(cpx C 125 mb0 D0 F0).fp) :
  Calls ZCc 80 #[vQ bp0,vI I] w0 λe w'=>∃ (r0:Int) (Dz:List Lev) (Fz:List Nat),
   e=.returned (vI r0)/\K r0/\CpLe D0 Dz F0 Fz/\(cpx C 125 mb0 Dz Fz).holds w'/\(∀ x,x∈(cpx C 125 mb0 Dz Fz).fp->x∈(cpx C 125 mb0 D0 F0).fp\/w0.heap.size<=x)/\BelO ((cpx C 125 mb0 D0 F0).fp) w0 w':=by
 unfold H9 at h
 refine cof Tryz.func80 rfl 25 Tryz.ntmps80 ?_
 have A:=ZP9 w0 ((cpx C 125 mb0 D0 F0).fp) [cpx C 125 mb0 D0 F0] [ZB8 TAlg a0 [Ia,Ic] Ib,blk b0 32 [Ia,Ic],blk bp0 198 [vQ b0,.map (some mb0)]] (al1 a2) (alc q0 (alc az (al1 ak))) (al1 (λb_ U=>U)) (ZK0 _ _) (alc (λb_ U=>a3 b_ U) (alc (Vr a4) (al1 (Vr al))))
 replace A:=A.dAlg 0 rfl;refine sr (Zd (v:=vI 0) rfl (dn (sr (Zd (v:=vI 0) rfl (dn (ZB9 (sr (Za (v:=vQ bp0) rfl (Za (v:=vI I) rfl ?_)))))))))
 obtain ⟨am,h⟩:=h;refine Zf [vQ bp0,vI I] _ ZKk rfl rfl rfl (Nc C a0 I am _ (Yf (A.Iw 1 rfl) (A.Iw 0 rfl)) (A.Iw 3 rfl) (A.Iw 4 rfl) (A.Ix 0 rfl) (λb_ hb ad=>(Ch.1 hb).elim (λhb=>A.pdk 1 0 rfl rfl b_ hb ad) (λhb=>A.pdk 0 0 rfl rfl b_ hb ad)) (λV=>A.pdk 3 0 rfl rfl _ (ZJp _) V) (λV=>A.pdk 4 0 rfl rfl _ (ZJp _) V)) ?_
 rintro _ w9 ⟨ba,ae,aa,rfl,ai,aj,an,ao,ap⟩;refine rt ?_
 replace A:=A.turnI 0 rfl (ap.belO Vg) an ao;refine Xd rfl (Z0 0 ZJo rfl Io.size rfl rfl ?_)
 have aq:=A.anyX 0 rfl;replace A:=A.thaw 0 rfl (cpx C 125 mb0 ae aa) id (λ_ U=>U)
 obtain ⟨ab,bb,bc,bd,be,bh,ar,au,a6,a7⟩:=Mz (A.Iw 0 rfl) ai;have av:=au;replace A:=A.I0 0 rfl (ZB8 ((EA .i64).ty.sl) (C.LV I) [ab] aa) (λ_=>av) (λ_ h_=>Tk h_)
 refine Ye (ab) (Jv (off:=0) (sz:=1) ar rfl) Io rfl (Zu A 0 rfl ZJm rfl (Za (v:=vI 0) rfl (dn (ZCf ?_))))
 have aw:(C.LV I).length<=9223372036854775807:=Yz (A.Iw 0 rfl);refine Yh (S:=Int) _ _ (λB L e_ w_=>Zt e_ [(5,vI L),(13,ab),(14,vI ((C.LV I).length:Int)),(15,vI (B:Int))]/\Ctx (λc_=>c_∈(cpx C 125 mb0 D0 F0).fp) w0 w_ [] [ZB8 ((EA .i64).ty.sl) (C.LV I) [ab] aa,cpx C 125 mb0 ae aa,ZB8 ZCv.sl a0.images [Ic] Ib,ZB8 TInts a0.degrees [Ia] Ib,ZB8 TAlg a0 [Ia,Ic] Ib,blk b0 32 [Ia,Ic],blk bp0 198 [vQ b0,.map (some mb0)]]) ((C.LV I).length) ?_ ?_ (s0:=0) ?_ h
 ·clear A h;rintro B L e_ bi a8 a5 O ⟨ag,A⟩ h ax;rw [ue ag];refine sr (Zl rfl rfl (dn (ZB9 (Z8 rfl (decide_eq_true (by omega)) (ZCd (Ze (ZB9 (ZCf (sr ?_)))))))))
  obtain ⟨a9,bj,ah⟩:=Zx (A.Iw 0 rfl) B O;refine Yn (len:=(C.LV I).length) ZJm ag73.size (tr rfl ah) rfl (ZCq _) (ZC9.2 O) (Ji (ZB6 .i64 ((C.LV I).getD B Ci)) (Yi (A.Iw 0 rfl) ah B O) ag73 rfl rfl (Yt A (ZB6 .i64 ZCe) z73 rfl λbk bl bm A=>Z7 (v:=.agg (ZB7 (ZB6 .i64 ((C.LV I).getD B Ci)))) A 0 (ZB6 .i64 ((C.LV I).getD B Ci)) (ZB6 .i64 ((C.LV I).getD B Ci)) rfl ag73.size rfl rfl rfl rfl rfl (ZCh rfl) rfl λbn A=>dn (Zh (Za (v:=vI L) rfl (Yr A 0 (ZB6 .i64 ((C.LV I).getD B Ci)) rfl ag73 rfl rfl rfl (Zf [.agg (ZB7 (ZB6 .i64 ((C.LV I).getD B Ci)))] _ Tryz.func137 rfl rfl rfl (Zgk ((C.LV I).getD B Ci) h _) ?_))))))
  rintro _ bo ⟨ac,rfl,h,ay⟩;refine rt ?_
  replace A:=A.Iy ay;refine Zbr rfl rfl (Zd (v:=vI (if L < ac then ac else L)) rfl (done (Zr (Ze (Zh (Zm rfl rfl (Za (v:=vI (Zwt.wrap ((B:Int)+1))) rfl (done ?_))))))))
  exact ax (if L < ac then ac else L) _ _ ⟨(sl ⟨rfl,rfl,rfl,(tr rfl (I1 _ (Z2 O aw))),trivial⟩),(A.xM [] rfl)⟩ h
 ·clear A h;rintro L e_ bp a5 ⟨ag,A⟩ h;rw [ue ag];refine sr (Zl rfl rfl (dn (ZB9 (Z4 rfl (decide_eq_false (by omega)) ?_))))
  refine ZCo (Zi (Zi (Zy ?_)))
  refine Ze (sr (Za (v:=vI L) rfl (Zd (v:=vI L) rfl (dn (ZCi ?_)))))
  exact Zj rfl (Zg rfl) ⟨L,ae,aa,rfl,h,aj,(A.Iw 1 rfl),(λx_ V=>(aq x_ V).symm),A.belO⟩ (.inl rfl)
 ·skip;exact⟨(slq rfl),A⟩
def No (C:Cx) (B:Alg) (U:Int) (I:Int) (K:List Int->Prop):Prop :=
 H9 C B I (λL=>Xv (λ(h:(List Int)×Int) A=>(if h.2 < Zwt.wrap (L+1) then H8 C B U h.2 I (λO=>(Zw (h.1.length+1) 8/\A (h.1++[O],Zwt.wrap (h.2+1)))) else K h.1)) ([],0))
theorem Zqv (C:Cx) (a0:Alg) (a1:Int) (V:Int)  {K:List Int->Prop} (h:No C a0 a1 V K) (w0:World) (q0:TAlg.rep a0 [Ia,Ic] Ib w0) (aw:(blk b0 32 [Ia,Ic]).holds w0) (ak:(blk bp0 198 [vQ b0,.map (some mb0)]).holds w0) (ax:(cpx C 125 mb0 D0 F0).holds w0) (ay:∀ b,b∈Ib->b∉(cpx C 125 mb0 D0 F0).fp) (az:b0∉(cpx C 125 mb0 D0 F0).fp) (al:bp0∉(cpx C 125 mb0 D0 F0).fp) :
  Calls ZCc 66 #[vQ bp0,vI a1,vI V] w0 λe w'=>∃ (r0:List Int) (Ih:Value) (ad:List Nat) (Dz:List Lev) (Fz:List Nat),
   e=.returned (Ih)/\K r0/\(ZCn (ZJh 2 (eI.tr)) r0 [Ih] ad).holds w'/\(∀ b,b∈ad->w0.heap.size<=b\/b∈(cpx C 125 mb0 D0 F0).fp)/\(∀ b,b∈ad->b∉(cpx C 125 mb0 Dz Fz).fp)/\CpLe D0 Dz F0 Fz/\(cpx C 125 mb0 Dz Fz).holds w'/\(∀ x,x∈(cpx C 125 mb0 Dz Fz).fp->x∈(cpx C 125 mb0 D0 F0).fp\/w0.heap.size<=x)/\BelO ((cpx C 125 mb0 D0 F0).fp) w0 w':=by
 unfold No at h
 refine cof Tryz.func66 rfl 27 Tryz.ntmps66 ?_
 have A:=ZP9 w0 ((cpx C 125 mb0 D0 F0).fp) [cpx C 125 mb0 D0 F0] [ZB8 TAlg a0 [Ia,Ic] Ib,blk b0 32 [Ia,Ic],blk bp0 198 [vQ b0,.map (some mb0)]] (al1 ax) (alc q0 (alc aw (al1 ak))) (al1 (λb_ ae=>ae)) (ZK0 _ _) (alc (λb_ ae=>ay b_ ae) (alc (Vr az) (al1 (Vr al))))
 replace A:=A.dAlg 0 rfl;refine sr (Zd (v:=.slice none 0 0) rfl (dn (sr (Yd (sz:=1) A [] (eI.encs []) rfl (λ_=>U1  _) rfl (by decide) λb7 w8 a3 A=>Zd (v:=.slice (some ⟨b7,0,none⟩) 0 0) rfl (dn (ZB9 (sr (Za (v:=vQ bp0) rfl (Za (v:=vI V) rfl (Zf [vQ bp0,vI V] _ Tryz.func80 rfl rfl rfl (Zqu C a0 V h _ (Yf (A.Iw 1 rfl) (A.Iw 0 rfl)) (A.Iw 3 rfl) (A.Iw 4 rfl) (A.Ix 1 rfl) (λb_ hb O=>(Ch.1 hb).elim (λhb=>A.pdk 1 1 rfl rfl b_ hb O) (λhb=>A.pdk 0 1 rfl rfl b_ hb O)) (λI=>A.pdk 3 1 rfl rfl _ (ZJp _) I) (λI=>A.pdk 4 1 rfl rfl _ (ZJp _) I)) ?_))))))))))
 rintro _ bb ⟨a4,a5,a6,rfl,h,ah,am,an,ao⟩;refine rt ?_
 replace A:=A.turnI 1 rfl ao am an;refine Zm rfl rfl (Za (v:=vI 0) rfl (dn (ZCf ?_)))
 refine Jb (S:=(List Int)×Int) _ (λB e_ w_=>∃ (ab:List Lev),∃ (ac:List Nat),∃ (L:Value),Zt e_ [(0,vQ bp0),(1,vI a1),(2,vI V),(7,L),(13,vI (Zwt.wrap (a4+1))),(14,vI B.2)]/\CpLe D0 ab F0 ac/\Ctx (λc_=>c_∈(cpx C 125 mb0 D0 F0).fp) w0 w_ [own 2 1 L B.1.length (eI.encs B.1),cpx C 125 mb0 ab ac] [ZB8 ZCv.sl a0.images [Ic] Ib,ZB8 TInts a0.degrees [Ia] Ib,ZB8 TAlg a0 [Ia,Ic] Ib,blk b0 32 [Ia,Ic],blk bp0 198 [vQ b0,.map (some mb0)]]) ?_ (s0:=([],0)) ?_ h
 ·clear A h;rintro B e_ bc ba bd ⟨ab,ac,L,a7,ag,A⟩ h ap;rw [ue a7];refine sr (Zl rfl rfl (dn (ZB9 ?_)))
  refine Zs rfl (λaa=>?_) (λaa=>?_)
  ·replace h:=ift h (ct aa);refine ZCd (Ze (ZB9 (ZCf (sr (Za (v:=vI B.2) rfl (Zd (v:=vI B.2) rfl (dn (Zh (Za (v:=L) rfl (Za (v:=vQ bp0) rfl (Za (v:=vI a1) rfl (Za (v:=vI B.2) rfl (Za (v:=vI V) rfl (Zf [vQ bp0,vI a1,vI B.2,vI V] _ Tryz.func64 rfl rfl rfl (Zqt C a0 a1 B.2 V h _ (Yf (A.Iw 1 rfl) (A.Iw 0 rfl)) (A.Iw 3 rfl) (A.Iw 4 rfl) (A.Ix 1 rfl) (λb_ hb O=>(Ch.1 hb).elim (λhb=>A.pdk 1 1 rfl rfl b_ hb O) (λhb=>A.pdk 0 1 rfl rfl b_ hb O)) (λI=>A.pdk 3 1 rfl rfl _ (ZJp _) I) (λI=>A.pdk 4 1 rfl rfl _ (ZJp _) I)) ?_))))))))))))))
   rintro _ be ⟨U,a8,a9,rfl,h,ai,aq,ar,au⟩;refine rt ?_
   replace A:=A.turnI 1 rfl au aq ar;refine Yd (sz:=1) A [(0,vI U)] (eI.encs [U]) rfl (λ_=>M4 U _) rfl (by decide) λbh bi a3 A=>?_
   obtain ⟨av,h⟩:=h;refine Jg A 1 ZCs el2 rfl (by decide) (by decide) rfl (Wl (A.Ix 0 rfl)) (λq hq=>ZDf (E:=eI) _ q hq) rfl rfl av λaj bj A=>?_
   replace A:=Y7 A 1 ((B.1++[U]).length) (eI.encs (B.1++[U])) rfl (by simp) (by first | (simp [ZC1]; done) | simp [ZC1,Enc.encs])
   refine Zd (v:=aj) rfl (done (Zr (Ze (Zh (Zm rfl rfl (Za (v:=vI (Zwt.wrap (B.2+1))) rfl (done ?_)))))))
   exact ap (B.1++[U],Zwt.wrap (B.2+1)) _ _ ⟨a8,a9,aj,(slq rfl),(ag.trans ai),(A.xM [1,2] rfl)⟩ h
  ·replace h:=Zk h (cf aa);refine ZCo (Zi (Zi (Zy ?_)))
   refine Ze (sr (Za (v:=L) rfl (Zd (v:=L) rfl (dn (ZCi ?_)))))
   exact Zj rfl (Zg rfl) ⟨B.1,L,(ZDa (Fe L)),ab,ac,rfl,h,(Xi (A.Ix 0 rfl)),(A.anyX 0 rfl),(A.mm 0 1 rfl rfl (by decide)),ag,(A.Ix 1 rfl),(λx_ I=>(A.anyX 1 rfl x_ I).symm),A.belO⟩ (.inl rfl)
 ·skip;exact⟨a5,a6,.slice (some ⟨b7,0,none⟩) 0 0,(slq rfl),ah,A⟩
def Ga (U:Alg) (h:Int) (K:Int->Int->Prop):Prop :=
 Dp h (λac=>H6 U ac (λL=>(if L=0 then Z1 (λA (ad:Unit) V=>Vt U.degrees (Zwt.wrap (([h].getD A Ci) - 1)) 120 (λaj ae=>(if¬ (ae=true) then K 0 3 else Vt U.degrees ([h].getD A Ci) 120 (λak ag=>(if¬ (ag=true) then K 0 3 else Vt U.degrees (Zwt.wrap (([h].getD A Ci)+1)) 120 (λal ah=>(if¬ (ah=true) then K 0 3 else V ()))))))) (λ(ad:Unit)=>(∃ (C:Cx),Xv (λ(B:Int) aa=>No C U B h (λO=>Z1 (λai (I:Int) ab=>ab (Zwt.wrap (I+(O.getD ai Ci)))) (λ(I:Int)=>(Hq C U h/\(if I=((C.KL h).length:Int) then K B 0 else aa (Zwt.wrap (B+1))))) O.length 0 0)) 0)) ([h].length) 0 () else K 0 L)))
theorem Zqw (a0:Alg) (I:Int)  {K:Int->Int->Prop} (h:Ga a0 I K) (w0:World) (q0:TAlg.rep a0 [Ia,Ic] Ib w0) :
  Calls ZCc 36 #[.agg #[Ia,Ic],vI I] w0 λe w'=>∃ (r0:Int) (r1:Int),
   e=.returned (.tuple #[vI r0,vI r1])/\K r0 r1/\Bel w0 w':=by
 unfold Ga at h
 refine cof Tryz.func36 rfl 45 Tryz.ntmps36 ?_
 have A:=ZCu (X:=Nox) w0 [ZB8 TAlg a0 [Ia,Ic] Ib] (al1 q0);replace A:=A.dAlg 0 rfl;refine sr (Yg (v:=.agg #[Ia,Ic]) A [Ia,Ic] rfl rfl λb4 w6 ax A=>Zd (v:=vI 0) rfl (Zd (v:=vI 0) rfl (dn (sr (Za (v:=vI I) rfl (Mv [vQ b4,vI I,.bool true] Tryz.func62 rfl rfl 27 Tryz.ntmps62 (ZCh rfl) rfl (sr (Zd (v:=.pointer none) rfl (Zd (v:=vI 0) rfl (dn (sr (Za (v:=vQ b4) rfl (Za (v:=.bool true) rfl (Za (v:=.bool true) rfl (Zq 2 12 rfl rfl rfl (Za (v:=vI I) rfl (Zq 2 12 rfl rfl rfl (Zf [vI I] _ Tryz.func112 rfl rfl rfl (Zqr I h _) ?_))))))))))))))))))
 rintro _ c8 ⟨ay,rfl,h,ba⟩;refine rt ?_
 replace A:=A.Iy ba;refine Ya (v:=.bool ay) (b:=true) rfl rfl (Zf [vQ b4,.bool ay] _ Tryz.func75 rfl rfl rfl (Zqq a0 ay h _ (Yf (A.Iw 1 rfl) (A.Iw 0 rfl)) (A.Ix 0 rfl)) ?_)
 rintro _ c9 ⟨aa,rfl,h,bb⟩;refine rt ?_
 replace A:=A.Iy bb;refine Zd (v:=vI aa) rfl (dn (sr (Za (v:=vQ b4) rfl (Mv [vQ b4] Tryz.func113 rfl rfl 7 Tryz.ntmps113 (ZCh rfl) rfl (sr (Zd (v:=.pointer none) rfl (dn (sr (Za (v:=vQ b4) rfl (Md A (vvI .i64) vvP λV da ax A=>Wk [(0,vQ b4),(1,.map (some V))] rfl (Zp5 b4 V  _) (Yg (v:=.agg #[vQ b4,.map (some V)]) A [vQ b4,.map (some V)] rfl rfl λB db ax A=>Zd (v:=vQ B) rfl (dn (ZCi ?_)))))))))))))
 refine Zj (fn:=Tryz.f113) (v:=vQ B) rfl (Zg rfl) ⟨_,rfl,?_⟩ (.inl rfl)
 refine Zd (v:=vQ B) rfl (dn (ZB9 (sr (Za (v:=vI aa) rfl (X6 rfl rfl (dn ?_))))))
 refine Zs rfl (λal=>?_) (λal=>?_)
 ·replace h:=ift h (ct al);refine Zh (Za (v:=vQ B) rfl (Za (v:=vI I) rfl (Yd (sz:=1) A [(0,vI I)] (eI.encs [I]) rfl (λ_=>M4 I _) rfl (by decide) λao dc ax A=>Mv [vQ B,.slice (some ⟨ao,0,none⟩) 1 1] Tryz.func114 rfl rfl 32 Tryz.ntmps114 (ZCh rfl) rfl (sr (Zd (v:=vI 0) rfl (dn (ZB9 (sr (Za (v:=.slice (some ⟨ao,0,none⟩) 1 1) rfl (J3 A 0 rfl ZCs rfl (Za (v:=vI 0) rfl (dn (ZCf ?_)))))))))))))
  have bc:[I].length<=9223372036854775807:=Uv (A.Ix 0 rfl);refine Yh (S:=Unit) _ _ (λL a9 e_ w_=>Zt e_ [(0,vQ B),(7,.slice (some ⟨ao,0,none⟩) 1 1),(8,vI ([I].length:Int)),(9,vI (L:Int))]/\Ctx Nox w0 w_ [own 2 1 (.slice (some ⟨ao,0,none⟩) 1 1) ([I].length) (eI.encs [I]),blk B 198 [vQ b4,.map (some V)],Yb (vvI .i64) vvP V ([]:List (Int×Nat)),blk b4 32 [Ia,Ic]] [ZB8 ZCv.sl a0.images [Ic] Ib,ZB8 TInts a0.degrees [Ia] Ib,ZB8 TAlg a0 [Ia,Ic] Ib]) ([I].length) ?_ ?_ (s0:=()) ?_ h
  ·clear A h;rintro L a9 e_ dd cv cm am ⟨ae,A⟩ h bd;rw [ue ae];refine sr (Zl rfl rfl (dn (ZB9 (Z8 rfl (decide_eq_true (by omega)) (ZCd (Ze (ZB9 (ZCf (sr ?_)))))))))
   obtain ⟨cw,de,az⟩:=Xx (A.Ix 0 rfl) (ZFu (Fq _) am);refine X4 (L * 1) ZCs sc2.size (tr rfl az) rfl (ZCq _) (ZC9.2 am) rfl (Ye (vI ([I].getD L Ci)) (J7 (A.Ix 0 rfl) az L am) sc2 rfl (Zd (v:=vI ([I].getD L Ci)) rfl (dn (sr (Za (v:=vQ B) rfl (Za (v:=vI ([I].getD L Ci)) rfl (X5 rfl rfl (Mv [vQ B,vI (Zwt.wrap (([I].getD L Ci) - 1))] ZQp rfl rfl 20 ZQq (ZCh rfl) rfl (sr (Zd (v:=.bool false) rfl (dn (sr (Za (v:=vQ B) rfl (Xd rfl (Z0 0 ZKc rfl Iv.size rfl rfl (Yc A 1 (vQ b4) rfl Iv rfl rfl (Xd rfl (Z0 0 ZCt rfl If.size rfl rfl (Yc A 3 (Ia) rfl If rfl rfl (Za (v:=vI (Zwt.wrap (([I].getD L Ci) - 1))) rfl (Zf [Ia,vI (Zwt.wrap (([I].getD L Ci) - 1)),vI 120] _ ZQr rfl rfl rfl (Dc a0.degrees (Zwt.wrap (([I].getD L Ci) - 1)) 120 h _ (A.Iw 1 rfl)) ?_)))))))))))))))))))))
   rintro _ dg ⟨a2,ap,cn,ah,rfl,h,be,bh,bi⟩;refine rt ?_
   replace A:=A.push bi (ZCn (ZJh 73 ((EA .i64).tr)) a2 [ap] cn) be bh;obtain ⟨bj,bk⟩:=Yx (A.Ix 0 rfl).1;subst bk;replace A:=A.Iz (c:=own 73 8 ap a2.length ((EA .i64).encs a2)) (λ_ h_=>h_) (λ_=>bj)
   refine Za (v:=.tuple #[ap,.bool ah]) rfl (Y5 (v:=ap) rfl rfl (Y5 (v:=.bool ah) rfl rfl (Zd (v:=ap) rfl (Zd (v:=.bool ah) rfl (dn (sr (Za (v:=.bool ah) rfl (Zd (v:=.bool ah) rfl (dn (ZCi ?_))))))))))
   refine Zj (fn:=Tryz.f171) (v:=.bool ah) rfl (Zg rfl) ⟨_,rfl,?_⟩ (.inl rfl)
   refine Xo rfl (Za (v:=.bool (!ah)) rfl ?_)
   refine Xm (!ah) (λU=>?_) (λU=>?_)
   ·replace h:=ift h (Xe (X1 U));refine Zp (b:=true) 5 18 rfl (tr rfl (I1 _ U)) (by decide) (Zp (b:=true) 5 18 rfl (tr rfl (I1 _ U)) (by decide) (Zp (b:=true) 5 18 rfl (tr rfl (I1 _ U)) (by decide) (Zp (b:=true) 5 18 rfl (tr rfl (I1 _ U)) (by decide) (Ya (v:=.bool true) (b:=true) (tr rfl (I1 _ U)) rfl (Za (v:=.bool true) rfl (Zp (b:=true) 11 24 rfl (tr rfl (I1 _ rfl)) (by decide) (Zp (b:=true) 11 24 rfl (tr rfl (I1 _ rfl)) (by decide) (Zp (b:=true) 11 24 rfl (tr rfl (I1 _ rfl)) (by decide) (Zp (b:=true) 11 24 rfl (tr rfl (I1 _ rfl)) (by decide) (Zp (b:=true) 11 24 rfl (tr rfl (I1 _ rfl)) (by decide) (Ya (v:=.bool true) (b:=true) rfl rfl (dn (Z8 rfl rfl (sr (Zd (v:=vI 3) rfl (dn ?_))))))))))))))))
    refine ZCi (Z9 (Zn (Zn (Z9 (Zn ?_)))))
    refine Zj (fn:=ZQf) (v:=vI 3) rfl (Zg rfl) ⟨_,rfl,?_⟩ (.inl rfl)
    refine Zd (v:=vI 3) rfl (dn (sr (Za (v:=vQ B) rfl (Za (v:=vI 3) rfl (Zd (v:=vQ B) rfl (Zd (v:=vI 3) rfl (dn (ZCi ?_))))))))
    refine Jw (fn:=ZQa) (v:=vQ B) (u:=vI 3) rfl (Zg rfl) (Zg rfl) ⟨_,rfl,?_⟩ (.inl rfl)
    refine Za (v:=.tuple #[vQ B,vI 3]) rfl (Y5 (v:=vQ B) rfl rfl (Y5 (v:=vI 3) rfl rfl (Zd (v:=vQ B) rfl (Zd (v:=vI 3) rfl (dn (ZB9 (sr (Za (v:=vI 3) rfl (Xl rfl rfl (dn (Z8 rfl rfl (sr (Za (v:=vI 3) rfl (Zd (v:=vI 0) rfl (Zd (v:=vI 3) rfl (dn ?_))))))))))))))))
    refine ZCi (Zn ?_)
    exact Jw rfl (Zg rfl) (Zg rfl) ⟨0,3,rfl,h,A.below⟩ (.inl rfl)
   ·replace h:=Zk h (not_not_intro ((X2 U)));refine Zq 5 18 rfl rfl U (Za (v:=vQ B) rfl (Zq 5 18 rfl rfl U (Za (v:=vI ([I].getD L Ci)) rfl (Zq 5 18 rfl rfl U (Mv [vQ B,vI ([I].getD L Ci)] ZQp rfl rfl 20 ZQq (ZCh rfl) rfl (sr (Zd (v:=.bool false) rfl (dn (sr (Za (v:=vQ B) rfl (Xd rfl (Z0 0 ZKc rfl Iv.size rfl rfl (Yc A 2 (vQ b4) rfl Iv rfl rfl (Xd rfl (Z0 0 ZCt rfl If.size rfl rfl (Yc A 4 (Ia) rfl If rfl rfl (Za (v:=vI ([I].getD L Ci)) rfl (Zf [Ia,vI ([I].getD L Ci),vI 120] _ ZQr rfl rfl rfl (Dc a0.degrees ([I].getD L Ci) 120 h _ (A.Iw 1 rfl)) ?_))))))))))))))))))
    rintro _ dh ⟨a3,aq,cp,ag,rfl,h,bl,bm,bn⟩;refine rt ?_
    replace A:=A.push bn (ZCn (ZJh 73 ((EA .i64).tr)) a3 [aq] cp) bl bm;obtain ⟨bo,bp⟩:=Yx (A.Ix 0 rfl).1;subst bp;replace A:=A.Iz (c:=own 73 8 aq a3.length ((EA .i64).encs a3)) (λ_ h_=>h_) (λ_=>bo)
    refine Za (v:=.tuple #[aq,.bool ag]) rfl (Y5 (v:=aq) rfl rfl (Y5 (v:=.bool ag) rfl rfl (Zd (v:=aq) rfl (Zd (v:=.bool ag) rfl (dn (sr (Za (v:=.bool ag) rfl (Zd (v:=.bool ag) rfl (dn (ZCi ?_))))))))))
    refine Zj (fn:=Tryz.f171) (v:=.bool ag) rfl (Zg rfl) ⟨_,rfl,?_⟩ (.inl rfl)
    refine Zq 5 18 rfl rfl U (Xo rfl (Ya (v:=.bool (!ag)) (b:=false) (tr rfl (I1 _ U)) rfl (Za (v:=.bool (!ag)) rfl ?_)))
    refine Xm (!ag) (λO=>?_) (λO=>?_)
    ·replace h:=ift h (Xe (X1 O));refine Zp (b:=true) 11 24 rfl (tr rfl (I1 _ O)) (by decide) (Zp (b:=true) 11 24 rfl (tr rfl (I1 _ O)) (by decide) (Zp (b:=true) 11 24 rfl (tr rfl (I1 _ O)) (by decide) (Zp (b:=true) 11 24 rfl (tr rfl (I1 _ O)) (by decide) (Zp (b:=true) 11 24 rfl (tr rfl (I1 _ O)) (by decide) (Ya (v:=.bool true) (b:=true) (tr rfl (I1 _ O)) rfl (dn (Z8 rfl rfl (sr (Zd (v:=vI 3) rfl (dn ?_))))))))))
     refine ZCi (Z9 (Zn (Zn (Z9 (Zn ?_)))))
     refine Zj (fn:=ZQf) (v:=vI 3) rfl (Zg rfl) ⟨_,rfl,?_⟩ (.inl rfl)
     refine Zd (v:=vI 3) rfl (dn (sr (Za (v:=vQ B) rfl (Za (v:=vI 3) rfl (Zd (v:=vQ B) rfl (Zd (v:=vI 3) rfl (dn (ZCi ?_))))))))
     refine Jw (fn:=ZQa) (v:=vQ B) (u:=vI 3) rfl (Zg rfl) (Zg rfl) ⟨_,rfl,?_⟩ (.inl rfl)
     refine Za (v:=.tuple #[vQ B,vI 3]) rfl (Y5 (v:=vQ B) rfl rfl (Y5 (v:=vI 3) rfl rfl (Zd (v:=vQ B) rfl (Zd (v:=vI 3) rfl (dn (ZB9 (sr (Za (v:=vI 3) rfl (Xl rfl rfl (dn (Z8 rfl rfl (sr (Za (v:=vI 3) rfl (Zd (v:=vI 0) rfl (Zd (v:=vI 3) rfl (dn ?_))))))))))))))))
     refine ZCi (Zn ?_)
     exact Jw rfl (Zg rfl) (Zg rfl) ⟨0,3,rfl,h,A.below⟩ (.inl rfl)
    ·replace h:=Zk h (not_not_intro ((X2 O)));refine Zq 11 24 rfl rfl O (Za (v:=vQ B) rfl (Zq 11 24 rfl rfl O (Za (v:=vI ([I].getD L Ci)) rfl (Zq 11 24 rfl rfl O (Zm rfl rfl (Zq 11 24 rfl rfl O (Mv [vQ B,vI (Zwt.wrap (([I].getD L Ci)+1))] ZQp rfl rfl 20 ZQq (ZCh rfl) rfl (sr (Zd (v:=.bool false) rfl (dn (sr (Za (v:=vQ B) rfl (Xd rfl (Z0 0 ZKc rfl Iv.size rfl rfl (Yc A 3 (vQ b4) rfl Iv rfl rfl (Xd rfl (Z0 0 ZCt rfl If.size rfl rfl (Yc A 5 (Ia) rfl If rfl rfl (Za (v:=vI (Zwt.wrap (([I].getD L Ci)+1))) rfl (Zf [Ia,vI (Zwt.wrap (([I].getD L Ci)+1)),vI 120] _ ZQr rfl rfl rfl (Dc a0.degrees (Zwt.wrap (([I].getD L Ci)+1)) 120 h _ (A.Iw 1 rfl)) ?_))))))))))))))))))))
     rintro _ di ⟨a4,ar,cq,ai,rfl,h,bq,br,bs⟩;refine rt ?_
     replace A:=A.push bs (ZCn (ZJh 73 ((EA .i64).tr)) a4 [ar] cq) bq br;obtain ⟨bt,bu⟩:=Yx (A.Ix 0 rfl).1;subst bu;replace A:=A.Iz (c:=own 73 8 ar a4.length ((EA .i64).encs a4)) (λ_ h_=>h_) (λ_=>bt)
     refine Za (v:=.tuple #[ar,.bool ai]) rfl (Y5 (v:=ar) rfl rfl (Y5 (v:=.bool ai) rfl rfl (Zd (v:=ar) rfl (Zd (v:=.bool ai) rfl (dn (sr (Za (v:=.bool ai) rfl (Zd (v:=.bool ai) rfl (dn (ZCi ?_))))))))))
     refine Zj (fn:=Tryz.f171) (v:=.bool ai) rfl (Zg rfl) ⟨_,rfl,?_⟩ (.inl rfl)
     refine Zq 11 24 rfl rfl O (Xo rfl (Ya (v:=.bool (!ai)) (b:=false) (tr rfl (I1 _ O)) rfl (dn ?_)))
     refine Zs rfl (λav=>?_) (λav=>?_)
     ·replace h:=ift h (Xe (X1 av));refine sr (Zd (v:=vI 3) rfl (dn ?_))
      refine ZCi (Z9 (Zn (Zn (Z9 (Zn ?_)))))
      refine Zj (fn:=ZQf) (v:=vI 3) rfl (Zg rfl) ⟨_,rfl,?_⟩ (.inl rfl)
      refine Zd (v:=vI 3) rfl (dn (sr (Za (v:=vQ B) rfl (Za (v:=vI 3) rfl (Zd (v:=vQ B) rfl (Zd (v:=vI 3) rfl (dn (ZCi ?_))))))))
      refine Jw (fn:=ZQa) (v:=vQ B) (u:=vI 3) rfl (Zg rfl) (Zg rfl) ⟨_,rfl,?_⟩ (.inl rfl)
      refine Za (v:=.tuple #[vQ B,vI 3]) rfl (Y5 (v:=vQ B) rfl rfl (Y5 (v:=vI 3) rfl rfl (Zd (v:=vQ B) rfl (Zd (v:=vI 3) rfl (dn (ZB9 (sr (Za (v:=vI 3) rfl (Xl rfl rfl (dn (Z8 rfl rfl (sr (Za (v:=vI 3) rfl (Zd (v:=vI 0) rfl (Zd (v:=vI 3) rfl (dn ?_))))))))))))))))
      refine ZCi (Zn ?_)
      exact Jw rfl (Zg rfl) (Zg rfl) ⟨0,3,rfl,h,A.below⟩ (.inl rfl)
     ·replace h:=Zk h (not_not_intro ((X2 av)));refine ZCd (Zr (Ze (Zh (Zm rfl rfl (Za (v:=vI (Zwt.wrap ((L:Int)+1))) rfl (done ?_))))))
      exact bd () _ _ ⟨(sl ⟨rfl,rfl,rfl,(tr rfl (I1 _ (Z2 am bc))),trivial⟩),(A.xM [3,4,5,6] rfl)⟩ h
  ·clear A h;rintro a9 e_ dj cm ⟨ae,A⟩ h;rw [ue ae];refine sr (Zl rfl rfl (dn (ZB9 (Z4 rfl (decide_eq_false (by omega)) ?_))))
   refine ZCo (Zi (Zi (Zy ?_)))
   refine Ze (sr (Zd (v:=vI 0) rfl (dn (ZCi ?_))))
   refine Zj (fn:=ZQf) (v:=vI 0) rfl (Zg rfl) ⟨_,rfl,?_⟩ (.inl rfl)
   refine Zd (v:=vI 0) rfl (dn (sr (Za (v:=vQ B) rfl (Za (v:=vI 0) rfl (Zd (v:=vQ B) rfl (Zd (v:=vI 0) rfl (dn (ZCi ?_))))))))
   refine Jw (fn:=ZQa) (v:=vQ B) (u:=vI 0) rfl (Zg rfl) (Zg rfl) ⟨_,rfl,?_⟩ (.inl rfl)
   refine Za (v:=.tuple #[vQ B,vI 0]) rfl (Y5 (v:=vQ B) rfl rfl (Y5 (v:=vI 0) rfl rfl (Zd (v:=vQ B) rfl (Zd (v:=vI 0) rfl (dn (ZB9 (sr (Za (v:=vI 0) rfl (Xl rfl rfl (dn (Z4 rfl rfl (ZCd (Ze (sr (Zd (v:=vI 0) rfl (dn (ZCf ?_)))))))))))))))))
   replace A:=A.thaw 1 rfl (blk B 198 [vQ b4,.map (some V)]) id (λ_ a5=>a5)
   replace A:=A.sM [1,0,2] (M':=[Yb (vvI .i64) vvP V ([]:List (Int×Nat)),own 2 1 (.slice (some ⟨ao,0,none⟩) 1 1) ([I].length) (eI.encs [I]),blk b4 32 [Ia,Ic]]) (by decide) rfl
   obtain ⟨C,h⟩:=h;replace A:=A.Iz (c:=cpx C 125 V [] []) (λx_ au=>by simpa [cpx,Yb] using au) (λh_=>Zo3 h_)
   refine Jb (S:=Int) _ (λab e_ w_=>∃ (D797:List Lev),∃ (F798:List Nat),Zt e_ [(1,vI I),(6,vQ B),(8,vI ab)]/\CpLe [] D797 [] F798/\Ctx Nox w0 w_ [cpx C 125 V D797 F798,blk b4 32 [Ia,Ic]] [blk B 198 [vQ b4,.map (some V)],ZB8 ZCv.sl a0.images [Ic] Ib,ZB8 TInts a0.degrees [Ia] Ib,ZB8 TAlg a0 [Ia,Ic] Ib]) ?_ (s0:=0) ?_ h
   ·clear A h;rintro ab e_ dk cx dm ⟨D797,F798,ae,a6,A⟩ h bv;rw [ue ae];refine ZB9 (ZCf (sr (Zd (v:=vI 0) rfl (dn (ZB9 (sr (Za (v:=vQ B) rfl (Za (v:=vI ab) rfl (Za (v:=vI I) rfl (Zf [vQ B,vI ab,vI I] _ Tryz.func66 rfl rfl rfl (Zqv C a0 ab I h _ (Yf (A.Iw 2 rfl) (A.Iw 1 rfl)) (A.Ix 1 rfl) (A.Iw 0 rfl) (A.Ix 0 rfl) (λb_ hb aj=>(Ch.1 hb).elim (λhb=>A.pdk 2 0 rfl rfl b_ hb aj) (λhb=>A.pdk 1 0 rfl rfl b_ hb aj)) (A.mm 1 0 rfl rfl (by decide) _ (ZJp _)) (λau=>A.pdk 0 0 rfl rfl _ (ZJp _) au)) ?_))))))))))
    rintro _ dp ⟨ac,a7,dq,D807,F808,rfl,h,bw,hfr817,bx,hle809,hx810,bz,b8⟩;refine rt ?_
    replace A:=A.turnPush 0 rfl b8 hx810 bz bw (λb_ a5=>(hfr817 b_ a5).symm) bx
    obtain ⟨b9,ca⟩:=Yx (A.Ix 0 rfl).1;subst ca;replace A:=A.Iz (c:=own 2 1 a7 ac.length (eI.encs ac)) (λ_ h_=>h_) (λ_=>b9)
    refine J3 A 0 rfl ZCs rfl (Za (v:=vI 0) rfl (dn (ZCf ?_)))
    have cb:ac.length<=9223372036854775807:=Uv (A.Ix 0 rfl);refine Yh (S:=Int) _ _ (λad ak e_ w_=>Zt e_ [(1,vI I),(6,vQ B),(8,vI ab),(9,vI ak),(25,a7),(26,vI (ac.length:Int)),(27,vI (ad:Int))]/\Ctx Nox w0 w_ [own 2 1 a7 ac.length (eI.encs ac),cpx C 125 V D807 F808,blk b4 32 [Ia,Ic]] [blk B 198 [vQ b4,.map (some V)],ZB8 ZCv.sl a0.images [Ic] Ib,ZB8 TInts a0.degrees [Ia] Ib,ZB8 TAlg a0 [Ia,Ic] Ib]) ac.length ?_ ?_ (s0:=0) ?_ h
    ·clear A h;rintro ad ak e_ dr cy cr an ⟨ae,A⟩ h cc;rw [ue ae];refine sr (Zl rfl rfl (dn (ZB9 (Z8 rfl (decide_eq_true (by omega)) (ZCd (Ze (ZB9 (ZCf (sr ?_)))))))))
     obtain ⟨cz,dt,a8⟩:=Xx (A.Ix 0 rfl) (ZFu (Fq _) an);refine X4 (ad * 1) ZCs sc2.size (tr rfl a8) rfl (ZCq _) (ZC9.2 an) rfl (Ye (vI (ac.getD ad Ci)) (J7 (A.Ix 0 rfl) a8 ad an) sc2 rfl (Zd (v:=vI (ac.getD ad Ci)) rfl (dn (Zh (Za (v:=vI ak) rfl (Za (v:=vI (ac.getD ad Ci)) rfl (Zm rfl rfl (Zd (v:=vI (Zwt.wrap (ak+(ac.getD ad Ci)))) rfl (done (Zr (Ze (Zh (Zm rfl rfl (Za (v:=vI (Zwt.wrap ((ad:Int)+1))) rfl (done ?_)))))))))))))))
     exact cc (Zwt.wrap (ak+(ac.getD ad Ci))) _ _ ⟨(sl ⟨rfl,rfl,rfl,rfl,rfl,rfl,(tr rfl (I1 _ (Z2 an cb))),trivial⟩),A⟩ h
    ·clear A h;rintro ak e_ du cr ⟨ae,A⟩ h;rw [ue ae];refine sr (Zl rfl rfl (dn (ZB9 (Z4 rfl (decide_eq_false (by omega)) ?_))))
     refine ZCo (Zi (Zi (Zy ?_)))
     refine Ze (sr (Za (v:=vI ak) rfl (Za (v:=vQ B) rfl (Za (v:=vI I) rfl ?_))))
     obtain ⟨ce,h⟩:=h;refine Zf [vQ B,vI I] _ Tryz.func79 rfl rfl rfl (Zp0 C a0 I ce _ (Yf (A.Iw 2 rfl) (A.Iw 1 rfl)) (A.Ix 2 rfl) (A.Iw 0 rfl) (A.Ix 1 rfl) (λb_ hb aj=>(Ch.1 hb).elim (λhb=>A.pdk 2 1 rfl rfl b_ hb aj) (λhb=>A.pdk 1 1 rfl rfl b_ hb aj)) (A.mm 2 1 rfl rfl (by decide) _ (ZJp _)) (λau=>A.pdk 0 1 rfl rfl _ (ZJp _) au) (CpX.rest (a6.trans hle809) Zo2)) ?_
     rintro _ dv ⟨dw,D906,F907,rfl,hat914,hle908,hx909,cg,ch⟩;refine rt ?_
     replace A:=A.turnI 1 rfl ch hx909 cg;refine Xd rfl (Z0 5 ZJo rfl Im.size rfl rfl ?_)
     obtain ⟨dx,dy,dz,d0,d1,cu,ci,c0,c6,cj⟩:=Mz (A.Ix 1 rfl) hat914;have ck:=(cj rfl).2.2;have hnhb921:=Zb4 (A.Ix 1 rfl) hat914;refine Ye (cu) (Jv (off:=5) (sz:=1) ci rfl) Im rfl ?_
     obtain ⟨c7,d2,cl⟩:=Sk ck;refine Sl ZKd (tr rfl cl) (X6 rfl rfl (dn ?_))
     refine Zs rfl (λaw=>?_) (λaw=>?_)
     ·replace h:=ift h (ct aw);refine sr (Za (v:=vI ab) rfl (Zd (v:=vI ab) rfl (Zd (v:=vI 0) rfl (dn ?_))))
      refine ZCi (Z9 (Zn (Zn (Z9 ?_))))
      exact Jw rfl (Zg rfl) (Zg rfl) ⟨ab,0,rfl,h,A.below⟩ (.inl rfl)
     ·replace h:=Zk h (cf aw);refine ZCd (Zr (Ze (Zh (Za (v:=vI ab) rfl (Zm rfl rfl (Zd (v:=vI (Zwt.wrap (ab+1))) rfl (done ?_)))))))
      exact bv (Zwt.wrap (ab+1)) _ _ ⟨D906,F907,(slq rfl),((a6.trans hle809).trans hle908),(A.xM [1,2] rfl)⟩ h
    ·skip;exact⟨(slq rfl),A⟩
   ·skip;exact⟨[],[],(slq rfl),(CpX.refl _ _),(A.xM [0,2] rfl)⟩
  ·skip;exact⟨(slq rfl),A⟩
 ·replace h:=Zk h (cf al);refine ZCd (Ze (sr (Za (v:=vQ B) rfl (Za (v:=vI aa) rfl (Zd (v:=vQ B) rfl (Zd (v:=vI aa) rfl (dn (ZCi ?_))))))))
  refine Jw (fn:=ZQa) (v:=vQ B) (u:=vI aa) rfl (Zg rfl) (Zg rfl) ⟨_,rfl,?_⟩ (.inl rfl)
  refine Za (v:=.tuple #[vQ B,vI aa]) rfl (Y5 (v:=vQ B) rfl rfl (Y5 (v:=vI aa) rfl rfl (Zd (v:=vQ B) rfl (Zd (v:=vI aa) rfl (dn (ZB9 (sr (Za (v:=vI aa) rfl (Xl rfl rfl (dn (Z8 rfl (Zos al) (sr (Za (v:=vI aa) rfl (Zd (v:=vI 0) rfl (Zd (v:=vI aa) rfl (dn ?_))))))))))))))))
  refine ZCi (Zn ?_)
  exact Jw rfl (Zg rfl) (Zg rfl) ⟨0,aa,rfl,h,A.below⟩ (.inl rfl)
def Dr (h:Alg) (B:Int) (K:Bool->Prop):Prop :=
 Hf h 1048576 (λI=>(if I < 0 then K true else Q4 h (λL=>H3 L B (λO U=>Q4 h (λA=>Ga A B (λV aa=>(if V≠O then K false else(if aa≠U then K false else Q4 h (λab=>Mt A ab (λac=>(if¬ (ac=true) then K false else K true)))))))))))
theorem Zqx (a0:Alg) (a1:Int)  {K:Bool->Prop} (h:Dr a0 a1 K) (w0:World) (q0:TAlg.rep a0 [Ia,Ic] Ib w0) :
  Calls ZCc 9 #[.agg #[Ia,Ic],vI a1] w0 λe w'=>∃ (r0:Bool),
   e=.returned (.bool r0)/\K r0/\Bel w0 w':=by
 unfold Dr at h
 refine cof Tryz.func9 rfl 44 Tryz.ntmps9 ?_
 have A:=ZCu (X:=Nox) w0 [ZB8 TAlg a0 [Ia,Ic] Ib] (al1 q0);replace A:=A.dAlg 0 rfl;refine sr (Yg (v:=.agg #[Ia,Ic]) A [Ia,Ic] rfl rfl λb4 w6 O A=>Zd (v:=.bool false) rfl (dn (sr (Zd (v:=vI 1048576) rfl (dn (sr (Yr A 0 [Ia,Ic] rfl Di rfl rfl rfl (Za (v:=vI 1048576) rfl (Zf [.agg #[Ia,Ic],vI 1048576] _ Tryz.func10 rfl rfl rfl (Znz a0 1048576 h _ (Yf (A.Iw 1 rfl) (A.Iw 0 rfl))) ?_)))))))))
 rintro _ w9 ⟨ao,rfl,h,ap⟩;refine rt ?_
 replace A:=A.Iy ap;refine Zd (v:=vI ao) rfl (dn (ZB9 (sr (Za (v:=vI ao) rfl (Zl rfl rfl (dn ?_))))))
 refine Zs rfl (λag=>?_) (λag=>?_)
 ·replace h:=ift h (ct ag);refine sr (Zd (v:=.bool true) rfl (dn ?_))
  refine ZCi (Zn ?_)
  exact Zj rfl (Zg rfl) ⟨true,rfl,h,A.below⟩ (.inl rfl)
 ·replace h:=Zk h (cf ag);refine ZCd (Ze (sr (Yr A 0 [Ia,Ic] rfl Di rfl rfl rfl (Zf [.agg #[Ia,Ic]] _ Tryz.func12 rfl rfl rfl (Zbh a0 h _ (Yf (A.Iw 1 rfl) (A.Iw 0 rfl))) ?_))))
  rintro _ bu ⟨ab,aj,ak,bn,rfl,h,aq,ar,au⟩;refine rt ?_
  replace A:=A.push au (ZCn (Mf 2 162 55) ab [aj,ak] bn) aq ar;obtain ⟨bo,av,aw,ax,ay,az⟩:=Zaw (A.Ix 0 rfl);replace A:=A.split (a:=own 2 1 aj ab.degrees.length (eI.encs ab.degrees)) (b:=ZCn (ZJh 55 (Y0 162)) ab.images [ak] bo) ax ay ⟨av,aw,az⟩;refine Za (v:=vI a1) rfl (Zf [.agg #[aj,ak],vI a1] _ Tryz.func35 rfl rfl rfl (Zqi ab a1 h _ (Yf (Yu (A.Ix 0 rfl)) (ZJu _ (A.Ix 1 rfl).1))) ?_)
  rintro _ bv ⟨U,ac,rfl,h,a2⟩;refine rt ?_
  replace A:=A.Iy a2;refine Za (v:=.tuple #[vI U,vI ac]) rfl (Y5 (v:=vI U) rfl rfl (Y5 (v:=vI ac) rfl rfl (Zd (v:=vI U) rfl (Zd (v:=vI ac) rfl (dn (sr (Yr A 2 [Ia,Ic] rfl Di rfl rfl rfl (Zf [.agg #[Ia,Ic]] _ Tryz.func12 rfl rfl rfl (Zbh a0 h _ (Yf (A.Iw 1 rfl) (A.Iw 0 rfl))) ?_))))))))
  rintro _ bw ⟨V,I,L,bp,rfl,h,a3,a4,a5⟩;refine rt ?_
  replace A:=A.push a5 (ZCn (Mf 2 162 55) V [I,L] bp) a3 a4;obtain ⟨bq,a6,a7,a8,a9,ba⟩:=Zaw (A.Ix 0 rfl);replace A:=A.split (a:=own 2 1 I V.degrees.length (eI.encs V.degrees)) (b:=ZCn (ZJh 55 (Y0 162)) V.images [L] bq) a8 a9 ⟨a6,a7,ba⟩;refine Yt A [.slice none 0 0,.slice none 0 0] z32 rfl λbx bz O A=>Z7 (v:=.agg #[I,L]) A 0 [I,L] [I,L] rfl ag32.size rfl rfl rfl rfl (Xy (Jc (A.Ix 1 rfl)) (Xy (Sn (ZJu _ (A.Ix 2 rfl).1)) rfl)) (ZCh rfl) rfl λb8 A=>dn (sr (Yr A 0 [I,L] rfl ag32 rfl rfl rfl (Za (v:=vI a1) rfl (Zf [.agg #[I,L],vI a1] _ Tryz.func36 rfl rfl rfl (Zqw V a1 h _ (Yf (Yu (A.Ix 1 rfl)) (ZJu _ (A.Ix 2 rfl).1))) ?_))))
  rintro _ b9 ⟨aa,ad,rfl,h,bb⟩;refine rt ?_
  replace A:=A.Iy bb;refine Za (v:=.tuple #[vI aa,vI ad]) rfl (Y5 (v:=vI aa) rfl rfl (Y5 (v:=vI ad) rfl rfl (Zd (v:=vI aa) rfl (Zd (v:=vI ad) rfl (dn (ZB9 (sr (Za (v:=vI aa) rfl (Za (v:=vI U) rfl (Xl rfl rfl (Za (v:=.bool (decide (aa≠U))) rfl ?_)))))))))))
  refine Xm (decide (aa≠U)) (λB=>?_) (λB=>?_)
  ·replace h:=ift h (ct B);refine Zp (b:=true) 3 34 rfl (tr rfl (I1 _ B)) (by decide) (Zp (b:=true) 3 34 rfl (tr rfl (I1 _ B)) (by decide) (Zp (b:=true) 3 34 rfl (tr rfl (I1 _ B)) (by decide) (Ya (v:=.bool true) (b:=true) (tr rfl (I1 _ B)) rfl (dn (Z8 rfl rfl (sr (Zd (v:=.bool false) rfl (dn ?_))))))))
   refine ZCi (Zn ?_)
   exact Zj rfl (Zg rfl) ⟨false,rfl,h,A.below⟩ (.inl rfl)
  ·replace h:=Zk h (cf B);refine Zq 3 34 rfl rfl B (Za (v:=vI ad) rfl (Zq 3 34 rfl rfl B (Za (v:=vI ac) rfl (Zq 3 34 rfl rfl B (Xl rfl rfl (Ya (v:=.bool (decide (ad≠ac))) (b:=false) (tr rfl (I1 _ B)) rfl (dn ?_)))))))
   refine Zs rfl (λah=>?_) (λah=>?_)
   ·replace h:=ift h (ct ah);refine sr (Zd (v:=.bool false) rfl (dn ?_))
    refine ZCi (Zn ?_)
    exact Zj rfl (Zg rfl) ⟨false,rfl,h,A.below⟩ (.inl rfl)
   ·replace h:=Zk h (cf ah);refine ZCd (Ze (ZB9 (ZB9 ?_)))
    refine cwd 3 Ym [0,0,2,7,15] [0,1] [] (λal bt ca O=>?_)
    replace A:=A.Iy O;refine bL 0 (.agg #[I,L]) rfl rfl al (λ_ O=>by exact Y6 (A.Iy O) 0 [I,L] rfl ag32 rfl rfl rfl) (Zc 5 1) (bL 1 (.agg #[Ia,Ic]) rfl rfl al (λ_ O=>by exact Y6 (A.Iy O) 5 [Ia,Ic] rfl Di rfl rfl rfl) (Zc 5 3) (aO 2 rfl (Zf [.agg #[Ia,Ic]] _ Tryz.func12 rfl rfl rfl (Zbh a0 h _ (Yf (A.Iw 1 rfl) (A.Iw 0 rfl))) ?_)))
    rintro _ cb ⟨ae,am,an,br,rfl,h,bc,bd,be⟩;refine rt ?_
    replace A:=A.push be (ZCn (Mf 2 162 55) ae [am,an] br) bc bd;obtain ⟨bs,bh,bi,bj,bk,bl⟩:=Zaw (A.Ix 0 rfl);replace A:=A.split (a:=own 2 1 am ae.degrees.length (eI.encs ae.degrees)) (b:=ZCn (ZJh 55 (Y0 162)) ae.images [an] bs) bj bk ⟨bh,bi,bl⟩;refine done (aK (by assumption) (Zc 5 7) (Z5 3 (by decide) (by decide) (by kernel_rfl) (by kernel_rfl) rfl (Zf [.agg #[I,L],.agg #[am,an]] _ Tryz.func15 rfl rfl rfl (Zn1 V ae h _ (Yf (Yu (A.Ix 3 rfl)) (ZJu _ (A.Ix 4 rfl).1)) (Yf (Yu (A.Ix 0 rfl)) (ZJu _ (A.Ix 1 rfl).1))) ?_)))
    rintro _ cc ⟨ce,rfl,h,bm⟩;refine rt ?_
    replace A:=A.Iy bm;refine Xo rfl (done (Z6 (Ze ?_)))
    refine Zs rfl (λai=>?_) (λai=>?_)
    ·replace h:=ift h (Xe (X1 ai));refine sr (Zd (v:=.bool false) rfl (dn ?_))
     refine ZCi (Zn ?_)
     exact Zj rfl (Zg rfl) ⟨false,rfl,h,A.below⟩ (.inl rfl)
    ·replace h:=Zk h (not_not_intro ((X2 ai)));refine ZCd (Ze (sr (Zd (v:=.bool true) rfl (dn (ZCi ?_)))))
     exact Zj rfl (Zg rfl) ⟨true,rfl,h,A.below⟩ (.inl rfl)
end Go.Proofs.YtaagfepgbofmlaaGreat
namespace Go.Proofs.YtaagfepgbofmlaaGreat
open Go Vc
def goN:Nat->Nat->Nat->Nat->Nat
 | 0,_,o,_=>o
 | f+1,x,o,k=>if k=0 then o else goN f (x * x % 10007) (if k % 2=1 then o * x % 10007 else o) (k / 2)
def Uk (x:Nat):Nat:=goN 14 x 1 10005
def chk (a:Nat):Bool:=(C9 101).all λb=>(101 * a+b == 0) || Nat.blt 10006 (101 * a+b) || (101 * a+b) * Uk (101 * a+b) % 10007 == 1
theorem Zqy:(C9 100).all chk=true:=by decide +kernel
theorem Zqz {x:Nat} (A:1<=x) (B:x<=10006):x * Uk x % 10007=1:=by
 have h:=List.all_eq_true.1 Zqy (x / 101) (Zvt.2 (by omega))
 have h':=List.all_eq_true.1 h (x % 101) (Zvt.2 (by omega))
 have e:101 * (x / 101)+x % 101=x:=Nat.div_add_mod x 101;rw [e] at h'
 simp only [Bool.or_eq_true,beq_iff_eq] at h'
 rcases h' with (q | q) | q
 ·omega
 ·rw [Nat.blt_eq] at q; omega
 ·exact q
theorem Zq0 (f x o:Nat):goN f x o 0=o:=by
 cases f with
 | zero=>rfl
 | succ f=>rw [goN,if_pos rfl]
theorem Zq1 {f x o k:Nat} (hk:k≠0):goN (f+1) x o k=goN f (x * x % 10007) (if k % 2=1 then o * x % 10007 else o) (k / 2):=by
 rw [goN,if_neg hk]
theorem Zq2:∀ (f x o k:Nat),o<=10006->goN f x o k<=10006:=by
 intro f
 induction f with
 | zero=>intro x o k h; exact h
 | succ f ih =>
  intro x o k h;rw [goN];split
  ·exact h
  ·refine ih _ _ _ ?_
   split
   ·omega
   ·exact h
theorem Zg6 (x:Nat):Uk x<=10006:=Zq2 _ _ _ _ (by omega)
theorem Zq3 {a b:Nat} (ha:a<=10006) (hb:b<=10006):a * b<=100120036:=Nat.mul_le_mul ha hb
theorem Zg7 {a b:Nat} (ha:a<=10006) (hb:b<=10006):Fa (Zwt.wrap ((a:Int) * (b:Int))) 10007=((a * b % 10007:Nat):Int):=by
 have h:=Zq3 ha hb;rw [show (a:Int) * (b:Int)=((a * b:Nat):Int) by simp,i64_in _ (by omega),ZFp (by omega)]
 rfl
def InvSt (x:Nat) (X O k:Int):Prop:=∃ (f x' o' k':Nat),X=x'/\O=o'/\k=k'/\x'<=10006/\o'<=10006/\(k' < 2 ^ f/\k'<=10005)/\goN f x' o' k'=Uk x
theorem InvSt.start {x:Nat} (hx:x<=10006):InvSt x x 1 10005:=⟨14,x,1,10005,rfl,rfl,rfl,hx,by omega,⟨by decide,by omega⟩,rfl⟩
theorem InvSt.step {x:Nat} {X O k:Int} (h:InvSt x X O k) (hk:k > 0) :
  InvSt x (Fa (Zwt.wrap (X * X)) 10007) (if Fa k 2=1 then Fa (Zwt.wrap (O * X)) 10007 else O) (Zwt.wrap (Int.tdiv k 2))/\(Zwt.wrap (Int.tdiv k 2)).toNat < k.toNat:=by
 obtain ⟨f,x',o',k',rfl,rfl,rfl,A,U,⟨B,h5⟩,I⟩:=h;have L:k'≠0:=by omega
 cases f with
 | zero=>simp at B; omega
 | succ f =>
  rw [Zq1 L] at I
  have V:Int.tdiv (k':Int) 2=((k' / 2:Nat):Int):=by rw [Int.tdiv_eq_ediv_of_nonneg (by omega)]; rfl
  have e2:(Fa (k':Int) 2=1)↔k' % 2=1:=by rw [ZFp (by omega)]; omega
  rw [V,Zg7 A A,i64_in ((k' / 2:Nat):Int) (by omega)]
  refine⟨⟨f,_,if k' % 2=1 then o' * x' % 10007 else o',k' / 2,rfl,?_,rfl,by omega,?_,⟨?_,by omega⟩,I⟩,by omega⟩
  ·by_cases q:k' % 2=1
   ·rw [if_pos q,if_pos (e2.2 q),Zg7 U A]
   ·rw [if_neg q,if_neg (λz=>q (e2.1 z))]
  ·split <;> omega
  ·rw [Nat.pow_succ] at B; omega
theorem InvSt.done {x:Nat} {X O k:Int} (h:InvSt x X O k) (hk:¬ k > 0):O=Uk x:=by
 obtain ⟨f,x',o',k',rfl,rfl,rfl,B,I,⟨L,U⟩,A⟩:=h;obtain rfl:k'=0:=by omega
 rw [Zq0] at A; rw [A]
theorem Zq4 {x:Nat} (hx:x<=10006) {K:Int->Prop} (h:K (Uk x)):Hm (x:Int) K:=by
 unfold Hm;refine Jj (λ(s:Int×Int×Int)=>InvSt x s.1 s.2.1 s.2.2) (λs=>s.2.2.toNat) ?_ (InvSt.start hx)
 rintro ⟨X,O,k⟩ next g hn;dsimp only at g hn ⊢
 by_cases hk:k > 0
 ·refine Y4 hk ?_
  obtain ⟨A,B⟩:=g.step hk;by_cases q:Fa k 2=1
  ·rw [if_pos q] at A
   exact Y4 q (hn _ A B)
  ·rw [if_neg q] at A
   exact Y8 q (hn _ A B)
 ·refine Y8 hk ?_
  rw [g.done hk]; exact h
theorem Zq5 {x:Nat} (hx:x<=10006) {K:Int->Prop} (h:K (Uk x)):Ni (x:Int) K:=by
 unfold Ni;refine Jj (λ(s:Int×Int×Int)=>InvSt x s.2.1 s.1 s.2.2) (λs=>s.2.2.toNat) ?_ (InvSt.start hx)
 rintro ⟨O,X,k⟩ next g hn;dsimp only at g hn ⊢
 by_cases hk:k > 0
 ·refine Y4 hk ?_
  obtain ⟨A,B⟩:=g.step hk;by_cases q:Fa k 2=1
  ·rw [if_pos q] at A
   exact Y4 q (hn _ A B)
  ·rw [if_neg q] at A
   exact Y8 q (hn _ A B)
 ·refine Y8 hk ?_
  rw [g.done hk]; exact h
def X3 (n:Nat) (rows:List (List Int)):Prop:=∀ a,a∈rows->RowOk n a
theorem Vh (a:List Int) (j:Nat):a.getD j Ci=vec a j:=rfl
theorem M9 (w:List (List Int)) (i:Nat):w.getD i Ci=at_ w i:=rfl
theorem Zcb {a b:Int} (ha:0<=a/\a<=10006) (hb:0<=b/\b<=10006):0<=a * b/\a * b<=100120036:=⟨Int.mul_nonneg ha.1 hb.1,Int.mul_le_mul ha.2 hb.2 hb.1 (by omega)⟩
theorem La {a:List Int} {i:Nat} (hi:i < a.length) (x:Int) (j:Nat):vec (a.set i x) j=if j=i then x else vec a j:=by
 unfold vec;simp only [Co];by_cases e:j=i
 ·subst e; rw [if_pos rfl,List.getElem?_set_self hi]; rfl
 ·rw [if_neg e,List.getElem?_set_ne (λz=>e z.symm)]
theorem Zcc {n:Nat} {a b r:List Int} (hl:r.length=n) (hb:b.length=n) (h:∀ j,j < n->vec r j=vec b j):r=b :=
 Gz (hl.trans hb.symm) λj=>by
  by_cases q:j < n
  ·exact h j q
  ·rw [Xs (by omega),Xs (by omega)]
theorem Zg8 {a:List Int} {K:List Int->Prop} (hl:a.length<=1000000) (h:K a):Hl a K :=
 ⟨λe=>e ▸ h,by unfold Zw; omega,h⟩
theorem Zg9 {n:Nat} {a b:List Int} {k:Int} {K:List Int->Prop} (ha:RowOk n a) (hb:RowOk n b) (hk:0<=k/\k<=10006) (h:K (subR k a b)):M1 a b k K:=by
 unfold M1;have hl:=ha.len.trans hb.len.symm;refine Yp (λi (s:List Int)=>s.length=n/\∀ j,vec s j=if j < i then(vec a j - k * vec b j) % 10007 else vec a j) b.length ?_ ?_ _ _ _ (by omega) ⟨ha.len,λj=>by rw [if_neg (by omega)]⟩
 ·rintro i s next hi ⟨B,A⟩ hn;have hi':i < n:=by rw [<- hb.len]; exact hi
  have I:s.getD i Ci=vec a i:=by rw [Vh,A,if_neg (by omega)]
  have pb:=Zcb hk (hb.rng i);have ra:=ha.rng i;rw [I,Vh b i,i64_in (k * vec b i) (by omega),ZFp pb.1,i64_in _ (by omega)]
  refine⟨by omega,Zbk ⟨by omega,hn _ ⟨by rw [ZC4]; exact B,λj=>?_⟩⟩⟩
  rw [La (by omega),A]
  by_cases e:j=i
  ·subst e; rw [if_pos rfl,if_pos (by omega)]; omega
  ·rw [if_neg e];by_cases c:j < i
   ·rw [if_pos c,if_pos (by omega)]
   ·rw [if_neg c,if_neg (by omega)]
 ·rintro s ⟨B,A⟩;have:s=subR k a b:=Zcc (a:=a) B (by rw [Lr hl,ha.len]) λj hj=>by rw [A,if_pos (by rw [hb.len]; exact hj),Vm hl]
  rw [this]; exact h
theorem Zcd {n:Nat} {a b:List Int} {k:Int} {K:List Int->Prop} (ha:RowOk n a) (hb:RowOk n b) (I:n<=1000000) (hk:0<=k/\k<=10006) (h:K (subR k a b)):Jt a b k K:=by
 unfold Jt;have hl:=ha.len.trans hb.len.symm;have hla:=ha.len;refine⟨by omega,?_⟩
 rw [ZPx];refine Yp (λi (s:List Int)=>s.length=n/\∀ j,j < i->vec s j=(vec a j - k * vec b j) % 10007) a.length ?_ ?_ _ _ _ (by omega) ⟨by simp [hla],λj hj=>by omega⟩
 ·rintro i s next hi ⟨A,B⟩ hn;have pb:=Zcb hk (hb.rng i);have ra:=ha.rng i;rw [Vh a i,Vh b i,i64_in (k * vec b i) (by omega),i64_in _ (by omega)]
  refine⟨by omega,T8 ⟨by omega,hn _ ⟨by rw [ZC4]; exact A,λj hj=>?_⟩⟩⟩
  rw [La (by omega)]
  by_cases e:j=i
  ·subst e; rw [if_pos rfl]
  ·rw [if_neg e]; exact B j (by omega)
 ·rintro s ⟨A,B⟩;have:s=subR k a b:=Zcc (a:=a) A (by rw [Lr hl,ha.len]) λj hj=>by rw [B j (by omega),Vm hl]
  rw [this]; exact h
theorem Zha {a:List Int} {K:Int->Prop} (hl:a.length<=1000000) (h:ld a < a.length->K (ld a)) (A:(∀ j,vec a j=0)->K (-1)):V4 a K:=by
 unfold V4;refine Yp (λi (s:Unit)=>∀ j,j < i->vec a j=0) a.length ?_ ?_ _ _ _ (by omega) (λj hj=>by omega)
 ·intro i s next hi g hn;rw [Vh];by_cases q:vec a i≠0
  ·refine Y4 q ?_
   have e:=Tp (λj hj=>g j hj) q
   have:=h (by rw [e]; exact hi)
   rwa [e] at this
  ·refine Y8 q (hn _ λj hj=>?_)
   by_cases e:j=i
   ·subst e; exact Zxc.1 q
   ·exact g j (by omega)
 ·intro s g
  exact A λj=>by
   by_cases q:j < a.length
   ·exact g j q
   ·exact Xs (by omega)
theorem Zce {n:Nat} {a:List Int} {K:Int->Prop} (hn:n<=1000000) (ha:RowOk n a/\vec a (ld a)=1) (h:K (ld a)):V4 a K :=
 Zha (by rw [ha.1.len]; exact hn) (λ_=>h) λz=>by have:=z (ld a); rw [ha.2] at this; exact absurd this (by decide)
theorem Zhb {n:Nat} {row:List Int} {out:List (List Int)} {K:List Int->Prop} (A:Rref n out) (hn:n<=1000000) (ho:out.length<=1000000) (hr:RowOk n row) (h:∀ r,IsBy n out row r->K r):Nh row out K:=by
 unfold Nh;refine Yp (λi (s:List Int)=>IsBy n (out.take i) row s) out.length ?_ ?_ _ _ _ (by omega) (by simpa using IsBy.nil hr)
 ·intro i s next hi g hn';have hm:=Yw (l:=out) hi;have hz:=A.ok _ hm;have hlz:=Qi hz;refine Zce hn hz ⟨⟨by omega,by rw [g.ok.len]; omega⟩,?_⟩
  rw [ZPx,Vh s]
  have hsp:out.take i++out.getD i Ci::out.drop (i+1)=out:=by
   rw [show out.getD i Ci=out[i] by simp [Co,hi],ZRj hi,Zya]
  have hR':Rref n (out.take i++out.getD i Ci::out.drop (i+1)):=by rw [hsp]; exact A
  by_cases q:vec s (ld (out.getD i Ci))≠0
  ·refine Y4 q ⟨⟨by omega,by rw [g.ok.len]; omega⟩,Zcd g.ok hz.1 hn (g.ok.rng _) (hn' _ ?_)⟩
   rw [Xk hi]; exact g.step hR'
  ·refine Y8 q (hn' _ ?_)
   rw [Xk hi]; exact g.same hR' (Zxc.1 q)
 ·intro s g;rw [ZP0] at g; exact h s g
theorem Zhc (n:Nat):RowOk n (Cd n (0:Int)):=⟨by simp,λj=>by
 have:vec (Cd n (0:Int)) j=0:=by
  by_cases q:j < n
  ·rw [U5 (by simpa using q)]; simp
  ·exact Xs (by simp; omega)
 omega⟩
theorem Np (n j:Nat):vec (Cd n (0:Int)) j=0:=by
 by_cases q:j < n
 ·rw [U5 (by simpa using q)]; simp
 ·exact Xs (by simp; omega)
theorem Zq6 {n:Nat} {r:List Int} {k:Int} (hr:RowOk n r):subR ((0 - k) % 10007) (Cd n (0:Int)) r=Xt k r:=by
 have hl:(Cd n (0:Int)).length=r.length:=by simp [hr.len]
 refine(Ny (Zhc n) hr).ext (Nz hr) λj=>?_
 rw [Vm hl,V7,Np];have e:((0 - k) % 10007 * vec r j) % 10007=((0 - k) * vec r j) % 10007:=by rw [Ct,F4,<- Ct]
 have h:(0 - k) * vec r j=- (vec r j * k):=by rw [Int.zero_sub,Int.neg_mul,Int.mul_comm]
 rw [h] at e
 generalize (0 - k) % 10007 * vec r j=x at *
 generalize vec r j * k=y at *
 omega
theorem Zcf {x:Int} (h:1<=x/\x<=10006):x * ((Uk x.toNat:Nat):Int) % 10007=1:=by
 have e:x=((x.toNat:Nat):Int):=by omega
 have:=Zqz (x:=x.toNat) (by omega) (by omega)
 rw [e,ZPx];rw [<- Int.natCast_mul]
 have A:((x.toNat * Uk x.toNat % 10007:Nat):Int)=1:=by rw [this]; rfl
 rw [<- A]; rfl
theorem Zhd {n:Nat} {rows out:List (List Int)} {row:List Int} {K:List (List Int)->Prop} (h:IsRref n rows out) (hn:n<=1000000) (ho:out.length<=1000000) (hr:RowOk n row) (hK:∀ out',IsRref n (rows++[row]) out'->out'.length<=out.length+1->K out'):Nj out row K:=by
 unfold Nj;refine Zhb h.red hn ho hr λr hb=>?_
 have hrl:=hb.ok.len;refine Zha (by omega) (λhlt=>Y8 (by omega) ?_) (λhz=>Y4 (by decide) (hK _ (h.put0 hb hz) (by omega)))
 have hnz:=Nx hlt;have hrg:=hb.ok.rng (ld r);have V:1<=vec r (ld r)/\vec r (ld r)<=10006:=by omega
 have hinv:=Zcf V;obtain ⟨l1,L,e,O,U⟩:=h.red.split_at (ld r);generalize hk:((Uk (vec r (ld r)).toNat:Nat):Int)=k at hinv
 have hput:=(e ▸ h:IsRref n rows (l1++L)).put (e ▸ hb:IsBy n (l1++L) row r) hinv O U;have kb:0<=k/\k<=10006:=by have:=Zg6 (vec r (ld r)).toNat; omega
 have rows_len:∀ z,z∈out->RowOk n z/\vec z (ld z)=1:=λz hz=>h.red.ok z hz
 have mok:RowOk n (Xt k r):=Nz hb.ok
 -- the walk Zcc the rows
 have tail:∀ q:List Int,q=Xt k r->Z1 (λB (A:(List (List Int))×Bool) I=>(if¬ (A.2=true) then V4 (out.getD B Ci) (λaa=>(if aa > ((ld r:Nat):Int) then(Zw (A.1.length+1) 24/\((0<=((ld r:Nat):Int)/\((ld r:Nat):Int) < ((out.getD B Ci).length:Int))/\Jt (out.getD B Ci) q ((out.getD B Ci).getD ((ld r:Nat):Int).toNat Ci) (λab=>(Zw ((A.1++[q]).length+1) 24/\I ((A.1++[q])++[ab],true))))) else((0<=((ld r:Nat):Int)/\((ld r:Nat):Int) < ((out.getD B Ci).length:Int))/\Jt (out.getD B Ci) q ((out.getD B Ci).getD ((ld r:Nat):Int).toNat Ci) (λac=>(Zw (A.1.length+1) 24/\I (A.1++[ac],A.2)))))) else((0<=((ld r:Nat):Int)/\((ld r:Nat):Int) < ((out.getD B Ci).length:Int))/\Jt (out.getD B Ci) q ((out.getD B Ci).getD ((ld r:Nat):Int).toNat Ci) (λad=>(Zw (A.1.length+1) 24/\I (A.1++[ad],A.2)))))) (λ(A:(List (List Int))×Bool)=>(if¬ (A.2=true) then(Zw (A.1.length+1) 24/\K (A.1++[q])) else K A.1)) out.length 0 ([],false):=by
  rintro q rfl;have lout:out.length=l1.length+L.length:=by rw [e,C8]
  let f:List Int->List Int:=λz=>subR (vec z (ld r)) z (Xt k r)
  have hput':IsRref n (rows++[row]) (l1.map f++Xt k r::L.map f):=hput;refine Yp (λi (s:List (List Int)×Bool)=>(i<=l1.length/\s=((l1.take i).map f,false))\/(l1.length < i/\s=(l1.map f++Xt k r::(L.take (i - l1.length)).map f,true))) out.length ?_ ?_ _ _ _ (by omega) (.inl ⟨Fq _,by simp⟩)
  ·rintro i s next hi hs hn';have hm:=Yw (l:=out) hi;have hz:=rows_len _ hm;have hlz:=Qi hz;have b1:0<=((ld r:Nat):Int)/\((ld r:Nat):Int) < ((out.getD i Ci).length:Int):=by rw [hz.1.len]; omega
   have less:∀ K':List Int->Prop,K' (f (out.getD i Ci))->Jt (out.getD i Ci) (Xt k r) ((out.getD i Ci).getD ((ld r:Nat):Int).toNat Ci) K':=λK' q=>Zcd hz.1 mok hn (hz.1.rng _) q
   rcases hs with ⟨hil,rfl⟩ | ⟨hil,rfl⟩
   ·dsimp only;refine Y4 (by decide) (Zce hn hz ?_)
    by_cases c:i < l1.length
    ·have eg:out.getD i Ci=l1.getD i Ci:=by rw [e]; simp only [Co]; rw [List.getElem?_append_left c]
     have ae:ld (out.getD i Ci) < ld r:=O _ (by rw [eg]; exact Yw c)
     refine Y8 (by omega) ⟨b1,less _ ⟨by rw [ZPv,ZJv]; unfold Zw; omega,hn' _ (.inl ⟨by omega,?_⟩)⟩⟩
     rw [Xk c,ZJn,eg]; rfl
    ·obtain rfl:i=l1.length:=by omega
     have c2:0 < L.length:=by omega
     have eg:out.getD l1.length Ci=L.getD 0 Ci:=by rw [e]; simp only [Co]; rw [List.getElem?_append_right (Cg _),Nat.sub_self]
     have hge:=U _ (by rw [eg]; exact Yw c2:out.getD l1.length Ci∈L)
     have hne:ld (out.getD l1.length Ci)≠ld r:=λz=>by
      have:=hb.clr _ hm;rw [z] at this; exact hnz this
     refine Y4 (by omega) ⟨by rw [ZPv,ZJv]; unfold Zw; omega,b1,less _ ⟨by rw [C8,ZPv,ZJv,List.length_singleton]; unfold Zw; omega,hn' _ (.inr ⟨by omega,?_⟩)⟩⟩
     rw [ZP0,show l1.length+1 - l1.length=1 by omega,show L.take 1=[L.getD 0 Ci] by
      cases L with
      | nil=>simp at c2
      | cons x y=>rfl,eg]
     simp
   ·dsimp only;have c2:i - l1.length < L.length:=by omega
    have eg:out.getD i Ci=L.getD (i - l1.length) Ci:=by rw [e]; simp only [Co]; rw [List.getElem?_append_right (by omega)]
    refine Y8 (by decide) ⟨b1,less _ ⟨by rw [C8,Zw3,ZPv,ZPv,ZJv]; unfold Zw; omega,hn' _ (.inr ⟨by omega,?_⟩)⟩⟩
    rw [show i+1 - l1.length=(i - l1.length)+1 by omega,Xk c2,ZJn,eg,List.append_assoc]; rfl
  ·rintro s hs;have fin:K (l1.map f++Xt k r::L.map f):=hK _ hput' (by rw [C8,Zw3,ZPv,ZPv]; omega)
   rcases hs with ⟨hil,rfl⟩ | ⟨hil,rfl⟩
   ·have h0:L=[]:=List.eq_nil_of_length_eq_zero (by omega)
    dsimp only;refine Y4 (by decide) ⟨by rw [ZPv,ZJv]; unfold Zw; omega,?_⟩
    rw [Fs (by omega)]
    rw [h0] at fin; exact fin
   ·dsimp only;refine Y8 (by decide) ?_
    rw [Fs (by omega)]; exact fin
 have hv:r.getD (((ld r:Nat):Int)).toNat Ci=(((vec r (ld r)).toNat:Nat):Int):=by rw [ZPx,Vh]; omega
 have inv:∀ K':Int->Prop,K' k->Ni (r.getD (((ld r:Nat):Int)).toNat Ci) K':=λK' q=>by
  rw [hv]; exact Zq5 (by omega) (by rw [hk]; exact q)
 have less0:∀ K':List Int->Prop,K' (Xt k r)->Jt (Cd ((r.length:Int).toNat) (0:Int)) r ((0 - k) % 10007) K':=λK' q=>by
  rw [ZPx,hrl];exact Zcd (Zhc n) hb.ok hn (by omega) (by rw [Zq6 hb.ok]; exact q)
 have md:∀ K':Int->Prop,K' ((0 - k) % 10007)->Jk (Zwt.wrap (0 - k)) K':=λK' q=>by
  rw [i64_in _ (by omega)]; exact T8 q
 have rm:(0:Int)<=(r.length:Int)/\(r.length:Int) * 8<=281474976710656:=by omega
 refine⟨by omega,⟨rm,inv _ (md _ (less0 _ (tail _ rfl)))⟩,inv _ ⟨⟨rm,md _ (less0 _ (tail _ rfl))⟩,md _ ⟨rm,less0 _ (tail _ rfl)⟩⟩⟩
theorem Gb {n:Nat} {rows:List (List Int)} {K:List (List Int)->Prop} (hr:X3 n rows) (hn:n<=1000000) (hl:rows.length<=1000000) (h:∀ out,IsRref n rows out->out.length<=rows.length->K out):V5 rows K:=by
 unfold V5;refine Yp (λi (s:List (List Int))=>IsRref n (rows.take i) s/\s.length<=i) rows.length ?_ ?_ _ _ _ (by omega) ⟨by simpa using IsRref.zero n,Cg _⟩
 ·rintro i s next hi ⟨A,B⟩ hn';refine Zhd A hn (by omega) (hr _ (Yw hi)) λout' I L=>hn' _ ⟨?_,by omega⟩
  rw [Xk hi]; exact I
 ·rintro s ⟨A,B⟩;rw [ZP0] at A; exact h s A B
theorem Zq7 {l:List (List Int)} {c:Nat} {K:Int->Prop} (hl:l.length<=1000000) (hc:∀ i,i < l.length->c < (at_ l i).length) (A:∀ i,i < l.length->vec (at_ l i) c≠0->(∀ j,j < i->vec (at_ l j) c=0)->K i) (B:(∀ i,i < l.length->vec (at_ l i) c=0)->K (-1)):Nf l (λh K_=>Sy h (c:Int) K_) K:=by
 unfold Nf;refine Yp (λi (s:Unit)=>∀ j,j < i->vec (at_ l j) c=0) l.length ?_ ?_ _ _ _ (by omega) (λj hj=>by omega)
 ·intro i s next hi g hn
  show Sy (at_ l i) (c:Int) (λr=>if r=true then K (i:Int) else next ())
  unfold Sy;have:=hc i hi;rw [ZPx,Vh];refine⟨by omega,?_⟩
  by_cases q:vec (at_ l i) c=0
  ·rw [decide_eq_false (λz=>z q)]
   refine Y8 (by decide) (hn _ λj hj=>?_)
   by_cases e:j=i
   ·subst e; exact q
   ·exact g j (by omega)
  ·rw [decide_eq_true q];exact Y4 rfl (A i hi q g)
 ·intro s g;exact B λi hi=>g i hi
theorem Zcg (l:List (List Int)) (d i:Nat):at_ (l.drop d) i=at_ l (d+i):=by unfold at_; simp only [Co]; rw [List.getElem?_drop]
theorem Zq8 (l:List (List Int)) (i j:Nat):Xr Ci l i j=W7 l i j:=rfl
theorem Gc {n:Nat} {rows:List (List Int)} {K:List (List Int)->Prop} (hr:X3 n rows) (hn:n<=1000000) (hl:rows.length<=1000000) (h:∀ out,IsRref n rows out->out.length<=rows.length->K out):Uh rows K:=by
 unfold Uh;refine Yp (λi (s:List (List Int))=>s=rows.take i) rows.length ?_ ?_ _ _ _ (by omega) (by simp)
 ·rintro i s next hi rfl hn';have:=hr _ (Yw hi);refine Zg8 (by rw [this.len]; exact hn) ⟨by rw [ZJv]; unfold Zw; omega,hn' _ ?_⟩
  rw [Xk hi]
 ·rintro s rfl;rw [ZP0];refine Jj (λ(s:List (List Int)×Int×Int)=>0<=s.2.1/\0<=s.2.2/\s.2.2<=n/\s.1.length=rows.length/\Inv n rows s.1 s.2.1.toNat s.2.2.toNat) (λs=>n - s.2.2.toNat) ?_ ⟨Int.le_refl _,Int.le_refl _,by dsimp only; omega,rfl,Inv.start hr⟩
  rintro ⟨w,d,c⟩ next ⟨g1,g2,g3,g4,g5⟩ hn';dsimp only at g1 g2 g3 g4 g5 hn' ⊢
  have hdl:=g5.dl;have fin:(d.toNat=w.length\/n<=c.toNat)->K (w.take d.toNat):=λq=>h _ (g5.fin q) (by rw [ZJv]; omega)
  by_cases hd:d < (w.length:Int)
  ·have hdn:d.toNat < w.length:=by omega
   have h0len:=(g5.ok 0 (by omega)).len
   refine Y4 hd ⟨by omega,?_⟩
   rw [M9,h0len];by_cases hc:c < (n:Int)
   ·refine Y4 hc ⟨by omega,?_⟩
    have hcn:c.toNat < n:=by omega
    have ec:c=((c.toNat:Nat):Int):=by omega
    have c1:(c+1).toNat=c.toNat+1:=by omega
    have d1:(d+1).toNat=d.toNat+1:=by omega
    rw [i64_in (c+1) (by omega),i64_in (d+1) (by omega)]
    generalize hQ:(λac K_=>Sy ac c K_)=Q
    rw [ec] at hQ
    subst hQ;refine Zq7 (by rw [Zwa]; omega) (λi hi=>?_) (λi hi hnz hz=>?_) (λhz=>?_)
    ·rw [Zwa] at hi
     rw [Zcg,(g5.ok _ (by omega)).len]; exact hcn
    ·rw [Zwa] at hi
     rw [Zcg] at hnz
     have hp:d.toNat+i < w.length:=by omega
     have ep:Zwt.wrap (d+(i:Int))=((d.toNat+i:Nat):Int):=by rw [i64_in _ (by omega)]; omega
     refine Y8 (by omega) ?_
     rw [ep];refine⟨by omega,by omega,by omega,by omega,?_⟩
     rw [ZPx,Zq8];have ls:(W7 w d.toNat (d.toNat+i)).length=w.length:=Lu
     have A:at_ (W7 w d.toNat (d.toNat+i)) d.toNat=at_ w (d.toNat+i):=by
      rw [G1 hdn hp];by_cases q:d.toNat=d.toNat+i
      ·rw [if_pos q]; congr 1
      ·rw [if_neg q,if_pos rfl]
     have okp:=g5.ok _ hp;have lrow:((W7 w d.toNat (d.toNat+i)).getD d.toNat Ci).length=n:=by rw [M9,A,okp.len]
     have hrg:=okp.rng c.toNat;refine⟨by rw [ls]; omega,by rw [lrow]; omega,?_⟩
     have hv:((W7 w d.toNat (d.toNat+i)).getD d.toNat Ci).getD c.toNat Ci=(((vec (at_ w (d.toNat+i)) c.toNat).toNat:Nat):Int):=by rw [M9,A,Vh]; omega
     rw [hv];refine Zq4 (by omega) ?_
     have hinv:=Zcf (x:=vec (at_ w (d.toNat+i)) c.toNat) (by omega)
     have kb:=Zg6 (vec (at_ w (d.toNat+i)) c.toNat).toNat;generalize hk:((Uk (vec (at_ w (d.toNat+i)) c.toNat).toNat:Nat):Int)=k at hinv ⊢
     have kb':0<=k/\k<=10006:=by omega
     refine⟨by rw [ls]; omega,?_⟩
     rw [lrow]
     -- the row is multiplied
     generalize ab:W7 w d.toNat (d.toNat+i)=O at *
     refine Jj (λ(s:List (List Int)×Int)=>(0<=s.2/\s.2<=n)/\∃ y:List Int,s.1=O.set d.toNat y/\y.length=n/\∀ j,vec y j=if j < s.2.toNat then vec (at_ O d.toNat) j * k % 10007 else vec (at_ O d.toNat) j) (λs=>n - s.2.toNat) ?_ ⟨by dsimp only; omega,at_ O d.toNat,?_,by rw [A,okp.len],λj=>by rw [if_neg (by dsimp only; omega)]⟩
     ·rintro ⟨w2,q⟩ nx ⟨f1,y,rfl,f2,f3⟩ hnx;dsimp only at f1 f3 hnx ⊢
      have l2:(O.set d.toNat y).length=w.length:=by rw [ZC4,ls]
      have ey:(O.set d.toNat y).getD d.toNat Ci=y:=by rw [M9,N2 (by omega),if_pos rfl]
      rw [ey];by_cases hq:q < (n:Int)
      ·have rg:=okp.rng q.toNat;have pb:=Zcb rg kb';have evq:y.getD q.toNat Ci=vec (at_ w (d.toNat+i)) q.toNat:=by rw [Vh,f3,if_neg (by omega),A]
       refine Y4 hq ⟨by omega,by omega,by omega,by omega,?_⟩
       rw [evq,i64_in (vec (at_ w (d.toNat+i)) q.toNat * k) (by omega),ZFp pb.1,List.set_set,i64_in (q+1) (by omega)]
       refine hnx _ ⟨by dsimp only; omega,_,rfl,by rw [ZC4]; exact f2,λj=>?_⟩ (by dsimp only; omega)
       dsimp only;rw [La (by omega),f3,show (q+1).toNat=q.toNat+1 by omega]
       by_cases e:j=q.toNat
       ·subst e; rw [if_pos rfl,if_pos (by omega),A]
       ·rw [if_neg e];by_cases z:j < q.toNat
        ·rw [if_pos z,if_pos (by omega)]
        ·rw [if_neg z,if_neg (by omega)]
      ·refine Y8 hq ?_
       have hy:y=Xt k (at_ O d.toNat):=Gz (by rw [f2]; simp [Xt,A,okp.len]) λj=>by
        rw [V7,f3];by_cases z:j < q.toNat
        ·rw [if_pos z]
        ·rw [if_neg z,Xs (by rw [A,okp.len]; omega)]; simp
       subst hy
       -- the other rows
       generalize hW2:O.set d.toNat (Xt k (at_ O d.toNat))=W2 at *
       have U:∀ j,j < w.length->RowOk n (at_ W2 j):=λj hj=>by
        rw [<- hW2,N2 (by omega)]
        by_cases z1:j=d.toNat
        ·rw [if_pos z1]; exact Nz (by rw [A]; exact okp)
        ·rw [if_neg z1,<- ab,G1 hdn hp]
         by_cases z2:j=d.toNat+i
         ·rw [if_pos z2]; exact g5.ok _ hdn
         ·rw [if_neg z2,if_neg z1]; exact g5.ok _ hj
       refine Jj (λ(s:List (List Int)×Int)=>(0<=s.2/\s.2<=w.length)/\s.1.length=w.length/\∀ j,j < w.length->at_ s.1 j=if j < s.2.toNat/\j≠d.toNat then subR (vec (at_ W2 j) c.toNat) (at_ W2 j) (at_ W2 d.toNat) else at_ W2 j) (λs=>w.length - s.2.toNat) ?_ ⟨by dsimp only; omega,l2,λj hj=>by rw [if_neg (by dsimp only; omega)]⟩
       rintro ⟨w3,p⟩ nz ⟨q1,q2,L⟩ B;dsimp only at q1 q2 L B ⊢
       rw [l2];by_cases hpp:p < (w.length:Int)
       ·have hpn:p.toNat < w.length:=by omega
        have p1:(p+1).toNat=p.toNat+1:=by omega
        rw [i64_in (p+1) (by omega)]
        refine Y4 hpp ⟨by omega,?_⟩
        have row_p:at_ w3 p.toNat=at_ W2 p.toNat:=by rw [L _ hpn,if_neg (by omega)]
        have okpp:=U _ hpn
        have skip:(p.toNat=d.toNat\/vec (at_ W2 p.toNat) c.toNat=0)->nz (w3,p+1):=λz=>B _ ⟨by dsimp only; omega,q2,λj hj=>by
         dsimp only;rw [L j hj,p1];by_cases V:j < p.toNat/\j≠d.toNat
         ·rw [if_pos V,if_pos ⟨by omega,V.2⟩]
         ·rw [if_neg V];by_cases a2:j < p.toNat+1/\j≠d.toNat
          ·obtain rfl:j=p.toNat:=by omega
           rcases z with z | z
           ·exact absurd z a2.2
           ·rw [if_pos a2,z,G0 okpp (U _ hdn)]
          ·rw [if_neg a2]⟩ (by dsimp only; omega)
        by_cases hpd:p≠d
        ·have hpd':p.toNat≠d.toNat:=by omega
         rw [M9 w3 p.toNat,row_p,M9 w3 d.toNat,Vh];refine Y4 hpd ⟨by rw [okpp.len]; omega,?_⟩
         by_cases aa:vec (at_ W2 p.toNat) c.toNat≠0
         ·refine Y4 aa ⟨by omega,by rw [okpp.len]; omega,by omega,?_⟩
          have row_d:at_ w3 d.toNat=at_ W2 d.toNat:=by rw [L _ hdn,if_neg (by omega)]
          rw [row_d];refine Zg9 okpp (U _ hdn) (okpp.rng _) (B _ ⟨by dsimp only; omega,by dsimp only; rw [ZC4]; exact q2,λj hj=>?_⟩ (by dsimp only; omega))
          dsimp only;rw [N2 (by omega),L j hj,p1]
          by_cases I:j=p.toNat
          ·subst I; rw [if_pos rfl,if_pos ⟨by omega,hpd'⟩]
          ·rw [if_neg I];by_cases V:j < p.toNat/\j≠d.toNat
           ·rw [if_pos V,if_pos ⟨by omega,V.2⟩]
           ·rw [if_neg V,if_neg (by omega)]
         ·exact Y8 aa (skip (.inr (Zxc.1 aa)))
        ·exact Y8 hpd (skip (.inl (by omega)))
       ·refine Y8 hpp (hn' _ ⟨by dsimp only; omega,by dsimp only; omega,by dsimp only; omega,by dsimp only; omega,?_⟩ (by dsimp only; omega))
        dsimp only;rw [c1,d1];refine g5.step (p:=d.toNat+i) (by_:=k) (by omega) hp hinv ⟨?_,λj hj=>?_⟩
        ·rw [q2,ZC4,Lu]
        ·rw [ZC4,Lu] at hj
         rw [ab,hW2,L j hj];by_cases I:j=d.toNat
         ·rw [if_neg (by omega),if_pos I,I]
         ·rw [if_pos ⟨by omega,I⟩,if_neg I]
     ·dsimp only;refine List.ext_getElem (by simp) λj h1 h2=>?_
      rw [List.getElem_set];split
      ·rename_i q; subst q; rw [Tq h1]
      ·rfl
    ·refine Y4 (by decide) (hn' _ ⟨g1,by dsimp only; omega,by dsimp only; omega,g4,?_⟩ (by dsimp only; omega))
     dsimp only;rw [c1];refine g5.skip λi h1 h2=>?_
     have:=hz (i - d.toNat) (by rw [Zwa]; omega)
     rwa [Zcg,show d.toNat+(i - d.toNat)=i by omega] at this
   ·exact Y8 hc ⟨by omega,fin (.inr (by omega))⟩
  ·exact Y8 hd ⟨by omega,fin (.inl (by omega))⟩
theorem U3 (a b:List Int) (j:Nat):vec (a++b) j=if j < a.length then vec a j else vec b (j - a.length):=by
 unfold vec;simp only [Co];split
 ·rename_i h; rw [List.getElem?_append_left h]
 ·rename_i h; rw [List.getElem?_append_right (by omega)]
theorem S3 (a:List Int) (m j:Nat):vec (a.drop m) j=vec a (m+j):=by
 unfold vec;simp only [Co,List.getElem?_drop]
theorem Sf (a:List Int) (m j:Nat):vec (a.take m) j=if j < m then vec a j else 0:=by
 unfold vec;simp only [Co,List.getElem?_take]
 split <;> rfl
theorem Zq9 {m n:Nat} {a b:List Int} (ha:RowOk m a) (hb:RowOk n b):RowOk (m+n) (a++b) :=
 ⟨by rw [C8,ha.len,hb.len],λj=>by
  rw [U3]; split
  ·exact ha.rng j
  ·exact hb.rng _⟩
theorem Zch {m n:Nat} {a:List Int} (ha:RowOk (m+n) a):RowOk n (a.drop m) :=
 ⟨by rw [Zwa,ha.len]; omega,λj=>by rw [S3]; exact ha.rng _⟩
def Wd (n i:Nat):List Int:=(Cd n (0:Int)).set i 1
theorem Zci (n i:Nat):RowOk n (Wd n i):=by
 refine⟨by simp [Wd],λj=>?_⟩
 by_cases hi:i < n
 ·rw [Wd,La (by simpa using hi),Np]; split <;> omega
 ·rw [Wd,List.set_eq_of_length_le (by simp; omega),Np]; omega
def J1 (rows:List (List Int)):List (List Int):=(C9 rows.length).map λi=>rows.getD i Ci++Wd rows.length i
def V6 (m:Nat) (R:List (List Int)):List (List Int):=(R.filter λr=>decide (m<=ld r)).map (List.drop m)
def IsKer (m:Nat) (rows L:List (List Int)):Prop:=∃ R,IsRref (m+rows.length) (J1 rows) R/\IsRref rows.length (V6 m R) L
theorem IsKer.unique {m:Nat} {rows a b:List (List Int)} (ha:IsKer m rows a) (hb:IsKer m rows b):a=b:=by
 obtain ⟨R,B,I⟩:=ha;obtain ⟨R',h,A⟩:=hb;obtain rfl:=B.unique h;exact I.unique A
theorem Ds {m:Nat} {rows:List (List Int)} (hr:X3 m rows):X3 (m+rows.length) (J1 rows):=by
 intro a ha;obtain ⟨i,hi,rfl⟩:=Cp.1 ha;exact Zq9 (hr _ (Yw (Zvt.1 hi))) (Zci _ _)
theorem Zcj {m n:Nat} {R:List (List Int)} (h:X3 (m+n) R):X3 n (V6 m R):=by
 intro a ha;obtain ⟨r,hr,rfl⟩:=Cp.1 ha;exact Zch (h r (ZPz.1 hr).1)
theorem Dt (m:Nat) (R:List (List Int)):(V6 m R).length<=R.length:=by rw [V6,ZPv]; exact List.length_filter_le _ _
theorem Zhe {m i:Nat} {R:List (List Int)} (hi:i < R.length):V6 m (R.take (i+1))=V6 m (R.take i)++(if m<=ld (R.getD i Ci) then [(R.getD i Ci).drop m] else []):=by
 rw [Xk hi,V6,List.filter_append,ZJn]
 congr 1
 split
 ·rename_i q; rw [ZQw (by simpa using q)]; rfl
 ·rename_i q; rw [ZQx (by simpa using q)]; rfl
theorem Zra {a:List Int} {K:Bool->Prop} (hl:a.length<=1000000) (h:(∀ j,vec a j=0)->K true) (A:ld a < a.length->K false):Hn a K:=by
 unfold Hn Nd St;refine Yp (λi (s:Unit)=>∀ j,j < i->vec a j=0) a.length ?_ ?_ _ _ _ (by omega) (λj hj=>by omega)
 ·intro i s next hi g hn
  show Sz (a.getD i Ci) _
  unfold Sz;rw [Vh];by_cases q:vec a i=0
  ·rw [decide_eq_false (λz=>z q)]
   refine Y8 (by decide) (hn _ λj hj=>?_)
   by_cases e:j=i
   ·subst e; exact q
   ·exact g j (by omega)
  ·rw [decide_eq_true q];refine Y4 rfl ?_
   show K (decide ((i:Int) < 0))
   rw [decide_eq_false (by omega)]
   exact A (by rw [Tp g q]; exact hi)
 ·intro s g
  show K (decide ((-1:Int) < 0))
  rw [decide_eq_true (by omega)]
  refine h λj=>?_
  rcases Fb j a.length with q | q
  ·exact g j q
  ·exact Xs q
theorem Zrb {n:Int} {K:List Int->Prop} (A:0<=n/\n<=1000000) (h:K []):Ho n K:=by
 unfold Ho;have e:Zwt.wrap (n - (Zwt.wrap (0 - 0)))=n:=by rw [i64_in (0 - 0) (by omega),i64_in _ (by omega)]; omega
 rw [e];refine⟨by omega,?_⟩
 by_cases q:n > 0
 ·exact Y4 q ⟨⟨by omega,by unfold Zw; omega⟩,⟨by omega,by omega⟩,by rw [List.take_zero]; exact h⟩
 ·exact Y8 q h
theorem Zrc {a b:List Int} {K:List Int->Prop} (ha:a.length<=500000) (hb:b.length<=500000) (h:K (a++b)):Hp [a,b] K:=by
 simp only [Hp,Z1,Zw3,ZOi,List.getD_cons_zero,List.getD_cons_succ];rw [i64_in (0+(a.length:Int)) (by omega),i64_in (0+(a.length:Int)+(b.length:Int)) (by omega)]
 refine⟨by omega,by omega,Zrb (by omega) ⟨by unfold Zw; rw [ZOi]; omega,by unfold Zw; rw [ZQy]; omega,?_⟩⟩
 rw [ZQy]; exact h
theorem Zck {m:Nat} {rows:List (List Int)} {K:List (List Int)->Prop} (hr:X3 m rows) (hm:m<=100000) (hl:rows.length<=100000) (h:∀ L,IsKer m rows L->L.length<=rows.length->K L):Nl rows (m:Int) K:=by
 unfold Nl;refine Yp (λi (s:List (List Int))=>s=(J1 rows).take i) rows.length ?_ ?_ _ _ _ (by omega) rfl
 ·intro i s next hi hs hn;have ok:=hr _ (Yw hi);have hlen:=ok.len;have hkl:(J1 rows).length=rows.length:=by simp [J1]
  have hsl:s.length=i:=by rw [hs,ZJv,hkl]; omega
  have e:Zwt.wrap ((m:Int)+(i:Int))=((m+i:Nat):Int):=by rw [i64_in _ (by omega)]; omega
  rw [e,ZPx,ZPx];refine⟨by unfold Zw; omega,⟨by omega,by unfold Zw; omega⟩,⟨by omega,by rw [C8,ZJ5]; omega⟩,by unfold Zw; omega,hn _ ?_⟩
  rw [Xk (by omega:i < (J1 rows).length),hs]
  congr 2
  have:(J1 rows).getD i Ci=rows.getD i Ci++Wd rows.length i:=by simp [J1,Co,hi]
  rw [this,Wd,List.set_append_right _ _ (by omega),hlen,show m+i - m=i by omega]
 ·intro s hs;have hkl:(J1 rows).length=rows.length:=by simp [J1]
  rw [Fs (by omega)] at hs
  rw [hs];refine Gb (Ds hr) (by omega) (by omega) λR A hRl=>?_
  have hRo:∀ a,a∈R->RowOk (m+rows.length) a/\vec a (ld a)=1:=A.red.ok;refine Yp (λi (s:List (List Int))=>s=V6 m (R.take i)) R.length ?_ ?_ _ _ _ (by omega) rfl
  ·intro i s next hi hs hn;have ok:=hRo _ (Yw hi);have hsl:s.length<=R.length:=by rw [hs]; exact Cj (Dt _ _) (by rw [ZJv]; omega)
   refine Zce (by omega) ok ?_
   have hlen:=ok.1.len;have hle:=Zhe (m:=m) hi;by_cases q:m<=ld (R.getD i Ci)
   ·rw [if_pos q] at hle
    refine Y4 (by omega) ⟨by omega,by unfold Zw; rw [Zwa]; omega,by unfold Zw; omega,hn _ ?_⟩
    rw [hle,hs,ZPx]
   ·rw [if_neg q,ZJz] at hle
    exact Y8 (by omega) (hn _ (by rw [hle]; exact hs))
  ·intro s hs;rw [ZP0] at hs
   rw [hs];have:=Dt m R;exact Gb (Zcj λa ha=>(hRo a ha).1) (by omega) (by omega) λL B hLl=>h L ⟨R,A,B⟩ (by omega)
theorem Zcl {m:Nat} {rows:List (List Int)} {K:List (List Int)->Prop} (hr:X3 m rows) (hm:m<=100000) (hl:rows.length<=100000) (h:∀ L,IsKer m rows L->L.length<=rows.length->K L):M3 rows (m:Int) K:=by
 unfold M3;refine Yp (λi (s:List (List Int))=>s=(J1 rows).take i) rows.length ?_ ?_ _ _ _ (by omega) rfl
 ·intro i s next hi hs hn;have ok:=hr _ (Yw hi);have hlen:=ok.len;have hkl:(J1 rows).length=rows.length:=by simp [J1]
  have hsl:s.length=i:=by rw [hs,ZJv,hkl]; omega
  rw [ZPx];refine⟨⟨by omega,by omega⟩,⟨by omega,by rw [ZJ5]; omega⟩,Zrc (by omega) (by rw [ZC4,ZJ5]; omega) ⟨by unfold Zw; omega,hn _ ?_⟩⟩
  rw [Xk (by omega:i < (J1 rows).length),hs]
  congr 2
  simp [J1,Co,hi,Wd]
 ·intro s hs;have hkl:(J1 rows).length=rows.length:=by simp [J1]
  rw [Fs (by omega)] at hs
  rw [hs];refine Gc (Ds hr) (by omega) (by omega) λR B hRl=>?_
  have hRo:∀ a,a∈R->RowOk (m+rows.length) a/\vec a (ld a)=1:=B.red.ok;refine Yp (λi (s:List (List Int))=>s=V6 m (R.take i)) R.length ?_ ?_ _ _ _ (by omega) rfl
  ·intro i s next hi hs hn;have ok:=hRo _ (Yw hi);have hsl:s.length<=R.length:=by rw [hs]; exact Cj (Dt _ _) (by rw [ZJv]; omega)
   have hlen:=ok.1.len;have hle:=Zhe (m:=m) hi;have hld:=Qi ok;rw [ZPx];refine⟨by omega,Zra (by rw [ZJv]; omega) (λhz=>?_) (λhz=>?_)⟩
   ·have q:m<=ld (R.getD i Ci):=by
     rcases Fb (ld (R.getD i Ci)) m with z | z
     ·have:=hz (ld (R.getD i Ci));rw [Sf,if_pos z,ok.2] at this; omega
     ·exact z
    rw [if_pos q] at hle
    refine Y4 rfl ⟨by omega,by unfold Zw; omega,hn _ ?_⟩
    rw [hle,hs]
   ·have q:¬ m<=ld (R.getD i Ci):=by
     intro z;have A:=Nx hz;rw [Sf] at A
     rw [ZJv] at hz
     rw [if_pos (by omega)] at A
     exact A (Jd (by omega))
    rw [if_neg q,ZJz] at hle
    exact Y8 (by decide) (hn _ (by rw [hle]; exact hs))
  ·intro s hs;rw [ZP0] at hs
   rw [hs];have:=Dt m R;exact Gc (Zcj λa ha=>(hRo a ha).1) (by omega) (by omega) λL I hLl=>h L ⟨R,B,I⟩ (by omega)
theorem Zcm {n:Nat} {row:List Int}:∀ (B A:List (List Int)) (r:List Int),Rref n (A++B)->IsBy n A row r->∃ r',IsBy n (A++B) row r'
 | [],A,r,_,h=>⟨r,by rw [ZJz]; exact h⟩
 | z :: B, A, r, I, h => by
  have e:A++z::B=(A++[z])++B:=by simp
  have:=h.step I;rw [e] at I ⊢
  exact Zcm B (A++[z]) _ I this
theorem Zhf {n:Nat}:∀ (B A out:List (List Int)),X3 n B->IsRref n A out->out.length<=A.length->∃ out',IsRref n (A++B) out'/\out'.length<=(A++B).length
 | [],A,out,_,h,hl=>⟨out,by rw [ZJz]; exact⟨h,hl⟩⟩
 | row :: B, A, out, hr, h, hl => by
  have e:A++row::B=(A++[row])++B:=by simp
  obtain ⟨r,hb⟩:=Zcm out [] row h.red (IsBy.nil (hr row (by simp)))
  rw [ZQy] at hb
  have ho:∃ out',IsRref n (A++[row]) out'/\out'.length<=(A++[row]).length:=by
   by_cases z:ld r < r.length
   ·obtain ⟨a,b,rfl,I,L⟩:=h.red.split_at (ld r);have g:=hb.ok.rng (ld r);have nz:=Nx z;refine⟨_,h.put (k:=((Uk (vec r (ld r)).toNat:Nat):Int)) hb (Zcf ⟨by omega,g.2⟩) I L,?_⟩
    simp only [C8,ZPv,Zw3,ZOi] at hl ⊢
    omega
   ·refine⟨out,h.put0 hb (λj=>?_),by simp; omega⟩
    rcases Fb j r.length with q | q
    ·exact Jd (by omega)
    ·exact Xs q
  obtain ⟨out',O,U⟩:=ho;rw [e];exact Zhf B _ out' (λx hx=>hr x (by simp [hx])) O U
theorem Vi {n:Nat} {rows:List (List Int)} (h:X3 n rows):∃ out,IsRref n rows out/\out.length<=rows.length:=Zhf rows [] [] h (IsRref.zero n) (Cg _)
theorem Zcn {n:Nat} {rows out:List (List Int)} (h:X3 n rows) (ho:IsRref n rows out):out.length<=rows.length:=by
 obtain ⟨o,A,B⟩:=Vi h;rw [ho.unique A]; exact B
theorem Lb:∀ {l k:List Nat}, l.Nodup->(∀ q,q∈l->q∈k)->l.length<=k.length
 | [],_,_,_=>Fq _
 | x :: l, k, hn, h => by
  obtain ⟨A,B⟩:=ZFj.1 hn;have hx:=h x (by simp)
  have:=Lb B (k:=k.erase x) λq hq=>(List.mem_erase_of_ne (λe=>A (by rw [<- e]; exact hq))).2 (h q (by simp [hq]))
  rw [List.length_erase_of_mem hx] at this
  have:=List.length_pos_of_mem hx;simp only [Zw3]; omega
theorem Du {n:Nat} {a:List (List Int)} (h:Rref n a):(a.map ld).Nodup:=by
 rw [List.Nodup,ZP3];exact h.pw.imp λh=>by omega
theorem Zco {n m:Nat} {a b:List (List Int)} (ha:Rref n a) (hb:Rref m b) (h:∀ x,x∈a->Sp (gens b) (vec x)):∀ q,q∈a.map ld->q∈b.map ld:=λq hq=>by
 obtain ⟨x,hx,rfl⟩:=Cp.1 hq;obtain ⟨z,hz,e⟩:=hb.leads (h x hx) (q:=ld x) (λj hj=>by rw [Jd hj]; rfl) (by rw [(ha.ok x hx).2]; decide)
 exact Cp.2 ⟨z,hz,e⟩
theorem Lc {n m:Nat} {a b:List (List Int)} (ha:Rref n a) (hb:Rref m b) (h:∀ x,x∈a->Sp (gens b) (vec x)):a.length<=b.length:=by
 have:=Lb (Du ha) (Zco ha hb h);simpa using this
theorem Gd {S:Vec->Prop} {q:Nat} (h:∀ v,S v->v q % 10007=0) {u:Vec} (hu:Sp S u):u q % 10007=0:=by
 induction hu with
 | zero z=>exact z q
 | @add r v u k hr hv e ih=>rw [e,Int.add_emod,ih,Ct,h r hr]; simp
theorem Zcp {S T:Vec->Prop} (c:Nat->Int) (f:Nat->Nat) (h:∀ v,S v->Sp T (λj=>c j * v (f j))) {u:Vec} (hu:Sp S u):Sp T (λj=>c j * u (f j)):=by
 induction hu with
 | zero z=>exact .zero λj=>by rw [Ct,z]; simp
 | @add r v u k hr hv e ih =>
  refine Sp.sum k ih (h r hr) λj=>?_
  rw [Ct,e,<- Ct,Int.mul_add,Int.mul_left_comm]
theorem Zrd {S T:Vec->Prop} (m:Nat) (h:∀ v,S v->Sp T (λj=>v (m+j))) {u:Vec} (hu:Sp S u):Sp T (λj=>u (m+j)):=by
 have:=Zcp (T:=T) (λ_=>1) (λj=>m+j) (λv hv=>(h v hv).cong λj=>by rw [ZQb]) hu
 exact this.cong λj=>by rw [ZQb]
theorem Zhg {S T:Vec->Prop} (m:Nat) (h:∀ v,S v->Sp T (λj=>if j < m then v j else 0)) {u:Vec} (hu:Sp S u):Sp T (λj=>if j < m then u j else 0):=by
 have:=Zcp (T:=T) (λj=>if j < m then 1 else 0) id (λv hv=>(h v hv).cong λj=>by dsimp only [id]; split <;> simp) hu
 exact this.cong λj=>by dsimp only [id]; split <;> simp
theorem Zre {n:Nat} {Z B T K:List (List Int)} (I:Rref n Z) (L:Rref n B) (hs:∀ x,x∈B->Sp (gens Z) (vec x)) (O:∀ t,t∈T->∃ z,z∈Z/\IsBy n B z t) (hT':∀ z,z∈Z->∃ t,t∈T/\IsBy n B z t) (A:IsRref n T K):K.length+B.length=Z.length:=by
 have tZ:∀ t,t∈T->Sp (gens Z) (vec t):=λt ht=>by
  obtain ⟨z,hz,hb⟩:=O t ht
  have d:Sp (gens Z) (λj=>vec z j - vec t j):=by
   have:=hb.df;clear hb;generalize (λj=>vec z j - vec t j)=u at this
   exact this.mono λr ⟨x,hx,e⟩=>e ▸ hs x hx
  exact(Lv d).1 (Yy hz)
 have kZ:∀ k,k∈K->Sp (gens Z) (vec k):=λk hk=>((A.sp _).2 (Yy hk)).mono λr ⟨x,hx,e⟩=>e ▸ tZ x hx
 have U:∀ k,k∈K->∀ b,b∈B->vec k (ld b) % 10007=0:=λk hk b hb=>Gd (λv ⟨t,ht,e⟩=>by
  obtain ⟨z,_,hz⟩:=O t ht;rw [e,hz.clr b hb]; rfl) ((A.sp _).2 (Yy hk))
 have V:K.length+B.length<=Z.length:=by
  have nd:(K.map ld++B.map ld).Nodup:=by
   rw [List.nodup_append];refine⟨Du A.red,Du L,λx hx y hy e=>?_⟩
   obtain ⟨k,hk,rfl⟩:=Cp.1 hx;obtain ⟨b,hb,eb⟩:=Cp.1 hy;have:=U k hk b hb;rw [eb,<- e,(A.red.ok k hk).2] at this
   exact absurd this (by decide)
  have:=Lb nd (k:=Z.map ld) λq hq=>by
   rcases Ch.1 hq with hq | hq
   ·exact Zco A.red I kZ q hq
   ·exact Zco L I hs q hq
  simpa using this
 have aa:Z.length<=K.length+B.length:=by
  obtain ⟨o,ho,hl⟩:=Vi (n:=n) (rows:=K++B) λx hx=>by
   rcases Ch.1 hx with h | h
   ·exact(A.red.ok x h).1
   ·exact(L.ok x h).1
  have:=Lc I ho.red λz hz=>(ho.sp _).1 (by
   obtain ⟨t,ht,hb⟩:=hT' z hz;have d:Sp (gens (K++B)) (λj=>vec z j - vec t j):=hb.df.mono λr ⟨x,hx,e⟩=>.gen ⟨x,by simp [hx],e⟩
   exact(Lv d).2 (((A.sp _).1 (Yy ht)).mono λr ⟨x,hx,e⟩=>.gen ⟨x,by simp [hx],e⟩))
  rw [C8] at hl
  omega
 omega
theorem Zhh {α:Type} (p q:α->Bool) (h:∀ x,q x=!p x):∀ l:List α,(l.filter p).length+(l.filter q).length=l.length
 | []=>rfl
 | x :: l => by
  have ih:=Zhh p q h l;have hx:=h x;cases e:p x
  ·rw [e] at hx
   rw [ZQx (by simp [e]),ZQw (by simpa using hx),Zw3,Zw3]; omega
  ·rw [e] at hx
   rw [ZQw (by simp [e]),ZQx (by simp [hx]),Zw3,Zw3]; omega
def Ld (m:Nat) (R:List (List Int)):List (List Int):=(R.filter λr=>decide (ld r < m)).map (List.take m)
theorem Zcq {m:Nat} {z:List Int} (h:ld z < m) (A:vec z (ld z)=1):ld (z.take m)=ld z :=
 Tp (λq hq=>by rw [Sf,Jd hq]; simp) (by rw [Sf,if_pos h,A]; decide)
theorem Zcr {m:Nat} {z:List Int} (h:m<=ld z) (A:vec z (ld z)=1):ld (z.drop m)=ld z - m :=
 Tp (λq hq=>by rw [S3,Jd (by omega)]) (by rw [S3,ZQ0 h,A]; decide)
theorem Zrf {m n:Nat} {R:List (List Int)} (A:Rref (m+n) R):Rref m (Ld m R):=by
 refine⟨λa ha=>?_,?_⟩
 ·obtain ⟨z,hz,rfl⟩:=Cp.1 ha;obtain ⟨hz,hl⟩:=ZPz.1 hz;have hl:ld z < m:=by simpa using hl
  obtain ⟨I,B⟩:=A.ok z hz;refine⟨⟨by rw [ZJv,I.len]; omega,λj=>?_⟩,?_⟩
  ·rw [Sf]; have:=I.rng j; split <;> omega
  ·rw [Zcq hl B,Sf,if_pos hl,B]
 ·rw [Ld,ZP3];refine(ZRn _ A.pw).imp_of_mem λ{a b} ha hb h=>?_
  obtain ⟨ha,la⟩:=ZPz.1 ha;obtain ⟨hb,lb⟩:=ZPz.1 hb;have la:ld a < m:=by simpa using la
  have lb:ld b < m:=by simpa using lb
  rw [Zcq la (A.ok a ha).2,Zcq lb (A.ok b hb).2,Sf,if_pos lb];exact h
theorem Zrg {m n:Nat} {R:List (List Int)} (A:Rref (m+n) R):Rref n (V6 m R):=by
 refine⟨λa ha=>?_,?_⟩
 ·obtain ⟨z,hz,rfl⟩:=Cp.1 ha;obtain ⟨hz,hl⟩:=ZPz.1 hz;have hl:m<=ld z:=by simpa using hl
  obtain ⟨I,B⟩:=A.ok z hz;refine⟨Zch I,?_⟩
  rw [Zcr hl B,S3,ZQ0 hl,B]
 ·rw [V6,ZP3];refine(ZRn _ A.pw).imp_of_mem λ{a b} ha hb h=>?_
  obtain ⟨ha,la⟩:=ZPz.1 ha;obtain ⟨hb,lb⟩:=ZPz.1 hb;have la:m<=ld a:=by simpa using la
  have lb:m<=ld b:=by simpa using lb
  rw [Zcr la (A.ok a ha).2,Zcr lb (A.ok b hb).2,S3,ZQ0 lb];exact⟨by omega,h.2⟩
theorem Nq {n i:Nat} (hi:i < n) (j:Nat):vec (Wd n i) j=if j=i then 1 else 0:=by
 rw [Wd,La (by simpa using hi),Np]
theorem Zcs {rows:List (List Int)} {i:Nat} (hi:i < rows.length):rows.getD i Ci++Wd rows.length i∈J1 rows:=Cp.2 ⟨i,Zvt.2 hi,rfl⟩
theorem Zrh {m:Nat} {rows R:List (List Int)} (hr:X3 m rows) (A:IsRref (m+rows.length) (J1 rows) R):SpEq rows (Ld m R):=by
 refine Ls (λx hx=>?_) (λx hx=>?_)
 ·obtain ⟨i,hi,e0⟩:=N1 hx;have e0:rows.getD i Ci=x:=e0;subst e0;have h:=(A.sp _).1 (Yy (Zcs hi));have hm:(rows.getD i Ci).length=m:=(hr _ (Yw hi)).len;refine(Zhg (T:=gens (Ld m R)) m (λv hv=>?_) h).cong λj=>?_
  ·obtain ⟨z,hz,e⟩:=hv;subst e;by_cases c:ld z < m
   ·exact(Yy (Cp.2 ⟨z,ZPz.2 ⟨hz,by simpa using c⟩,rfl⟩)).cong λj=>by rw [Sf]
   ·exact .zero λj=>by
     split
     ·rw [Jd (by omega)]; rfl
     ·rfl
  ·rw [U3,hm];split
   ·rfl
   ·rw [Xs (by omega)]
 ·obtain ⟨z,hz,rfl⟩:=Cp.1 hx;obtain ⟨hz,hl⟩:=ZPz.1 hz;have h:=(A.sp _).2 (Yy hz);refine(Zhg (T:=gens rows) m (λv hv=>?_) h).cong λj=>by rw [Sf]
  obtain ⟨w,hw,e⟩:=hv;subst e;obtain ⟨i,hi,rfl⟩:=Cp.1 hw;have hi:=Zvt.1 hi;have hm:(rows.getD i Ci).length=m:=(hr _ (Yw hi)).len;refine(Yy (Yw hi)).cong λj=>?_
  rw [U3,hm];split
  ·rfl
  ·rw [Xs (by omega)]
theorem Zri {m:Nat} {rows R:List (List Int)} (hr:X3 m rows) (h:IsRref (m+rows.length) (J1 rows) R):R.length=rows.length:=by
 have A:=Zcn (Ds hr) h;have hk:(J1 rows).length=rows.length:=by simp [J1]
 obtain ⟨D,B,hl⟩:=Vi (n:=rows.length) (rows:=R.map (List.drop m)) λa ha=>by
  obtain ⟨z,hz,rfl⟩:=Cp.1 ha;exact Zch (h.red.ok z hz).1
 rw [ZPv] at hl
 have:(C9 rows.length).length<=(D.map ld).length:=Lb List.nodup_range λi hi=>by
  have hi:=Zvt.1 hi;have A:=(h.sp _).1 (Yy (Zcs hi));have hm:(rows.getD i Ci).length=m:=(hr _ (Yw hi)).len
  have I:Sp (gens D) (vec (Wd rows.length i)):=(B.sp _).1 ((Zrd (T:=gens (R.map (List.drop m))) m (λv ⟨z,hz,e⟩=>by
   subst e
   exact(Yy (Cp.2 ⟨z,hz,rfl⟩)).cong λj=>by rw [S3]) A).cong λj=>by
    rw [U3,hm,if_neg (by omega),ZP4])
  obtain ⟨z,hz,e⟩:=B.red.leads I (q:=i) (λj hj=>by rw [Nq hi,if_neg (by omega)]; rfl) (by rw [Nq hi,if_pos rfl]; decide)
  exact Cp.2 ⟨z,hz,e⟩
 rw [List.length_range,ZPv] at this
 omega
theorem Lf {m:Nat} {rows L out:List (List Int)} (hr:X3 m rows) (A:IsKer m rows L) (ho:IsRref m rows out):L.length+out.length=rows.length:=by
 obtain ⟨R,h,B⟩:=A;have I:out=Ld m R:=ho.unique ⟨Zrf h.red,Zrh hr h⟩;have O:L=V6 m R:=B.unique ⟨Zrg h.red,SpEq.refl _⟩;rw [I,O,Ld,V6,ZPv,ZPv,<- Zri hr h,Nat.add_comm]
 exact Zhh _ _ (λx=>by by_cases c:ld x < m <;> simp [c]; omega) R
theorem Dv {S:Vec->Prop} {α:Type} {c:α->Int} {g:α->Vec}:∀ {l:List α}, (∀ a,a∈l->c a % 10007=0\/Sp S (g a))->Sp S (λq=>tt (λa=>c a * g a q) l)
 | [],_=>Sp.nil S
 | a :: l, h => by
  have ih:=Dv (c:=c) (g:=g) (l:=l) λb hb=>h b (by simp [hb])
  rcases h a (by simp) with z | z
  ·refine ih.cong λj=>?_
   simp only [tt];have:=Ct (c a) (g a j) 10007;rw [z] at this
   simp only [ZQc,Int.zero_emod] at this
   omega
  ·exact Sp.sum (c a) ih z λj=>by simp only [tt]; congr 1; omega
def Ge (v:List Int) (rows:List (List Int)) (j:Nat):Int:=tt (λi=>vec v i * vec (at_ rows i) j) (C9 rows.length)
theorem S4 {α:Type} {f g:α->Int}:∀ {l:List α}, (∀ a,a∈l->f a=g a)->tt f l=tt g l
 | [],_=>rfl
 | a::l,h=>by simp only [tt]; rw [h a (by simp),S4 λb hb=>h b (by simp [hb])]
theorem Dx {f:Nat->Int} {k:Nat}:∀ {n:Nat}, k < n->(∀ i,i < n->i≠k->f i=0)->tt f (C9 n)=f k:=by
 have app:∀ (a b:List Nat),tt f (a++b)=tt f a+tt f b:=by
  intro a b
  induction a with
  | nil=>simp [tt]
  | cons x l ih=>simp only [List.cons_append,tt,ih]; omega
 intro n
 induction n with
 | zero=>intro h; omega
 | succ n ih =>
  intro hk A;rw [List.range_succ,app];simp only [tt];by_cases e:k=n
  ·subst e;rw [Si λi hi=>A i (by have:=Zvt.1 hi; omega) (by have:=Zvt.1 hi; omega)]; omega
  ·rw [ih (by omega) λi hi ne=>A i (by omega) ne,A n (by omega) (by omega)]; omega
theorem Zct {m:Nat} {rows L:List (List Int)} (hr:X3 m rows) (B:IsKer m rows L) {v:List Int} (hv:RowOk rows.length v) (I:∀ j,j < m->Ge v rows j % 10007=0):Sp (gens L) (vec v):=by
 obtain ⟨R,h,O⟩:=B
 let W:Nat->Vec:=λi=>vec (rows.getD i Ci++Wd rows.length i)
 let u:Vec:=λq=>tt (λi=>vec v i * W i q) (C9 rows.length)
 have hu:Sp (gens (J1 rows)) u:=Dv λi hi=>.inr (Yy (Zcs (Zvt.1 hi)))
 have hu':=(h.sp _).1 hu;have hm:∀ i,i < rows.length->(rows.getD i Ci).length=m:=λi hi=>(hr _ (Yw hi)).len
 have lo:∀ j,j < m->u j % 10007=0:=λj hj=>by
  have:u j=Ge v rows j:=S4 λi hi=>by
   have hi:=Zvt.1 hi
   show vec v i * vec (rows.getD i Ci++Wd rows.length i) j=_
   rw [U3,hm i hi,if_pos hj]; rfl
  rw [this]; exact I j hj
 have A:∀ j,u (m+j)=vec v j:=λj=>by
  have e:∀ i,i < rows.length->vec v i * W i (m+j)=if j=i then vec v i else 0:=λi hi=>by
   show vec v i * vec (rows.getD i Ci++Wd rows.length i) (m+j)=_
   rw [U3,hm i hi,if_neg (by omega),ZP4,Nq hi]
   split <;> simp
  by_cases c:j < rows.length
  ·show tt (λi=>vec v i * W i (m+j)) (C9 rows.length)=_
   rw [Dx c λi hi ne=>by rw [e i hi,if_neg (λz=>ne z.symm)],e j c,if_pos rfl]
  ·show tt (λi=>vec v i * W i (m+j)) (C9 rows.length)=_
   rw [Si λi hi=>by have hi:=Zvt.1 hi; rw [e i hi,if_neg (by omega)],Xs (by rw [hv.len]; omega)]
 have main:Sp (gens L) (λj=>tt (λz=>u (ld z) * vec z (m+j)) R):=by
  refine Dv (g:=λz j=>vec z (m+j)) λz hz=>?_
  by_cases c:ld z < m
  ·exact .inl (lo _ c)
  ·refine .inr ((O.sp _).1 ((Yy (Cp.2 ⟨z,ZPz.2 ⟨hz,by simpa using c⟩,rfl⟩)).cong λj=>?_))
   rw [S3]
 exact main.cong λj=>by
  have:=h.red.comb hu' (m+j);rw [A] at this
  exact this
theorem Zrj {n:Nat} {a:List Int} {K:Int->Prop} (hn:n<=1000000) (ha:RowOk n a/\vec a (ld a)=1) (h:K (ld a)):Nd a K:=by
 have hl:=Qi ha;have hal:=ha.1.len;unfold Nd St;refine Yp (λi (s:Unit)=>∀ j,j < i->vec a j=0) a.length ?_ ?_ _ _ _ (by omega) (λj hj=>by omega)
 ·intro i s next hi g hn'
  show Sz (a.getD i Ci) _
  unfold Sz;rw [Vh];by_cases q:vec a i=0
  ·rw [decide_eq_false (λz=>z q)]
   refine Y8 (by decide) (hn' _ λj hj=>?_)
   by_cases e:j=i
   ·subst e; exact q
   ·exact g j (by omega)
  ·rw [decide_eq_true q];refine Y4 rfl ?_
   show K (i:Int)
   rw [<- Tp g q]; exact h
 ·intro s g;exact absurd (g _ (by omega)) (Nx (by omega))
theorem Zrk {n:Nat} {row:List Int} {out:List (List Int)} {K:List Int->Prop} (A:Rref n out) (hn:n<=1000000) (ho:out.length<=1000000) (hr:RowOk n row) (h:∀ r,IsBy n out row r->K r):S0 row out K:=by
 unfold S0;refine Zg8 (by rw [hr.len]; exact hn) ?_
 refine Yp (λi (s:List Int)=>IsBy n (out.take i) row s) out.length ?_ ?_ _ _ _ (by omega) (by simpa using IsBy.nil hr)
 ·intro i s next hi g hn';have hz:=A.ok _ (Yw (l:=out) hi);have hlz:=Qi hz;refine Zrj hn hz ⟨⟨by omega,by rw [g.ok.len]; omega⟩,?_⟩
  rw [ZPx,Vh s]
  have hsp:out.take i++out.getD i Ci::out.drop (i+1)=out:=by
   rw [show out.getD i Ci=out[i] by simp [Co,hi],ZRj hi,Zya]
  have hR':Rref n (out.take i++out.getD i Ci::out.drop (i+1)):=by rw [hsp]; exact A
  refine Zg9 g.ok hz.1 (g.ok.rng _) (hn' _ ?_)
  rw [Xk hi]; exact g.step hR'
 ·intro s g;rw [ZP0] at g; exact h s g
theorem Dy {m:Nat} {rows:List (List Int)} (hr:X3 m rows):∃ L,IsKer m rows L:=by
 obtain ⟨R,h,_⟩:=Vi (Ds hr);obtain ⟨L,A,_⟩:=Vi (Zcj (m:=m) (n:=rows.length) (R:=R) λa ha=>(h.red.ok a ha).1)
 exact⟨L,R,h,A⟩
open Classical in
noncomputable def Vv (n:Nat) (B Z:List (List Int)):List (List Int):=Z.map λz=>if h:∃ r,IsBy n B z r then ZRr h else []
open Classical in
theorem D3 {n:Nat} {B:List (List Int)} (A:Rref n B) {z r:List Int} (h:IsBy n B z r):(if h:∃ r,IsBy n B z r then ZRr h else [])=r:=by
 rw [dif_pos ⟨r,h⟩];exact(Classical.choose_spec (⟨r,h⟩:∃ r,IsBy n B z r)).unique A h
theorem Zhi {n:Nat} {B Z:List (List Int)} (A:Rref n B) (I:X3 n Z):(∀ t,t∈Vv n B Z->∃ z,z∈Z/\IsBy n B z t)/\(∀ z,z∈Z->∃ t,t∈Vv n B Z/\IsBy n B z t):=by
 have ex:∀ z,z∈Z->∃ r,IsBy n B z r:=λz hz=>by
  obtain ⟨r,h⟩:=Zcm B [] z A (IsBy.nil (I z hz));exact⟨r,h⟩
 refine⟨λt ht=>?_,λz hz=>?_⟩
 ·obtain ⟨z,hz,rfl⟩:=Cp.1 ht;obtain ⟨r,h⟩:=ex z hz;exact⟨z,hz,by rw [D3 A h]; exact h⟩
 ·obtain ⟨r,h⟩:=ex z hz;exact⟨r,Cp.2 ⟨z,hz,D3 A h⟩,h⟩
theorem Zrl {n:Nat} {B Z:List (List Int)} {K:List (List Int)->Prop} (L:Rref n B) (V:X3 n Z) (hn:n<=1000) (hb:B.length<=1000) (hz:Z.length<=1000) (h:K (Vv n B Z)) :
  Z1 (λO (A:(List (List Int))) I=>S0 (Z.getD O Ci) B (λU=>(Zw (A.length+1) 24/\I (A++[U])))) (λ(A:(List (List Int)))=>K A) Z.length 0 []:=by
 refine Yp (λi s=>s=Vv n B (Z.take i)) Z.length ?_ ?_ _ _ _ (by omega) rfl
 ·intro i s next hi hs hnx;refine Zrk L (by omega) (by omega) (V _ (Yw hi)) λr hr=>⟨?_,hnx _ ?_⟩
  ·rw [hs,Vv,ZPv,ZJv]; unfold Zw; omega
  ·rw [hs,Xk hi,Vv,Vv,ZJn];simp only [Fm,List.map_nil];rw [D3 L hr]
 ·intro s hs; rw [hs,ZP0]; exact h
def wv (u:Vec) (rows:List (List Int)):Vec:=λj=>tt (λi=>u i * vec (at_ rows i) j) (C9 rows.length)
theorem Gf {u v r:Vec} {k:Int} (rows:List (List Int)) (e:∀ j,u j % 10007=(v j+k * r j) % 10007) (j:Nat):wv u rows j % 10007=(wv v rows j+k * wv r rows j) % 10007 :=
 N0 k λi _=>by rw [Ct,e,<- Ct,Int.add_mul,Int.mul_assoc]
theorem Zhj {u v:Vec} (rows:List (List Int)) (e:∀ j,u j % 10007=v j % 10007) (j:Nat):wv u rows j % 10007=wv v rows j % 10007:=by
 have:=Gf (u:=u) (v:=v) (r:=λ_=>0) (k:=0) rows (λj=>by rw [e]; simp) j
 simpa using this
theorem D4 {u:Vec} (rows:List (List Int)) (e:∀ j,u j % 10007=0) (j:Nat):wv u rows j % 10007=0 :=
 Qh λi _=>by rw [Ct,e]; simp
theorem Zhk {S T:Vec->Prop} (rows:List (List Int)) (h:∀ v,S v->Sp T (wv v rows)) {u:Vec} (hu:Sp S u):Sp T (wv u rows):=by
 induction hu with
 | zero z=>exact .zero (D4 rows z)
 | @add r v u k hr hv e ih=>exact Sp.sum k ih (h r hr) (Gf rows e)
theorem Zcu {u:Vec} (rows:List (List Int)):Sp (gens rows) (wv u rows):=Dv λi hi=>.inr (Yy (Wx (Zvt.1 hi)))
theorem Gg {α:Type} (f:α->Int):∀ a b:List α,tt f (a++b)=tt f a+tt f b
 | [],b=>by simp [tt]
 | x::a,b=>by simp only [List.cons_append,tt,Gg f a b]; omega
theorem Zrm {n:Nat} {rows:List (List Int)} (hr:X3 n rows) {u:Vec} (hu:Sp (gens rows) u):∃ v,RowOk rows.length v/\∀ j,u j % 10007=wv (vec v) rows j % 10007:=by
 induction hu with
 | zero z=>exact⟨Cd rows.length 0,⟨by simp,λj=>by rw [Np]; omega⟩,λj=>by rw [z,D4]; intro j; rw [Np]; rfl⟩
 | @add r v u k hr' hv e ih =>
  obtain ⟨x,hx,rfl⟩:=hr';obtain ⟨y,hy,h⟩:=ih;obtain ⟨i,hi,rfl⟩:=N1 hx;refine⟨subR (-k) y (Wd rows.length i),Ny hy (Zci _ _),λj=>?_⟩
  have A:=Gf (u:=vec (subR (-k) y (Wd rows.length i))) (v:=vec y) (r:=vec (Wd rows.length i)) (k:=k) rows (λj=>by
   rw [Vm (by rw [hy.len,(Zci _ _).len]),Int.neg_mul,Int.sub_neg,F4]) j
  have B:wv (vec (Wd rows.length i)) rows j=vec (at_ rows i) j:=by
   show tt (λi'=>vec (Wd rows.length i) i' * vec (at_ rows i') j) (C9 rows.length)=_
   rw [Dx hi λq _ ne=>by rw [Nq hi,if_neg ne,ZQc],Nq hi,if_pos rfl,ZQb]
  rw [A,B,e,Gx k (h j) rfl]
theorem D5 {m:Nat} {rows L:List (List Int)} (hr:X3 m rows) (B:IsKer m rows L) {u:Vec} (hu:Sp (gens L) u) (j:Nat):wv u rows j % 10007=0:=by
 obtain ⟨R,I,h⟩:=B;have hm:∀ i,i < rows.length->(rows.getD i Ci).length=m:=λi hi=>(hr _ (Yw hi)).len
 by_cases hj:j < m
 ·-- what a long row has ahead is what its rest weighs
  have key:∀ z,Sp (gens (J1 rows)) z->(wv (λi=>z (m+i)) rows j) % 10007=z j % 10007:=λz hz=>by
   induction hz with
   | zero e=>rw [e,D4]; intro i; exact e _
   | @add r v u k hr' hv e ih =>
    obtain ⟨x,hx,rfl⟩:=hr';obtain ⟨i,hi,rfl⟩:=Cp.1 hx;have hi:=Zvt.1 hi;rw [Gf (v:=λi=>v (m+i)) (r:=λi'=>vec (rows.getD i Ci++Wd rows.length i) (m+i')) (k:=k) rows (λi=>e _) j,e,Gx k ih]
    show tt (λi'=>vec (rows.getD i Ci++Wd rows.length i) (m+i') * vec (at_ rows i') j) (C9 rows.length) % 10007=_
    rw [Dx hi λq _ ne=>by rw [U3,hm i hi,if_neg (by omega),ZP4,Nq hi,if_neg ne,ZQc]]
    rw [U3,hm i hi,if_neg (by omega),ZP4,Nq hi,if_pos rfl,ZQb,U3,hm i hi,if_pos hj]; rfl
  have hu:=(h.sp u).2 hu
  induction hu with
  | zero z=>exact D4 rows z j
  | @add r v u k hr' hv e ih =>
   obtain ⟨x,hx,rfl⟩:=hr';obtain ⟨z,hz,rfl⟩:=Cp.1 hx;obtain ⟨hz,hl⟩:=ZPz.1 hz;have hl:m<=ld z:=by simpa using hl
   have A:=key _ ((I.sp _).2 (Yy hz));rw [Jd (by omega)] at A
   have O:wv (vec (z.drop m)) rows j=wv (λi=>vec z (m+i)) rows j:=by
    congr 1; funext i; rw [S3]
   have ih:=ih ((h.sp _).1 hv);rw [Gf rows e j,O,Int.add_emod,ih,Ct,A]; simp
 ·exact Qh λi hi=>by
   rw [Xs (by rw [(hr _ (Wx (Zvt.1 hi))).len]; omega),ZP5]; rfl
theorem D6 {n:Nat} {U:List (List Int)} (h:Rref n U) {i j:Nat} (hij:i < j) (hj:j < U.length):ld (at_ U i) < ld (at_ U j):=by
 rw [Tq hj,Tq (Nat.lt_trans hij hj)];exact(Cq.1 h.pw i j _ _ hij).1
theorem Zhl {n:Nat} {U:List (List Int)} (h:Rref n U) {i j:Nat} (hi:i < U.length) (hj:j < U.length):vec (at_ U i) (ld (at_ U j))=if i=j then 1 else 0:=by
 split
 ·rename_i e; subst e; exact(h.ok _ (Wx hi)).2
 ·rename_i ne;rcases Nat.lt_or_gt_of_ne ne with q | q
  ·rw [Tq hj,Tq hi];exact(Cq.1 h.pw i j _ _ q).2
  ·exact Jd (D6 h q hi)
theorem Zhm {n:Nat} {U:List (List Int)} (h:Rref n U) (u:Vec) {k:Nat} (hk:k < U.length):wv u U (ld (at_ U k))=u k:=by
 show tt (λi=>u i * vec (at_ U i) (ld (at_ U k))) (C9 U.length)=_
 rw [Dx hk λi hi ne=>by rw [Zhl h hi hk,if_neg ne,ZP5],Zhl h hk hk,if_pos rfl,Int.mul_one]
theorem Zrn (f:List Int->Int):∀ l:List (List Int),tt f l=tt (λi=>f (at_ l i)) (C9 l.length):=λl=>by
 have:∀ k,k<=l.length->tt f (l.take k)=tt (λi=>f (at_ l i)) (C9 k):=λk=>by
  induction k with
  | zero=>intro _; rfl
  | succ k ih =>
   intro h;rw [List.range_succ,Gg,<- ih (by omega),Xk (by omega),Gg]
   rfl
 have:=this l.length (Cg _);rwa [ZP0] at this
theorem Zhn {n:Nat} {U:List (List Int)} (h:Rref n U) {u:Vec} (hu:Sp (gens U) u) (j:Nat):u j % 10007=wv (λi=>u (ld (at_ U i))) U j % 10007:=by
 rw [h.comb hu j,Zrn]; rfl
theorem Zho {U V:List (List Int)} (i:Nat):at_ (U++V) i=if i < U.length then at_ U i else at_ V (i - U.length):=by
 unfold at_ Co;by_cases c:i < U.length
 ·rw [if_pos c,List.getElem?_append_left c]
 ·rw [if_neg c,List.getElem?_append_right (by omega)]
theorem Zcv (u:Vec) (U V:List (List Int)) (j:Nat):wv u (U++V) j=wv u U j+wv (λi=>u (U.length+i)) V j:=by
 have e:C9 (U++V).length=C9 U.length++(C9 V.length).map λi=>U.length+i:=by
  rw [C8,List.range_add]
 have mp:∀ (g:Nat->Nat) (f:Nat->Int) (l:List Nat),tt f (l.map g)=tt (λi=>f (g i)) l:=λg f l=>by
  induction l with
  | nil=>rfl
  | cons x l ih=>simp only [Fm,tt,ih]
 unfold wv;rw [e,Gg,mp]
 congr 1
 ·exact S4 λi hi=>by rw [Zho,if_pos (Zvt.1 hi)]
 ·exact S4 λi hi=>by rw [Zho,if_neg (by omega),ZP4]
theorem Zro {n:Nat} {U V S W:List (List Int)} (A:Rref n U) (hV:Rref n V) (hS:IsRref n (U++V) S) (hW:Rref n W) (h1:∀ u,Sp (gens W) u↔(Sp (gens U) u/\Sp (gens V) u)):S.length+W.length=U.length+V.length:=by
 have hr:X3 n (U++V):=λx hx=>by
  rcases Ch.1 hx with q | q
  ·exact(A.ok x q).1
  ·exact(hV.ok x q).1
 obtain ⟨L,B⟩:=Dy hr;have hd:=Lf hr B hS;rw [C8] at hd
 have hLr:Rref (U.length+V.length) L:=by
  obtain ⟨R,_,h2⟩:=B;have:=h2.1;rwa [C8] at this
 -- the leads
 have hk:∀ l,l∈L->ld l < U.length:=λl hl=>by
  obtain ⟨lo,I⟩:=hLr.ok l hl;have hlt:=Qi ⟨lo,I⟩;refine Nat.lt_of_not_le λc=>?_
  obtain ⟨q,hq⟩:∃ q,ld l=U.length+q:=⟨ld l - U.length,by omega⟩
  have z:=D5 hr B (Yy hl) (ld (at_ V q))
  have z0:wv (vec l) U (ld (at_ V q))=0:=Si λi hi=>by
   rw [Jd (by have:=Zvt.1 hi; omega),ZQc]
  rw [Zcv,z0,Zhm hV _ (by omega),<- hq,I] at z
  exact absurd z (by decide)
 have m1:∀ q,q∈L.map (λl=>ld (at_ U (ld l)))->q∈W.map ld:=λq hq=>by
  obtain ⟨l,hl,rfl⟩:=Cp.1 hq;have hkl:=hk l hl;obtain ⟨lo,I⟩:=hLr.ok l hl;have hz:=D5 hr B (Yy hl);have iU:Sp (gens U) (wv (vec l) U):=Zcu U
  have iV:Sp (gens V) (wv (vec l) U):=by
   refine Sp.sum (-1) (Sp.nil _) (Zcu (u:=λi=>vec l (U.length+i)) V) λj=>?_
   have:=hz j;rw [Zcv] at this
   omega
  obtain ⟨z,hz',e⟩:=hW.leads ((h1 _).2 ⟨iU,iV⟩) (q:=ld (at_ U (ld l))) (λj hj=>Qh λi hi=>by
    have hi:=Zvt.1 hi;by_cases c:i < ld l
    ·rw [Jd c,ZQc]; rfl
    ·have:j < ld (at_ U i):=by
      by_cases e:ld l=i
      ·rw [<- e]; exact hj
      ·exact Nat.lt_trans hj (D6 A (by omega) hi)
     rw [Jd this,ZP5]; rfl) (by rw [Zhm A _ hkl,I]; decide)
  exact Cp.2 ⟨z,hz',e⟩
 have n1:(L.map (λl=>ld (at_ U (ld l)))).Nodup:=by
  rw [List.Nodup,ZP3];refine hLr.pw.imp_of_mem λ{x y} hx hy h=>?_
  have:=D6 A h.1 (hk y hy);omega
 have m2:∀ q,q∈W.map ld->q∈L.map (λl=>ld (at_ U (ld l))):=λq hq=>by
  obtain ⟨w,hw,rfl⟩:=Cp.1 hq;obtain ⟨wo,w1⟩:=hW.ok w hw;obtain ⟨iU,iV⟩:=(h1 _).1 (Yy hw);obtain ⟨z,hz,e⟩:=A.leads iU (q:=ld w) (λj hj=>by rw [Jd hj]; rfl) (by rw [w1]; decide)
  obtain ⟨i,hi,rfl⟩:=N1 hz
  let f:List Int:=(U.map λz=>vec w (ld z) % 10007)++(V.map λz=>(- vec w (ld z)) % 10007)
  have fl:f.length=U.length+V.length:=by simp [f]
  have O:∀ j,j < U.length->vec f j=vec w (ld (at_ U j)) % 10007:=λj hj=>by
   show vec ((U.map λz=>vec w (ld z) % 10007)++_) j=_
   rw [U3,ZPv,if_pos hj];simp [vec,at_,Co,hj]
  have f2:∀ j,j < V.length->vec f (U.length+j)=(- vec w (ld (at_ V j))) % 10007:=λj hj=>by
   show vec ((U.map λz=>vec w (ld z) % 10007)++_) _=_
   rw [U3,ZPv,if_neg (by omega),ZP4]
   simp [vec,at_,Co,hj]
  have fo:RowOk (U++V).length f:=⟨by rw [fl,C8],λj=>by
   by_cases c:j < U.length
   ·rw [O j c]; omega
   ·by_cases c2:j < U.length+V.length
    ·obtain ⟨q,rfl⟩:∃ q,j=U.length+q:=⟨j - U.length,by omega⟩
     rw [f2 q (by omega)]; omega
    ·rw [Xs (by omega)]; omega⟩
  have hsp:=Zct hr B fo λj hj=>by
   show wv (vec f) (U++V) j % 10007=0
   rw [Zcv]
   have e1:wv (vec f) U j % 10007=vec w j % 10007:=by
    rw [Zhn A iU j]
    have:=N0 (l:=C9 U.length) (f:=λi=>0) (g:=λi=>vec w (ld (at_ U i)) * vec (at_ U i) j) (e:=λi=>vec f i * vec (at_ U i) j) 1 λi hi=>by
     rw [O i (Zvt.1 hi),Ct,F4,<- Ct]; simp
    rw [Si (λ_ _=>rfl)] at this
    show tt _ _ % 10007=tt _ _ % 10007
    rw [this]; simp
   have e2:wv (λi=>vec f (U.length+i)) V j % 10007=(- vec w j) % 10007:=by
    have h3:=Zhn hV iV j
    have:=N0 (l:=C9 V.length) (f:=λi=>0) (g:=λi=>vec w (ld (at_ V i)) * vec (at_ V i) j) (e:=λi=>vec f (U.length+i) * vec (at_ V i) j) (-1) λi hi=>by
     rw [f2 i (Zvt.1 hi),Ct,F4,<- Ct]; simp [Int.neg_mul]
    rw [Si (λ_ _=>rfl)] at this
    have h4:wv (λi=>vec f (U.length+i)) V j % 10007=(0+-1 * wv (λi=>vec w (ld (at_ V i))) V j) % 10007:=this
    omega
   omega
  obtain ⟨l,hl,e3⟩:=hLr.leads hsp (q:=i) (λj hj=>by
    rw [O j (by omega),Jd (by have:=D6 A hj hi; omega)]; rfl) (by rw [O i hi,e,w1]; decide)
  exact Cp.2 ⟨l,hl,by rw [e3]; exact e⟩
 have a1:=Lb n1 m1;have a2:=Lb (Du hW) m2;rw [ZPv,ZPv] at a1 a2
 omega
theorem Zrp {a b:A8} {K:Int->Prop} (ha:OkP a) (hb:OkP b) (h:K (pcmp a b)):Et a b K:=Zla ha hb h
def FitT (l:List Term):Prop:=∀ t,t∈l->Ve .u8 t.mono
theorem FitT.pos {l:List Term} (h:FitT l):Q6 l:=λt ht i hi=>Zar (Zas (h t ht) hi)
theorem Zhp {a:A8} (h:Ve .u8 a):OkP a:=λx hx=>by
 obtain ⟨i,hi,rfl⟩:=A8.mem_list.1 hx;have:=Zar (Zas h hi);omega
theorem Zrq {x:Int} {K:Bool->Prop} (h:K (decide (1<=x/\x<=10006))):Eu x K:=Zbd h
theorem Zrr {ds:List Int} {l:List Term} {K:Bool->Prop} (hd:OkDeg ds) (hp:FitT l) (h:K (decide (OkForm ds l))):Mo ds ⟨l⟩ K:=by
 unfold Mo;dsimp only;split
 ·rename_i q;have:¬ OkForm ds l:=λz=>by have:=z.1; omega
  rwa [decide_eq_false this] at h
 ·rename_i q0;refine Yp (λi _=>∀ j,j < i->OkMono ds (l.getD j Ci).mono/\(1<=(l.getD j Ci).factor/\(l.getD j Ci).factor<=10006)/\(0 < j->pcmp (l.getD (j - 1) Ci).mono (l.getD j Ci).mono < 0)) l.length ?_ ?_ _ _ _ (by omega) (by intro j hj; omega)
  ·intro i s next hi A hn
   have bad:¬ (OkMono ds (l.getD i Ci).mono/\(1<=(l.getD i Ci).factor/\(l.getD i Ci).factor<=10006)/\(0 < i->pcmp (l.getD (i - 1) Ci).mono (l.getD i Ci).mono < 0))->K false:=by
    intro b;have:¬ OkForm ds l:=λq=>b (q.2 _ hi)
    rwa [decide_eq_false this] at h
   refine Zm3 hd (λq hq=>(hp.pos _ (Yw hi) q hq).1) ?_
   split
   ·rename_i q;exact bad λz=>q (decide_eq_true z.1)
   ·rename_i B;have B:OkMono ds (l.getD i Ci).mono:=of_decide_eq_true (Zxc.1 B);refine Zrq ?_
    split
    ·rename_i q;exact bad λz=>q (decide_eq_true z.2.1)
    ·rename_i I;have I:1<=(l.getD i Ci).factor/\(l.getD i Ci).factor<=10006:=of_decide_eq_true (Zxc.1 I)
     have ok:(0 < i->pcmp (l.getD (i - 1) Ci).mono (l.getD i Ci).mono < 0)->next ():=λU=>by
      refine hn _ λj hj=>?_
      by_cases hji:j=i
      ·subst hji; exact⟨B,I,U⟩
      ·exact A j (by omega)
     split
     ·have V:Zwt.wrap ((i:Int) - 1)=(i:Int) - 1:=i64_in _ (by omega)
      rw [V,show ((i:Int) - 1).toNat=i - 1 by omega]
      have L:=hp _ (Yw (show i - 1 < l.length by omega))
      have O:=hp _ (Yw hi);refine⟨by omega,Ex L (Ex O (Zrp (Zhp L) (Zhp O) ?_))⟩
      split
      ·rename_i q;exact bad λz=>by have:=z.2.2 (by omega); omega
      ·rename_i q;exact ok λ_=>by omega
     ·exact ok λq=>by omega
  ·intro s A;have:OkForm ds l:=⟨by omega,A⟩
   rwa [decide_eq_true this] at h
structure IsMap (l:List Term) (m:List (A8×Int)):Prop where
 ok:MapOk m
 cf:∀ x,co m x=coT l x
 ks:∀ p,p∈m->∃ t,t∈l/\t.mono=p.1
theorem Zcw {l:List Term} {K:List (A8×Int)->Prop} (hc:Canon l) (hp:FitT l) (h:∀ m,IsMap l m->K m):Qw ⟨l⟩ K:=by
 unfold Qw;dsimp only;refine Yp (λi (s:List (A8×Int))=>IsMap (l.take i) s) l.length ?_ ?_ _ _ _ (by omega) ⟨MapOk.nil,by intro x; rfl,by simp⟩
 ·intro i s next hi A hn;refine Ex (hp _ (Yw hi)) (hn _ ?_)
  rw [Xk hi]
  have hnew:co s (l.getD i Ci).mono=0:=by
   rw [A.cf];refine Tg λt ht=>?_
   obtain ⟨j,hj,rfl⟩:=Cw ht;rw [ZJv] at hj
   have:=hc.at_lt (show j < i by omega) hi
   have hjl:j < l.length:=by omega
   simp only [List.getElem_take];rw [show l.getD j Ci=l[j] by simp [Co,hjl]] at this
   exact Ue this
  refine⟨A.ok.put (hc.at_range hi),λx=>?_,λp hpm=>?_⟩
  ·rw [Zbe A.ok.1,T6,<- A.cf]
   by_cases hx:x=(l.getD i Ci).mono
   ·subst hx; rw [if_pos rfl,if_pos rfl,hnew,F3]
   ·rw [if_neg hx,if_neg (λe=>hx e.symm),ZP1]
  ·rcases Zbg hpm with rfl | q
   ·exact⟨_,by simp,rfl⟩
   ·obtain ⟨t,ht,e⟩:=A.ks p q;exact⟨t,by simp [ht],e⟩
 ·intro s A;rw [ZP0] at A
  exact h _ A
theorem Zcx {l:List (A8×Int)} {x:A8} {c:Int} {K:List (A8×Int)->Prop} (hl:MapOk l) (hc:-100000000000<=c/\c<=100000000000) (h:∀ l',IsPut l x c l'->K l'):Qv l x c K:=by
 unfold Qv;rw [Ti hl.1];have:=hl.range x;rw [i64_in _ (by omega)]
 refine Zbk ?_
 split
 ·rename_i q; exact h _ (IsPut.put hl rfl q)
 ·rename_i q; exact h _ (IsPut.del hl (by omega))
structure IsSum (s t:List (A8×Int)) (k:Int) (out:List (A8×Int)):Prop where
 ok:MapOk out
 cf:∀ m,co out m % 10007=(co s m+k * co t m) % 10007
 ks:∀ p,p∈out->∃ q,(q∈s\/q∈t)/\q.1=p.1
 ln:out.length<=s.length+t.length
theorem Zrs {s t:List (A8×Int)} {k:Int} {K:List (A8×Int)->Prop} (hs:MapOk s) (ht:MapOk t) (hk:0<=k/\k<=10006) (h:∀ out,IsSum s t k out->K out):Qx s t k K:=by
 unfold Qx;refine Ka (λl' (out:List (A8×Int))=>(∀ p,p∈l'->p∈t)/\MapOk out/\(∀ m,(co out m+k * co l' m) % 10007=(co s m+k * co t m) % 10007)/\(∀ p,p∈out->∃ q,(q∈s\/q∈t)/\q.1=p.1)/\out.length+l'.length<=s.length+t.length) ?_ ?_ t s ⟨λ_ h=>h,hs,λ_=>rfl,λp hp=>⟨p,.inl hp,rfl⟩,by omega⟩
 ·intro l' p l'' out next hp ⟨B,I,L,O,U⟩ hn;have hperm:=El hp;have hpm:p∈l':=hperm.mem_iff.2 (by simp)
  have hpt:=ht.2 p (B p hpm);have hb:=E6 (show 0<=p.2/\p.2<=10006 by omega) hk
  rw [i64_in _ (by omega)]
  have htm:=Ha (p.2 * k);refine Zcx I (by omega) λout' ho=>hn _ ⟨λq hq=>B q (hperm.mem_iff.2 (by simp [hq])),ho.ok,λm=>?_,λq hq=>?_,?_⟩
  ·have V:=ho.cf m;have A:=L m;have e3:co l' m=(if p.1=m then p.2 else 0)+co l'' m:=by rw [co,Mp _ hperm]; rfl
   rw [e3,Int.mul_add] at A
   by_cases hm:p.1=m
   ·rw [if_pos hm] at V A
    have e4:=Zfv (p.2 * k);rw [Int.mul_comm k p.2] at A
    omega
   ·rw [if_neg hm] at V A
    omega
  ·rcases ho.ks q hq with e | ⟨q',hq',e⟩
   ·exact⟨p,.inr (B p hpm),e.symm⟩
   ·obtain ⟨z,hz,e'⟩:=O q' hq';exact⟨z,hz,e'.trans e⟩
  ·have:=ho.ln;have:=L8 hp;omega
 ·intro out ⟨_,I,L,O,U⟩;exact h _ ⟨I,λm=>by have:=L m; rw [Mq,ZP5,ZP1] at this; exact this,O,by simpa using U⟩
def shM (ds:List Int) (p:A8×Int) (t:List (A8×Int)) (m:A8):Int:=tot (λq=>pr1 ds p.1 p.2 q.1 q.2 m) t
def prM (ds:List Int) (s t:List (A8×Int)) (m:A8):Int:=tot (λp=>shM ds p t m) s
structure IsProdM (ds:List Int) (s t out:List (A8×Int)):Prop where
 ok:MapOk out
 cf:∀ m,co out m % 10007=prM ds s t m % 10007
 ks:∀ p,p∈out->∃ a b,a∈s/\b∈t/\p.1=a.1.add b.1/\¬ Clash ds a.1 b.1
theorem Zhq {ds:List Int} {s t:List (A8×Int)} {K:List (A8×Int)->Prop} (hd:OkDeg ds) (hs:MapOk s) (ws:∀ p,p∈s->Jr ds p.1) (ps:∀ p,p∈s->∀ i,i < 8->0<=p.1.get i) (ht:MapOk t) (wt:∀ p,p∈t->Jr ds p.1) (pt:∀ p,p∈t->∀ i,i < 8->0<=p.1.get i)
  (h:∀ out,IsProdM ds s t out->K out):Te s ds t K:=by
 unfold Te;refine Ka (λl' (out:List (A8×Int))=>(∀ p,p∈l'->p∈s)/\MapOk out/\(∀ m,(co out m+prM ds l' t m) % 10007=prM ds s t m % 10007)/\(∀ p,p∈out->∃ a b,a∈s/\b∈t/\p.1=a.1.add b.1/\¬ Clash ds a.1 b.1)) ?_ ?_ s [] ⟨λ_ h=>h,MapOk.nil,λm=>by rw [Mq,F3],by simp⟩
 ·intro l' p l'' out next hp ⟨h0,V,h2,h3⟩ hn;have hperm:=El hp;have hpm:p∈s:=h0 p (hperm.mem_iff.2 (by simp))
  have hpf:=hs.2 p hpm;have e3:∀ m,prM ds l' t m=shM ds p t m+prM ds l'' t m:=λm=>by rw [prM,Mp _ hperm]; rfl
  refine Ka (λk' (B:List (A8×Int))=>(∀ q,q∈k'->q∈t)/\MapOk B/\(∀ m,(co B m+shM ds p k' m) % 10007=(co out m+shM ds p t m) % 10007)/\(∀ q,q∈B->∃ a b,a∈s/\b∈t/\q.1=a.1.add b.1/\¬ Clash ds a.1 b.1)) ?_ ?_ t out ⟨λ_ h=>h,V,λ_=>rfl,h3⟩
  ·intro k' q k'' B next' hq ⟨g0,I,L,O⟩ hn';have hperm2:=El hq;have hqm:q∈t:=g0 q (hperm2.mem_iff.2 (by simp))
   have hqf:=ht.2 q hqm;have e4:∀ m,shM ds p k' m=pr1 ds p.1 p.2 q.1 q.2 m+shM ds p k'' m:=λm=>by rw [shM,Mp _ hperm2]; rfl
   refine Znb hd (ws p hpm) (wt q hqm) (ps p hpm) (pt q hqm) ?_
   split
   ·rename_i hsg;rw [Zbm (Q2 hsg).2.2 hpf hqf];have htm:=Ha ((Yl ds p.1 q.1).2 * (p.2 * q.2));refine Zcx I (by omega) λo3 ho=>hn' _ ⟨λz hz=>g0 z (hperm2.mem_iff.2 (by simp [hz])),ho.ok,λm=>?_,λz hz=>?_⟩
    ·have U:=ho.cf m;have A:=L m;rw [e4,pr1] at A
     by_cases hm:(Yl ds p.1 q.1).1=m
     ·rw [if_pos hm] at U A
      have e5:=Zfv ((Yl ds p.1 q.1).2 * (p.2 * q.2));omega
     ·rw [if_neg hm] at U A
      omega
    ·rcases ho.ks z hz with e | ⟨z',hz',e⟩
     ·exact⟨p,q,hpm,hqm,by rw [e,(Q2 hsg).2.1],(Q2 hsg).1⟩
     ·obtain ⟨a,b,ha,hb,e',hc⟩:=O z' hz';exact⟨a,b,ha,hb,e ▸ e',hc⟩
   ·rename_i hsg;refine hn' _ ⟨λz hz=>g0 z (hperm2.mem_iff.2 (by simp [hz])),I,λm=>?_,O⟩
    have A:=L m;rw [e4,pr1,show (Yl ds p.1 q.1).2=0 by simpa using hsg] at A
    simpa using A
  ·intro B ⟨_,I,L,O⟩;refine hn _ ⟨λq hq=>h0 q (hperm.mem_iff.2 (by simp [hq])),I,λm=>?_,O⟩
   have U:=L m;have A:=h2 m;rw [e3] at A
   rw [show shM ds p [] m=0 from rfl] at U
   omega
 ·intro out ⟨_,V,h2,h3⟩;exact h _ ⟨V,λm=>by have:=h2 m; rw [show prM ds [] t m=0 from rfl,ZP1] at this; exact this,h3⟩
theorem D7 {l:List Term} {k:List (A8×Int)} (hk:IsMap l k) (hc:Canon l) (F:A8->Int->Int) (I:∀ a,F a 0=0):tot (λp=>F p.1 p.2) k=tot (λt=>F t.mono t.factor) l:=by
 have hnd:(l.map λt=>(t.mono,t.factor)).Nodup:=by
  refine ZP3.2 (hc.1.imp λ{a b} h e=>?_)
  exact Ue h (I1 Prod.fst e)
 have hperm:k.Perm (l.map λt=>(t.mono,t.factor)):=by
  have hkn:k.Nodup:=by
   have:=hk.ok.1;exact List.Pairwise.imp (λ{a b} h e=>h (I1 Prod.fst e)) (ZP3.1 this)
  refine(List.perm_ext_iff_of_nodup hkn hnd).2 λp=>?_
  have atk:∀ p,p∈k->co k p.1=p.2:=by
   intro p hp;obtain ⟨i,hi,rfl⟩:=Cw hp;have hkk:=hk.ok.1;clear hk hkn
   induction k generalizing i with
   | nil=>simp at hi
   | cons q k ih =>
    simp only [Fm,ZFj] at hkk
    rw [Vs];cases i with
    | zero=>rw [List.getElem_cons_zero,if_pos rfl,T7 λt ht e=>hkk.1 (Cp.2 ⟨t,ht,e⟩),ZP1]
    | succ i =>
     have hi':i < k.length:=by simpa using hi
     rw [List.getElem_cons_succ,if_neg (λe=>hkk.1 (Cp.2 ⟨_,List.getElem_mem hi',e.symm⟩)),F3]
     exact ih i hi' (List.getElem_mem hi') hkk.2
  have atl:∀ t,t∈l->coT l t.mono=t.factor:=by
   intro t ht;clear hk hkn hnd atk
   induction l with
   | nil=>simp at ht
   | cons q l ih =>
    rcases Cb.1 ht with rfl | ht
    ·exact hc.at_head
    ·rw [Uf,if_neg (Ue (hc.head t ht)),F3]; exact ih hc.tail ht
  constructor
  ·intro hp;obtain ⟨t,ht,e⟩:=hk.ks p hp;refine Cp.2 ⟨t,ht,?_⟩
   have A:=atk p hp;rw [hk.cf,<- e,atl t ht] at A
   rw [e,A]
  ·intro hp;obtain ⟨t,ht,rfl⟩:=Cp.1 hp;have A:=hk.cf t.mono;rw [atl t ht] at A
   have hnz:=hc.2 t ht
   have:∃ p,p∈k/\p.1=t.mono:=by
    refine ZRv λhno=>?_
    rw [T7 (λp hp e=>hno ⟨p,hp,e⟩)] at A
    omega
   obtain ⟨p,hp,e⟩:=this;have B:=atk p hp;rw [e,A] at B
   rw [<- e,B]; exact hp
 rw [Mp _ hperm,Q0]
def Low (a:A8):Prop:=∀ i,i < 8->a.get i<=20
instance (a:A8):Decidable (Low a):=inferInstanceAs (Decidable (∀ i,i < 8->_))
end Go.Proofs.YtaagfepgbofmlaaGreat
namespace Vc
open Go
def A8.mkf (f:Nat->Int):A8:=⟨f 0,f 1,f 2,f 3,f 4,f 5,f 6,f 7⟩
theorem A8.get_mkf (f:Nat->Int) {i:Nat} (hi:i < 8):(A8.mkf f).get i=f i:=by
 match i,hi with
 | 0,_ | 1,_ | 2,_ | 3,_ | 4,_ | 5,_ | 6,_ | 7,_=>rfl
def Jh (m:A8) (i:Nat):A8:=A8.mkf λj=>if j < i then m.get j else 0
def leftA (m:A8) (i:Nat):A8:=A8.mkf λj=>if j < i then m.get j else if j=i then m.get i - 1 else 0
def backA (m:A8) (i:Nat):A8:=A8.mkf λj=>if i < j then m.get j else 0
def wtU (ds:List Int) (m:A8):Nat->Int
 | 0=>0
 | i+1=>wtU ds m i+ds.getD i Ci * m.get i
theorem Zhr (F:A8->Int) (S:List A8) (A:S.Nodup):∀ l:List Term,(∀ t,t∈l->t.mono∈S)->tot (λt=>F t.mono * t.factor) l=tot (λx=>F x * coT l x) S:=by
 intro l
 induction l with
 | nil=>intro _; simp only [tot]; rw [Tf]; intro x _; rw [Q1,ZP5]
 | cons t l ih =>
  intro h;simp only [tot];rw [ih λs hs=>h s (by simp [hs])]
  have e:∀ x,F x * coT (t::l) x=(if t.mono=x then F x * t.factor else 0)+F x * coT l x:=λx=>by
   rw [Uf,Int.mul_add]
   congr 1
   split
   ·rfl
   ·rw [ZP5]
  rw [Wa (λx _=>e x),K9]
  congr 1
  have ht:=h t (by simp)
  clear ih h e
  induction S with
  | nil=>cases ht
  | cons s S ihS =>
   simp only [tot];have hn:=ZFj.1 A;by_cases hs:t.mono=s
   ·subst hs;rw [if_pos rfl,Tf]
    ·omega
    ·intro x hx;rw [if_neg];rintro rfl;exact hn.1 hx
   ·rw [if_neg hs,F3];refine ihS hn.2 ?_
    rcases Cb.1 ht with q | q
    ·exact absurd q hs
    ·exact q
def Tm:List A8->List A8
 | []=>[]
 | a::l=>if a∈Tm l then Tm l else a::Tm l
theorem Zcy {a:A8}:∀ l,a∈l->a∈Tm l
 | b :: l, h => by
  simp only [Tm];rcases Cb.1 h with rfl | h
  ·split
   ·assumption
   ·simp
  ·have:=Zcy l h;split
   ·exact this
   ·simp [this]
theorem D8:∀ l,(Tm l).Nodup
 | []=>List.nodup_nil
 | a :: l => by
  simp only [Tm];split
  ·exact D8 l
  ·exact ZFj.2 ⟨by assumption,D8 l⟩
theorem lin (F:A8->Int) {l k:List Term} (h:∀ x,coT l x % 10007=coT k x % 10007):tot (λt=>F t.mono * t.factor) l % 10007=tot (λt=>F t.mono * t.factor) k % 10007:=by
 have S:=Tm (l.map ZP6++k.map ZP6)
 rw [Zhr F (Tm (l.map ZP6++k.map ZP6)) (D8 _) l λt ht=>Zcy _ (by simp; exact .inl ⟨t,ht,rfl⟩),
  Zhr F (Tm (l.map ZP6++k.map ZP6)) (D8 _) k λt ht=>Zcy _ (by simp; exact .inr ⟨t,ht,rfl⟩)]
 refine E1 λx _=>?_
 rw [Ct,h x,<- Ct]
def tri (ds:List Int) (l b u:A8) (n:Int) (x:A8):Int:=if(Yl ds (Yl ds l u).1 b).1=x then(Yl ds (Yl ds l u).1 b).2 * ((Yl ds l u).2 * n) else 0
def triC (ds:List Int) (l b:A8) (img:List Term) (x:A8):Int:=tot (λu=>tri ds l b u.mono u.factor x) img
theorem Zhs {ds:List Int} {l b:A8} {img own prod:List Term} (h:∀ y,coT own y % 10007=shC ds ⟨l,1⟩ img y % 10007) (A:∀ x,coT prod x % 10007=prC ds own [⟨b,1⟩] x % 10007) (x:A8):coT prod x % 10007=triC ds l b img x % 10007:=by
 rw [A]
 have B:prC ds own [⟨b,1⟩] x=tot (λt=>(if(Yl ds t.mono b).1=x then(Yl ds t.mono b).2 else 0) * t.factor) own:=by
  refine Wa λt _=>?_
  unfold shC pr1;simp only [tot,Int.mul_one,ZP1];split <;> simp
 have I:∀ y,coT own y % 10007=coT (img.map λu=>(⟨(Yl ds l u.mono).1,(Yl ds l u.mono).2 * u.factor⟩:Term)) y % 10007:=λy=>by
  rw [h y,shC,coT,Q0]
  congr 1
  refine Wa λu _=>?_
  unfold pr1;simp only [ZQb]
 rw [B,lin (λy=>if(Yl ds y b).1=x then(Yl ds y b).2 else 0) I,Q0]
 congr 1
 refine Wa λu _=>?_
 unfold tri;dsimp only;split <;> simp
def dK (ds:List Int) (m:A8) (n:Int) (i:Nat):Int:=(sg (wtU ds m i) * (n * m.get i)) % 10007
def dS (ds:List Int) (imgs:List (List Term)) (m:A8) (n:Int) (x:A8):Nat->Nat->Int
 | 0,_=>0
 | r+1,i=>(if m.get i > 0 then dK ds m n i * triC ds (leftA m i) (backA m i) (imgs.getD i Ci) x else 0)+dS ds imgs m n x r (i+1)
def dT (ds:List Int) (imgs:List (List Term)) (m:A8) (n:Int) (x:A8):Int:=dS ds imgs m n x 8 0
theorem Zrt (ds:List Int) (m:A8) (i:Nat):dK ds m 0 i=0:=by simp [dK]
theorem Zcz (ds:List Int) (imgs:List (List Term)) (m x:A8):dT ds imgs m 0 x=0:=by
 have:∀ r i,dS ds imgs m 0 x r i=0:=by
  intro r
  induction r with
  | zero=>intro i; rfl
  | succ r ih=>intro i; simp only [dS,ih,Zrt]; split <;> simp
 exact this 8 0
theorem Zru {ds:List Int} {imgs:List (List Term)} {m:A8} {n:Int} {x:A8}:∀ r i,(∀ j,i<=j->j < i+r->m.get j=0)->dS ds imgs m n x r i=0:=by
 intro r
 induction r with
 | zero=>intro i _; rfl
 | succ r ih=>intro i h; simp only [dS]; rw [h i (by omega) (by omega),if_neg (by omega),ih (i+1) λj A B=>h j (by omega) (by omega)]; rfl
def DMono (ds:List Int) (imgs:List (List Term)) (x m:A8):Prop:=∃ i u,i < 8/\0 < m.get i/\u∈imgs.getD i Ci/\x=((leftA m i).add u.mono).add (backA m i)/\¬ Clash ds (leftA m i) u.mono/\¬ Clash ds ((leftA m i).add u.mono) (backA m i)
structure IsD (ds:List Int) (imgs:List (List Term)) (f out:List Term):Prop where
 can:Canon out
 cf:∀ x,coT out x % 10007=tot (λt=>dT ds imgs t.mono t.factor x) f % 10007
 mo:∀ y,y∈out->∃ t,t∈f/\DMono ds imgs y.mono t.mono
theorem Zc0 {ds:List Int} {m:A8} {i:Nat} (h:OkMono ds m) (hi:i < 8) (hp:0 < m.get i):Jr ds (leftA m i)/\Jr ds (backA m i):=by
 constructor
 ·intro j hj;rw [leftA,A8.get_mkf _ hj];have hm:=h j hj;refine⟨λhl=>?_,λhl=>?_⟩
  ·have A:=hm.1 hl;split
   ·exact⟨by omega,A.2⟩
   ·split
    ·rename_i e; subst e; exact⟨by omega,λq=>by have:=A.2 q; omega⟩
    ·exact⟨by omega,λ_=>by omega⟩
  ·have A:=hm.2 hl;split
   ·exact A
   ·split
    ·rename_i e; subst e; omega
    ·rfl
 ·intro j hj;rw [backA,A8.get_mkf _ hj];have hm:=h j hj;refine⟨λhl=>?_,λhl=>?_⟩
  ·have A:=hm.1 hl;split
   ·exact⟨by omega,A.2⟩
   ·exact⟨by omega,λ_=>by omega⟩
  ·have A:=hm.2 hl;split
   ·exact A
   ·rfl
theorem D9 {ds:List Int} {a b:A8} (ha:Jr ds a) (hb:Jr ds b) (pa:∀ i,i < 8->0<=a.get i) (pb:∀ i,i < 8->0<=b.get i) (hs:∀ i,i < 8->a.get i+b.get i<=100) (hc:¬ Clash ds a b):Jr ds (a.add b):=by
 intro j hj;rw [A8.get_add];have h:=ha j hj;have A:=hb j hj;refine⟨λhl=>⟨hs j hj,λho=>?_⟩,λhl=>by rw [h.2 hl,A.2 hl]; rfl⟩
 have B:=(h.1 hl).2 ho;have I:=(A.1 hl).2 ho;have:=pa j hj;have:=pb j hj;have:¬ (0 < a.get j/\0 < b.get j):=λq=>hc ⟨j,hl,ho,q⟩
 omega
end Vc
namespace Go.Proofs.YtaagfepgbofmlaaGreat
open Go Vc
def asT (m:List (A8×Int)):List Term:=m.map λp=>⟨p.1,p.2⟩
theorem Zc1 (m:List (A8×Int)) (x:A8):coT (asT m) x=co m x:=by rw [coT,asT,Q0]; rfl
theorem Zc2 {l:List Term} {out:List (A8×Int)} (hc:Canon l) (ho:MapOk out) (h:∀ x,co out x % 10007=coT l x % 10007):IsMap l out:=by
 have hcf:∀ x,co out x=coT l x:=λx=>by have:=h x; have:=ho.range x; have:=hc.range x; omega
 refine⟨ho,hcf,λp hp=>ZRv λhno=>?_⟩
 have A:coT l p.1=0:=Tg λt ht e=>hno ⟨t,ht,e⟩
 rw [<- hcf,<- Ti ho.1] at A
 have B:=ho.2 p hp
 have I:(Xa out p.1).getD 0=p.2:=by
  rw [Ti ho.1];have hk:=ho.1;clear h hcf hno A B ho
  induction out with
  | nil=>simp at hp
  | cons q k ih =>
   simp only [Fm,ZFj] at hk
   rw [Vs];rcases Cb.1 hp with rfl | hp
   ·rw [if_pos rfl,T7 λt ht e=>hk.1 (Cp.2 ⟨t,ht,e⟩),ZP1]
   ·rw [if_neg (λe=>hk.1 (Cp.2 ⟨p,hp,e.symm⟩)),F3]
    exact ih hp hk.2
 omega
theorem Zrv {ds:List Int} {l b:A8} {img:List Term} {s own t:List (A8×Int)} (hs:IsMap img s) (hc:Canon img) (h:IsProdM ds [(l,1)] s own) (A:IsProdM ds own [(b,1)] t) (x:A8):co t x % 10007=triC ds l b img x % 10007:=by
 rw [<- Zc1]
 refine Zhs (own:=asT own) (λy=>?_) (λx=>?_) x
 ·rw [Zc1,h.cf];unfold prM shM shC;simp only [tot,ZP1];rw [D7 hs hc (λa n=>pr1 ds l 1 a n y) (λa=>by unfold pr1; split <;> simp)]
 ·rw [Zc1,A.cf];unfold prM shM prC shC asT;rw [Q0];simp only [tot,ZP1]
structure IsDM (ds:List Int) (imgs:List (List Term)) (s out:List (A8×Int)):Prop where
 ok:MapOk out
 cf:∀ x,co out x % 10007=tot (λp=>dT ds imgs p.1 p.2 x) s % 10007
 mo:∀ y,y∈out->∃ t,t∈s/\DMono ds imgs y.1 t.1
theorem Zrw {ds:List Int} {imgs:List (List Term)} {f:List Term} {s out':List (A8×Int)} {out:List Term} (hs:IsMap f s) (hc:Canon f) (h:IsD ds imgs f out) (h':IsDM ds imgs s out'):IsMap out out' :=
 Zc2 h.can h'.ok λx=>by
  rw [h'.cf,h.cf,D7 hs hc (λa n=>dT ds imgs a n x) (λa=>Zcz ds imgs a x)]
theorem Zht {l:List Term} {m:List (A8×Int)} (h:IsMap l m) (hc:Canon l):m=[]↔l=[]:=by
 constructor
 ·intro e;cases l with
  | nil=>rfl
  | cons t l =>
   have A:=h.cf t.mono;rw [hc.at_head,e,Mq] at A
   have:=hc.2 t (by simp)
   omega
 ·intro e;cases m with
  | nil=>rfl
  | cons p m =>
   obtain ⟨t,ht,_⟩:=h.ks p (by simp)
   rw [e] at ht; cases ht
end Go.Proofs.YtaagfepgbofmlaaGreat
