import Derived.Test.YtheenipahifleaaGreatQ2
set_option linter.unusedSectionVars false
set_option linter.unusedSimpArgs false
set_option linter.unusedVariables false
open Decidable renaming not_not→ZJo
open Go renaming wp_seq→ZFx,wp_skip→ZF0,wp_ret→ZF5,wp_block→ZF3,wp_exit→ZGb
open Go.IntKind renaming i64→Zw2,u8→ZF9
open Go.Proofs.Tryz renaming prog→ZFz,underlying22→ZGg,underlying99→ZGt,underlying53→ZF7,func87→ZIl,underlying90→ZGd,underlying55→ZF4,underlying28→ZGl,underlying110→ZGk,underlying88→ZGf,underlying32→ZGh,underlying49→ZIy,underlying3→ZG5,underlying5→ZGz
open Go.Value renaming map→ZIm,ownBlock→Zva,int→ZIv
open Inhabited renaming default→Zuo
open Int renaming tmod→Zu9,natCast_nonneg→ZGe,ofNat_lt→ZGw,zero_add→ZIo,tmod_eq_emod_of_nonneg→ZIt,toNat_of_nonneg→ZIw,mul_tdiv_add_tmod→ZJy,eq_ofNat_of_zero_le→ZJ1
open List renaming toArray→ZFw,replicate→Zuj,mem_singleton→Zwb,mem_cons→Zuk,mem_map→Zvz,getD→Zuv,map_cons→Zvp,nodup_cons→ZIp,pairwise_cons→Zu5,not_mem_nil→Zwq,length_eq_one_iff→ZGv,pairwise_append→ZJw,take_of_length_le→Zv9
open List.Pairwise renaming nil→ZJv
open List.Perm renaming refl→ZI2
open Nat renaming le_of_ble_eq_true→ZF6,le_trans→Zup,lt_of_le_of_lt→ZIs,zero_le→Zvh,le_refl→Zun
open Option renaming toList→ZGu
open Prod renaming fst→Zvq
open Vc renaming ETerm→ZFy,Form→ZF1,TForm→ZGj,TInts→ZIn
open Vc.A8 renaming enc→ZFv,zero→ZF2,enc_get→ZGa,enc_set→ZGr,get_set→ZIq,ext_get→ZIr,get_zero→ZIz
open Vc.Ctx renaming start→ZGi
open Vc.Enc renaming encs_len→ZIx
open Vc.Term renaming enc→ZF8
open Vc.Tr renaming item→ZGc
open Vc.Ty renaming item→ZB9
set_option maxRecDepth 4000
set_option maxHeartbeats 4000000
namespace Go.Proofs.YtheenipahifleaaGreat
open Go Go.RowKit Vc
variable {b0 bp0 b1 bp1 b2 bp2 b3 bp3 b4 bp4 b5 bp5 b6 bp6 b7 bp7 mb0:Nat} {u0_0 u0_1 u0_2 u0_3 u0_4 u0_5 u1_0 u1_1 u1_2 u1_3 u1_4 u1_5 u2_0 u2_1 u2_2 u2_3 u2_4 u2_5 u3_0 u3_1 u3_2 u3_3 u3_4 u3_5 u4_0 u4_1 u4_2 u4_3 u4_4 u4_5 u5_0 u5_1 u5_2 u5_3 u5_4 u5_5 u6_0 u6_1 u6_2 u6_3 u6_4 u6_5 u7_0 u7_1 u7_2 u7_3 u7_4 u7_5:Value} {fp0 fp1 fp2 fp3 fp4 fp5 fp6 fp7 fp0_0 fp0_1 fp0_2 fp0_3 fp0_4 fp0_5 fp1_0 fp1_1 fp1_2 fp1_3 fp1_4 fp1_5 F0:List Nat}
def Zdg (a0:List (A8×Int)) (K:ZF1→Int→Prop):Prop :=
 (if(a0.length:Int) > 400 then K (⟨[]⟩:ZF1) 3 else Zes a0 (fun r10=>Ye (fun i10 (s11:(List Term)) nx10=>Ye (fun i11 (s10:A8) nx11=>(if(r10.getD i10 Zuo).get i11 > 20 then K (⟨[]⟩:ZF1) 3 else nx11 (s10.set i11 (ZF9.wrap ((r10.getD i10 Zuo).get i11))))) (fun (s10:A8)=>(X5 (s11.length+1) 16∧nx10 (s11++[(⟨s10,(Y1 a0 (r10.getD i10 Zuo)).getD 0⟩:Term)]))) 8 0 ZF2) (fun (s11:(List Term))=>K (⟨s11⟩:ZF1) 0) r10.length 0 []))
theorem Zpr (a0:List (A8×Int))  {K:ZF1→Int→Prop} (h:Zdg a0 K) (w0:World) (q0:(mapS b0 a0).holds w0) :
  Calls ZFz 66 #[.map (some b0)] w0 fun e w'=>∃ (r0:ZF1) (z0_0:Value) (fz0:List Nat) (r1:Int),
   e=.returned (.tuple #[.agg #[z0_0],vI r1])∧K r0 r1∧(ZGc (Zn 90) r0 [z0_0] fz0).holds w'∧(∀ b,b∈fz0→w0.heap.size≤b)∧Bel w0 w':=by
 unfold Zdg at h
 refine cof Tryz.func66 rfl 48 Tryz.ntmps66 ?_
 have hC:=ZGi (X:=Nox) w0 [mapS b0 a0] (al1 q0)
 refine sr (Z9 hC [.slice none 0 0] z55 rfl fun b2 w4 hB_ hC=>Zc (v:=vI 0) rfl (dn (ZFx (sr (Zb (v:=.map (some b0)) rfl (Zh9 (hC.getP 0 rfl) ZGt rfl rfl (Xn rfl rfl (dn ?_))))))))
 refine Zp rfl (fun hb5=>?_) (fun hb5=>?_)
 ·replace h:=ift h (ct hb5)
  refine sr (Xl [] rfl (Zas   _) (Zu (v:=.agg #[.slice none 0 0]) hC 0 [.slice none 0 0] [.slice none 0 0] rfl ag55.size rfl rfl rfl rfl rfl (ZF6 rfl) rfl fun w6 hC=>Zc (v:=vI 3) rfl (dn ?_)))
  refine ZF5 (Ze ?_)
  exact Xg rfl (Xp hC 0 rfl ag55 rfl rfl) (Zf rfl) ⟨(⟨[]⟩:ZF1),.slice none 0 0,[],3,rfl,h,(Jf (Jo _ _ _)),(fun b hb=>absurd hb (by simp)),hC.below⟩ (.inl rfl)
 ·replace h:=Zj h (cf hb5)
  refine ZF0 (Zd (sr (Xl [] rfl (Zas   _) (Z9 hC [.slice none 0 0] z55 rfl fun b7 w9 hB_ hC=>Zu (v:=.agg #[.slice none 0 0]) hC 0 [.slice none 0 0] [.slice none 0 0] rfl ag55.size rfl rfl rfl rfl rfl (ZF6 rfl) rfl fun w10 hC=>dn (ZFx (sr (Zb (v:=.map (some b0)) rfl (Zg [.map (some b0)] _ Tryz.func90 rfl rfl rfl (Zpq a0 h _ (hC.getP 0 rfl)) ?_))))))))
  rintro _ w11 ⟨r10,u10,f10,rfl,h,hr10,hf10,hB10⟩
  refine rt ?_
  replace hC:=hC.push hB10 (ZGc (Tr.sl 110 ((EA .i64).tr)) r10 [u10] f10) hr10 hf10
  obtain ⟨ho10,hf11⟩:=Zaq (hC.getM 0 rfl).1
  subst hf11
  replace hC:=hC.recast (c:=own 110 8 u10 r10.length ((EA .i64).encs r10)) (fun _ h_=>h_) (fun _=>ho10)
  refine Zek hC 0 rfl Tryz.underlying128 rfl (Zb (v:=vI 0) rfl (dn (ZF3 ?_)))
  have hN10:r10.length≤9223372036854775807:=Znj (hC.getM 0 rfl)
  refine Yl (S:=(List Term)) _ _ (fun i10 s11 e_ w_=>∃ (v10:Value),Zy e_ [(0,.map (some b0)),(2,vQ b2),(4,vQ b7),(16,u10),(17,vI (r10.length:Int)),(18,vI (i10:Int))]∧Ctx Nox w0 w_ [own 90 9 v10 s11.length (ZFy.encs s11),own 110 8 u10 r10.length ((EA .i64).encs r10),blk b7 55 [v10],blk b2 55 [.slice none 0 0]] [mapS b0 a0]) r10.length ?_ ?_ (s0:=[]) ?_ h
  ·clear hC h
   rintro i10 s11 e_ w12 nx10 K10 hi10 ⟨v10,hS_,hC⟩ h hK10
   rw [ue hS_]
   refine sr (Zo rfl rfl (dn (ZFx (Z8 rfl (decide_eq_true (by omega)) (ZF0 (Zd (ZFx (ZF3 (sr ?_)))))))))
   obtain ⟨Ad10,c10,hv10⟩:=Za2 (hC.getM 1 rfl) (ZIs (Zvh _) hi10)
   refine Zbf (i10 * 8) Tryz.underlying128 ag110.size (tr rfl hv10) rfl (ZGe _) (ZGw.2 hi10) rfl (Jm (ZFv .i64 (r10.getD i10 Zuo)) (Zjz (hC.getM 1 rfl) hv10 i10 hi10) ag110 rfl rfl (Z9 hC (ZFv .i64 ZF2) Jq rfl fun b10 w13 hB_ hC=>Zu (v:=.agg (ZFw (ZFv .i64 (r10.getD i10 Zuo)))) hC 0 (ZFv .i64 (r10.getD i10 Zuo)) (ZFv .i64 (r10.getD i10 Zuo)) rfl ag110.size rfl rfl rfl rfl rfl (ZF6 rfl) rfl fun w14 hC=>dn (sr (Xl [] rfl (Zda   _) (Z9 hC (ZFv .u8 ZF2) z88 rfl fun b11 w15 hB_ hC=>Zu (v:=.agg (ZFw (ZFv .u8 ZF2))) hC 0 (ZFv .u8 ZF2) (ZFv .u8 ZF2) rfl ag88.size rfl rfl rfl rfl rfl (ZF6 rfl) rfl fun w16 hC=>dn (ZFx (sr (Yg hC 1 (ZFv .i64 (r10.getD i10 Zuo)) rfl ag110 rfl rfl rfl (Zb (v:=vI 0) rfl (dn (ZF3 ?_)))))))))))
   refine Yl (S:=A8) _ _ (fun i11 s10 e_ w_=>Zy e_ [(0,.map (some b0)),(2,vQ b2),(4,vQ b7),(6,vQ b10),(7,vQ b11),(16,u10),(17,vI (r10.length:Int)),(18,vI (i10:Int)),(23,.agg (ZFw (ZFv .i64 (r10.getD i10 Zuo)))),(24,vI (i11:Int))]∧Ctx Nox w0 w_ [blk b11 88 (ZFv .u8 s10),blk b10 110 (ZFv .i64 (r10.getD i10 Zuo)),own 90 9 v10 s11.length (ZFy.encs s11),own 110 8 u10 r10.length ((EA .i64).encs r10),blk b7 55 [v10],blk b2 55 [.slice none 0 0]] [mapS b0 a0]) 8 ?_ ?_ (s0:=ZF2) ?_ h
   ·clear hC h
    rintro i11 s10 e_ w17 nx11 K11 hi11 ⟨hS_,hC⟩ h hK11
    rw [ue hS_]
    refine sr (Zo rfl rfl (dn (ZFx (Z8 rfl (decide_eq_true (by omega)) (ZF0 (Zd (ZFx (ZF3 (sr (Zb (v:=vI (i11:Int)) rfl (Zf5 (vI ((r10.getD i10 Zuo).get i11)) ZGk rfl rfl (ZGe _) (by omega) sc3 (ZGa _ _ hi11) (Zc (v:=vI (i11:Int)) rfl (Zc (v:=vI ((r10.getD i10 Zuo).get i11)) rfl (dn (ZFx (sr (Zb (v:=vI ((r10.getD i10 Zuo).get i11)) rfl (Xn rfl rfl (dn ?_)))))))))))))))))))
    refine Zp rfl (fun hb10=>?_) (fun hb10=>?_)
    ·replace h:=ift h (ct hb10)
     refine sr (Xl [] rfl (Zas   _) (Zu (v:=.agg #[.slice none 0 0]) hC 5 [.slice none 0 0] [.slice none 0 0] rfl ag55.size rfl rfl rfl rfl rfl (ZF6 rfl) rfl fun w18 hC=>Zc (v:=vI 3) rfl (dn ?_)))
     refine ZF5 (Ze (Zw (Ze (Ze (Zw (Ze (Zw (Ze (Ze (Zw (Ze ?_)))))))))))
     exact Xg rfl (Xp hC 5 rfl ag55 rfl rfl) (Zf rfl) ⟨(⟨[]⟩:ZF1),.slice none 0 0,[],3,rfl,h,(Jf (Jo _ _ _)),(fun b hb=>absurd hb (by simp)),hC.below⟩ (.inl rfl)
    ·replace h:=Zj h (cf hb10)
     refine ZF0 (Zd (Zm (Zb (v:=vI (i11:Int)) rfl (Zb (v:=vI ((r10.getD i10 Zuo).get i11)) rfl (Zf4 ZG5 ZGz rfl (Y9 i11 ZGf sc5.size rfl rfl (ZGe _) (by omega) (by omega) (Zu (v:=.int .u8 (ZF9.wrap ((r10.getD i10 Zuo).get i11))) hC 0 [.int .u8 (ZF9.wrap ((r10.getD i10 Zuo).get i11))] (ZFv .u8 (s10.set i11 (ZF9.wrap ((r10.getD i10 Zuo).get i11)))) rfl sc5.size rfl rfl rfl rfl rfl hi11 (ZGr _ _ _ hi11) fun w19 hC=>done (Zs (Zd (Zm (Zr rfl rfl (Zb (v:=vI (Zw2.wrap ((i11:Int)+1))) rfl (done ?_)))))))))))))
     exact hK11 (s10.set i11 (ZF9.wrap ((r10.getD i10 Zuo).get i11))) _ _ ⟨(sl ⟨rfl,rfl,rfl,rfl,rfl,rfl,rfl,rfl,rfl,(tr rfl (congrArg _ (Ya hi11 (by decide)))),trivial⟩),hC⟩ h
   ·clear hC h
    rintro s10 e_ w20 K11 ⟨hS_,hC⟩ h
    rw [ue hS_]
    refine sr (Zo rfl rfl (dn (ZFx (Yb rfl (decide_eq_false (by omega)) ?_))))
    refine ZGb (Zl (Zl (Z2 ?_)))
    refine Zd ?_
    refine cwd 8 mixed [0,1,0,0,0,24,60,124,255,511,1023] [1,2,4,5,6] [0,3] (fun hM10 hM11 w21 hB_=>?_)
    replace hC:=hC.grow hB_
    refine bF 0 (vQ b7) rfl rfl hM11 (fun _=>by exact Yd 0 ZF4 rfl sc53.size rfl rfl) (Za 11 1) (bL 1 (v10) rfl rfl hM10 (fun _ hB_=>by exact Yc (hC.grow hB_) 4 (v10) rfl sc53 rfl rfl) (Za 11 3) (bL 2 (.agg (ZFw (ZFv .u8 s10))) rfl rfl hM10 (fun _ hB_=>by exact Y3 (hC.grow hB_) 0 (ZFv .u8 s10) rfl ag88 rfl rfl rfl) (Za 11 7) (bM 3 (.map (some b0)) rfl hM11 (Za 11 15) (bL 4 (.agg (ZFw (ZFv .i64 (r10.getD i10 Zuo)))) rfl rfl hM10 (fun _ hB_=>by exact Y3 (hC.grow hB_) 1 (ZFv .i64 (r10.getD i10 Zuo)) rfl ag110 rfl rfl rfl) (Za 11 31) (bL 5 (vI ((Y1 a0 (r10.getD i10 Zuo)).getD 0)) rfl rfl hM10 (fun _ hB_=>by exact Zkf (r10.getD i10 Zuo) 0 ((hC.grow hB_).getP 0 rfl) X3 ZGt z2 rfl rfl) (Za 11 63) (bL 6 (.agg (ZFw (ZF8 (⟨s10,(Y1 a0 (r10.getD i10 Zuo)).getD 0⟩:Term)))) rfl rfl hM10 (fun _ hB_=>by exact Zf6 [(0,.agg (ZFw (ZFv .u8 s10))),(1,vI ((Y1 a0 (r10.getD i10 Zuo)).getD 0))] rfl (Zel s10 ((Y1 a0 (r10.getD i10 Zuo)).getD 0)  _)) (Za 11 127) (aO 7 rfl (Jc (sz:=9) hC [(0,.agg (ZFw (ZF8 (⟨s10,(Y1 a0 (r10.getD i10 Zuo)).getD 0⟩:Term))))] (ZFy.encs [(⟨s10,(Y1 a0 (r10.getD i10 Zuo)).getD 0⟩:Term)]) rfl (fun _=>Zc8 (⟨s10,(Y1 a0 (r10.getD i10 Zuo)).getD 0⟩:Term) _) rfl (by decide) fun b12 w22 hB_ hC=>done (aK (by assumption) (Za 11 255) (Z3 8 (by decide) (by decide) (by kernel_rfl) (by kernel_rfl) rfl ?_))))))))))
    obtain ⟨hm10,h⟩:=h
    refine Zb0 hC 3 ZF7 Zc9 rfl (by decide) (by decide) rfl (Zag (hC.getM 0 rfl)) (fun q hq=>Enc.encs_one' (E:=ETerm) _ q hq) rfl rfl hm10 fun v11 w23 hC=>?_
    replace hC:=J4 hC 3 ((s11++[(⟨s10,(Y1 a0 (r10.getD i10 Zuo)).getD 0⟩:Term)]).length) (ZFy.encs (s11++[(⟨s10,(Y1 a0 (r10.getD i10 Zuo)).getD 0⟩:Term)])) rfl (by simp) (by first | (simp [Enc.encs_append]; done) | simp [Enc.encs_append,Enc.encs])
    refine Zz 0 ZF4 rfl sc53.size rfl rfl (Zu (v:=v11) hC 5 [v11] [v11] rfl sc53.size rfl rfl (Zb3 (hC.getM 3 rfl)) rfl (Yo (Y8 (hC.getM 3 rfl)) rfl) (ZF6 rfl) rfl fun w24 hC=>done (Z4 (Zs (Zd (Zm (Zr rfl rfl (Zb (v:=vI (Zw2.wrap ((i10:Int)+1))) rfl (done ?_))))))))
    exact hK10 (s11++[(⟨s10,(Y1 a0 (r10.getD i10 Zuo)).getD 0⟩:Term)]) _ _ ⟨v11,(sl ⟨rfl,rfl,rfl,rfl,rfl,(tr rfl (congrArg _ (Ya hi10 hN10))),trivial⟩),(hC.xM [3,4,5,6] rfl)⟩ h
   ·skip
    exact⟨(slq rfl),hC⟩
  ·clear hC h
   rintro s11 e_ w25 K10 ⟨v10,hS_,hC⟩ h
   rw [ue hS_]
   refine sr (Zo rfl rfl (dn (ZFx (Yb rfl (decide_eq_false (by omega)) ?_))))
   refine ZGb (Zl (Zl (Z2 ?_)))
   refine Zd (sr (Yg hC 2 [v10] rfl ag55 rfl rfl rfl (Zu (v:=.agg #[v10]) hC 3 [v10] [v10] rfl ag55.size rfl rfl rfl rfl (Yo (Y8 (hC.getM 0 rfl)) rfl) (ZF6 rfl) rfl fun w26 hC=>Zc (v:=vI 0) rfl (dn (ZF5 ?_)))))
   exact Xg rfl (Xp hC 3 rfl ag55 rfl rfl) (Zf rfl) ⟨(⟨s11⟩:ZF1),v10,(ZGu (Zva v10)),0,rfl,h,(Jf (Je (hC.getM 0 rfl))),(Jt hC 0 rfl),hC.below⟩ (.inl rfl)
  ·skip
   replace hC:=hC.pushNil 90 9
   exact⟨.slice none 0 0,(slq rfl),hC⟩
def Zau (a0:List (A8×Int)) (a1:List (A8×Int)) (a2:Int) (K:List (A8×Int)→Prop):Prop :=
 Zac (fun (q10:A8×Int) (s10:(List (A8×Int))) nx10=>Zdf s10 q10.1 (Zu9 (Zw2.wrap (q10.2 * a2)) 10007) (fun m10=>nx10 m10)) (fun (s10:(List (A8×Int)))=>K s10) a1.length a1 a0
theorem Zgs (a0:List (A8×Int)) (a1:List (A8×Int)) (a2:Int)  {K:List (A8×Int)→Prop} (h:Zau a0 a1 a2 K) (w0:World) (q0:(mapS b0 a0).holds w0) (d1:∀ c,c∈[b1]→c≠b0) (q1:(mapS b1 a1).holds w0) :
  Calls ZFz 89 #[.map (some b0),.map (some b1),vI a2] w0 fun e w'=>∃ (m0:List (A8×Int)),
   e=.returned (.tuple #[])∧K m0∧(mapS b0 m0).holds w'∧BelB b0 w0 w':=by
 unfold Zau at h
 refine cof Tryz.func89 rfl 22 Tryz.ntmps89 ?_
 have hC:=Ctx.start1 w0 b0 (it:=mapS b0 a0) rfl [mapS b1 a1] q0 (by simp only [Zuk,Zwq,or_false,forall_eq_or_imp,forall_eq]; exact q1) (by simp only [Zuk,Zwq,or_false,forall_eq_or_imp,forall_eq]; exact d1)
 refine sr (Zb (v:=.map (some b1)) rfl (Zcx hC 0 rfl ZGt rfl fun r3 es4 ck5 w10 hB_ hn6 hbn7 hC=>dn (ZF3 ?_)))
 refine Zc1 (S:=(List (A8×Int))) _ _ (fun l10 s10 e_ w_=>∃ (la10:Option MapEntry),Zy e_ [(0,.map (some b0)),(2,vI a2),(9,vQ r3)]∧Ctx (fun c_=>c_=b0) w0 w_ [itI (kvA .i64) (vvI .i64) r3 b1 es4 ck5 la10 l10,mapS b0 s10] [Ju b1 es4 ck5,mapS b1 a1]) ?_ (l0:=a1) (s0:=a0) ?_ h
 ·clear hC h
  rintro l10 s10 e_ w11 nx10 K10 ⟨la10,hS_,hC⟩ h hK10
  rw [ue hS_]
  refine sr ?_
  refine Zcy hC 0 0 rfl rfl hn6 hbn7 rfl (fun hr10=>?_) (fun q10 l11 ent10 w12 hp10 hk10 hv10 hC=>?_)
  ·replace h:=h.1 hr10
   refine Y7 (v:=.bool false) rfl rfl (dn (ZFx (Yb rfl rfl ?_)))
   refine ZGb (Zl (Zl (Z2 ?_)))
   exact Zhx rfl  ⟨s10,rfl,h,(hC.getM 1 rfl),hC.belB⟩ (.inr rfl)
  ·replace h:=h.2 q10 l11 hp10
   refine Y7 (v:=.bool true) rfl rfl (dn (ZFx (Z8 rfl rfl (ZF0 (Zd (ZF3 (sr (Zcz hC 0 0 q10 rfl rfl hn6 rfl hk10 hv10 (Y7 (v:=.agg (ZFw (ZFv .i64 q10.1))) rfl rfl (Y7 (v:=vI q10.2) rfl rfl (Z9 hC (ZFv .i64 ZF2) Jq rfl fun b10 w13 hB_ hC=>Zu (v:=.agg (ZFw (ZFv .i64 q10.1))) hC 0 (ZFv .i64 q10.1) (ZFv .i64 q10.1) rfl ag110.size rfl rfl rfl rfl rfl (ZF6 rfl) rfl fun w14 hC=>Zc (v:=vI q10.2) rfl (dn (Zm (Zb (v:=.map (some b0)) rfl (Yg hC 0 (ZFv .i64 q10.1) rfl ag110 rfl rfl rfl (Zb (v:=vI q10.2) rfl (Zb (v:=vI a2) rfl (J7 rfl rfl (Jb rfl rfl (by decide) (Zg [.map (some b0),.agg (ZFw (ZFv .i64 q10.1)),vI (Zu9 (Zw2.wrap (q10.2 * a2)) 10007)] _ Tryz.func103 rfl rfl rfl (Zk3 s10 q10.1 (Zu9 (Zw2.wrap (q10.2 * a2)) 10007) h _ (hC.getM 2 rfl)) ?_))))))))))))))))))))
   rintro _ w15 ⟨m10,rfl,h,hm10,hB10⟩
   refine rt ?_
   replace hC:=hC.turnB 2 rfl hB10 rfl rfl hm10
   refine done (Zs ?_)
   exact hK10 q10 l11 m10 _ _ hp10 ⟨(some ent10),(slq rfl),(hC.xM [1,2] rfl)⟩ h
 ·skip
  exact⟨none,(slq rfl),hC⟩
def Jz (a0:List (A8×Int)) (a1:List Int) (a2:List (A8×Int)) (K:List (A8×Int)→Prop):Prop :=
 Zac (fun (q10:A8×Int) (s11:(List (A8×Int))) nx11=>Zac (fun (q11:A8×Int) (s10:(List (A8×Int))) nx10=>Zer q10.1 a1 q11.1 (fun r10 r11=>(if r11≠0 then Zdf s10 r10 (Zu9 (Zw2.wrap ((Zw2.wrap (r11 * q10.2)) * q11.2)) 10007) (fun m10=>nx10 m10) else nx10 s10))) (fun (s10:(List (A8×Int)))=>nx11 s10) a2.length a2 s11) (fun (s11:(List (A8×Int)))=>K s11) a0.length a0 ([]:List (A8×Int))
theorem X6 (a0:List (A8×Int)) (a1:List Int) (a2:List (A8×Int))  {K:List (A8×Int)→Prop} (h:Jz a0 a1 a2 K) (w0:World) (q0:(mapS b0 a0).holds w0) (q1:ZIn.rep a1 [u1_0] fp1 w0) (q2:(mapS b2 a2).holds w0) :
  Calls ZFz 87 #[.map (some b0),u1_0,.map (some b2)] w0 fun e w'=>∃ (r0:List (A8×Int)) (zb0:Nat),
   e=.returned (.map (some zb0))∧K r0∧(mapS zb0 r0).holds w'∧w0.heap.size≤zb0∧Bel w0 w':=by
 unfold Jz at h
 refine cof ZIl rfl 48 Tryz.ntmps87 ?_
 have hC:=ZGi (X:=Nox) w0 [ZB9 TInts a1 [u1_0] fp1,mapS b0 a0,mapS b2 a2] (alc q1 (alc q0 (al1 q2)))
 refine sr (Zc (v:=.map none) rfl (dn (sr (Zbg hC (kvA .i64) (vvI .i64) fun b4 w6 hB_ hC=>Zc (v:=.map (some b4)) rfl (dn (ZFx (sr (Zb (v:=.map (some b0)) rfl (Zcx hC 1 rfl ZGt rfl fun r7 es8 ck9 w10 hB_ hn10 hbn10 hC=>dn (ZF3 ?_))))))))))
 refine Zc1 (S:=(List (A8×Int))) _ _ (fun l12 s11 e_ w_=>∃ (la10:Option MapEntry),Zy e_ [(1,u1_0),(2,.map (some b2)),(7,.map (some b4)),(16,vQ r7)]∧Ctx Nox w0 w_ [itI (kvA .i64) (vvI .i64) r7 b0 es8 ck9 la10 l12,mapS b4 s11] [Ju b0 es8 ck9,ZB9 TInts a1 [u1_0] fp1,mapS b0 a0,mapS b2 a2]) ?_ (l0:=a0) (s0:=([]:List (A8×Int))) ?_ h
 ·clear hC h
  rintro l12 s11 e_ w11 nx11 K10 ⟨la10,hS_,hC⟩ h hK11
  rw [ue hS_]
  refine sr ?_
  refine Zcy hC 0 0 rfl rfl hn10 hbn10 rfl (fun hr10=>?_) (fun q10 l10 ent10 w12 hp11 hk10 hv10 hC=>?_)
  ·replace h:=h.1 hr10
   refine Y7 (v:=.bool false) rfl rfl (dn (ZFx (Yb rfl rfl ?_)))
   refine ZGb (Zl (Zl (Z2 ?_)))
   refine Zd (sr (Zb (v:=.map (some b4)) rfl (Zc (v:=.map (some b4)) rfl (dn (ZF5 ?_)))))
   exact Zk rfl (Zf rfl) ⟨s11,b4,rfl,h,(hC.getM 1 rfl),(Zee hC 1 rfl),hC.below⟩ (.inl rfl)
  ·replace h:=h.2 q10 l10 hp11
   refine Y7 (v:=.bool true) rfl rfl (dn (ZFx (Z8 rfl rfl (ZF0 (Zd (ZF3 (sr (Zcz hC 0 0 q10 rfl rfl hn10 rfl hk10 hv10 (Y7 (v:=.agg (ZFw (ZFv .i64 q10.1))) rfl rfl (Y7 (v:=vI q10.2) rfl rfl (Z9 hC (ZFv .i64 ZF2) Jq rfl fun b10 w13 hB_ hC=>Zu (v:=.agg (ZFw (ZFv .i64 q10.1))) hC 0 (ZFv .i64 q10.1) (ZFv .i64 q10.1) rfl ag110.size rfl rfl rfl rfl rfl (ZF6 rfl) rfl fun w14 hC=>Zc (v:=vI q10.2) rfl (dn (sr (Zb (v:=.map (some b2)) rfl (Zcx hC 3 rfl ZGt rfl fun r12 es10 ck10 w15 hB_ hn11 hbn11 hC=>dn (ZF3 ?_))))))))))))))))
   refine Zc1 (S:=(List (A8×Int))) _ _ (fun l13 s10 e_ w_=>∃ (la11:Option MapEntry),Zy e_ [(1,u1_0),(2,.map (some b2)),(7,.map (some b4)),(8,vQ b10),(9,vI q10.2),(16,vQ r7),(23,vQ r12)]∧Ctx Nox w0 w_ [itI (kvA .i64) (vvI .i64) r12 b2 es10 ck10 la11 l13,blk b10 110 (ZFv .i64 q10.1),itI (kvA .i64) (vvI .i64) r7 b0 es8 ck9 (some ent10) l10,mapS b4 s10] [Ju b2 es10 ck10,Ju b0 es8 ck9,ZB9 TInts a1 [u1_0] fp1,mapS b0 a0,mapS b2 a2]) ?_ (l0:=a2) (s0:=s11) ?_ h
   ·clear hC h
    rintro l13 s10 e_ w16 nx10 K11 ⟨la11,hS_,hC⟩ h hK10
    rw [ue hS_]
    refine sr ?_
    refine Zcy hC 0 0 rfl rfl hn11 hbn11 rfl (fun hr11=>?_) (fun q11 l11 ent11 w17 hp10 hk11 hv11 hC=>?_)
    ·replace h:=h.1 hr11
     refine Y7 (v:=.bool false) rfl rfl (dn (ZFx (Yb rfl rfl ?_)))
     refine ZGb (Zl (Zl (Z2 ?_)))
     refine Zs ?_
     exact hK11 q10 l10 s10 _ _ hp11 ⟨(some ent10),(slq rfl),((hC.xM [2,3] rfl).sP [1,2,3,4] rfl)⟩ h
    ·replace h:=h.2 q11 l11 hp10
     refine Y7 (v:=.bool true) rfl rfl (dn (ZFx (Z8 rfl rfl (ZF0 (Zd (ZF3 (sr (Zcz hC 0 0 q11 rfl rfl hn11 rfl hk11 hv11 (Y7 (v:=.agg (ZFw (ZFv .i64 q11.1))) rfl rfl (Y7 (v:=vI q11.2) rfl rfl (Z9 hC (ZFv .i64 ZF2) Jq rfl fun b11 w18 hB_ hC=>Zu (v:=.agg (ZFw (ZFv .i64 q11.1))) hC 0 (ZFv .i64 q11.1) (ZFv .i64 q11.1) rfl ag110.size rfl rfl rfl rfl rfl (ZF6 rfl) rfl fun w19 hC=>Zc (v:=vI q11.2) rfl (dn (sr (Yg hC 2 (ZFv .i64 q10.1) rfl ag110 rfl rfl rfl (Zb (v:=u1_0) rfl (Yg hC 0 (ZFv .i64 q11.1) rfl ag110 rfl rfl rfl (Zg [.agg (ZFw (ZFv .i64 q10.1)),u1_0,.agg (ZFw (ZFv .i64 q11.1))] _ Tryz.func102 rfl rfl rfl (Zpo q10.1 a1 q11.1 h _ (hC.getP 2 rfl)) ?_)))))))))))))))))
     rintro _ w20 ⟨r10,r11,rfl,h,hB10⟩
     refine rt ?_
     replace hC:=hC.grow hB10
     refine Zb (v:=.tuple #[.agg (ZFw (ZFv .i64 r10)),vI r11]) rfl (Y7 (v:=.agg (ZFw (ZFv .i64 r10))) rfl rfl (Y7 (v:=vI r11) rfl rfl (Z9 hC (ZFv .i64 ZF2) Jq rfl fun b12 w21 hB_ hC=>Zu (v:=.agg (ZFw (ZFv .i64 r10))) hC 0 (ZFv .i64 r10) (ZFv .i64 r10) rfl ag110.size rfl rfl rfl rfl rfl (ZF6 rfl) rfl fun w22 hC=>Zc (v:=vI r11) rfl (dn (sr (Zb (v:=vI r11) rfl (Yw rfl rfl (dn ?_))))))))
     refine Zp rfl (fun hb10=>?_) (fun hb10=>?_)
     ·replace h:=ift h (ct hb10)
      refine Zm (Zb (v:=.map (some b4)) rfl (Yg hC 0 (ZFv .i64 r10) rfl ag110 rfl rfl rfl (Zb (v:=vI r11) rfl (Zb (v:=vI q10.2) rfl (J7 rfl rfl (Zb (v:=vI q11.2) rfl (J7 rfl rfl (Jb rfl rfl (by decide) (Zg [.map (some b4),.agg (ZFw (ZFv .i64 r10)),vI (Zu9 (Zw2.wrap ((Zw2.wrap (r11 * q10.2)) * q11.2)) 10007)] _ Tryz.func103 rfl rfl rfl (Zk3 s10 r10 (Zu9 (Zw2.wrap ((Zw2.wrap (r11 * q10.2)) * q11.2)) 10007) h _ (hC.getM 5 rfl)) ?_)))))))))
      rintro _ w23 ⟨m10,rfl,h,hm10,hB11⟩
      refine rt ?_
      replace hC:=hC.turnB 5 rfl hB11 rfl rfl hm10
      refine done (Zs ?_)
      exact hK10 q11 l11 m10 _ _ hp10 ⟨(some ent11),(slq rfl),(hC.xM [2,3,4,5] rfl)⟩ h
     ·replace h:=Zj h (cf hb10)
      refine ZF0 (Zs ?_)
      exact hK10 q11 l11 s10 _ _ hp10 ⟨(some ent11),(slq rfl),(hC.xM [2,3,4,5] rfl)⟩ h
   ·skip
    exact⟨none,(slq rfl),hC⟩
 ·skip
  exact⟨none,(slq rfl),hC⟩
def Zcd (a0:Int) (a1:Int) (a2:Int) (K:Bool→Prop):Prop :=
 (if a0≥a1 then K (decide (a0≤a2)) else K false)
theorem Zis (a0:Int) (a1:Int) (a2:Int)  {K:Bool→Prop} (h:Zcd a0 a1 a2 K) (w0:World)  :
  Calls ZFz 45 #[vI a0,vI a1,vI a2] w0 fun e w'=>∃ (r0:Bool),
   e=.returned (.bool r0)∧K r0∧Bel w0 w':=by
 unfold Zcd at h
 refine cof Tryz.func45 rfl 15 Tryz.ntmps45 ?_
 have hC:=ZGi (X:=Nox) w0 [] (by simp)
 refine sr (Zc (v:=.bool false) rfl (dn (sr (Zb (v:=vI a0) rfl (Zb (v:=vI a1) rfl (Zbd rfl rfl (Zb (v:=.bool (decide (a0≥a1))) rfl ?_)))))))
 refine Yq (decide (a0≥a1)) (fun hb1=>?_) (fun hb1=>?_)
 ·replace h:=ift h (ct hb1)
  refine Zi 3 10 rfl rfl hb1 (Zb (v:=vI a0) rfl (Zi 3 10 rfl rfl hb1 (Zb (v:=vI a2) rfl (Zi 3 10 rfl rfl hb1 (Zbz rfl rfl (Zx (v:=.bool (decide (a0≤a2))) (b:=true) (tr rfl (congrArg _ hb1)) rfl (Zc (v:=.bool (decide (a0≤a2))) rfl (dn (ZF5 ?_)))))))))
  exact Zk rfl (Zf rfl) ⟨decide (a0≤a2),rfl,h,hC.below⟩ (.inl rfl)
 ·replace h:=Zj h (cf hb1)
  refine Zh (b:=false) 3 10 rfl (tr rfl (congrArg _ hb1)) (by decide) (Zh (b:=false) 3 10 rfl (tr rfl (congrArg _ hb1)) (by decide) (Zh (b:=false) 3 10 rfl (tr rfl (congrArg _ hb1)) (by decide) (Zx (v:=.bool false) (b:=false) (tr rfl (congrArg _ hb1)) rfl (Zc (v:=.bool false) rfl (dn (ZF5 ?_))))))
  exact Zk rfl (Zf rfl) ⟨false,rfl,h,hC.below⟩ (.inl rfl)
def Zet (a0:List Int) (p1:Int→(Bool→Prop)→Prop) (K:Int→Prop):Prop :=
 Ye (fun i10 (s10:Unit) nx10=>p1 (a0.getD i10 Zuo) (fun r10=>(if r10=true then K (i10:Int) else nx10 ()))) (fun (s10:Unit)=>K (-1)) a0.length 0 ()
theorem Zps (a0:List Int) (p1:Int→(Bool→Prop)→Prop)  {K:Int→Prop} (h:Zet a0 p1 K) (w0:World) (q0:ZIn.rep a0 [u0_0] fp0 w0) {g1:Nat} {cp1:List Value} {fn1:Func} (hf1:ZFz.funcs[g1]? = some fn1) (hb1:fn1.body.isNone=false) (hn1:(fn1.name == "runtime.NumGoroutine")=false) (hp1:∀ (y0:Int) (K_:Bool→Prop) (w_:World),Bel w0 w_→p1 y0 K_→Calls ZFz g1 (ZFw ([vI y0]++cp1)) w_ fun e w'=>∃ (z0:Bool),e=.returned (.bool z0)∧K_ z0∧Bel w_ w') :
  Calls ZFz 70 #[u0_0,.func (.func g1) #[] (ZFw cp1)] w0 fun e w'=>∃ (r0:Int),
   e=.returned (vI r0)∧K r0∧Bel w0 w':=by
 unfold Zet at h
 refine cof Tryz.func70 rfl 19 Tryz.ntmps70 ?_
 have hC:=ZGi (X:=Nox) w0 [ZB9 TInts a0 [u0_0] fp0] (al1 q0)
 refine sr (Zc (v:=vI 0) rfl (dn (ZFx (sr (Zb (v:=u0_0) rfl (Zv hC 0 rfl ZGg rfl (Zb (v:=vI 0) rfl (dn (ZF3 ?_)))))))))
 have hN10:a0.length≤9223372036854775807:=Y5 (hC.getP 0 rfl)
 refine Yl (S:=Unit) _ _ (fun i10 s10 e_ w_=>Zy e_ [(0,u0_0),(1,.func (.func g1) #[] (ZFw cp1)),(7,vI (a0.length:Int)),(8,vI (i10:Int))]∧Ctx Nox w0 w_ [] [ZB9 TInts a0 [u0_0] fp0]) a0.length ?_ ?_ (s0:=()) ?_ h
 ·clear hC h
  rintro i10 s10 e_ w10 nx10 K10 hi10 ⟨hS_,hC⟩ h hK10
  rw [ue hS_]
  refine sr (Zo rfl rfl (dn (ZFx (Z8 rfl (decide_eq_true (by omega)) (ZF0 (Zd (ZFx (ZF3 (sr (Zb (v:=vI (i10:Int)) rfl (Zc (v:=vI (i10:Int)) rfl (dn (sr (Zb (v:=.func (.func g1) #[] (ZFw cp1)) rfl (Zb (v:=u0_0) rfl (Zb (v:=vI (i10:Int)) rfl ?_))))))))))))))))
  obtain ⟨Ad10,c10,hv10⟩:=Z1 (hC.getP 0 rfl) i10 hi10
  refine Yp (len:=a0.length) ZGg sc2.size (tr rfl hv10) rfl (ZGe _) (ZGw.2 hi10) (Xh (vI (a0.getD i10 Zuo)) (Yi (hC.getP 0 rfl) hv10 i10 hi10) sc2 rfl ?_)
  refine Zj7 [vI (a0.getD i10 Zuo)] _ rfl hf1 hb1 hn1 rfl (hp1 _ _ _ hC.below  h) (fun ret10 w11 hR10=>?_)
  obtain ⟨r10,rfl,h,hB10⟩:=hR10
  refine⟨_,rfl,?_⟩
  replace hC:=hC.grow hB10
  refine dn ?_
  refine Zp rfl (fun hb10=>?_) (fun hb10=>?_)
  ·replace h:=ift h (hb10)
   refine sr (Zb (v:=vI (i10:Int)) rfl (Zc (v:=vI (i10:Int)) rfl (dn ?_)))
   refine ZF5 (Zw (Ze (Ze (Zw (Ze ?_)))))
   exact Zk rfl (Zf rfl) ⟨(i10:Int),rfl,h,hC.below⟩ (.inl rfl)
  ·replace h:=Zj h (Ym hb10)
   refine ZF0 (Zs (Zd (Zm (Zr rfl rfl (Zb (v:=vI (Zw2.wrap ((i10:Int)+1))) rfl (done ?_))))))
   exact hK10 () _ _ ⟨(sl ⟨rfl,rfl,rfl,(tr rfl (congrArg _ (Ya hi10 hN10))),trivial⟩),hC⟩ h
 ·clear hC h
  rintro s10 e_ w12 K10 ⟨hS_,hC⟩ h
  rw [ue hS_]
  refine sr (Zo rfl rfl (dn (ZFx (Yb rfl (decide_eq_false (by omega)) ?_))))
  refine ZGb (Zl (Zl (Z2 ?_)))
  refine Zd (sr (Zc (v:=vI (-1)) rfl (dn (ZF5 ?_))))
  exact Zk rfl (Zf rfl) ⟨(-1),rfl,h,hC.below⟩ (.inl rfl)
 ·skip
  exact⟨(slq rfl),hC⟩
def Zce (a0:List Int) (p1:Int→(Bool→Prop)→Prop) (K:Bool→Prop):Prop :=
 Zet a0 p1 (fun r5=>K (decide (r5≥0)))
theorem Zk5 (a0:List Int) (p1:Int→(Bool→Prop)→Prop)  {K:Bool→Prop} (h:Zce a0 p1 K) (w0:World) (q0:ZIn.rep a0 [u0_0] fp0 w0) {g1:Nat} {cp1:List Value} {fn1:Func} (hf1:ZFz.funcs[g1]? = some fn1) (hb1:fn1.body.isNone=false) (hn1:(fn1.name == "runtime.NumGoroutine")=false) (hp1:∀ (y0:Int) (K_:Bool→Prop) (w_:World),Bel w0 w_→p1 y0 K_→Calls ZFz g1 (ZFw ([vI y0]++cp1)) w_ fun e w'=>∃ (z0:Bool),e=.returned (.bool z0)∧K_ z0∧Bel w_ w') :
  Calls ZFz 43 #[u0_0,.func (.func g1) #[] (ZFw cp1)] w0 fun e w'=>∃ (r0:Bool),
   e=.returned (.bool r0)∧K r0∧Bel w0 w':=by
 unfold Zce at h
 refine cof Tryz.func43 rfl 9 Tryz.ntmps43 ?_
 have hC:=ZGi (X:=Nox) w0 [ZB9 TInts a0 [u0_0] fp0] (al1 q0)
 refine sr (Zc (v:=.bool false) rfl (dn (sr (Zb (v:=u0_0) rfl (Zb (v:=.func (.func g1) #[] (ZFw cp1)) rfl (Zg [u0_0,.func (.func g1) #[] (ZFw cp1)] _ Tryz.func70 rfl rfl rfl (Zps a0 p1 h _ (hC.getP 0 rfl) hf1 hb1 hn1 (fun x0_ K_ w_ hb_=>hp1 x0_ K_ w_ (Zka hC.below hb_))) ?_))))))
 rintro _ w4 ⟨r5,rfl,h,hB6⟩
 refine rt ?_
 replace hC:=hC.grow hB6
 refine Zbd rfl rfl (Zc (v:=.bool (decide (r5≥0))) rfl (dn (ZF5 ?_)))
 exact Zk rfl (Zf rfl) ⟨decide (r5≥0),rfl,h,hC.below⟩ (.inl rfl)
def Zeu (a0:Int) (K:Bool→Prop):Prop :=
 Zcd a0 1 12 (fun r4=>K (!r4))
theorem Zpt (a0:Int)  {K:Bool→Prop} (h:Zeu a0 K) (w0:World)  :
  Calls ZFz 106 #[vI a0] w0 fun e w'=>∃ (r0:Bool),
   e=.returned (.bool r0)∧K r0∧Bel w0 w':=by
 unfold Zeu at h
 refine cof Tryz.func106 rfl 6 Tryz.ntmps106 ?_
 have hC:=ZGi (X:=Nox) w0 [] (by simp)
 refine sr (Zc (v:=.bool false) rfl (dn (sr (Zb (v:=vI a0) rfl (Zg [vI a0,vI 1,vI 12] _ Tryz.func45 rfl rfl rfl (Zis a0 1 12 h _) ?_)))))
 rintro _ w3 ⟨r4,rfl,h,hB5⟩
 refine rt ?_
 replace hC:=hC.grow hB5
 refine Yu rfl (Zc (v:=.bool (!r4)) rfl (dn (ZF5 ?_)))
 exact Zk rfl (Zf rfl) ⟨!r4,rfl,h,hC.below⟩ (.inl rfl)
def Zev (a0:List Int) (K:Bool→Prop):Prop :=
 (if(a0.length:Int)≤8 then Zce a0 Zeu (fun r9=>K (!r9)) else K false)
theorem Zpu (a0:List Int)  {K:Bool→Prop} (h:Zev a0 K) (w0:World) (q0:ZIn.rep a0 [u0_0] fp0 w0) :
  Calls ZFz 92 #[u0_0] w0 fun e w'=>∃ (r0:Bool),
   e=.returned (.bool r0)∧K r0∧Bel w0 w':=by
 unfold Zev at h
 refine cof Tryz.func92 rfl 11 Tryz.ntmps92 ?_
 have hC:=ZGi (X:=Nox) w0 [ZB9 TInts a0 [u0_0] fp0] (al1 q0)
 refine sr (Zc (v:=.bool false) rfl (dn (sr (Zb (v:=u0_0) rfl (Zv hC 0 rfl ZGg rfl (Zbz rfl rfl (Zb (v:=.bool (decide ((a0.length:Int)≤8))) rfl ?_)))))))
 refine Yq (decide ((a0.length:Int)≤8)) (fun hb5=>?_) (fun hb5=>?_)
 ·replace h:=ift h (ct hb5)
  refine Zi 3 6 rfl rfl hb5 (Zb (v:=u0_0) rfl (Zi 3 6 rfl rfl hb5 (Zg [u0_0,.func (.func 106) #[] (ZFw [])] _ Tryz.func43 rfl rfl rfl (Zk5 a0 Zeu h _ (hC.getP 0 rfl) Tryz.func106 rfl rfl (fun x0_ K_ w_ _ hq_=>Zpt x0_ hq_ w_)) ?_)))
  rintro _ w8 ⟨r9,rfl,h,hB10⟩
  refine rt ?_
  replace hC:=hC.grow hB10
  refine Zi 3 6 rfl rfl hb5 (Yu rfl (Zx (v:=.bool (!r9)) (b:=true) (tr rfl (congrArg _ hb5)) rfl (Zc (v:=.bool (!r9)) rfl (dn (ZF5 ?_)))))
  exact Zk rfl (Zf rfl) ⟨!r9,rfl,h,hC.below⟩ (.inl rfl)
 ·replace h:=Zj h (cf hb5)
  refine Zh (b:=false) 3 6 rfl (tr rfl (congrArg _ hb5)) (by decide) (Zh (b:=false) 3 6 rfl (tr rfl (congrArg _ hb5)) (by decide) (Zh (b:=false) 3 6 rfl (tr rfl (congrArg _ hb5)) (by decide) (Zx (v:=.bool false) (b:=false) (tr rfl (congrArg _ hb5)) rfl (Zc (v:=.bool false) rfl (dn (ZF5 ?_))))))
  exact Zk rfl (Zf rfl) ⟨false,rfl,h,hC.below⟩ (.inl rfl)
def Zew (a0:List Int) (a1:A8) (K:Bool→Prop):Prop :=
 Ye (fun i10 (s10:Unit) nx10=>(if(i10:Int) < (a0.length:Int) then((0≤(i10:Int)∧(i10:Int) < (a0.length:Int))∧(if Zu9 (a0.getD i10 Zuo) 2=1 then(if a1.get i10 > 1 then K false else nx10 ()) else(if a1.get i10 > 20 then K false else nx10 ()))) else(if a1.get i10 > 0 then K false else nx10 ()))) (fun (s10:Unit)=>K true) 8 0 ()
theorem Zpv (a0:List Int) (a1:A8)  {K:Bool→Prop} (h:Zew a0 a1 K) (w0:World) (q0:ZIn.rep a0 [u0_0] fp0 w0) :
  Calls ZFz 97 #[u0_0,.agg (ZFw (ZFv .u8 a1))] w0 fun e w'=>∃ (r0:Bool),
   e=.returned (.bool r0)∧K r0∧Bel w0 w':=by
 unfold Zew at h
 refine cof Tryz.func97 rfl 27 Tryz.ntmps97 ?_
 have hC:=ZGi (X:=Nox) w0 [ZB9 TInts a0 [u0_0] fp0] (al1 q0)
 refine sr (Yh (v:=.agg (ZFw (ZFv .u8 a1))) hC (ZFv .u8 a1) rfl rfl fun b2 w4 hB_ hC=>Zc (v:=.bool false) rfl (dn (ZFx (sr (Yg hC 0 (ZFv .u8 a1) rfl ag88 rfl rfl rfl (Zb (v:=vI 0) rfl (dn (ZF3 ?_))))))))
 refine Yl (S:=Unit) _ _ (fun i10 s10 e_ w_=>Zy e_ [(0,u0_0),(8,.agg (ZFw (ZFv .u8 a1))),(9,vI (i10:Int))]∧Ctx Nox w0 w_ [] [ZB9 TInts a0 [u0_0] fp0]) 8 ?_ ?_ (s0:=()) ?_ h
 ·clear hC h
  rintro i10 s10 e_ w10 nx10 K10 hi10 ⟨hS_,hC⟩ h hK10
  rw [ue hS_]
  refine sr (Zo rfl rfl (dn (ZFx (Z8 rfl (decide_eq_true (by omega)) (ZF0 (Zd (ZFx (ZF3 (sr (Zb (v:=vI (i10:Int)) rfl (Zf5 (.int .u8 (a1.get i10)) ZGf rfl rfl (ZGe _) (by omega) sc5 (ZGa _ _ hi10) (Zc (v:=vI (i10:Int)) rfl (Zc (v:=.int .u8 (a1.get i10)) rfl (dn (sr (Zc (v:=.int .u8 0) rfl (dn (ZFx (sr (Zb (v:=vI (i10:Int)) rfl (Zb (v:=u0_0) rfl (Zv hC 0 rfl ZGg rfl (Zo rfl rfl (dn ?_))))))))))))))))))))))))
  refine Zp rfl (fun hb10=>?_) (fun hb10=>?_)
  ·replace h:=ift h (ct hb10)
   refine sr (Zc (v:=.int .u8 20) rfl (dn (sr (Zb (v:=u0_0) rfl (Zb (v:=vI (i10:Int)) rfl ?_)))))
   obtain ⟨⟨h10,h11⟩,h⟩:=h
   obtain ⟨Ad10,c10,hv10⟩:=Z1 (hC.getP 0 rfl) i10 (show i10 < a0.length by omega)
   refine Yp (len:=a0.length) ZGg sc2.size (tr rfl hv10) rfl h10 h11 (Xh (vI (a0.getD i10 Zuo)) (Yi (hC.getP 0 rfl) hv10 i10 (show i10 < a0.length by omega)) sc2 rfl (Jb rfl rfl (by decide) (Jj rfl rfl (dn ?_))))
   refine Zp rfl (fun hb11=>?_) (fun hb11=>?_)
   ·replace h:=ift h (ct hb11)
    refine Zm (Zc (v:=.int .u8 1) rfl (dn (sr (Zb (v:=.int .u8 (a1.get i10)) rfl (Zb (v:=.int .u8 1) rfl (Xn rfl rfl (dn ?_)))))))
    refine Zp rfl (fun hb12=>?_) (fun hb12=>?_)
    ·replace h:=ift h (ct hb12)
     refine sr (Zc (v:=.bool false) rfl (dn ?_))
     refine ZF5 (Zw (Ze (Ze (Zw (Ze ?_)))))
     exact Zk rfl (Zf rfl) ⟨false,rfl,h,hC.below⟩ (.inl rfl)
    ·replace h:=Zj h (cf hb12)
     refine ZF0 (Zs (Zd (Zm (Zr rfl rfl (Zb (v:=vI (Zw2.wrap ((i10:Int)+1))) rfl (done ?_))))))
     exact hK10 () _ _ ⟨(sl ⟨rfl,rfl,(tr rfl (congrArg _ (Ya hi10 (by decide)))),trivial⟩),hC⟩ h
   ·replace h:=Zj h (cf hb11)
    refine ZF0 (Zd (sr (Zb (v:=.int .u8 (a1.get i10)) rfl (Zb (v:=.int .u8 20) rfl (Xn rfl rfl (dn ?_))))))
    refine Zp rfl (fun hb13=>?_) (fun hb13=>?_)
    ·replace h:=ift h (ct hb13)
     refine sr (Zc (v:=.bool false) rfl (dn ?_))
     refine ZF5 (Zw (Ze (Ze (Zw (Ze ?_)))))
     exact Zk rfl (Zf rfl) ⟨false,rfl,h,hC.below⟩ (.inl rfl)
    ·replace h:=Zj h (cf hb13)
     refine ZF0 (Zs (Zd (Zm (Zr rfl rfl (Zb (v:=vI (Zw2.wrap ((i10:Int)+1))) rfl (done ?_))))))
     exact hK10 () _ _ ⟨(sl ⟨rfl,rfl,(tr rfl (congrArg _ (Ya hi10 (by decide)))),trivial⟩),hC⟩ h
  ·replace h:=Zj h (cf hb10)
   refine ZF0 (Zd (sr (Zb (v:=.int .u8 (a1.get i10)) rfl (Zb (v:=.int .u8 0) rfl (Xn rfl rfl (dn ?_))))))
   refine Zp rfl (fun hb14=>?_) (fun hb14=>?_)
   ·replace h:=ift h (ct hb14)
    refine sr (Zc (v:=.bool false) rfl (dn ?_))
    refine ZF5 (Zw (Ze (Ze (Zw (Ze ?_)))))
    exact Zk rfl (Zf rfl) ⟨false,rfl,h,hC.below⟩ (.inl rfl)
   ·replace h:=Zj h (cf hb14)
    refine ZF0 (Zs (Zd (Zm (Zr rfl rfl (Zb (v:=vI (Zw2.wrap ((i10:Int)+1))) rfl (done ?_))))))
    exact hK10 () _ _ ⟨(sl ⟨rfl,rfl,(tr rfl (congrArg _ (Ya hi10 (by decide)))),trivial⟩),hC⟩ h
 ·clear hC h
  rintro s10 e_ w11 K10 ⟨hS_,hC⟩ h
  rw [ue hS_]
  refine sr (Zo rfl rfl (dn (ZFx (Yb rfl (decide_eq_false (by omega)) ?_))))
  refine ZGb (Zl (Zl (Z2 ?_)))
  refine Zd (sr (Zc (v:=.bool true) rfl (dn (ZF5 ?_))))
  exact Zk rfl (Zf rfl) ⟨true,rfl,h,hC.below⟩ (.inl rfl)
 ·skip
  exact⟨(slq rfl),(hC.xM [] rfl)⟩
def Zex (a0:Int) (K:Bool→Prop):Prop :=
 Zcd a0 1 10006 (fun r4=>K r4)
theorem Zk6 (a0:Int)  {K:Bool→Prop} (h:Zex a0 K) (w0:World)  :
  Calls ZFz 48 #[vI a0] w0 fun e w'=>∃ (r0:Bool),
   e=.returned (.bool r0)∧K r0∧Bel w0 w':=by
 unfold Zex at h
 refine cof Tryz.func48 rfl 5 Tryz.ntmps48 ?_
 have hC:=ZGi (X:=Nox) w0 [] (by simp)
 refine sr (Zc (v:=.bool false) rfl (dn (sr (Zb (v:=vI a0) rfl (Zg [vI a0,vI 1,vI 10006] _ Tryz.func45 rfl rfl rfl (Zis a0 1 10006 h _) ?_)))))
 rintro _ w3 ⟨r4,rfl,h,hB5⟩
 refine rt ?_
 replace hC:=hC.grow hB5
 refine Zc (v:=.bool r4) rfl (dn (ZF5 ?_))
 exact Zk rfl (Zf rfl) ⟨r4,rfl,h,hC.below⟩ (.inl rfl)
def Zcf (a0:List Int) (a1:ZF1) (K:Bool→Prop):Prop :=
 (if(a1.terms.length:Int) > 400 then K false else Ye (fun i10 (s10:Unit) nx10=>Zew a0 ((a1.terms.getD i10 Zuo).mono) (fun r10=>(if¬ (r10=true) then K false else Zex ((a1.terms.getD i10 Zuo).factor) (fun r13=>(if¬ (r13=true) then K false else(if(i10:Int) > 0 then((0≤Zw2.wrap ((i10:Int) - 1)∧Zw2.wrap ((i10:Int) - 1) < (a1.terms.length:Int))∧Zbk ((a1.terms.getD ((Zw2.wrap ((i10:Int) - 1)).toNat) Zuo).mono) (fun r11=>Zbk ((a1.terms.getD i10 Zuo).mono) (fun r12=>Zgr r11 r12 (fun r14=>(if r14≥0 then K false else nx10 ()))))) else nx10 ())))))) (fun (s10:Unit)=>K true) a1.terms.length 0 ())
theorem Zit (a0:List Int) (a1:ZF1)  {K:Bool→Prop} (h:Zcf a0 a1 K) (w0:World) (q0:ZIn.rep a0 [u0_0] fp0 w0) (q1:ZGj.rep a1 [u1_0] fp1 w0) :
  Calls ZFz 74 #[u0_0,.agg #[u1_0]] w0 fun e w'=>∃ (r0:Bool),
   e=.returned (.bool r0)∧K r0∧Bel w0 w':=by
 unfold Zcf at h
 refine cof Tryz.func74 rfl 48 Tryz.ntmps74 ?_
 have hC:=ZGi (X:=Nox) w0 [ZB9 TInts a0 [u0_0] fp0,ZB9 TForm a1 [u1_0] fp1] (alc q0 (al1 q1))
 have hp3:=(hC.getP 1 rfl)
 replace hC:=hC.derive 1 rfl (ZB9 ZFy.ty.sl a1.terms [u1_0] fp1) (fun _=>(Yn hp3)) (fun _ hb_=>hb_)
 refine sr (Yh (v:=.agg #[u1_0]) hC [u1_0] rfl rfl fun b5 w7 hB_ hC=>Zc (v:=.bool false) rfl (dn (ZFx (sr (Zz 0 ZF4 rfl sc53.size rfl rfl (Z6 hC 0 (u1_0) rfl sc53 rfl rfl (Zv hC 0 rfl ZF7 rfl (Xn rfl rfl (dn ?_)))))))))
 refine Zp rfl (fun hb12=>?_) (fun hb12=>?_)
 ·replace h:=ift h (ct hb12)
  refine sr (Zc (v:=.bool false) rfl (dn ?_))
  refine ZF5 (Ze ?_)
  exact Zk rfl (Zf rfl) ⟨false,rfl,h,hC.below⟩ (.inl rfl)
 ·replace h:=Zj h (cf hb12)
  refine ZF0 (Zd (ZFx (sr (Zz 0 ZF4 rfl sc53.size rfl rfl (Z6 hC 0 (u1_0) rfl sc53 rfl rfl (Zv hC 0 rfl ZF7 rfl (Zb (v:=vI 0) rfl (dn (ZF3 ?_)))))))))
  have hN10:a1.terms.length≤9223372036854775807:=Y5 (hC.getP 0 rfl)
  refine Yl (S:=Unit) _ _ (fun i10 s10 e_ w_=>Zy e_ [(0,u0_0),(3,vQ b5),(12,u1_0),(13,vI (a1.terms.length:Int)),(14,vI (i10:Int))]∧Ctx Nox w0 w_ [blk b5 55 [u1_0]] [ZB9 ZFy.ty.sl a1.terms [u1_0] fp1,ZB9 TInts a0 [u0_0] fp0,ZB9 TForm a1 [u1_0] fp1]) a1.terms.length ?_ ?_ (s0:=()) ?_ h
  ·clear hC h
   rintro i10 s10 e_ w10 nx10 K10 hi10 ⟨hS_,hC⟩ h hK10
   rw [ue hS_]
   refine sr (Zo rfl rfl (dn (ZFx (Z8 rfl (decide_eq_true (by omega)) (ZF0 (Zd (ZFx (ZF3 (sr (Zb (v:=vI (i10:Int)) rfl ?_))))))))))
   obtain ⟨Ad11,c10,hv10⟩:=Z1 (hC.getP 0 rfl) i10 hi10
   refine Yp (len:=a1.terms.length) ZF7 ag90.size (tr rfl hv10) rfl (ZGe _) (ZGw.2 hi10) (Jm (ZF8 (a1.terms.getD i10 Zuo)) (Yi (hC.getP 0 rfl) hv10 i10 hi10) ag90 rfl rfl (Z9 hC (ZF8 (⟨ZF2,0⟩:Term)) z90 rfl fun b10 w11 hB_ hC=>Zc (v:=vI (i10:Int)) rfl (Zu (v:=.agg (ZFw (ZF8 (a1.terms.getD i10 Zuo)))) hC 0 (ZF8 (a1.terms.getD i10 Zuo)) (ZF8 (a1.terms.getD i10 Zuo)) rfl ag90.size rfl rfl rfl rfl rfl (ZF6 rfl) rfl fun w12 hC=>dn (ZFx (sr (Zb (v:=u0_0) rfl (Zz 0 ZGd rfl ag88.size rfl rfl (Yg hC 0 (ZFv .u8 ((a1.terms.getD i10 Zuo).mono)) rfl ag88 rfl rfl rfl (Zg [u0_0,.agg (ZFw (ZFv .u8 ((a1.terms.getD i10 Zuo).mono)))] _ Tryz.func97 rfl rfl rfl (Zpv a0 ((a1.terms.getD i10 Zuo).mono) h _ (hC.getP 1 rfl)) ?_)))))))))
   rintro _ w13 ⟨r10,rfl,h,hB10⟩
   refine rt ?_
   replace hC:=hC.grow hB10
   refine Yu rfl (Zb (v:=.bool (!r10)) rfl ?_)
   refine Yq (!r10) (fun hb11=>?_) (fun hb11=>?_)
   ·replace h:=ift h (Ym (Yz hb11))
    refine Zh (b:=true) 5 24 rfl (tr rfl (congrArg _ hb11)) (by decide) (Zh (b:=true) 5 24 rfl (tr rfl (congrArg _ hb11)) (by decide) (Zh (b:=true) 5 24 rfl (tr rfl (congrArg _ hb11)) (by decide) (Zh (b:=true) 5 24 rfl (tr rfl (congrArg _ hb11)) (by decide) (Zx (v:=.bool true) (b:=true) (tr rfl (congrArg _ hb11)) rfl (dn (Z8 rfl rfl (sr (Zc (v:=.bool false) rfl (dn ?_)))))))))
    refine ZF5 (Ze (Zw (Ze (Ze (Zw (Ze ?_))))))
    exact Zk rfl (Zf rfl) ⟨false,rfl,h,hC.below⟩ (.inl rfl)
   ·replace h:=Zj h (not_not_intro ((Y0 hb11)))
    refine Zi 5 24 rfl rfl hb11 (Zz 8 ZGd rfl sc2.size rfl rfl (Zi 5 24 rfl rfl hb11 (Z6 hC 0 (vI ((a1.terms.getD i10 Zuo).factor)) rfl sc2 rfl rfl (Zi 5 24 rfl rfl hb11 (Zg [vI ((a1.terms.getD i10 Zuo).factor)] _ Tryz.func48 rfl rfl rfl (Zk6 ((a1.terms.getD i10 Zuo).factor) h _) ?_)))))
    rintro _ w14 ⟨r13,rfl,h,hB11⟩
    refine rt ?_
    replace hC:=hC.grow hB11
    refine Zi 5 24 rfl rfl hb11 (Yu rfl (Zx (v:=.bool (!r13)) (b:=false) (tr rfl (congrArg _ hb11)) rfl (dn ?_)))
    refine Zp rfl (fun hb13=>?_) (fun hb13=>?_)
    ·replace h:=ift h (Ym (Yz hb13))
     refine sr (Zc (v:=.bool false) rfl (dn ?_))
     refine ZF5 (Ze (Zw (Ze (Ze (Zw (Ze ?_))))))
     exact Zk rfl (Zf rfl) ⟨false,rfl,h,hC.below⟩ (.inl rfl)
    ·replace h:=Zj h (not_not_intro ((Y0 hb13)))
     refine ZF0 (Zd (ZFx ?_))
     refine cwd 13 mixed [0,1,3,7,15,7,39,127,255,511,1023,7,2055,8191,16383,32767,65535] [4,7,9,12] [0,1,2,3,4,5,6,7,8,9,10,11,12] (fun hM11 hM10 w15 hB_=>?_)
     replace hC:=hC.grow hB_
     refine bM 0 (vI (i10:Int)) rfl hM10 (Za 17 1) (bF 1 (.bool (decide ((i10:Int) > 0))) rfl rfl hM10 (fun _=>by exact Zjp rfl rfl) (Za 17 3) (bM 2 (.bool (decide ((i10:Int) > 0))) rfl hM10 (Za 17 7) ?_))
     refine Yq (decide ((i10:Int) > 0)) (fun hb10=>?_) (fun hb10=>?_)
     ·replace h:=ift h (ct hb10)
      refine aF 3 (vQ b5) rfl rfl (hM10 3 rfl) (Z7 2 32 rfl rfl hb10) (fun _=>by exact Yd 0 ZF4 rfl sc53.size rfl rfl) (Za 17 15) (aL 4 (u1_0) rfl rfl (hM11 4 rfl) (Z7 2 32 rfl rfl hb10) (fun _ hB_=>by exact Yc (hC.grow hB_) 1 (u1_0) rfl sc53 rfl rfl) (Za 17 31) (aF 5 (vI (i10:Int)) rfl rfl (hM10 5 rfl) (Z7 2 32 rfl rfl hb10) (fun _=>by exact X0 (v:=vI (i10:Int)) rfl) (Za 17 63) (aF 6 (vI (Zw2.wrap ((i10:Int) - 1))) rfl rfl (hM10 6 rfl) (Z7 2 32 rfl rfl hb10) (fun _=>by exact Zhv rfl rfl) (Za 17 127) ?_)))
      obtain ⟨⟨h10,h11⟩,h⟩:=h
      obtain ⟨Ad10,c11,hv11⟩:=Z1 (hC.getP 0 rfl) ((Zw2.wrap ((i10:Int) - 1)).toNat) (show (Zw2.wrap ((i10:Int) - 1)).toNat < a1.terms.length by omega)
      refine aL 7 (.pointer (some (Ad10.add ((Zw2.wrap ((i10:Int) - 1)).toNat * 9)))) rfl rfl (hM11 7 rfl) (Z7 2 32 rfl rfl hb10) (fun _ hB_=>by exact Yx (len:=a1.terms.length) ZF7 ag90.size (by exact tr rfl hv11) rfl h10 h11) (Za 17 255) (aF 8 (.pointer (some (Ad10.add ((Zw2.wrap ((i10:Int) - 1)).toNat * 9+0)))) rfl rfl (hM10 8 rfl) (Z7 2 32 rfl rfl hb10) (fun _=>by exact Jw ((Zw2.wrap ((i10:Int) - 1)).toNat * 9+0) ZGd rfl ag88.size rfl rfl) (Za 17 511) (aL 9 (.agg (ZFw (ZFv .u8 ((a1.terms.getD ((Zw2.wrap ((i10:Int) - 1)).toNat) Zuo).mono)))) rfl rfl (hM11 9 rfl) (Z7 2 32 rfl rfl hb10) (fun _ hB_=>by exact Xq (ZFv .u8 ((a1.terms.getD ((Zw2.wrap ((i10:Int) - 1)).toNat) Zuo).mono)) (Xr (o:=0) (k:=8) (Yi ((hC.grow hB_).getP 0 rfl) hv11 ((Zw2.wrap ((i10:Int) - 1)).toNat) (show (Zw2.wrap ((i10:Int) - 1)).toNat < a1.terms.length by omega)) rfl) ag88 rfl rfl) (Za 17 1023) (aF 11 (vQ b10) rfl rfl (hM10 11 rfl) (Z7 2 32 rfl rfl hb10) (fun _=>by exact Yd 0 ZGd rfl ag88.size rfl rfl) (Za 17 3071) (aL 12 (.agg (ZFw (ZFv .u8 ((a1.terms.getD i10 Zuo).mono)))) rfl rfl (hM11 12 rfl) (Z7 2 32 rfl rfl hb10) (fun _ hB_=>by exact Y3 (hC.grow hB_) 0 (ZFv .u8 ((a1.terms.getD i10 Zuo).mono)) rfl ag88 rfl rfl rfl) (Za 17 7167) (aO 10 rfl (Zi 2 32 rfl rfl hb10 (Zg [.agg (ZFw (ZFv .u8 ((a1.terms.getD ((Zw2.wrap ((i10:Int) - 1)).toNat) Zuo).mono)))] _ Tryz.func85 rfl rfl rfl (Zgp ((a1.terms.getD ((Zw2.wrap ((i10:Int) - 1)).toNat) Zuo).mono) h _) ?_)))))))
      rintro _ w16 ⟨r11,rfl,h,hB12⟩
      refine rt ?_
      replace hC:=hC.grow hB12
      refine done (aK (by assumption) (Za 17 8191) (Z3 13 (by decide) (by decide) (by kernel_rfl) (by kernel_rfl) rfl (Zi 2 32 rfl rfl hb10 (Zg [.agg (ZFw (ZFv .u8 ((a1.terms.getD i10 Zuo).mono)))] _ Tryz.func85 rfl rfl rfl (Zgp ((a1.terms.getD i10 Zuo).mono) h _) ?_))))
      rintro _ w17 ⟨r12,rfl,h,hB13⟩
      refine rt ?_
      replace hC:=hC.grow hB13
      refine Zi 2 32 rfl rfl hb10 (Zg [.agg (ZFw (ZFv .i64 r11)),.agg (ZFw (ZFv .i64 r12))] _ Tryz.func98 rfl rfl rfl (Zk4 r11 r12 h _) ?_)
      rintro _ w18 ⟨r14,rfl,h,hB14⟩
      refine rt ?_
      replace hC:=hC.grow hB14
      refine Zi 2 32 rfl rfl hb10 (Zbd rfl rfl (Zx (v:=.bool (decide (r14≥0))) (b:=true) (tr rfl (congrArg _ hb10)) rfl (done (Z4 (Zd ?_)))))
      refine Zp rfl (fun hb14=>?_) (fun hb14=>?_)
      ·replace h:=ift h (ct hb14)
       refine sr (Zc (v:=.bool false) rfl (dn ?_))
       refine ZF5 (Zw (Ze (Ze (Zw (Ze ?_)))))
       exact Zk rfl (Zf rfl) ⟨false,rfl,h,hC.below⟩ (.inl rfl)
      ·replace h:=Zj h (cf hb14)
       refine ZF0 (Zs (Zd (Zm (Zr rfl rfl (Zb (v:=vI (Zw2.wrap ((i10:Int)+1))) rfl (done ?_))))))
       exact hK10 () _ _ ⟨(sl ⟨rfl,rfl,rfl,rfl,(tr rfl (congrArg _ (Ya hi10 hN10))),trivial⟩),(hC.xM [1] rfl)⟩ h
     ·replace h:=Zj h (cf hb10)
      refine Zq Zt 3 undef rfl rfl (by kernel_rfl) (hM10 3 rfl) (fun w_=>.inr ⟨Z5 (b:=false) 2 32 rfl (tr rfl (congrArg _ hb10)) (by decide),rfl⟩) (l9:=(Za 17 15)) (by kernel_rfl) (Zq Zt 4 undef rfl rfl (by kernel_rfl) (hM10 4 rfl) (fun w_=>.inr ⟨Z5 (b:=false) 2 32 rfl (tr rfl (congrArg _ hb10)) (by decide),rfl⟩) (l9:=(Za 17 31)) (by kernel_rfl) (Zq Zt 5 undef rfl rfl (by kernel_rfl) (hM10 5 rfl) (fun w_=>.inr ⟨Z5 (b:=false) 2 32 rfl (tr rfl (congrArg _ hb10)) (by decide),rfl⟩) (l9:=(Za 17 63)) (by kernel_rfl) (Zq Zt 6 undef rfl rfl (by kernel_rfl) (hM10 6 rfl) (fun w_=>.inr ⟨Z5 (b:=false) 2 32 rfl (tr rfl (congrArg _ hb10)) (by decide),rfl⟩) (l9:=(Za 17 127)) (by kernel_rfl) (Zq Zt 7 undef rfl rfl (by kernel_rfl) (hM10 7 rfl) (fun w_=>.inr ⟨Z5 (b:=false) 2 32 rfl (tr rfl (congrArg _ hb10)) (by decide),rfl⟩) (l9:=(Za 17 255)) (by kernel_rfl) (Zq Zt 8 undef rfl rfl (by kernel_rfl) (hM10 8 rfl) (fun w_=>.inr ⟨Z5 (b:=false) 2 32 rfl (tr rfl (congrArg _ hb10)) (by decide),rfl⟩) (l9:=(Za 17 511)) (by kernel_rfl) (Zq Zt 9 undef rfl rfl (by kernel_rfl) (hM10 9 rfl) (fun w_=>.inr ⟨Z5 (b:=false) 2 32 rfl (tr rfl (congrArg _ hb10)) (by decide),rfl⟩) (l9:=(Za 17 1023)) (by kernel_rfl) (Zq Zt 10 undef rfl rfl (by kernel_rfl) (hM10 10 rfl) (fun w_=>.inr ⟨Z5 (b:=false) 2 32 rfl (tr rfl (congrArg _ hb10)) (by decide),rfl⟩) (l9:=(Za 17 2047)) (by kernel_rfl) (Zq Zt 11 undef rfl rfl (by kernel_rfl) (hM10 11 rfl) (fun w_=>.inr ⟨Z5 (b:=false) 2 32 rfl (tr rfl (congrArg _ hb10)) (by decide),rfl⟩) (l9:=(Za 17 4095)) (by kernel_rfl) (Zq Zt 12 undef rfl rfl (by kernel_rfl) (hM10 12 rfl) (fun w_=>.inr ⟨Z5 (b:=false) 2 32 rfl (tr rfl (congrArg _ hb10)) (by decide),rfl⟩) (l9:=(Za 17 8191)) (by kernel_rfl) (Z3 13 (by decide) (by decide) (by kernel_rfl) (by kernel_rfl) rfl (Zh (b:=false) 2 32 rfl (tr rfl (congrArg _ hb10)) (by decide) (Zh (b:=false) 2 32 rfl (tr rfl (congrArg _ hb10)) (by decide) (Zh (b:=false) 2 32 rfl (tr rfl (congrArg _ hb10)) (by decide) (Zx (v:=.bool false) (b:=false) (tr rfl (congrArg _ hb10)) rfl (done (Z4 (Zd (Yb rfl rfl (ZF0 (Zs (Zd (Zm (Zr rfl rfl (Zb (v:=vI (Zw2.wrap ((i10:Int)+1))) rfl (done ?_)))))))))))))))))))))))))
      exact hK10 () _ _ ⟨(sl ⟨rfl,rfl,rfl,rfl,(tr rfl (congrArg _ (Ya hi10 hN10))),trivial⟩),(hC.xM [1] rfl)⟩ h
  ·clear hC h
   rintro s10 e_ w19 K10 ⟨hS_,hC⟩ h
   rw [ue hS_]
   refine sr (Zo rfl rfl (dn (ZFx (Yb rfl (decide_eq_false (by omega)) ?_))))
   refine ZGb (Zl (Zl (Z2 ?_)))
   refine Zd (sr (Zc (v:=.bool true) rfl (dn (ZF5 ?_))))
   exact Zk rfl (Zf rfl) ⟨true,rfl,h,hC.below⟩ (.inl rfl)
  ·skip
   exact⟨(slq rfl),hC⟩
def Zey (a0:A8) (a1:List Int) (K:Int→Prop):Prop :=
 Ye (fun i10 (s10:Int) nx10=>((0≤(i10:Int)∧(i10:Int) < 8)∧nx10 (Zw2.wrap (s10+(Zw2.wrap ((a1.getD i10 Zuo) * (a0.get i10))))))) (fun (s10:Int)=>K s10) a1.length 0 0
theorem Zpw (a0:A8) (a1:List Int)  {K:Int→Prop} (h:Zey a0 a1 K) (w0:World) (q1:ZIn.rep a1 [u1_0] fp1 w0) :
  Calls ZFz 112 #[.agg (ZFw (ZFv .i64 a0)),u1_0] w0 fun e w'=>∃ (r0:Int),
   e=.returned (vI r0)∧K r0∧Bel w0 w':=by
 unfold Zey at h
 refine cof Tryz.func112 rfl 24 Tryz.ntmps112 ?_
 have hC:=ZGi (X:=Nox) w0 [ZB9 TInts a1 [u1_0] fp1] (al1 q1)
 refine sr (Yh (v:=.agg (ZFw (ZFv .i64 a0))) hC (ZFv .i64 a0) rfl rfl fun b2 w4 hB_ hC=>Zc (v:=vI 0) rfl (dn (sr (Zc (v:=vI 0) rfl (dn (ZFx (sr (Zb (v:=u1_0) rfl (Zv hC 0 rfl ZGg rfl (Zb (v:=vI 0) rfl (dn (ZF3 ?_))))))))))))
 have hN10:a1.length≤9223372036854775807:=Y5 (hC.getP 0 rfl)
 refine Yl (S:=Int) _ _ (fun i10 s10 e_ w_=>Zy e_ [(2,vQ b2),(5,vI s10),(8,u1_0),(9,vI (a1.length:Int)),(10,vI (i10:Int))]∧Ctx Nox w0 w_ [blk b2 110 (ZFv .i64 a0)] [ZB9 TInts a1 [u1_0] fp1]) a1.length ?_ ?_ (s0:=0) ?_ h
 ·clear hC h
  rintro i10 s10 e_ w10 nx10 K10 hi10 ⟨hS_,hC⟩ h hK10
  rw [ue hS_]
  refine sr (Zo rfl rfl (dn (ZFx (Z8 rfl (decide_eq_true (by omega)) (ZF0 (Zd (ZFx (ZF3 (sr (Zb (v:=vI (i10:Int)) rfl ?_))))))))))
  obtain ⟨Ad10,c10,hv10⟩:=Z1 (hC.getP 0 rfl) i10 hi10
  refine Yp (len:=a1.length) ZGg sc2.size (tr rfl hv10) rfl (ZGe _) (ZGw.2 hi10) (Xh (vI (a1.getD i10 Zuo)) (Yi (hC.getP 0 rfl) hv10 i10 hi10) sc2 rfl (Zc (v:=vI (i10:Int)) rfl (Zc (v:=vI (a1.getD i10 Zuo)) rfl (dn (Zm (Zb (v:=vI s10) rfl (Zb (v:=vI (a1.getD i10 Zuo)) rfl (Zb (v:=vI (i10:Int)) rfl ?_))))))))
  obtain ⟨⟨h10,h11⟩,h⟩:=h
  refine Y9 i10 ZGk sc3.size rfl rfl h10 h11 (by omega) (Z6 hC 0 (vI (a0.get i10)) rfl sc3 rfl (ZGa _ _ (show i10 < 8 by omega)) (J7 rfl rfl (Zr rfl rfl (Zc (v:=vI (Zw2.wrap (s10+(Zw2.wrap ((a1.getD i10 Zuo) * (a0.get i10)))))) rfl (done (Zs (Zd (Zm (Zr rfl rfl (Zb (v:=vI (Zw2.wrap ((i10:Int)+1))) rfl (done ?_)))))))))))
  exact hK10 (Zw2.wrap (s10+(Zw2.wrap ((a1.getD i10 Zuo) * (a0.get i10))))) _ _ ⟨(sl ⟨rfl,rfl,rfl,rfl,(tr rfl (congrArg _ (Ya hi10 hN10))),trivial⟩),hC⟩ h
 ·clear hC h
  rintro s10 e_ w11 K10 ⟨hS_,hC⟩ h
  rw [ue hS_]
  refine sr (Zo rfl rfl (dn (ZFx (Yb rfl (decide_eq_false (by omega)) ?_))))
  refine ZGb (Zl (Zl (Z2 ?_)))
  refine Zd (sr (Zb (v:=vI s10) rfl (Zc (v:=vI s10) rfl (dn (ZF5 ?_)))))
  exact Zk rfl (Zf rfl) ⟨s10,rfl,h,hC.below⟩ (.inl rfl)
 ·skip
  exact⟨(slq rfl),hC⟩
def Zez (a0:List Int) (a1:ZF1) (K:Int→Bool→Prop):Prop :=
 Ye (fun i10 (s10:Int) nx10=>Zbk ((a1.terms.getD i10 Zuo).mono) (fun r11=>Zey r11 a0 (fun r10=>(if s10≥0 then(if r10≠s10 then K 0 false else nx10 r10) else nx10 r10)))) (fun (s10:Int)=>K s10 true) a1.terms.length 0 (-1)
theorem Zpx (a0:List Int) (a1:ZF1)  {K:Int→Bool→Prop} (h:Zez a0 a1 K) (w0:World) (q0:ZIn.rep a0 [u0_0] fp0 w0) (q1:ZGj.rep a1 [u1_0] fp1 w0) :
  Calls ZFz 107 #[u0_0,.agg #[u1_0]] w0 fun e w'=>∃ (r0:Int) (r1:Bool),
   e=.returned (.tuple #[vI r0,.bool r1])∧K r0 r1∧Bel w0 w':=by
 unfold Zez at h
 refine cof Tryz.func107 rfl 32 Tryz.ntmps107 ?_
 have hC:=ZGi (X:=Nox) w0 [ZB9 TInts a0 [u0_0] fp0,ZB9 TForm a1 [u1_0] fp1] (alc q0 (al1 q1))
 have hp3:=(hC.getP 1 rfl)
 replace hC:=hC.derive 1 rfl (ZB9 ZFy.ty.sl a1.terms [u1_0] fp1) (fun _=>(Yn hp3)) (fun _ hb_=>hb_)
 refine sr (Yh (v:=.agg #[u1_0]) hC [u1_0] rfl rfl fun b5 w7 hB_ hC=>Zc (v:=vI 0) rfl (Zc (v:=.bool false) rfl (dn (sr (Zc (v:=vI (-1)) rfl (dn (ZFx (sr (Zz 0 ZF4 rfl sc53.size rfl rfl (Z6 hC 0 (u1_0) rfl sc53 rfl rfl (Zv hC 0 rfl ZF7 rfl (Zb (v:=vI 0) rfl (dn (ZF3 ?_))))))))))))))
 have hN10:a1.terms.length≤9223372036854775807:=Y5 (hC.getP 0 rfl)
 refine Yl (S:=Int) _ _ (fun i10 s10 e_ w_=>Zy e_ [(0,u0_0),(6,vI s10),(11,u1_0),(12,vI (a1.terms.length:Int)),(13,vI (i10:Int))]∧Ctx Nox w0 w_ [] [ZB9 ZFy.ty.sl a1.terms [u1_0] fp1,ZB9 TInts a0 [u0_0] fp0,ZB9 TForm a1 [u1_0] fp1]) a1.terms.length ?_ ?_ (s0:=(-1)) ?_ h
 ·clear hC h
  rintro i10 s10 e_ w10 nx10 K10 hi10 ⟨hS_,hC⟩ h hK10
  rw [ue hS_]
  refine sr (Zo rfl rfl (dn (ZFx (Z8 rfl (decide_eq_true (by omega)) (ZF0 (Zd (ZFx (ZF3 (sr ?_)))))))))
  obtain ⟨Ad10,c10,hv10⟩:=Z1 (hC.getP 0 rfl) i10 hi10
  refine Yp (len:=a1.terms.length) ZF7 ag90.size (tr rfl hv10) rfl (ZGe _) (ZGw.2 hi10) (Jm (ZF8 (a1.terms.getD i10 Zuo)) (Yi (hC.getP 0 rfl) hv10 i10 hi10) ag90 rfl rfl (Z9 hC (ZF8 (⟨ZF2,0⟩:Term)) z90 rfl fun b10 w11 hB_ hC=>Zu (v:=.agg (ZFw (ZF8 (a1.terms.getD i10 Zuo)))) hC 0 (ZF8 (a1.terms.getD i10 Zuo)) (ZF8 (a1.terms.getD i10 Zuo)) rfl ag90.size rfl rfl rfl rfl rfl (ZF6 rfl) rfl fun w12 hC=>dn (sr (Zz 0 ZGd rfl ag88.size rfl rfl (Yg hC 0 (ZFv .u8 ((a1.terms.getD i10 Zuo).mono)) rfl ag88 rfl rfl rfl (Zg [.agg (ZFw (ZFv .u8 ((a1.terms.getD i10 Zuo).mono)))] _ Tryz.func85 rfl rfl rfl (Zgp ((a1.terms.getD i10 Zuo).mono) h _) ?_))))))
  rintro _ w13 ⟨r11,rfl,h,hB10⟩
  refine rt ?_
  replace hC:=hC.grow hB10
  refine Zb (v:=u0_0) rfl (Zg [.agg (ZFw (ZFv .i64 r11)),u0_0] _ Tryz.func112 rfl rfl rfl (Zpw r11 a0 h _ (hC.getP 1 rfl)) ?_)
  rintro _ w14 ⟨r10,rfl,h,hB11⟩
  refine rt ?_
  replace hC:=hC.grow hB11
  refine Zc (v:=vI r10) rfl (dn (ZFx (sr (Zb (v:=vI s10) rfl (Zbd rfl rfl (Zb (v:=.bool (decide (s10≥0))) rfl ?_))))))
  refine Yq (decide (s10≥0)) (fun hb10=>?_) (fun hb10=>?_)
  ·replace h:=ift h (ct hb10)
   refine Zi 2 24 rfl rfl hb10 (Zb (v:=vI r10) rfl (Zi 2 24 rfl rfl hb10 (Zb (v:=vI s10) rfl (Zi 2 24 rfl rfl hb10 (Yw rfl rfl (Zx (v:=.bool (decide (r10≠s10))) (b:=true) (tr rfl (congrArg _ hb10)) rfl (dn ?_)))))))
   refine Zp rfl (fun hb11=>?_) (fun hb11=>?_)
   ·replace h:=ift h (ct hb11)
    refine sr (Zc (v:=vI 0) rfl (Zc (v:=.bool false) rfl (dn ?_)))
    refine ZF5 (Ze (Zw (Ze (Ze (Zw (Ze ?_))))))
    exact Xg rfl (Zf rfl) (Zf rfl) ⟨0,false,rfl,h,hC.below⟩ (.inl rfl)
   ·replace h:=Zj h (cf hb11)
    refine ZF0 (Zd (Zm (Zb (v:=vI r10) rfl (Zc (v:=vI r10) rfl (done (Zs (Zd (Zm (Zr rfl rfl (Zb (v:=vI (Zw2.wrap ((i10:Int)+1))) rfl (done ?_)))))))))))
    exact hK10 r10 _ _ ⟨(sl ⟨rfl,rfl,rfl,rfl,(tr rfl (congrArg _ (Ya hi10 hN10))),trivial⟩),(hC.xM [] rfl)⟩ h
  ·replace h:=Zj h (cf hb10)
   refine Zh (b:=false) 2 24 rfl (tr rfl (congrArg _ hb10)) (by decide) (Zh (b:=false) 2 24 rfl (tr rfl (congrArg _ hb10)) (by decide) (Zh (b:=false) 2 24 rfl (tr rfl (congrArg _ hb10)) (by decide) (Zx (v:=.bool false) (b:=false) (tr rfl (congrArg _ hb10)) rfl (dn (Yb rfl rfl (ZF0 (Zd (Zm (Zb (v:=vI r10) rfl (Zc (v:=vI r10) rfl (done (Zs (Zd (Zm (Zr rfl rfl (Zb (v:=vI (Zw2.wrap ((i10:Int)+1))) rfl (done ?_)))))))))))))))))
   exact hK10 r10 _ _ ⟨(sl ⟨rfl,rfl,rfl,rfl,(tr rfl (congrArg _ (Ya hi10 hN10))),trivial⟩),(hC.xM [] rfl)⟩ h
 ·clear hC h
  rintro s10 e_ w15 K10 ⟨hS_,hC⟩ h
  rw [ue hS_]
  refine sr (Zo rfl rfl (dn (ZFx (Yb rfl (decide_eq_false (by omega)) ?_))))
  refine ZGb (Zl (Zl (Z2 ?_)))
  refine Zd (sr (Zb (v:=vI s10) rfl (Zc (v:=vI s10) rfl (Zc (v:=.bool true) rfl (dn (ZF5 ?_))))))
  exact Xg rfl (Zf rfl) (Zf rfl) ⟨s10,true,rfl,h,hC.below⟩ (.inl rfl)
 ·skip
  exact⟨(slq rfl),(hC.xM [] rfl)⟩
def Zdh (a0:List Int) (a1:ZF1) (a2:Int) (K:Bool→Prop):Prop :=
 Zez a0 a1 (fun r10 r11=>(if r11=true then(if r10=(-1) then K true else K (decide (r10=a2))) else K false))
theorem Zk7 (a0:List Int) (a1:ZF1) (a2:Int)  {K:Bool→Prop} (h:Zdh a0 a1 a2 K) (w0:World) (q0:ZIn.rep a0 [u0_0] fp0 w0) (q1:ZGj.rep a1 [u1_0] fp1 w0) :
  Calls ZFz 93 #[u0_0,.agg #[u1_0],vI a2] w0 fun e w'=>∃ (r0:Bool),
   e=.returned (.bool r0)∧K r0∧Bel w0 w':=by
 unfold Zdh at h
 refine cof Tryz.func93 rfl 25 Tryz.ntmps93 ?_
 have hC:=ZGi (X:=Nox) w0 [ZB9 TInts a0 [u0_0] fp0,ZB9 TForm a1 [u1_0] fp1] (alc q0 (al1 q1))
 have hp3:=(hC.getP 1 rfl)
 replace hC:=hC.derive 1 rfl (ZB9 ZFy.ty.sl a1.terms [u1_0] fp1) (fun _=>(Yn hp3)) (fun _ hb_=>hb_)
 refine sr (Yh (v:=.agg #[u1_0]) hC [u1_0] rfl rfl fun b5 w7 hB_ hC=>Zc (v:=.bool false) rfl (dn (sr (Zb (v:=u0_0) rfl (Yg hC 0 [u1_0] rfl ag55 rfl rfl rfl (Zg [u0_0,.agg #[u1_0]] _ Tryz.func107 rfl rfl rfl (Zpx a0 a1 h _ (hC.getP 1 rfl) (Yj (hC.getP 0 rfl))) ?_))))))
 rintro _ w10 ⟨r10,r11,rfl,h,hB10⟩
 refine rt ?_
 replace hC:=hC.grow hB10
 refine Zb (v:=.tuple #[vI r10,.bool r11]) rfl (Y7 (v:=vI r10) rfl rfl (Y7 (v:=.bool r11) rfl rfl (Zc (v:=vI r10) rfl (Zc (v:=.bool r11) rfl (dn (sr (Zb (v:=.bool r11) rfl (Zb (v:=.bool r11) rfl ?_))))))))
 refine Yq r11 (fun hb10=>?_) (fun hb10=>?_)
 ·replace h:=ift h (hb10)
  refine Zi 1 16 rfl rfl hb10 (Zb (v:=vI r10) rfl (Zi 1 16 rfl rfl hb10 (Jj rfl rfl (Zi 1 16 rfl rfl hb10 (Zb (v:=.bool (decide (r10=(-1)))) rfl ?_)))))
  refine Yq (decide (r10=(-1))) (fun hb11=>?_) (fun hb11=>?_)
  ·replace h:=ift h (ct hb11)
   refine Zh (b:=true) 4 19 rfl (tr rfl (congrArg _ hb11)) (by decide) (Zh (b:=true) 4 19 rfl (tr rfl (congrArg _ hb11)) (by decide) (Zh (b:=true) 4 19 rfl (tr rfl (congrArg _ hb11)) (by decide) (Zi 1 16 rfl rfl hb10 (Zx (v:=.bool true) (b:=true) (tr rfl (congrArg _ hb11)) rfl (Zx (v:=.bool true) (b:=true) (tr rfl (congrArg _ hb10)) rfl (Zc (v:=.bool true) rfl (dn (ZF5 ?_))))))))
   exact Zk rfl (Zf rfl) ⟨true,rfl,h,hC.below⟩ (.inl rfl)
  ·replace h:=Zj h (cf hb11)
   refine Zi 4 19 rfl rfl hb11 (Zb (v:=vI r10) rfl (Zi 4 19 rfl rfl hb11 (Zb (v:=vI a2) rfl (Zi 4 19 rfl rfl hb11 (Jj rfl rfl (Zi 1 16 rfl rfl hb10 (Zx (v:=.bool (decide (r10=a2))) (b:=false) (tr rfl (congrArg _ hb11)) rfl (Zx (v:=.bool (decide (r10=a2))) (b:=true) (tr rfl (congrArg _ hb10)) rfl (Zc (v:=.bool (decide (r10=a2))) rfl (dn (ZF5 ?_)))))))))))
   exact Zk rfl (Zf rfl) ⟨decide (r10=a2),rfl,h,hC.below⟩ (.inl rfl)
 ·replace h:=Zj h (Ym hb10)
  refine Zh (b:=false) 1 16 rfl (tr rfl (congrArg _ hb10)) (by decide) (Zh (b:=false) 1 16 rfl (tr rfl (congrArg _ hb10)) (by decide) (Zh (b:=false) 1 16 rfl (tr rfl (congrArg _ hb10)) (by decide) (Xi 4 19 rfl rfl (Xi 4 19 rfl rfl (Xi 4 19 rfl rfl (Zh (b:=false) 1 16 rfl (tr rfl (congrArg _ hb10)) (by decide) (Zx (v:=.bool false) (b:=false) (tr rfl (congrArg _ hb10)) rfl (Zc (v:=.bool false) rfl (dn (ZF5 ?_))))))))))
  exact Zk rfl (Zf rfl) ⟨false,rfl,h,hC.below⟩ (.inl rfl)
def Ze0 (a0:Alg) (K:List (Option (List (A8×Int)))→Prop):Prop :=
 Ye (fun i10 (s10:(List (Option (List (A8×Int))))) nx10=>Zbl (a0.images.getD i10 Zuo) (fun r10=>((0≤(i10:Int)∧(i10:Int) < 8)∧nx10 (s10.set i10 (some r10))))) (fun (s10:(List (Option (List (A8×Int)))))=>K s10) a0.images.length 0 (Zuj 8 none:List (Option (List (A8×Int))))
theorem Zpy (a0:Alg)  {K:List (Option (List (A8×Int)))→Prop} (h:Ze0 a0 K) (w0:World) (q0:TAlg.rep a0 [u0_0,u0_1] fp0 w0) (qb0:(blk b0 32 [u0_0,u0_1]).holds w0) :
  Calls ZFz 108 #[vQ b0] w0 fun e w'=>∃ (r0:List (Option (List (A8×Int)))) (zc0:List Value) (fz0:List Nat),
   e=.returned (.agg (ZFw zc0))∧K r0∧(Ji (kvA .i64) (vvI .i64) 8).rep r0 zc0 fz0 w'∧(∀ b,b∈fz0→w0.heap.size≤b)∧Bel w0 w':=by
 unfold Ze0 at h
 refine cof Tryz.func108 rfl 23 Tryz.ntmps108 ?_
 have hC:=ZGi (X:=Nox) w0 [ZB9 TAlg a0 [u0_0,u0_1] fp0,blk b0 32 [u0_0,u0_1]] (alc q0 (al1 qb0))
 replace hC:=hC.dAlg 0 rfl
 refine sr (Z9 hC (Zuj 8 (ZIm none)) Zio rfl fun b5 w7 hB_ hC=>dn (sr (Xl (v:=.agg (ZFw (Zuj 8 (ZIm none)))) [] rfl (Zpk _) (Z9 hC (Zuj 8 (ZIm none)) Zio rfl fun b8 w10 hB_ hC=>?_))))
 replace hC:=hC.pushE (ZB9 (Ji (kvA .i64) (vvI .i64) 8) (Zuj 8 none:List (Option (List (A8×Int)))) (Zuj 8 (ZIm none)) []) (Zgm (kvA .i64) (vvI .i64) 8 _) rfl
 replace hC:=hC.pushE (ZB9 (Ji (kvA .i64) (vvI .i64) 8) (Zuj 8 none:List (Option (List (A8×Int)))) (Zuj 8 (ZIm none)) []) (Zgm (kvA .i64) (vvI .i64) 8 _) rfl
 have hl10:=Za4 (hC.getP 1 rfl)
 have hl11:=Za4 (hC.getP 0 rfl)
 refine Zu (v:=.agg (ZFw (Zuj 8 (ZIm none)))) hC 0 (Zuj 8 (ZIm none)) (Zuj 8 (ZIm none)) rfl ag145.size rfl rfl rfl hl11 (Zik (hC.getP 0 rfl)) (by rw [hl10]; exact Zun _) (Zil (hl11.trans hl10.symm)) fun w11 hC=>dn (ZFx (sr (Zb (v:=vQ b0) rfl (Za1 rfl (Zz 1 ZGh rfl sc28.size rfl rfl (Zb2 (u0_1) (hC.getP 5 rfl) sc28 rfl rfl (Zv hC 2 rfl ZGl rfl (Zb (v:=vI 0) rfl (dn (ZF3 ?_))))))))))
 have hN10:a0.images.length≤9223372036854775807:=Y5 (hC.getP 2 rfl)
 refine Yl (S:=(List (Option (List (A8×Int))))) _ _ (fun i10 s10 e_ w_=>∃ (v10:List Value),∃ (f10:List Nat),Zy e_ [(2,vQ b5),(3,vQ b8),(10,u0_1),(11,vI (a0.images.length:Int)),(12,vI (i10:Int))]∧(∀ b,b∈f10→w0.heap.size≤b)∧Ctx Nox w0 w_ [blk b8 145 v10,blk b5 145 (Zuj 8 (ZIm none))] [ZB9 (Ji (kvA .i64) (vvI .i64) 8) s10 v10 f10,ZB9 ZGj.sl a0.images [u0_1] fp0,ZB9 TInts a0.degrees [u0_0] fp0,ZB9 TAlg a0 [u0_0,u0_1] fp0,blk b0 32 [u0_0,u0_1]]) a0.images.length ?_ ?_ (s0:=(Zuj 8 none:List (Option (List (A8×Int))))) ?_ h
 ·clear hC h
  rintro i10 s10 e_ w12 nx10 K10 hi10 ⟨v10,f10,hS_,hq10,hC⟩ h hK10
  rw [ue hS_]
  refine sr (Zo rfl rfl (dn (ZFx (Z8 rfl (decide_eq_true (by omega)) (ZF0 (Zd (ZFx (ZF3 (sr (Zb (v:=vI (i10:Int)) rfl ?_))))))))))
  obtain ⟨Ad10,c10,hv10⟩:=Z1 (hC.getP 1 rfl) i10 hi10
  refine Yp (len:=a0.images.length) ZGl ag55.size (tr rfl hv10) rfl (ZGe _) (ZGw.2 hi10) ?_
  obtain ⟨cs_,hl12,hc10,hr10⟩:=X1 (hC.getP 1 rfl) hv10 i10 hi10
  obtain ⟨u10,rfl⟩:=ZGv.1 hl12
  clear hl12
  rw [Xt _ _ hi10] at hr10
  have hp10:=hr10
  replace hC:=hC.derive 1 rfl (ZB9 ZFy.ty.sl ((a0.images.getD i10 Zuo).terms) [u10] fp0) (fun _=>(Yn hp10)) (fun _ hb_=>hb_)
  refine Jm [u10] hc10 ag55 rfl rfl (Z9 hC [.slice none 0 0] z55 rfl fun b11 w13 hB_ hC=>Zc (v:=vI (i10:Int)) rfl (Zu (v:=.agg #[u10]) hC 0 [u10] [u10] rfl ag55.size rfl rfl rfl rfl (Yo (Za3 (hC.getP 0 rfl)) rfl) (ZF6 rfl) rfl fun w14 hC=>dn (Zm (Zb (v:=vI (i10:Int)) rfl (Yg hC 0 [u10] rfl ag55 rfl rfl rfl (Zg [.agg #[u10]] _ Tryz.func64 rfl rfl rfl (Zgq (a0.images.getD i10 Zuo) h _ (Yj (hC.getP 0 rfl))) ?_))))))
  rintro _ w15 ⟨r10,b10,rfl,h,hr11,hf10,hB10⟩
  refine rt ?_
  replace hC:=hC.push hB10 (mapS b10 r10) hr11 (fun b_ hb_=>by obtain rfl:=Zwb.1 hb_; exact hf10)
  obtain ⟨⟨h10,h11⟩,h⟩:=h
  refine Y9 i10 Tryz.underlying145 sc99.size rfl rfl h10 h11 (by omega) ?_
  have hf11:=Zee hC 0 rfl
  replace hC:=hC.thaw 0 rfl (mapS b10 r10) id (fun _ hb_=>hb_)
  replace hC:=hC.joinP 0 2 rfl rfl (ZB9 (Ji (kvA .i64) (vvI .i64) 8) (s10.set i10 (some r10)) (v10.set i10 (ZIm (some b10))) (b10::f10)) (fun a_ b_=>Zo4 b_ a_) (fun c_ hc_=>(Zuk.1 hc_).elim (fun h_=>.inl (by rw [h_]; exact Zwb.2 rfl)) .inr)
  have hs10:∀ b,b∈(b10::f10)→w0.heap.size≤b:=(fun b hb=>(Zuk.1 hb).elim (fun h_=>by rw [h_]; exact hf11) (fun hb=>hq10 b hb))
  have hl13:=Za4 (hC.getP 3 rfl)
  refine Zu (v:=.map (some b10)) hC 1 [.map (some b10)] (v10.set i10 (ZIm (some b10))) rfl sc99.size rfl rfl rfl rfl rfl (by rw [hl13]; omega) (Zo8 (by rw [hl13]; omega) (by omega)) fun w16 hC=>done (Zs (Zd (Zm (Zr rfl rfl (Zb (v:=vI (Zw2.wrap ((i10:Int)+1))) rfl (done ?_))))))
  exact hK10 (s10.set i10 (some r10)) _ _ ⟨v10.set i10 (ZIm (some b10)),(b10::f10),(sl ⟨rfl,rfl,rfl,rfl,(tr rfl (congrArg _ (Ya hi10 hN10))),trivial⟩),hs10,((hC.xM [1,2] rfl).sP [0,4,5,6,7] rfl)⟩ h
 ·clear hC h
  rintro s10 e_ w17 K10 ⟨v10,f10,hS_,hq10,hC⟩ h
  rw [ue hS_]
  refine sr (Zo rfl rfl (dn (ZFx (Yb rfl (decide_eq_false (by omega)) ?_))))
  refine ZGb (Zl (Zl (Z2 ?_)))
  refine Zd (sr ?_)
  have hl14:=Za4 (hC.getP 0 rfl)
  refine Yg hC 0 v10 rfl ag145 rfl (Zo6 hl14) hl14 ?_
  replace hC:=hC.pushE (ZB9 (Ji (kvA .i64) (vvI .i64) 8) (Zuj 8 none:List (Option (List (A8×Int)))) (Zuj 8 (ZIm none)) []) (Zgm (kvA .i64) (vvI .i64) 8 _) rfl
  have hl15:=Za4 (hC.getP 0 rfl)
  have hl16:=Za4 (hC.getP 1 rfl)
  refine Zu (v:=.agg (ZFw v10)) hC 1 v10 v10 rfl ag145.size rfl rfl rfl hl16 (Zik (hC.getP 1 rfl)) (by rw [hl15]; exact Zun _) (Zil (hl16.trans hl15.symm)) fun w18 hC=>dn (ZF5 ?_)
  exact Zk rfl (Xp hC 1 rfl ag145 rfl (Za4 (hC.getP 1 rfl))) ⟨s10,v10,f10,rfl,h,(hC.getP 1 rfl),(fun b hb=>hq10 b hb),hC.below⟩ (.inl rfl)
 ·skip
  exact⟨Zuj 8 (ZIm none),[],(slq rfl),(fun b hb=>absurd hb (by simp)),(hC.sP [0,2,3,4,5] rfl)⟩
def Zdi (a0:Alg) (a1:List (A8×Int)) (K:List (A8×Int)→Prop):Prop :=
 Ze0 a0 (fun r11=>Zac (fun (q10:A8×Int) (s12:(List (A8×Int))) nx11=>Ye (fun i10 (s10:A8×(List (A8×Int))×Int) nx10=>(if q10.1.get i10 > 0 then Xo (fun (s11:A8×Int) nx12=>(if s11.2 < Zw2.wrap ((i10:Int)+1) then((0≤s11.2∧s11.2 < 8)∧nx12 (s11.1.set s11.2.toNat 0,Zw2.wrap (s11.2+1))) else(∃ ml10,r11[i10]? = some (some ml10)∧Jz (Yf ([]:List (A8×Int)) (s10.1.set i10 (Zw2.wrap ((q10.1.get i10) - 1))) 1) a0.degrees ml10 (fun r13=>Jz r13 a0.degrees (Yf ([]:List (A8×Int)) s11.1 1) (fun r14=>Zbj (Zw2.wrap ((Zw2.wrap (s10.2.2 * q10.2)) * (q10.1.get i10))) (fun r12=>Zau s10.2.1 r14 r12 (fun m10=>(if(i10:Int) < (a0.degrees.length:Int) then((0≤(i10:Int)∧(i10:Int) < (a0.degrees.length:Int))∧(if Zu9 (a0.degrees.getD i10 Zuo) 2=1 then(if Zu9 (q10.1.get i10) 2=1 then nx10 (s10.1.set i10 (q10.1.get i10),m10,Zw2.wrap (0 - s10.2.2)) else nx10 (s10.1.set i10 (q10.1.get i10),m10,s10.2.2)) else nx10 (s10.1.set i10 (q10.1.get i10),m10,s10.2.2))) else nx10 (s10.1.set i10 (q10.1.get i10),m10,s10.2.2))))))))) (q10.1,0) else(if(i10:Int) < (a0.degrees.length:Int) then((0≤(i10:Int)∧(i10:Int) < (a0.degrees.length:Int))∧(if Zu9 (a0.degrees.getD i10 Zuo) 2=1 then(if Zu9 (q10.1.get i10) 2=1 then nx10 (s10.1.set i10 (q10.1.get i10),s10.2.1,Zw2.wrap (0 - s10.2.2)) else nx10 (s10.1.set i10 (q10.1.get i10),s10.2.1,s10.2.2)) else nx10 (s10.1.set i10 (q10.1.get i10),s10.2.1,s10.2.2))) else nx10 (s10.1.set i10 (q10.1.get i10),s10.2.1,s10.2.2)))) (fun (s10:A8×(List (A8×Int))×Int)=>nx11 s10.2.1) 8 0 (ZF2,s12,1)) (fun (s12:(List (A8×Int)))=>K s12) a1.length a1 ([]:List (A8×Int)))
theorem Zk8 (a0 : Alg) (a1 : List (A8 × Int))  {K : List (A8 × Int) → Prop} (h : Zdi a0 a1 K) (w0 : World) (q0 : TAlg.rep a0 [u0_0, u0_1] fp0 w0) (qb0 : (blk b0 32 [u0_0, u0_1]).holds w0) (q1 : (mapS b1 a1).holds w0) :
  Calls ZFz 95 #[vQ b0,.map (some b1)] w0 fun e w'=>∃ (r0:List (A8×Int)) (zb0:Nat),
   e=.returned (.map (some zb0))∧K r0∧(mapS zb0 r0).holds w'∧w0.heap.size≤zb0∧Bel w0 w':=by
 unfold Zdi at h
 refine cof Tryz.func95 rfl 107 Tryz.ntmps95 ?_
 have hC:=ZGi (X:=Nox) w0 [ZB9 TAlg a0 [u0_0,u0_1] fp0,blk b0 32 [u0_0,u0_1],mapS b1 a1] (alc q0 (alc qb0 (al1 q1)))
 replace hC:=hC.dAlg 0 rfl
 refine sr (Zc (v:=.map none) rfl (dn (sr (Zbg hC (kvA .i64) (vvI .i64) fun b6 w8 hB_ hC=>Zb (v:=vQ b0) rfl (Zg [vQ b0] _ Tryz.func108 rfl rfl rfl (Zpy a0 h _ (Xa (hC.getP 1 rfl) (hC.getP 0 rfl)) (hC.getP 3 rfl)) ?_)))))
 rintro _ w11 ⟨r11,cs10,f10,rfl,h,hr10,hf10,hB10⟩
 refine rt ?_
 have hs10:=Znw hC.size hf10
 replace hC:=hC.pushR hB10 (ZB9 (Ji (kvA .i64) (vvI .i64) 8) r11 cs10 f10) hr10 (fun b hb=>.inl (hf10 b hb))
 refine Z9 hC (Zuj 8 (ZIm none)) Zio rfl fun b11 w12 hB_ hC=>Zc (v:=.map (some b6)) rfl ?_
 replace hC:=hC.pushE (ZB9 (Ji (kvA .i64) (vvI .i64) 8) (Zuj 8 none:List (Option (List (A8×Int)))) (Zuj 8 (ZIm none)) []) (Zgm (kvA .i64) (vvI .i64) 8 _) rfl
 have hl10:=Za4 (hC.getP 0 rfl)
 have hl11:=Za4 (hC.getP 1 rfl)
 refine Zu (v:=.agg (ZFw cs10)) hC 0 cs10 cs10 rfl ag145.size rfl rfl rfl hl11 (Zik (hC.getP 1 rfl)) (by rw [hl10]; exact Zun _) (Zil (hl11.trans hl10.symm)) fun w13 hC=>dn (ZFx (sr (Zb (v:=.map (some b1)) rfl (Zcx hC 6 rfl ZGt rfl fun r10 es10 ck10 w14 hB_ hn10 hbn10 hC=>dn (ZF3 ?_)))))
 refine Zc1 (S:=(List (A8×Int))) _ _ (fun l11 s12 e_ w_=>∃ (la10:Option MapEntry),Zy e_ [(0,vQ b0),(5,.map (some b6)),(6,vQ b11),(21,vQ r10)]∧Ctx Nox w0 w_ [itI (kvA .i64) (vvI .i64) r10 b1 es10 ck10 la10 l11,blk b11 145 cs10,mapS b6 s12] [Ju b1 es10 ck10,ZB9 (Ji (kvA .i64) (vvI .i64) 8) r11 cs10 f10,ZB9 ZGj.sl a0.images [u0_1] fp0,ZB9 TInts a0.degrees [u0_0] fp0,ZB9 TAlg a0 [u0_0,u0_1] fp0,blk b0 32 [u0_0,u0_1],mapS b1 a1]) ?_ (l0:=a1) (s0:=([]:List (A8×Int))) ?_ h
 ·clear hC h
  rintro l11 s12 e_ w15 nx11 K11 ⟨la10,hS_,hC⟩ h hK11
  rw [ue hS_]
  refine sr ?_
  refine Zcy hC 0 0 rfl rfl hn10 hbn10 rfl (fun hr11=>?_) (fun q10 l10 ent10 w16 hp10 hk10 hv12 hC=>?_)
  ·replace h:=h.1 hr11
   refine Y7 (v:=.bool false) rfl rfl (dn (ZFx (Yb rfl rfl ?_)))
   refine ZGb (Zl (Zl (Z2 ?_)))
   refine Zd (sr (Zb (v:=.map (some b6)) rfl (Zc (v:=.map (some b6)) rfl (dn (ZF5 ?_)))))
   exact Zk rfl (Zf rfl) ⟨s12,b6,rfl,h,(hC.getM 2 rfl),(Zee hC 2 rfl),hC.below⟩ (.inl rfl)
  ·replace h := h.2 q10 l10 hp10
   refine Y7 (v:=.bool true) rfl rfl (dn (ZFx (Z8 rfl rfl (ZF0 (Zd (ZF3 (sr (Zcz hC 0 0 q10 rfl rfl hn10 rfl hk10 hv12 (Y7 (v:=.agg (ZFw (ZFv .i64 q10.1))) rfl rfl (Y7 (v:=vI q10.2) rfl rfl (Z9 hC (ZFv .i64 ZF2) Jq rfl fun b14 w17 hB_ hC=>Zu (v:=.agg (ZFw (ZFv .i64 q10.1))) hC 0 (ZFv .i64 q10.1) (ZFv .i64 q10.1) rfl ag110.size rfl rfl rfl rfl rfl (ZF6 rfl) rfl fun w18 hC=>Zc (v:=vI q10.2) rfl (dn (sr (Xl [] rfl (Zem   _) (Z9 hC (ZFv .i64 ZF2) Jq rfl fun b15 w19 hB_ hC=>Zu (v:=.agg (ZFw (ZFv .i64 ZF2))) hC 0 (ZFv .i64 ZF2) (ZFv .i64 ZF2) rfl ag110.size rfl rfl rfl rfl rfl (ZF6 rfl) rfl fun w20 hC=>Zc (v:=vI 1) rfl (dn (sr (Yg hC 1 (ZFv .i64 q10.1) rfl ag110 rfl rfl rfl (Zb (v:=vI 0) rfl (dn (ZF3 ?_)))))))))))))))))))))
   refine Yl (S:=A8×(List (A8×Int))×Int) _ _ (fun i10 s10 e_ w_=>Zy e_ [(0,vQ b0),(5,.map (some b6)),(6,vQ b11),(7,vQ b14),(8,vI q10.2),(9,vQ b15),(10,vI s10.2.2),(21,vQ r10),(28,.agg (ZFw (ZFv .i64 q10.1))),(29,vI (i10:Int))]∧Ctx Nox w0 w_ [blk b15 110 (ZFv .i64 s10.1),blk b14 110 (ZFv .i64 q10.1),itI (kvA .i64) (vvI .i64) r10 b1 es10 ck10 (some ent10) l10,blk b11 145 cs10,mapS b6 s10.2.1] [Ju b1 es10 ck10,ZB9 (Ji (kvA .i64) (vvI .i64) 8) r11 cs10 f10,ZB9 ZGj.sl a0.images [u0_1] fp0,ZB9 TInts a0.degrees [u0_0] fp0,ZB9 TAlg a0 [u0_0,u0_1] fp0,blk b0 32 [u0_0,u0_1],mapS b1 a1]) 8 ?_ ?_ (s0:=(ZF2,s12,1)) ?_ h
   ·clear hC h
    rintro i10 s10 e_ w21 nx10 K10 hi10 ⟨hS_,hC⟩ h hK10
    rw [ue hS_]
    refine sr (Zo rfl rfl (dn (ZFx (Z8 rfl (decide_eq_true (by omega)) (ZF0 (Zd (ZFx (ZF3 (sr (Zb (v:=vI (i10:Int)) rfl (Zf5 (vI (q10.1.get i10)) ZGk rfl rfl (ZGe _) (by omega) sc3 (ZGa _ _ hi10) (Zc (v:=vI (i10:Int)) rfl (Zc (v:=vI (q10.1.get i10)) rfl (dn (ZFx (sr (Zb (v:=vI (q10.1.get i10)) rfl (Xn rfl rfl (dn ?_)))))))))))))))))))
    refine Zp rfl (fun hb14=>?_) (fun hb14=>?_)
    ·replace h:=ift h (ct hb14)
     refine sr (Yg hC 1 (ZFv .i64 q10.1) rfl ag110 rfl rfl rfl (Z9 hC (ZFv .i64 ZF2) Jq rfl fun b30 w22 hB_ hC=>Zu (v:=.agg (ZFw (ZFv .i64 q10.1))) hC 0 (ZFv .i64 q10.1) (ZFv .i64 q10.1) rfl ag110.size rfl rfl rfl rfl rfl (ZF6 rfl) rfl fun w23 hC=>dn (ZFx (sr (Zb (v:=vI (i10:Int)) rfl (Zr rfl rfl (Zb (v:=vI 0) rfl (dn (ZF3 ?_)))))))))
     refine X7 (S:=A8×Int) _ (fun s11 e_ w_=>Zy e_ [(0,vQ b0),(5,.map (some b6)),(6,vQ b11),(7,vQ b14),(8,vI q10.2),(9,vQ b15),(10,vI s10.2.2),(11,vI (i10:Int)),(12,vI (q10.1.get i10)),(13,vQ b30),(21,vQ r10),(28,.agg (ZFw (ZFv .i64 q10.1))),(29,vI (i10:Int)),(37,vI (Zw2.wrap ((i10:Int)+1))),(38,vI s11.2)]∧Ctx Nox w0 w_ [blk b30 110 (ZFv .i64 s11.1),blk b15 110 (ZFv .i64 s10.1),blk b14 110 (ZFv .i64 q10.1),itI (kvA .i64) (vvI .i64) r10 b1 es10 ck10 (some ent10) l10,blk b11 145 cs10,mapS b6 s10.2.1] [Ju b1 es10 ck10,ZB9 (Ji (kvA .i64) (vvI .i64) 8) r11 cs10 f10,ZB9 ZGj.sl a0.images [u0_1] fp0,ZB9 TInts a0.degrees [u0_0] fp0,ZB9 TAlg a0 [u0_0,u0_1] fp0,blk b0 32 [u0_0,u0_1],mapS b1 a1]) ?_ (s0:=(q10.1,0)) ?_ h
     ·clear hC h
      rintro s11 e_ w24 nx12 K12 ⟨hS_,hC⟩ h hK12
      rw [ue hS_]
      refine sr (Zo rfl rfl (dn (ZFx ?_)))
      refine Zp rfl (fun hb15=>?_) (fun hb15=>?_)
      ·replace h:=ift h (ct hb15)
       refine ZF0 (Zd (ZFx (ZF3 (sr (Zb (v:=vI s11.2) rfl (Zc (v:=vI s11.2) rfl (dn (Zm (Zb (v:=vI s11.2) rfl ?_)))))))))
       obtain ⟨⟨h10,h11⟩,h⟩:=h
       refine Y9 s11.2.toNat ZGk sc3.size rfl rfl h10 h11 (by omega) (Zu (v:=vI 0) hC 0 [vI 0] (ZFv .i64 (s11.1.set s11.2.toNat 0)) rfl sc3.size rfl rfl rfl rfl rfl (show s11.2.toNat < 8 by omega) (ZGr _ _ _ (show s11.2.toNat < 8 by omega)) fun w25 hC=>done (Zs (Zd (Zm (Zr rfl rfl (Zb (v:=vI (Zw2.wrap (s11.2+1))) rfl (done ?_)))))))
       exact hK12 (s11.1.set s11.2.toNat 0,Zw2.wrap (s11.2+1)) _ _ ⟨(slq rfl),hC⟩ h
      ·replace h:=Zj h (cf hb15)
       refine ZGb (Zl (Zl (Z2 ?_)))
       refine Zd (sr (Yg hC 1 (ZFv .i64 s10.1) rfl ag110 rfl rfl rfl (Z9 hC (ZFv .i64 ZF2) Jq rfl fun b43 w26 hB_ hC=>Zu (v:=.agg (ZFw (ZFv .i64 s10.1))) hC 0 (ZFv .i64 s10.1) (ZFv .i64 s10.1) rfl ag110.size rfl rfl rfl rfl rfl (ZF6 rfl) rfl fun w27 hC=>dn (sr (Zb (v:=vI (i10:Int)) rfl (Zb (v:=vI (q10.1.get i10)) rfl (Zbc rfl rfl (Y9 i10 ZGk sc3.size rfl rfl (ZGe _) (by omega) (by omega) (Zu (v:=vI (Zw2.wrap ((q10.1.get i10) - 1))) hC 0 [vI (Zw2.wrap ((q10.1.get i10) - 1))] (ZFv .i64 (s10.1.set i10 (Zw2.wrap ((q10.1.get i10) - 1)))) rfl sc3.size rfl rfl rfl rfl rfl hi10 (ZGr _ _ _ hi10) fun w28 hC=>dn (ZFx ?_))))))))))
       refine Zkx 20 mixed [0,0,3,7,0,16,48,112,0,256,768,2047,0,4096,12288,28672,0,0,196608,458752,1048575,2097151] [1,7,9,10,15,17] [3,4,5,6,8,12,13,14,19] (fun hM11 hM10 w10 hB_=>?_)
       replace hC:=hC.grow hB_
       have hN_:w10.heap.size≤w10.heap.size:=Zun _
       refine Jd (Xc _) 1 (.agg (ZFw (ZFv .i64 (s10.1.set i10 (Zw2.wrap ((q10.1.get i10) - 1)))))) rfl rfl (by kernel_rfl) (hM11 1 rfl) (fun w_ hB_=>.inl ⟨rfl,by exact Y3 (hC.grow (Zb9 hB_)) 0 (ZFv .i64 (s10.1.set i10 (Zw2.wrap ((q10.1.get i10) - 1)))) rfl ag110 rfl rfl rfl⟩) (l9:=(Za 22 2)) (by kernel_rfl) (bMR (Xc _) 4 (vQ b0) rfl hM10 (Za 22 18) (Zq (Xc _) 5 (vQ b0) rfl rfl (by kernel_rfl) (hM10 5 rfl) (fun w_=>.inl ⟨rfl,by exact Jv rfl⟩) (l9:=(Za 22 50)) (by kernel_rfl) (Zq (Xc _) 6 (vQ b0) rfl rfl (by kernel_rfl) (hM10 6 rfl) (fun w_=>.inl ⟨rfl,by exact Yd 0 ZGh rfl sc22.size rfl rfl⟩) (l9:=(Za 22 114)) (by kernel_rfl) (Jd (Xc _) 7 (u0_0) rfl rfl (by kernel_rfl) (hM11 7 rfl) (fun w_ hB_=>.inl ⟨rfl,by exact Jx (u0_0) ((hC.grow (Zb9 hB_)).getP 5 rfl) sc22 rfl rfl⟩) (l9:=(Za 22 242)) (by kernel_rfl) (bMR (Xc _) 8 (vI (i10:Int)) rfl hM10 (Za 22 498) (Jd (Xc _) 9 (.pointer (some ⟨b11,i10,none⟩)) rfl rfl (by kernel_rfl) (hM11 9 rfl) (fun w_ hB_=>.inl ⟨rfl,by exact Jh i10 Tryz.underlying145 sc99.size rfl rfl (ZGe _) (by omega) (by omega)⟩) (l9:=(Za 22 1010)) (by kernel_rfl) ?_))))))
       obtain ⟨ml10,hl12,h⟩:=h
       obtain ⟨b10,hb18,hbf10,hm10⟩:=Zo5 (hC.getP 1 rfl) hl12
       replace hC:=hC.derive 1 rfl (mapS b10 ml10) (fun _=>hm10) (fun c_ hc_=>by obtain rfl:=Zwb.1 hc_; exact hbf10)
       refine Jd (Xc _) 10 (.map (some b10)) rfl rfl (by kernel_rfl) (hM11 10 rfl) (fun w_ hB_=>.inl ⟨rfl,by exact Yc (hC.grow (Zb9 hB_)) 5 (.map (some b10)) rfl sc99 rfl (Zo7 hb18 (by omega))⟩) (l9:=(Za 22 2034)) (by kernel_rfl) (bMR (Xc _) 12 (vQ b0) rfl hM10 (Za 22 6130) (Zq (Xc _) 13 (vQ b0) rfl rfl (by kernel_rfl) (hM10 13 rfl) (fun w_=>.inl ⟨rfl,by exact Jv rfl⟩) (l9:=(Za 22 14322)) (by kernel_rfl) (Zq (Xc _) 14 (vQ b0) rfl rfl (by kernel_rfl) (hM10 14 rfl) (fun w_=>.inl ⟨rfl,by exact Yd 0 ZGh rfl sc22.size rfl rfl⟩) (l9:=(Za 22 30706)) (by kernel_rfl) (Jd (Xc _) 15 (u0_0) rfl rfl (by kernel_rfl) (hM11 15 rfl) (fun w_ hB_=>.inl ⟨rfl,by exact Jx (u0_0) ((hC.grow (Zb9 hB_)).getP 6 rfl) sc22 rfl rfl⟩) (l9:=(Za 22 63474)) (by kernel_rfl) (Jd (Xc _) 17 (.agg (ZFw (ZFv .i64 s11.1))) rfl rfl (by kernel_rfl) (hM11 17 rfl) (fun w_ hB_=>.inl ⟨rfl,by exact Y3 (hC.grow (Zb9 hB_)) 1 (ZFv .i64 s11.1) rfl ag110 rfl rfl rfl⟩) (l9:=(Za 22 194546)) (by kernel_rfl) ?_)))))
       refine Zec (fun e_ w_=>∃ (b17:Nat),∃ (r15:List (A8×Int)),Zy e_ [(0,vQ b0),(5,.map (some b6)),(6,vQ b11),(7,vQ b14),(8,vI q10.2),(9,vQ b15),(10,vI s10.2.2),(11,vI (i10:Int)),(12,vI (q10.1.get i10)),(16,.map (some b17)),(21,vQ r10),(28,.agg (ZFw (ZFv .i64 q10.1))),(29,vI (i10:Int))]∧Ctx Nox w0 w_ [mapS b17 r15,blk b15 110 (ZFv .i64 s10.1),blk b14 110 (ZFv .i64 q10.1),itI (kvA .i64) (vvI .i64) r10 b1 es10 ck10 (some ent10) l10,blk b11 145 cs10,mapS b6 s10.2.1] [Ju b1 es10 ck10,ZB9 (Ji (kvA .i64) (vvI .i64) 8) r11 cs10 f10,ZB9 ZGj.sl a0.images [u0_1] fp0,ZB9 TInts a0.degrees [u0_0] fp0,ZB9 TAlg a0 [u0_0,u0_1] fp0,blk b0 32 [u0_0,u0_1],mapS b1 a1]∧(Zbj (Zw2.wrap ((Zw2.wrap (s10.2.2 * q10.2)) * (q10.1.get i10))) (fun r12=>Zau s10.2.1 r15 r12 (fun m10=>(if(i10:Int) < (a0.degrees.length:Int) then((0≤(i10:Int)∧(i10:Int) < (a0.degrees.length:Int))∧(if Zu9 (a0.degrees.getD i10 Zuo) 2=1 then(if Zu9 (q10.1.get i10) 2=1 then nx10 (s10.1.set i10 (q10.1.get i10),m10,Zw2.wrap (0 - s10.2.2)) else nx10 (s10.1.set i10 (q10.1.get i10),m10,s10.2.2)) else nx10 (s10.1.set i10 (q10.1.get i10),m10,s10.2.2))) else nx10 (s10.1.set i10 (q10.1.get i10),m10,s10.2.2)))))) ?_ ?_
       ·clear hC h
        rintro e_ w29 ⟨b17,r15,hS_,hC,h⟩
        rw [ue hS_]
        refine Zd (Zm (Zb (v:=.map (some b6)) rfl (Zb (v:=.map (some b17)) rfl (Zb (v:=vI s10.2.2) rfl (Zb (v:=vI q10.2) rfl (J7 rfl rfl (Zb (v:=vI (q10.1.get i10)) rfl (J7 rfl rfl (Zg [vI (Zw2.wrap ((Zw2.wrap (s10.2.2 * q10.2)) * (q10.1.get i10)))] _ Tryz.func109 rfl rfl rfl (Zk2 (Zw2.wrap ((Zw2.wrap (s10.2.2 * q10.2)) * (q10.1.get i10))) h _) ?_)))))))))
        rintro _ w30 ⟨r12,rfl,h,hB11⟩
        refine rt ?_
        replace hC:=hC.grow hB11
        refine Zg [.map (some b6),.map (some b17),vI r12] _ Tryz.func89 rfl rfl rfl (Zgs s10.2.1 r15 r12 h _ (hC.getM 5 rfl) (fun c_ hc_ e_=>hC.mm 0 5 rfl rfl (by decide) c_ hc_ (Zwb.2 e_)) (hC.getM 0 rfl)) ?_
        rintro _ w31 ⟨m10,rfl,h,hm11,hB12⟩
        refine rt ?_
        replace hC:=hC.turnB 5 rfl hB12 rfl rfl hm11
        refine dn (sr (Zb (v:=vI (i10:Int)) rfl (Zb (v:=vI (q10.1.get i10)) rfl (Y9 i10 ZGk sc3.size rfl rfl (ZGe _) (by omega) (by omega) (Zu (v:=vI (q10.1.get i10)) hC 1 [vI (q10.1.get i10)] (ZFv .i64 (s10.1.set i10 (q10.1.get i10))) rfl sc3.size rfl rfl rfl rfl rfl hi10 (ZGr _ _ _ hi10) fun w32 hC=>dn (sr (Zb (v:=vI (i10:Int)) rfl (Zb (v:=vQ b0) rfl (Za1 rfl (Zz 0 ZGh rfl sc22.size rfl rfl (Zb2 (u0_0) (hC.getP 5 rfl) sc22 rfl rfl (Zv hC 3 rfl ZGg rfl (Zo rfl rfl (Zb (v:=.bool (decide ((i10:Int) < (a0.degrees.length:Int)))) rfl ?_))))))))))))))
        refine Yq (decide ((i10:Int) < (a0.degrees.length:Int))) (fun hb10=>?_) (fun hb10=>?_)
        ·replace h:=ift h (ct hb10)
         refine Zi 7 87 rfl rfl hb10 (Zb (v:=vQ b0) rfl (Zi 7 87 rfl rfl hb10 (Za1 rfl (Zi 7 87 rfl rfl hb10 (Zz 0 ZGh rfl sc22.size rfl rfl (Zi 7 87 rfl rfl hb10 (Zb2 (u0_0) (hC.getP 5 rfl) sc22 rfl rfl (Zi 7 87 rfl rfl hb10 (Zb (v:=vI (i10:Int)) rfl (Zi 7 87 rfl rfl hb10 ?_))))))))))
         obtain ⟨⟨h12,h13⟩,h⟩:=h
         obtain ⟨Ad10,c10,hv10⟩:=Z1 (hC.getP 3 rfl) i10 (show i10 < a0.degrees.length by omega)
         refine Yp (len:=a0.degrees.length) ZGg sc2.size (tr rfl hv10) rfl h12 h13 (Zi 7 87 rfl rfl hb10 (Xh (vI (a0.degrees.getD i10 Zuo)) (Yi (hC.getP 3 rfl) hv10 i10 (show i10 < a0.degrees.length by omega)) sc2 rfl (Zi 7 87 rfl rfl hb10 (Jb rfl rfl (by decide) (Zi 7 87 rfl rfl hb10 (Jj rfl rfl (Zx (v:=.bool (decide (Zu9 (a0.degrees.getD i10 Zuo) 2=1))) (b:=true) (tr rfl (congrArg _ hb10)) rfl (Zb (v:=.bool (decide (Zu9 (a0.degrees.getD i10 Zuo) 2=1))) rfl ?_))))))))
         refine Yq (decide (Zu9 (a0.degrees.getD i10 Zuo) 2=1)) (fun hb12=>?_) (fun hb12=>?_)
         ·replace h:=ift h (ct hb12)
          refine Zi 18 98 rfl rfl hb12 (Zb (v:=vI (q10.1.get i10)) rfl (Zi 18 98 rfl rfl hb12 (Jb rfl rfl (by decide) (Zi 18 98 rfl rfl hb12 (Jj rfl rfl (Zx (v:=.bool (decide (Zu9 (q10.1.get i10) 2=1))) (b:=true) (tr rfl (congrArg _ hb12)) rfl (dn ?_)))))))
          refine Zp rfl (fun hb16=>?_) (fun hb16=>?_)
          ·replace h:=ift h (ct hb16)
           refine Zm (Zb (v:=vI s10.2.2) rfl (Zf3 rfl (Zc (v:=vI (Zw2.wrap (0 - s10.2.2))) rfl (done (Zs (Zd (Zm (Zr rfl rfl (Zb (v:=vI (Zw2.wrap ((i10:Int)+1))) rfl (done ?_))))))))))
           exact hK10 (s10.1.set i10 (q10.1.get i10),m10,Zw2.wrap (0 - s10.2.2)) _ _ ⟨(sl ⟨rfl,rfl,rfl,rfl,rfl,rfl,rfl,rfl,rfl,(tr rfl (congrArg _ (Ya hi10 (by decide)))),trivial⟩),(hC.xM [1,2,3,4,5] rfl)⟩ h
          ·replace h:=Zj h (cf hb16)
           refine ZF0 (Zs (Zd (Zm (Zr rfl rfl (Zb (v:=vI (Zw2.wrap ((i10:Int)+1))) rfl (done ?_))))))
           exact hK10 (s10.1.set i10 (q10.1.get i10),m10,s10.2.2) _ _ ⟨(sl ⟨rfl,rfl,rfl,rfl,rfl,rfl,rfl,rfl,rfl,(tr rfl (congrArg _ (Ya hi10 (by decide)))),trivial⟩),(hC.xM [1,2,3,4,5] rfl)⟩ h
         ·replace h:=Zj h (cf hb12)
          refine Zh (b:=false) 18 98 rfl (tr rfl (congrArg _ hb12)) (by decide) (Zh (b:=false) 18 98 rfl (tr rfl (congrArg _ hb12)) (by decide) (Zh (b:=false) 18 98 rfl (tr rfl (congrArg _ hb12)) (by decide) (Zx (v:=.bool false) (b:=false) (tr rfl (congrArg _ hb12)) rfl (dn (Yb rfl rfl (ZF0 (Zs (Zd (Zm (Zr rfl rfl (Zb (v:=vI (Zw2.wrap ((i10:Int)+1))) rfl (done ?_))))))))))))
          exact hK10 (s10.1.set i10 (q10.1.get i10),m10,s10.2.2) _ _ ⟨(sl ⟨rfl,rfl,rfl,rfl,rfl,rfl,rfl,rfl,rfl,(tr rfl (congrArg _ (Ya hi10 (by decide)))),trivial⟩),(hC.xM [1,2,3,4,5] rfl)⟩ h
        ·replace h:=Zj h (cf hb10)
         refine Zh (b:=false) 7 87 rfl (tr rfl (congrArg _ hb10)) (by decide) (Zh (b:=false) 7 87 rfl (tr rfl (congrArg _ hb10)) (by decide) (Zh (b:=false) 7 87 rfl (tr rfl (congrArg _ hb10)) (by decide) (Zh (b:=false) 7 87 rfl (tr rfl (congrArg _ hb10)) (by decide) (Zh (b:=false) 7 87 rfl (tr rfl (congrArg _ hb10)) (by decide) (Zh (b:=false) 7 87 rfl (tr rfl (congrArg _ hb10)) (by decide) (Zh (b:=false) 7 87 rfl (tr rfl (congrArg _ hb10)) (by decide) (Zh (b:=false) 7 87 rfl (tr rfl (congrArg _ hb10)) (by decide) (Zh (b:=false) 7 87 rfl (tr rfl (congrArg _ hb10)) (by decide) (Zx (v:=.bool false) (b:=false) (tr rfl (congrArg _ hb10)) rfl (Zb (v:=.bool false) rfl (Zh (b:=false) 18 98 rfl (tr rfl (congrArg _ rfl)) (by decide) (Zh (b:=false) 18 98 rfl (tr rfl (congrArg _ rfl)) (by decide) (Zh (b:=false) 18 98 rfl (tr rfl (congrArg _ rfl)) (by decide) (Zx (v:=.bool false) (b:=false) rfl rfl (dn (Yb rfl rfl (ZF0 (Zs (Zd (Zm (Zr rfl rfl (Zb (v:=vI (Zw2.wrap ((i10:Int)+1))) rfl (done ?_)))))))))))))))))))))))
         exact hK10 (s10.1.set i10 (q10.1.get i10),m10,s10.2.2) _ _ ⟨(sl ⟨rfl,rfl,rfl,rfl,rfl,rfl,rfl,rfl,rfl,(tr rfl (congrArg _ (Ya hi10 (by decide)))),trivial⟩),(hC.xM [1,2,3,4,5] rfl)⟩ h
       refine Js 0 16 rfl rfl (by kernel_rfl) ?_ ?_
       ·skip
        refine Zca hC (kvA .i64) (vvI .i64) fun b12 w33 hn_ hB_ hC=>?_
        have hnb_b12975:=Zup hN_ hn_
        refine done ?_
        refine Yv (X9 hN_ (by assumption)) hN_ (l9:=(Za 22 194547)) (by kernel_rfl) (fun hN_=>?_)
        refine Js 2 16 rfl rfl (by kernel_rfl) ?_ ?_
        ·skip
         refine Jp hC 0 (s10.1.set i10 (Zw2.wrap ((q10.1.get i10) - 1))) 1 rfl X3 ZGt rfl rfl rfl (fun w34 hBB_ hC=>?_) (.inr rfl)
         refine done ?_
         refine Yv (Jk hN_ hnb_b12975 hBB_) hN_ (l9:=(Za 22 194551)) (by kernel_rfl) (fun hN_=>?_)
         refine bMR (Xc _) 3 (.map (some b12)) rfl hM10 (Za 22 194559) ?_
         refine Js 11 16 rfl rfl (by kernel_rfl) ?_ ?_
         ·skip
          refine Zg [.map (some b12),u0_0,.map (some b10)] _ ZIl rfl rfl rfl (X6 (Yf ([]:List (A8×Int)) (s10.1.set i10 (Zw2.wrap ((q10.1.get i10) - 1))) 1) a0.degrees ml10 h _ (hC.getM 0 rfl) (hC.getP 4 rfl) (hC.getP 0 rfl)) ?_
          rintro _ w35 ⟨r13,b31,rfl,h,hr12,hf11,hB13⟩
          refine rt ?_
          replace hC:=hC.push hB13 (mapS b31 r13) hr12 (fun b_ hb_=>by obtain rfl:=Zwb.1 hb_; exact hf11)
          refine done ?_
          refine Yv (X9 hN_ (by assumption)) hN_ (l9:=(Za 22 196607)) (by kernel_rfl) (fun hN_=>?_)
          refine aO 16 rfl (Zca hC (kvA .i64) (vvI .i64) fun b32 w36 hn_ hB_ hC=>?_)
          have hnb_b12988:=Zup hN_ hn_
          refine done ?_
          refine Yv (X9 hN_ (by assumption)) hN_ (l9:=(Za 22 262143)) (by kernel_rfl) (fun hN_=>?_)
          refine aO 18 rfl ?_
          refine Jp hC 0 s11.1 1 rfl X3 ZGt rfl rfl rfl (fun w37 hBB_ hC=>?_) (.inr rfl)
          refine done ?_
          refine Yv (Jk hN_ hnb_b12988 hBB_) hN_ (l9:=(Za 22 524287)) (by kernel_rfl) (fun hN_=>?_)
          refine bMR (Xc _) 19 (.map (some b32)) rfl hM10 (Za 22 1048575) (Z3 20 (by decide) (by decide) (by kernel_rfl) (by kernel_rfl) rfl (Zg [.map (some b31),u0_0,.map (some b32)] _ ZIl rfl rfl rfl (X6 r13 a0.degrees (Yf ([]:List (A8×Int)) s11.1 1) h _ (hC.getM 1 rfl) (hC.getP 4 rfl) (hC.getM 0 rfl)) ?_))
          rintro _ w38 ⟨r14,b20,rfl,h,hr13,hf12,hB14⟩
          refine rt ?_
          replace hC:=hC.push hB14 (mapS b20 r14) hr13 (fun b_ hb_=>by obtain rfl:=Zwb.1 hb_; exact hf12)
          refine Zc (v:=.map (some b20)) rfl (done (Z4 ?_))
          exact⟨rfl,_,rfl,⟨b20,r14,(slq rfl),((hC.xM [0,6,7,8,9,10] rfl).sP [1,2,3,4,5,6,7] rfl),h⟩⟩
         ·skip
          refine Zca hC (kvA .i64) (vvI .i64) fun b19 w39 hn_ hB_ hC=>?_
          have hnb_b13001:=Zup hN_ hn_
          refine done ?_
          refine Yv (X9 hN_ (by assumption)) hN_ (l9:=(Za 22 260095)) (by kernel_rfl) (fun hN_=>?_)
          refine Js 11 18 rfl rfl (by kernel_rfl) ?_ ?_
          ·skip
           refine Zg [.map (some b12),u0_0,.map (some b10)] _ ZIl rfl rfl rfl (X6 (Yf ([]:List (A8×Int)) (s10.1.set i10 (Zw2.wrap ((q10.1.get i10) - 1))) 1) a0.degrees ml10 h _ (hC.getM 1 rfl) (hC.getP 4 rfl) (hC.getP 0 rfl)) ?_
           rintro _ w40 ⟨r16,b33,rfl,h,hr14,hf13,hB15⟩
           refine rt ?_
           replace hC:=hC.push hB15 (mapS b33 r16) hr14 (fun b_ hb_=>by obtain rfl:=Zwb.1 hb_; exact hf13)
           refine done ?_
           refine Yv (X9 hN_ (by assumption)) hN_ (l9:=(Za 22 262143)) (by kernel_rfl) (fun hN_=>?_)
           refine aO 18 rfl ?_
           refine Jp hC 1 s11.1 1 rfl X3 ZGt rfl rfl rfl (fun w41 hBB_ hC=>?_) (.inr rfl)
           refine done ?_
           refine Yv (Jk hN_ hnb_b13001 hBB_) hN_ (l9:=(Za 22 524287)) (by kernel_rfl) (fun hN_=>?_)
           refine bMR (Xc _) 19 (.map (some b19)) rfl hM10 (Za 22 1048575) (Z3 20 (by decide) (by decide) (by kernel_rfl) (by kernel_rfl) rfl (Zg [.map (some b33),u0_0,.map (some b19)] _ ZIl rfl rfl rfl (X6 r16 a0.degrees (Yf ([]:List (A8×Int)) s11.1 1) h _ (hC.getM 0 rfl) (hC.getP 4 rfl) (hC.getM 1 rfl)) ?_))
           rintro _ w42 ⟨r17,b21,rfl,h,hr15,hf14,hB16⟩
           refine rt ?_
           replace hC:=hC.push hB16 (mapS b21 r17) hr15 (fun b_ hb_=>by obtain rfl:=Zwb.1 hb_; exact hf14)
           refine Zc (v:=.map (some b21)) rfl (done (Z4 ?_))
           exact⟨rfl,_,rfl,⟨b21,r17,(slq rfl),((hC.xM [0,6,7,8,9,10] rfl).sP [1,2,3,4,5,6,7] rfl),h⟩⟩
          ·skip
           refine Jp hC 0 s11.1 1 rfl X3 ZGt rfl rfl rfl (fun w43 hBB_ hC=>?_) (.inr rfl)
           refine done ?_
           refine Yv (Jk hN_ hnb_b13001 hBB_) hN_ (l9:=(Za 22 522239)) (by kernel_rfl) (fun hN_=>?_)
           refine bMR (Xc _) 19 (.map (some b19)) rfl hM10 (Za 22 1046527) (aO 11 rfl (Zg [.map (some b12),u0_0,.map (some b10)] _ ZIl rfl rfl rfl (X6 (Yf ([]:List (A8×Int)) (s10.1.set i10 (Zw2.wrap ((q10.1.get i10) - 1))) 1) a0.degrees ml10 h _ (hC.getM 1 rfl) (hC.getP 4 rfl) (hC.getP 0 rfl)) ?_))
           rintro _ w44 ⟨r18,b34,rfl,h,hr16,hf15,hB17⟩
           refine rt ?_
           replace hC:=hC.push hB17 (mapS b34 r18) hr16 (fun b_ hb_=>by obtain rfl:=Zwb.1 hb_; exact hf15)
           refine done ?_
           refine Yv (X9 hN_ (by assumption)) hN_ (l9:=(Za 22 1048575)) (by kernel_rfl) (fun hN_=>?_)
           refine Z3 20 (by decide) (by decide) (by kernel_rfl) (by kernel_rfl) rfl (Zg [.map (some b34),u0_0,.map (some b19)] _ ZIl rfl rfl rfl (X6 r18 a0.degrees (Yf ([]:List (A8×Int)) s11.1 1) h _ (hC.getM 0 rfl) (hC.getP 4 rfl) (hC.getM 1 rfl)) ?_)
           rintro _ w45 ⟨r19,b22,rfl,h,hr17,hf16,hB18⟩
           refine rt ?_
           replace hC:=hC.push hB18 (mapS b22 r19) hr17 (fun b_ hb_=>by obtain rfl:=Zwb.1 hb_; exact hf16)
           refine Zc (v:=.map (some b22)) rfl (done (Z4 ?_))
           exact⟨rfl,_,rfl,⟨b22,r19,(slq rfl),((hC.xM [0,6,7,8,9,10] rfl).sP [1,2,3,4,5,6,7] rfl),h⟩⟩
        ·skip
         refine Zca hC (kvA .i64) (vvI .i64) fun b16 w46 hn_ hB_ hC=>?_
         have hnb_b13042:=Zup hN_ hn_
         refine done ?_
         refine Yv (X9 hN_ (by assumption)) hN_ (l9:=(Za 22 260083)) (by kernel_rfl) (fun hN_=>?_)
         refine Js 2 18 rfl rfl (by kernel_rfl) ?_ ?_
         ·skip
          refine Jp hC 1 (s10.1.set i10 (Zw2.wrap ((q10.1.get i10) - 1))) 1 rfl X3 ZGt rfl rfl rfl (fun w47 hBB_ hC=>?_) (.inr rfl)
          refine done ?_
          refine Yv (Jk hN_ hnb_b12975 hBB_) hN_ (l9:=(Za 22 260087)) (by kernel_rfl) (fun hN_=>?_)
          refine bMR (Xc _) 3 (.map (some b12)) rfl hM10 (Za 22 260095) ?_
          refine Js 11 18 rfl rfl (by kernel_rfl) ?_ ?_
          ·skip
           refine Zg [.map (some b12),u0_0,.map (some b10)] _ ZIl rfl rfl rfl (X6 (Yf ([]:List (A8×Int)) (s10.1.set i10 (Zw2.wrap ((q10.1.get i10) - 1))) 1) a0.degrees ml10 h _ (hC.getM 1 rfl) (hC.getP 4 rfl) (hC.getP 0 rfl)) ?_
           rintro _ w48 ⟨r20,b35,rfl,h,hr18,hf17,hB19⟩
           refine rt ?_
           replace hC:=hC.push hB19 (mapS b35 r20) hr18 (fun b_ hb_=>by obtain rfl:=Zwb.1 hb_; exact hf17)
           refine done ?_
           refine Yv (X9 hN_ (by assumption)) hN_ (l9:=(Za 22 262143)) (by kernel_rfl) (fun hN_=>?_)
           refine aO 18 rfl ?_
           refine Jp hC 1 s11.1 1 rfl X3 ZGt rfl rfl rfl (fun w49 hBB_ hC=>?_) (.inr rfl)
           refine done ?_
           refine Yv (Jk hN_ hnb_b13042 hBB_) hN_ (l9:=(Za 22 524287)) (by kernel_rfl) (fun hN_=>?_)
           refine bMR (Xc _) 19 (.map (some b16)) rfl hM10 (Za 22 1048575) (Z3 20 (by decide) (by decide) (by kernel_rfl) (by kernel_rfl) rfl (Zg [.map (some b35),u0_0,.map (some b16)] _ ZIl rfl rfl rfl (X6 r20 a0.degrees (Yf ([]:List (A8×Int)) s11.1 1) h _ (hC.getM 0 rfl) (hC.getP 4 rfl) (hC.getM 1 rfl)) ?_))
           rintro _ w50 ⟨r21,b23,rfl,h,hr19,hf18,hB20⟩
           refine rt ?_
           replace hC:=hC.push hB20 (mapS b23 r21) hr19 (fun b_ hb_=>by obtain rfl:=Zwb.1 hb_; exact hf18)
           refine Zc (v:=.map (some b23)) rfl (done (Z4 ?_))
           exact⟨rfl,_,rfl,⟨b23,r21,(slq rfl),((hC.xM [0,6,7,8,9,10] rfl).sP [1,2,3,4,5,6,7] rfl),h⟩⟩
          ·skip
           refine Jp hC 0 s11.1 1 rfl X3 ZGt rfl rfl rfl (fun w51 hBB_ hC=>?_) (.inr rfl)
           refine done ?_
           refine Yv (Jk hN_ hnb_b13042 hBB_) hN_ (l9:=(Za 22 522239)) (by kernel_rfl) (fun hN_=>?_)
           refine bMR (Xc _) 19 (.map (some b16)) rfl hM10 (Za 22 1046527) (aO 11 rfl (Zg [.map (some b12),u0_0,.map (some b10)] _ ZIl rfl rfl rfl (X6 (Yf ([]:List (A8×Int)) (s10.1.set i10 (Zw2.wrap ((q10.1.get i10) - 1))) 1) a0.degrees ml10 h _ (hC.getM 1 rfl) (hC.getP 4 rfl) (hC.getP 0 rfl)) ?_))
           rintro _ w52 ⟨r22,b36,rfl,h,hr20,hf19,hB21⟩
           refine rt ?_
           replace hC:=hC.push hB21 (mapS b36 r22) hr20 (fun b_ hb_=>by obtain rfl:=Zwb.1 hb_; exact hf19)
           refine done ?_
           refine Yv (X9 hN_ (by assumption)) hN_ (l9:=(Za 22 1048575)) (by kernel_rfl) (fun hN_=>?_)
           refine Z3 20 (by decide) (by decide) (by kernel_rfl) (by kernel_rfl) rfl (Zg [.map (some b36),u0_0,.map (some b16)] _ ZIl rfl rfl rfl (X6 r22 a0.degrees (Yf ([]:List (A8×Int)) s11.1 1) h _ (hC.getM 0 rfl) (hC.getP 4 rfl) (hC.getM 1 rfl)) ?_)
           rintro _ w53 ⟨r23,b24,rfl,h,hr21,hf20,hB22⟩
           refine rt ?_
           replace hC:=hC.push hB22 (mapS b24 r23) hr21 (fun b_ hb_=>by obtain rfl:=Zwb.1 hb_; exact hf20)
           refine Zc (v:=.map (some b24)) rfl (done (Z4 ?_))
           exact⟨rfl,_,rfl,⟨b24,r23,(slq rfl),((hC.xM [0,6,7,8,9,10] rfl).sP [1,2,3,4,5,6,7] rfl),h⟩⟩
         ·skip
          refine Jp hC 0 s11.1 1 rfl X3 ZGt rfl rfl rfl (fun w54 hBB_ hC=>?_) (.inr rfl)
          refine done ?_
          refine Yv (Jk hN_ hnb_b13042 hBB_) hN_ (l9:=(Za 22 522227)) (by kernel_rfl) (fun hN_=>?_)
          refine bMR (Xc _) 19 (.map (some b16)) rfl hM10 (Za 22 1046515) (aO 2 rfl ?_)
          refine Jp hC 1 (s10.1.set i10 (Zw2.wrap ((q10.1.get i10) - 1))) 1 rfl X3 ZGt rfl rfl rfl (fun w55 hBB_ hC=>?_) (.inr rfl)
          refine done ?_
          refine Yv (Jk hN_ hnb_b12975 hBB_) hN_ (l9:=(Za 22 1046519)) (by kernel_rfl) (fun hN_=>?_)
          refine bMR (Xc _) 3 (.map (some b12)) rfl hM10 (Za 22 1046527) (aO 11 rfl (Zg [.map (some b12),u0_0,.map (some b10)] _ ZIl rfl rfl rfl (X6 (Yf ([]:List (A8×Int)) (s10.1.set i10 (Zw2.wrap ((q10.1.get i10) - 1))) 1) a0.degrees ml10 h _ (hC.getM 1 rfl) (hC.getP 4 rfl) (hC.getP 0 rfl)) ?_))
          rintro _ w56 ⟨r24,b37,rfl,h,hr22,hf21,hB23⟩
          refine rt ?_
          replace hC:=hC.push hB23 (mapS b37 r24) hr22 (fun b_ hb_=>by obtain rfl:=Zwb.1 hb_; exact hf21)
          refine done ?_
          refine Yv (X9 hN_ (by assumption)) hN_ (l9:=(Za 22 1048575)) (by kernel_rfl) (fun hN_=>?_)
          refine Z3 20 (by decide) (by decide) (by kernel_rfl) (by kernel_rfl) rfl (Zg [.map (some b37),u0_0,.map (some b16)] _ ZIl rfl rfl rfl (X6 r24 a0.degrees (Yf ([]:List (A8×Int)) s11.1 1) h _ (hC.getM 0 rfl) (hC.getP 4 rfl) (hC.getM 1 rfl)) ?_)
          rintro _ w57 ⟨r25,b25,rfl,h,hr23,hf22,hB24⟩
          refine rt ?_
          replace hC:=hC.push hB24 (mapS b25 r25) hr23 (fun b_ hb_=>by obtain rfl:=Zwb.1 hb_; exact hf22)
          refine Zc (v:=.map (some b25)) rfl (done (Z4 ?_))
          exact⟨rfl,_,rfl,⟨b25,r25,(slq rfl),((hC.xM [0,6,7,8,9,10] rfl).sP [1,2,3,4,5,6,7] rfl),h⟩⟩
       ·skip
        refine Zca hC (kvA .i64) (vvI .i64) fun b13 w58 hn_ hB_ hC=>?_
        have hnb_b13104:=Zup hN_ hn_
        refine done ?_
        refine Yv (X9 hN_ (by assumption)) hN_ (l9:=(Za 22 260082)) (by kernel_rfl) (fun hN_=>?_)
        refine Js 0 18 rfl rfl (by kernel_rfl) ?_ ?_
        ·skip
         refine Zca hC (kvA .i64) (vvI .i64) fun b18 w59 hn_ hB_ hC=>?_
         have hnb_b13107:=Zup hN_ hn_
         refine done ?_
         refine Yv (X9 hN_ (by assumption)) hN_ (l9:=(Za 22 260083)) (by kernel_rfl) (fun hN_=>?_)
         refine Js 2 18 rfl rfl (by kernel_rfl) ?_ ?_
         ·skip
          refine Jp hC 0 (s10.1.set i10 (Zw2.wrap ((q10.1.get i10) - 1))) 1 rfl X3 ZGt rfl rfl rfl (fun w60 hBB_ hC=>?_) (.inr rfl)
          refine done ?_
          refine Yv (Jk hN_ hnb_b13107 hBB_) hN_ (l9:=(Za 22 260087)) (by kernel_rfl) (fun hN_=>?_)
          refine bMR (Xc _) 3 (.map (some b18)) rfl hM10 (Za 22 260095) ?_
          refine Js 11 18 rfl rfl (by kernel_rfl) ?_ ?_
          ·skip
           refine Zg [.map (some b18),u0_0,.map (some b10)] _ ZIl rfl rfl rfl (X6 (Yf ([]:List (A8×Int)) (s10.1.set i10 (Zw2.wrap ((q10.1.get i10) - 1))) 1) a0.degrees ml10 h _ (hC.getM 0 rfl) (hC.getP 4 rfl) (hC.getP 0 rfl)) ?_
           rintro _ w61 ⟨r26,b38,rfl,h,hr24,hf23,hB25⟩
           refine rt ?_
           replace hC:=hC.push hB25 (mapS b38 r26) hr24 (fun b_ hb_=>by obtain rfl:=Zwb.1 hb_; exact hf23)
           refine done ?_
           refine Yv (X9 hN_ (by assumption)) hN_ (l9:=(Za 22 262143)) (by kernel_rfl) (fun hN_=>?_)
           refine aO 18 rfl ?_
           refine Jp hC 2 s11.1 1 rfl X3 ZGt rfl rfl rfl (fun w62 hBB_ hC=>?_) (.inr rfl)
           refine done ?_
           refine Yv (Jk hN_ hnb_b13104 hBB_) hN_ (l9:=(Za 22 524287)) (by kernel_rfl) (fun hN_=>?_)
           refine bMR (Xc _) 19 (.map (some b13)) rfl hM10 (Za 22 1048575) (Z3 20 (by decide) (by decide) (by kernel_rfl) (by kernel_rfl) rfl (Zg [.map (some b38),u0_0,.map (some b13)] _ ZIl rfl rfl rfl (X6 r26 a0.degrees (Yf ([]:List (A8×Int)) s11.1 1) h _ (hC.getM 0 rfl) (hC.getP 4 rfl) (hC.getM 2 rfl)) ?_))
           rintro _ w63 ⟨r27,b26,rfl,h,hr25,hf24,hB26⟩
           refine rt ?_
           replace hC:=hC.push hB26 (mapS b26 r27) hr25 (fun b_ hb_=>by obtain rfl:=Zwb.1 hb_; exact hf24)
           refine Zc (v:=.map (some b26)) rfl (done (Z4 ?_))
           exact⟨rfl,_,rfl,⟨b26,r27,(slq rfl),((hC.xM [0,6,7,8,9,10] rfl).sP [1,2,3,4,5,6,7] rfl),h⟩⟩
          ·skip
           refine Jp hC 1 s11.1 1 rfl X3 ZGt rfl rfl rfl (fun w64 hBB_ hC=>?_) (.inr rfl)
           refine done ?_
           refine Yv (Jk hN_ hnb_b13104 hBB_) hN_ (l9:=(Za 22 522239)) (by kernel_rfl) (fun hN_=>?_)
           refine bMR (Xc _) 19 (.map (some b13)) rfl hM10 (Za 22 1046527) (aO 11 rfl (Zg [.map (some b18),u0_0,.map (some b10)] _ ZIl rfl rfl rfl (X6 (Yf ([]:List (A8×Int)) (s10.1.set i10 (Zw2.wrap ((q10.1.get i10) - 1))) 1) a0.degrees ml10 h _ (hC.getM 0 rfl) (hC.getP 4 rfl) (hC.getP 0 rfl)) ?_))
           rintro _ w65 ⟨r28,b39,rfl,h,hr26,hf25,hB27⟩
           refine rt ?_
           replace hC:=hC.push hB27 (mapS b39 r28) hr26 (fun b_ hb_=>by obtain rfl:=Zwb.1 hb_; exact hf25)
           refine done ?_
           refine Yv (X9 hN_ (by assumption)) hN_ (l9:=(Za 22 1048575)) (by kernel_rfl) (fun hN_=>?_)
           refine Z3 20 (by decide) (by decide) (by kernel_rfl) (by kernel_rfl) rfl (Zg [.map (some b39),u0_0,.map (some b13)] _ ZIl rfl rfl rfl (X6 r28 a0.degrees (Yf ([]:List (A8×Int)) s11.1 1) h _ (hC.getM 0 rfl) (hC.getP 4 rfl) (hC.getM 2 rfl)) ?_)
           rintro _ w66 ⟨r29,b27,rfl,h,hr27,hf26,hB28⟩
           refine rt ?_
           replace hC:=hC.push hB28 (mapS b27 r29) hr27 (fun b_ hb_=>by obtain rfl:=Zwb.1 hb_; exact hf26)
           refine Zc (v:=.map (some b27)) rfl (done (Z4 ?_))
           exact⟨rfl,_,rfl,⟨b27,r29,(slq rfl),((hC.xM [0,6,7,8,9,10] rfl).sP [1,2,3,4,5,6,7] rfl),h⟩⟩
         ·skip
          refine Jp hC 1 s11.1 1 rfl X3 ZGt rfl rfl rfl (fun w67 hBB_ hC=>?_) (.inr rfl)
          refine done ?_
          refine Yv (Jk hN_ hnb_b13104 hBB_) hN_ (l9:=(Za 22 522227)) (by kernel_rfl) (fun hN_=>?_)
          refine bMR (Xc _) 19 (.map (some b13)) rfl hM10 (Za 22 1046515) (aO 2 rfl ?_)
          refine Jp hC 0 (s10.1.set i10 (Zw2.wrap ((q10.1.get i10) - 1))) 1 rfl X3 ZGt rfl rfl rfl (fun w68 hBB_ hC=>?_) (.inr rfl)
          refine done ?_
          refine Yv (Jk hN_ hnb_b13107 hBB_) hN_ (l9:=(Za 22 1046519)) (by kernel_rfl) (fun hN_=>?_)
          refine bMR (Xc _) 3 (.map (some b18)) rfl hM10 (Za 22 1046527) (aO 11 rfl (Zg [.map (some b18),u0_0,.map (some b10)] _ ZIl rfl rfl rfl (X6 (Yf ([]:List (A8×Int)) (s10.1.set i10 (Zw2.wrap ((q10.1.get i10) - 1))) 1) a0.degrees ml10 h _ (hC.getM 0 rfl) (hC.getP 4 rfl) (hC.getP 0 rfl)) ?_))
          rintro _ w69 ⟨r30,b40,rfl,h,hr28,hf27,hB29⟩
          refine rt ?_
          replace hC:=hC.push hB29 (mapS b40 r30) hr28 (fun b_ hb_=>by obtain rfl:=Zwb.1 hb_; exact hf27)
          refine done ?_
          refine Yv (X9 hN_ (by assumption)) hN_ (l9:=(Za 22 1048575)) (by kernel_rfl) (fun hN_=>?_)
          refine Z3 20 (by decide) (by decide) (by kernel_rfl) (by kernel_rfl) rfl (Zg [.map (some b40),u0_0,.map (some b13)] _ ZIl rfl rfl rfl (X6 r30 a0.degrees (Yf ([]:List (A8×Int)) s11.1 1) h _ (hC.getM 0 rfl) (hC.getP 4 rfl) (hC.getM 2 rfl)) ?_)
          rintro _ w70 ⟨r31,b28,rfl,h,hr29,hf28,hB30⟩
          refine rt ?_
          replace hC:=hC.push hB30 (mapS b28 r31) hr29 (fun b_ hb_=>by obtain rfl:=Zwb.1 hb_; exact hf28)
          refine Zc (v:=.map (some b28)) rfl (done (Z4 ?_))
          exact⟨rfl,_,rfl,⟨b28,r31,(slq rfl),((hC.xM [0,6,7,8,9,10] rfl).sP [1,2,3,4,5,6,7] rfl),h⟩⟩
        ·skip
         refine Jp hC 0 s11.1 1 rfl X3 ZGt rfl rfl rfl (fun w71 hBB_ hC=>?_) (.inr rfl)
         refine done ?_
         refine Yv (Jk hN_ hnb_b13104 hBB_) hN_ (l9:=(Za 22 522226)) (by kernel_rfl) (fun hN_=>?_)
         refine bMR (Xc _) 19 (.map (some b13)) rfl hM10 (Za 22 1046514) (aO 0 rfl (Zca hC (kvA .i64) (vvI .i64) fun b41 w72 hn_ hB_ hC=>?_))
         have hnb_b13170:=Zup hN_ hn_
         refine done ?_
         refine Yv (X9 hN_ (by assumption)) hN_ (l9:=(Za 22 1046515)) (by kernel_rfl) (fun hN_=>?_)
         refine aO 2 rfl ?_
         refine Jp hC 0 (s10.1.set i10 (Zw2.wrap ((q10.1.get i10) - 1))) 1 rfl X3 ZGt rfl rfl rfl (fun w73 hBB_ hC=>?_) (.inr rfl)
         refine done ?_
         refine Yv (Jk hN_ hnb_b13170 hBB_) hN_ (l9:=(Za 22 1046519)) (by kernel_rfl) (fun hN_=>?_)
         refine bMR (Xc _) 3 (.map (some b41)) rfl hM10 (Za 22 1046527) (aO 11 rfl (Zg [.map (some b41),u0_0,.map (some b10)] _ ZIl rfl rfl rfl (X6 (Yf ([]:List (A8×Int)) (s10.1.set i10 (Zw2.wrap ((q10.1.get i10) - 1))) 1) a0.degrees ml10 h _ (hC.getM 0 rfl) (hC.getP 4 rfl) (hC.getP 0 rfl)) ?_))
         rintro _ w74 ⟨r32,b42,rfl,h,hr30,hf29,hB31⟩
         refine rt ?_
         replace hC:=hC.push hB31 (mapS b42 r32) hr30 (fun b_ hb_=>by obtain rfl:=Zwb.1 hb_; exact hf29)
         refine done ?_
         refine Yv (X9 hN_ (by assumption)) hN_ (l9:=(Za 22 1048575)) (by kernel_rfl) (fun hN_=>?_)
         refine Z3 20 (by decide) (by decide) (by kernel_rfl) (by kernel_rfl) rfl (Zg [.map (some b42),u0_0,.map (some b13)] _ ZIl rfl rfl rfl (X6 r32 a0.degrees (Yf ([]:List (A8×Int)) s11.1 1) h _ (hC.getM 0 rfl) (hC.getP 4 rfl) (hC.getM 2 rfl)) ?_)
         rintro _ w75 ⟨r33,b29,rfl,h,hr31,hf30,hB32⟩
         refine rt ?_
         replace hC:=hC.push hB32 (mapS b29 r33) hr31 (fun b_ hb_=>by obtain rfl:=Zwb.1 hb_; exact hf30)
         refine Zc (v:=.map (some b29)) rfl (done (Z4 ?_))
         exact⟨rfl,_,rfl,⟨b29,r33,(slq rfl),((hC.xM [0,6,7,8,9,10] rfl).sP [1,2,3,4,5,6,7] rfl),h⟩⟩
     ·skip
      exact⟨(slq rfl),hC⟩
    ·replace h:=Zj h (cf hb14)
     refine ZF0 (Zd (sr (Zb (v:=vI (i10:Int)) rfl (Zb (v:=vI (q10.1.get i10)) rfl (Y9 i10 ZGk sc3.size rfl rfl (ZGe _) (by omega) (by omega) (Zu (v:=vI (q10.1.get i10)) hC 0 [vI (q10.1.get i10)] (ZFv .i64 (s10.1.set i10 (q10.1.get i10))) rfl sc3.size rfl rfl rfl rfl rfl hi10 (ZGr _ _ _ hi10) fun w76 hC=>dn (sr (Zb (v:=vI (i10:Int)) rfl (Zb (v:=vQ b0) rfl (Za1 rfl (Zz 0 ZGh rfl sc22.size rfl rfl (Zb2 (u0_0) (hC.getP 5 rfl) sc22 rfl rfl (Zv hC 3 rfl ZGg rfl (Zo rfl rfl (Zb (v:=.bool (decide ((i10:Int) < (a0.degrees.length:Int)))) rfl ?_)))))))))))))))
     refine Yq (decide ((i10:Int) < (a0.degrees.length:Int))) (fun hb11=>?_) (fun hb11=>?_)
     ·replace h:=ift h (ct hb11)
      refine Zi 7 87 rfl rfl hb11 (Zb (v:=vQ b0) rfl (Zi 7 87 rfl rfl hb11 (Za1 rfl (Zi 7 87 rfl rfl hb11 (Zz 0 ZGh rfl sc22.size rfl rfl (Zi 7 87 rfl rfl hb11 (Zb2 (u0_0) (hC.getP 5 rfl) sc22 rfl rfl (Zi 7 87 rfl rfl hb11 (Zb (v:=vI (i10:Int)) rfl (Zi 7 87 rfl rfl hb11 ?_))))))))))
      obtain ⟨⟨h14,h15⟩,h⟩:=h
      obtain ⟨Ad11,c11,hv11⟩:=Z1 (hC.getP 3 rfl) i10 (show i10 < a0.degrees.length by omega)
      refine Yp (len:=a0.degrees.length) ZGg sc2.size (tr rfl hv11) rfl h14 h15 (Zi 7 87 rfl rfl hb11 (Xh (vI (a0.degrees.getD i10 Zuo)) (Yi (hC.getP 3 rfl) hv11 i10 (show i10 < a0.degrees.length by omega)) sc2 rfl (Zi 7 87 rfl rfl hb11 (Jb rfl rfl (by decide) (Zi 7 87 rfl rfl hb11 (Jj rfl rfl (Zx (v:=.bool (decide (Zu9 (a0.degrees.getD i10 Zuo) 2=1))) (b:=true) (tr rfl (congrArg _ hb11)) rfl (Zb (v:=.bool (decide (Zu9 (a0.degrees.getD i10 Zuo) 2=1))) rfl ?_))))))))
      refine Yq (decide (Zu9 (a0.degrees.getD i10 Zuo) 2=1)) (fun hb13=>?_) (fun hb13=>?_)
      ·replace h:=ift h (ct hb13)
       refine Zi 18 98 rfl rfl hb13 (Zb (v:=vI (q10.1.get i10)) rfl (Zi 18 98 rfl rfl hb13 (Jb rfl rfl (by decide) (Zi 18 98 rfl rfl hb13 (Jj rfl rfl (Zx (v:=.bool (decide (Zu9 (q10.1.get i10) 2=1))) (b:=true) (tr rfl (congrArg _ hb13)) rfl (dn ?_)))))))
       refine Zp rfl (fun hb17=>?_) (fun hb17=>?_)
       ·replace h:=ift h (ct hb17)
        refine Zm (Zb (v:=vI s10.2.2) rfl (Zf3 rfl (Zc (v:=vI (Zw2.wrap (0 - s10.2.2))) rfl (done (Zs (Zd (Zm (Zr rfl rfl (Zb (v:=vI (Zw2.wrap ((i10:Int)+1))) rfl (done ?_))))))))))
        exact hK10 (s10.1.set i10 (q10.1.get i10),s10.2.1,Zw2.wrap (0 - s10.2.2)) _ _ ⟨(sl ⟨rfl,rfl,rfl,rfl,rfl,rfl,rfl,rfl,rfl,(tr rfl (congrArg _ (Ya hi10 (by decide)))),trivial⟩),hC⟩ h
       ·replace h:=Zj h (cf hb17)
        refine ZF0 (Zs (Zd (Zm (Zr rfl rfl (Zb (v:=vI (Zw2.wrap ((i10:Int)+1))) rfl (done ?_))))))
        exact hK10 (s10.1.set i10 (q10.1.get i10),s10.2.1,s10.2.2) _ _ ⟨(sl ⟨rfl,rfl,rfl,rfl,rfl,rfl,rfl,rfl,rfl,(tr rfl (congrArg _ (Ya hi10 (by decide)))),trivial⟩),hC⟩ h
      ·replace h:=Zj h (cf hb13)
       refine Zh (b:=false) 18 98 rfl (tr rfl (congrArg _ hb13)) (by decide) (Zh (b:=false) 18 98 rfl (tr rfl (congrArg _ hb13)) (by decide) (Zh (b:=false) 18 98 rfl (tr rfl (congrArg _ hb13)) (by decide) (Zx (v:=.bool false) (b:=false) (tr rfl (congrArg _ hb13)) rfl (dn (Yb rfl rfl (ZF0 (Zs (Zd (Zm (Zr rfl rfl (Zb (v:=vI (Zw2.wrap ((i10:Int)+1))) rfl (done ?_))))))))))))
       exact hK10 (s10.1.set i10 (q10.1.get i10),s10.2.1,s10.2.2) _ _ ⟨(sl ⟨rfl,rfl,rfl,rfl,rfl,rfl,rfl,rfl,rfl,(tr rfl (congrArg _ (Ya hi10 (by decide)))),trivial⟩),hC⟩ h
     ·replace h:=Zj h (cf hb11)
      refine Zh (b:=false) 7 87 rfl (tr rfl (congrArg _ hb11)) (by decide) (Zh (b:=false) 7 87 rfl (tr rfl (congrArg _ hb11)) (by decide) (Zh (b:=false) 7 87 rfl (tr rfl (congrArg _ hb11)) (by decide) (Zh (b:=false) 7 87 rfl (tr rfl (congrArg _ hb11)) (by decide) (Zh (b:=false) 7 87 rfl (tr rfl (congrArg _ hb11)) (by decide) (Zh (b:=false) 7 87 rfl (tr rfl (congrArg _ hb11)) (by decide) (Zh (b:=false) 7 87 rfl (tr rfl (congrArg _ hb11)) (by decide) (Zh (b:=false) 7 87 rfl (tr rfl (congrArg _ hb11)) (by decide) (Zh (b:=false) 7 87 rfl (tr rfl (congrArg _ hb11)) (by decide) (Zx (v:=.bool false) (b:=false) (tr rfl (congrArg _ hb11)) rfl (Zb (v:=.bool false) rfl (Zh (b:=false) 18 98 rfl (tr rfl (congrArg _ rfl)) (by decide) (Zh (b:=false) 18 98 rfl (tr rfl (congrArg _ rfl)) (by decide) (Zh (b:=false) 18 98 rfl (tr rfl (congrArg _ rfl)) (by decide) (Zx (v:=.bool false) (b:=false) rfl rfl (dn (Yb rfl rfl (ZF0 (Zs (Zd (Zm (Zr rfl rfl (Zb (v:=vI (Zw2.wrap ((i10:Int)+1))) rfl (done ?_)))))))))))))))))))))))
      exact hK10 (s10.1.set i10 (q10.1.get i10),s10.2.1,s10.2.2) _ _ ⟨(sl ⟨rfl,rfl,rfl,rfl,rfl,rfl,rfl,rfl,rfl,(tr rfl (congrArg _ (Ya hi10 (by decide)))),trivial⟩),hC⟩ h
   ·clear hC h
    rintro s10 e_ w77 K10 ⟨hS_,hC⟩ h
    rw [ue hS_]
    refine sr (Zo rfl rfl (dn (ZFx (Yb rfl (decide_eq_false (by omega)) ?_))))
    refine ZGb (Zl (Zl (Z2 ?_)))
    refine Zs ?_
    exact hK11 q10 l10 s10.2.1 _ _ hp10 ⟨(some ent10),(slq rfl),(hC.xM [2,3,4] rfl)⟩ h
   ·skip
    exact⟨(slq rfl),hC⟩
 ·skip
  exact⟨none,(slq rfl),(hC.sP [0,2,3,4,5,6,7] rfl)⟩
def Ze1 (a0:A8) (K:A8→Prop):Prop :=
 Ye (fun i10 (s10:A8) nx10=>nx10 (s10.set i10 (a0.get i10))) (fun (s10:A8)=>K s10) 8 0 ZF2
theorem Zpz (a0:A8)  {K:A8→Prop} (h:Ze1 a0 K) (w0:World)  :
  Calls ZFz 101 #[.agg (ZFw (ZFv .u8 a0))] w0 fun e w'=>∃ (r0:A8),
   e=.returned (.agg (ZFw (ZFv .u8 r0)))∧K r0∧Bel w0 w':=by
 unfold Ze1 at h
 refine cof Tryz.func101 rfl 15 Tryz.ntmps101 ?_
 have hC:=ZGi (X:=Nox) w0 [] (by simp)
 refine sr (Yh (v:=.agg (ZFw (ZFv .u8 a0))) hC (ZFv .u8 a0) rfl rfl fun b1 w3 hB_ hC=>Z9 hC (ZFv .u8 ZF2) z88 rfl fun b4 w6 hB_ hC=>dn (sr (Z9 hC (ZFv .u8 ZF2) z88 rfl fun b7 w9 hB_ hC=>dn (ZFx (sr (Zc (v:=vI 0) rfl (dn (ZF3 ?_))))))))
 refine Yl (S:=A8) _ _ (fun i10 s10 e_ w_=>Zy e_ [(1,vQ b1),(2,vQ b4),(3,vQ b7),(4,vI (i10:Int))]∧Ctx Nox w0 w_ [blk b7 88 (ZFv .u8 s10),blk b4 88 (ZFv .u8 ZF2),blk b1 87 (ZFv .u8 a0)] []) 8 ?_ ?_ (s0:=ZF2) ?_ h
 ·clear hC h
  rintro i10 s10 e_ w10 nx10 K10 hi10 ⟨hS_,hC⟩ h hK10
  rw [ue hS_]
  refine ZFx (sr (Zb (v:=vI (i10:Int)) rfl (Zo rfl rfl (dn (Z8 rfl (decide_eq_true (by omega)) (ZF0 (Zd (ZFx (ZF3 (Zm (Zb (v:=vI (i10:Int)) rfl (Zb (v:=vI (i10:Int)) rfl (Y9 i10 Tryz.underlying87 sc5.size rfl rfl (ZGe _) (by omega) (by omega) (Z6 hC 2 (.int .u8 (a0.get i10)) rfl sc5 rfl (ZGa _ _ hi10) (Y9 i10 ZGf sc5.size rfl rfl (ZGe _) (by omega) (by omega) (Zu (v:=.int .u8 (a0.get i10)) hC 0 [.int .u8 (a0.get i10)] (ZFv .u8 (s10.set i10 (a0.get i10))) rfl sc5.size rfl rfl rfl rfl rfl hi10 (ZGr _ _ _ hi10) fun w11 hC=>done (Zs (Zd (Zm (Zb (v:=vI (i10:Int)) rfl (Zr rfl rfl (Zc (v:=vI (Zw2.wrap ((i10:Int)+1))) rfl (done ?_)))))))))))))))))))))))
  exact hK10 (s10.set i10 (a0.get i10)) _ _ ⟨(sl ⟨rfl,rfl,rfl,(tr rfl (congrArg _ (Ya hi10 (by decide)))),trivial⟩),hC⟩ h
 ·clear hC h
  rintro s10 e_ w12 K10 ⟨hS_,hC⟩ h
  rw [ue hS_]
  refine ZFx (sr (Zb (v:=vI 8) rfl (Zo rfl rfl (dn (Yb rfl (decide_eq_false (by omega)) ?_)))))
  refine ZGb (Zl (Zl (Z2 ?_)))
  refine Zd (sr (Yg hC 0 (ZFv .u8 s10) rfl ag88 rfl rfl rfl (Zu (v:=.agg (ZFw (ZFv .u8 s10))) hC 1 (ZFv .u8 s10) (ZFv .u8 s10) rfl ag88.size rfl rfl rfl rfl rfl (ZF6 rfl) rfl fun w13 hC=>dn (ZF5 ?_))))
  exact Zk rfl (Xp hC 1 rfl ag88 rfl rfl) ⟨s10,rfl,h,hC.below⟩ (.inl rfl)
 ·skip
  exact⟨(slq rfl),hC⟩
def Za7 (a0:List Int) (K:List Int→Prop):Prop :=
 ((0≤(a0.length:Int)∧(a0.length:Int) * 8≤281474976710656)∧Ye (fun i10 (s10:(List Int)) nx10=>((0≤(i10:Int)∧(i10:Int) < (s10.length:Int))∧nx10 (s10.set i10 (a0.getD i10 Zuo)))) (fun (s10:(List Int))=>K s10) a0.length 0 (Zuj ((a0.length:Int).toNat) (0:Int)))
theorem Ze2 (a0:List Int)  {K:List Int→Prop} (h:Za7 a0 K) (w0:World) (q0:ZIn.rep a0 [u0_0] fp0 w0) :
  Calls ZFz 18 #[u0_0] w0 fun e w'=>∃ (r0:List Int) (z0_0:Value) (fz0:List Nat),
   e=.returned (z0_0)∧K r0∧(ZGc (Tr.sl 2 (eI.tr)) r0 [z0_0] fz0).holds w'∧(∀ b,b∈fz0→w0.heap.size≤b)∧Bel w0 w':=by
 unfold Za7 at h
 refine cof Tryz.func18 rfl 22 Tryz.ntmps18 ?_
 have hC:=ZGi (X:=Nox) w0 [ZB9 TInts a0 [u0_0] fp0] (al1 q0)
 refine sr (Zc (v:=.slice none 0 0) rfl (dn (sr (Zb (v:=u0_0) rfl (Zv hC 0 rfl ZGg rfl ?_)))))
 obtain ⟨hm7,h⟩:=h
 refine Zhz (sz:=1) hC (eI.encs (Zuj ((a0.length:Int).toNat) (0:Int))) ZGg el2 (tr rfl (congrArg (ZIv .i64) (ZIw hm7.1).symm)) (tr rfl (congrArg (ZIv .i64) (ZIw hm7.1).symm)) (by omega) (by omega) (Zgc (E:=eI) _ _) fun v5 w6 hB_ hC=>?_
 replace hC:=J4 hC 0 ((Zuj ((a0.length:Int).toNat) (0:Int)).length) (eI.encs (Zuj ((a0.length:Int).toNat) (0:Int))) rfl (by simp) rfl
 refine Zc (v:=v5) rfl (dn (ZFx (sr (Zc (v:=vI 0) rfl (dn (ZF3 ?_))))))
 have hN10:a0.length≤9223372036854775807:=Y5 (hC.getP 0 rfl)
 refine Yl (S:=(List Int)) _ _ (fun i10 s10 e_ w_=>∃ (v10:Value),Zy e_ [(0,u0_0),(3,v10),(4,vI (i10:Int))]∧Ctx Nox w0 w_ [own 2 1 v10 s10.length (eI.encs s10)] [ZB9 TInts a0 [u0_0] fp0]) a0.length ?_ ?_ (s0:=(Zuj ((a0.length:Int).toNat) (0:Int))) ?_ h
 ·clear hC h
  rintro i10 s10 e_ w10 nx10 K10 hi10 ⟨v10,hS_,hC⟩ h hK10
  rw [ue hS_]
  refine ZFx (sr (Zb (v:=vI (i10:Int)) rfl (Zb (v:=u0_0) rfl (Zv hC 0 rfl ZGg rfl (Zo rfl rfl (dn (Z8 rfl (decide_eq_true (by omega)) (ZF0 (Zd (ZFx (ZF3 (Zm (Zb (v:=v10) rfl (Zb (v:=vI (i10:Int)) rfl (Zb (v:=u0_0) rfl (Zb (v:=vI (i10:Int)) rfl ?_))))))))))))))))
  obtain ⟨Ad10,c10,hv10⟩:=Z1 (hC.getP 0 rfl) i10 hi10
  refine Yp (len:=a0.length) ZGg sc2.size (tr rfl hv10) rfl (ZGe _) (ZGw.2 hi10) (Xh (vI (a0.getD i10 Zuo)) (Yi (hC.getP 0 rfl) hv10 i10 hi10) sc2 rfl ?_)
  obtain ⟨⟨h10,h11⟩,h⟩:=h
  obtain ⟨Ad11,c11,hv11⟩:=Za2 (hC.getM 0 rfl) (ZIs (Zvh _) (show i10 < s10.length by omega))
  refine Zbf (i10 * 1) ZGg sc2.size (tr rfl hv11) rfl h10 h11 rfl (Zct (v:=vI (a0.getD i10 Zuo)) hC 0 [vI (a0.getD i10 Zuo)] (eI.encs (s10.set i10 (a0.getD i10 Zuo))) rfl hv11 sc2.size rfl rfl rfl rfl rfl (by rw [ZIx]; exact Zah (sz:=1) (show i10 < s10.length by omega)) (Zgb _ _ _ (show i10 < s10.length by omega)) fun w11 hC=>?_)
  replace hC:=J4 hC 0 ((s10.set i10 (a0.getD i10 Zuo)).length) (eI.encs (s10.set i10 (a0.getD i10 Zuo))) rfl (by simp) rfl
  refine done (Zs (Zd (Zm (Zb (v:=vI (i10:Int)) rfl (Zr rfl rfl (Zc (v:=vI (Zw2.wrap ((i10:Int)+1))) rfl (done ?_)))))))
  exact hK10 (s10.set i10 (a0.getD i10 Zuo)) _ _ ⟨v10,(sl ⟨rfl,rfl,(tr rfl (congrArg _ (Ya hi10 hN10))),trivial⟩),hC⟩ h
 ·clear hC h
  rintro s10 e_ w12 K10 ⟨v10,hS_,hC⟩ h
  rw [ue hS_]
  refine ZFx (sr (Zb (v:=vI (a0.length:Int)) rfl (Zb (v:=u0_0) rfl (Zv hC 0 rfl ZGg rfl (Zo rfl rfl (dn (Yb rfl (decide_eq_false (by omega)) ?_)))))))
  refine ZGb (Zl (Zl (Z2 ?_)))
  refine Zd (sr (Zb (v:=v10) rfl (Zc (v:=v10) rfl (dn (ZF5 ?_)))))
  exact Zk rfl (Zf rfl) ⟨s10,v10,(ZGu (Zva v10)),rfl,h,(Je (hC.getM 0 rfl)),(Jt hC 0 rfl),hC.below⟩ (.inl rfl)
 ·skip
  exact⟨v5,(slq rfl),hC⟩
def Ze3 (a0:A8) (a1:A8) (K:Bool→Prop):Prop :=
 Ye (fun i10 (s10:Unit) nx10=>(if a0.get i10≠a1.get i10 then K false else nx10 ())) (fun (s10:Unit)=>K true) 8 0 ()
theorem Zp0 (a0:A8) (a1:A8)  {K:Bool→Prop} (h:Ze3 a0 a1 K) (w0:World)  :
  Calls ZFz 105 #[.agg (ZFw (ZFv .u8 a0)),.agg (ZFw (ZFv .u8 a1))] w0 fun e w'=>∃ (r0:Bool),
   e=.returned (.bool r0)∧K r0∧Bel w0 w':=by
 unfold Ze3 at h
 refine cof Tryz.func105 rfl 17 Tryz.ntmps105 ?_
 have hC:=ZGi (X:=Nox) w0 [] (by simp)
 refine sr (Yh (v:=.agg (ZFw (ZFv .u8 a0))) hC (ZFv .u8 a0) rfl rfl fun b1 w3 hB_ hC=>Yh (v:=.agg (ZFw (ZFv .u8 a1))) hC (ZFv .u8 a1) rfl rfl fun b4 w6 hB_ hC=>Zc (v:=.bool false) rfl (dn (ZFx (sr (Zc (v:=vI 0) rfl (dn (ZF3 ?_)))))))
 refine Yl (S:=Unit) _ _ (fun i10 s10 e_ w_=>Zy e_ [(2,vQ b1),(3,vQ b4),(5,vI (i10:Int))]∧Ctx Nox w0 w_ [blk b4 88 (ZFv .u8 a1),blk b1 88 (ZFv .u8 a0)] []) 8 ?_ ?_ (s0:=()) ?_ h
 ·clear hC h
  rintro i10 s10 e_ w10 nx10 K10 hi10 ⟨hS_,hC⟩ h hK10
  rw [ue hS_]
  refine ZFx (sr (Zb (v:=vI (i10:Int)) rfl (Zo rfl rfl (dn (Z8 rfl (decide_eq_true (by omega)) (ZF0 (Zd (ZFx (ZF3 (ZFx ?_))))))))))
  refine cwd 6 mixed [0,1,3,0,8,24,63] [1,2,4,5] [0,3] (fun hM10 hM11 w11 hB_=>?_)
  replace hC:=hC.grow hB_
  refine bM 0 (vI (i10:Int)) rfl hM11 (Za 7 1) (bL 1 (.pointer (some ⟨b1,i10,none⟩)) rfl rfl hM10 (fun _ hB_=>by exact Jh i10 ZGf sc5.size rfl rfl (ZGe _) (by omega) (by omega)) (Za 7 3) (bL 2 (.int .u8 (a0.get i10)) rfl rfl hM10 (fun _ hB_=>by exact Yc (hC.grow hB_) 1 (.int .u8 (a0.get i10)) rfl sc5 rfl (ZGa _ _ hi10)) (Za 7 7) (bM 3 (vI (i10:Int)) rfl hM11 (Za 7 15) (bL 4 (.pointer (some ⟨b4,i10,none⟩)) rfl rfl hM10 (fun _ hB_=>by exact Jh i10 ZGf sc5.size rfl rfl (ZGe _) (by omega) (by omega)) (Za 7 31) (bL 5 (.int .u8 (a1.get i10)) rfl rfl hM10 (fun _ hB_=>by exact Yc (hC.grow hB_) 0 (.int .u8 (a1.get i10)) rfl sc5 rfl (ZGa _ _ hi10)) (Za 7 63) (Z3 6 (by decide) (by decide) (by kernel_rfl) (by kernel_rfl) rfl (Yw rfl rfl (done (Z4 (Zd ?_))))))))))
  refine Zp rfl (fun hb10=>?_) (fun hb10=>?_)
  ·replace h:=ift h (ct hb10)
   refine sr (Zc (v:=.bool false) rfl (dn ?_))
   refine ZF5 (Zw (Ze (Ze (Zw (Ze ?_)))))
   exact Zk rfl (Zf rfl) ⟨false,rfl,h,hC.below⟩ (.inl rfl)
  ·replace h:=Zj h (cf hb10)
   refine ZF0 (Zs (Zd (Zm (Zb (v:=vI (i10:Int)) rfl (Zr rfl rfl (Zc (v:=vI (Zw2.wrap ((i10:Int)+1))) rfl (done ?_)))))))
   exact hK10 () _ _ ⟨(sl ⟨rfl,rfl,(tr rfl (congrArg _ (Ya hi10 (by decide)))),trivial⟩),hC⟩ h
 ·clear hC h
  rintro s10 e_ w12 K10 ⟨hS_,hC⟩ h
  rw [ue hS_]
  refine ZFx (sr (Zb (v:=vI 8) rfl (Zo rfl rfl (dn (Yb rfl (decide_eq_false (by omega)) ?_)))))
  refine ZGb (Zl (Zl (Z2 ?_)))
  refine Zd (sr (Zc (v:=.bool true) rfl (dn (ZF5 ?_))))
  exact Zk rfl (Zf rfl) ⟨true,rfl,h,hC.below⟩ (.inl rfl)
 ·skip
  exact⟨(slq rfl),hC⟩
def Zcg (a0:List Int) (a1:List Int) (K:Bool→Prop):Prop :=
 (if(a0.length:Int)≠(a1.length:Int) then K false else Ye (fun i10 (s10:Unit) nx10=>((0≤(i10:Int)∧(i10:Int) < (a1.length:Int))∧(if a0.getD i10 Zuo≠a1.getD i10 Zuo then K false else nx10 ()))) (fun (s10:Unit)=>K true) a0.length 0 ())
theorem Zk9 (a0:List Int) (a1:List Int)  {K:Bool→Prop} (h:Zcg a0 a1 K) (w0:World) (q0:ZIn.rep a0 [u0_0] fp0 w0) (q1:ZIn.rep a1 [u1_0] fp1 w0) :
  Calls ZFz 20 #[u0_0,u1_0] w0 fun e w'=>∃ (r0:Bool),
   e=.returned (.bool r0)∧K r0∧Bel w0 w':=by
 unfold Zcg at h
 refine cof Tryz.func20 rfl 26 Tryz.ntmps20 ?_
 have hC:=ZGi (X:=Nox) w0 [ZB9 TInts a0 [u0_0] fp0,ZB9 TInts a1 [u1_0] fp1] (alc q0 (al1 q1))
 refine sr (Zc (v:=.bool false) rfl (dn (ZFx (sr (Zb (v:=u0_0) rfl (Zv hC 0 rfl ZGg rfl (Zb (v:=u1_0) rfl (Zv hC 1 rfl ZGg rfl (Yw rfl rfl (dn ?_))))))))))
 refine Zp rfl (fun hb9=>?_) (fun hb9=>?_)
 ·replace h:=ift h (ct hb9)
  refine sr (Zc (v:=.bool false) rfl (dn ?_))
  refine ZF5 (Ze ?_)
  exact Zk rfl (Zf rfl) ⟨false,rfl,h,hC.below⟩ (.inl rfl)
 ·replace h:=Zj h (cf hb9)
  refine ZF0 (Zd (ZFx (sr (Zc (v:=vI 0) rfl (dn (ZF3 ?_))))))
  have hN10:a0.length≤9223372036854775807:=Y5 (hC.getP 0 rfl)
  refine Yl (S:=Unit) _ _ (fun i10 s10 e_ w_=>Zy e_ [(0,u0_0),(1,u1_0),(5,vI (i10:Int))]∧Ctx Nox w0 w_ [] [ZB9 TInts a0 [u0_0] fp0,ZB9 TInts a1 [u1_0] fp1]) a0.length ?_ ?_ (s0:=()) ?_ h
  ·clear hC h
   rintro i10 s10 e_ w10 nx10 K10 hi10 ⟨hS_,hC⟩ h hK10
   rw [ue hS_]
   refine ZFx (sr (Zb (v:=vI (i10:Int)) rfl (Zb (v:=u0_0) rfl (Zv hC 0 rfl ZGg rfl (Zo rfl rfl (dn (Z8 rfl (decide_eq_true (by omega)) (ZF0 (Zd (ZFx (ZF3 (ZFx ?_))))))))))))
   refine cwd 8 mixed [0,0,3,7,0,0,48,112,255] [2,3,6,7] [0,1,4,5] (fun hM10 hM11 w11 hB_=>?_)
   replace hC:=hC.grow hB_
   refine bM 0 (u0_0) rfl hM11 (Za 9 1) (bM 1 (vI (i10:Int)) rfl hM11 (Za 9 3) ?_)
   obtain ⟨Ad10,c10,hv10⟩:=Z1 (hC.getP 0 rfl) i10 hi10
   refine bL 2 (.pointer (some (Ad10.add (i10 * 1)))) rfl rfl hM10 (fun _ hB_=>by exact Yx (len:=a0.length) ZGg sc2.size (by exact tr rfl hv10) rfl (ZGe _) (ZGw.2 hi10)) (Za 9 7) (bL 3 (vI (a0.getD i10 Zuo)) rfl rfl hM10 (fun _ hB_=>by exact J3 (vI (a0.getD i10 Zuo)) (Yi ((hC.grow hB_).getP 0 rfl) hv10 i10 hi10) sc2 rfl) (Za 9 15) (bM 4 (u1_0) rfl hM11 (Za 9 31) (bM 5 (vI (i10:Int)) rfl hM11 (Za 9 63) ?_)))
   obtain ⟨⟨h10,h11⟩,h⟩:=h
   obtain ⟨Ad11,c11,hv11⟩:=Z1 (hC.getP 1 rfl) i10 (show i10 < a1.length by omega)
   refine bL 6 (.pointer (some (Ad11.add (i10 * 1)))) rfl rfl hM10 (fun _ hB_=>by exact Yx (len:=a1.length) ZGg sc2.size (by exact tr rfl hv11) rfl h10 h11) (Za 9 127) (bL 7 (vI (a1.getD i10 Zuo)) rfl rfl hM10 (fun _ hB_=>by exact J3 (vI (a1.getD i10 Zuo)) (Yi ((hC.grow hB_).getP 1 rfl) hv11 i10 (show i10 < a1.length by omega)) sc2 rfl) (Za 9 255) (Z3 8 (by decide) (by decide) (by kernel_rfl) (by kernel_rfl) rfl (Yw rfl rfl (done (Z4 (Zd ?_))))))
   refine Zp rfl (fun hb10=>?_) (fun hb10=>?_)
   ·replace h:=ift h (ct hb10)
    refine sr (Zc (v:=.bool false) rfl (dn ?_))
    refine ZF5 (Zw (Ze (Ze (Zw (Ze ?_)))))
    exact Zk rfl (Zf rfl) ⟨false,rfl,h,hC.below⟩ (.inl rfl)
   ·replace h:=Zj h (cf hb10)
    refine ZF0 (Zs (Zd (Zm (Zb (v:=vI (i10:Int)) rfl (Zr rfl rfl (Zc (v:=vI (Zw2.wrap ((i10:Int)+1))) rfl (done ?_)))))))
    exact hK10 () _ _ ⟨(sl ⟨rfl,rfl,(tr rfl (congrArg _ (Ya hi10 hN10))),trivial⟩),hC⟩ h
  ·clear hC h
   rintro s10 e_ w12 K10 ⟨hS_,hC⟩ h
   rw [ue hS_]
   refine ZFx (sr (Zb (v:=vI (a0.length:Int)) rfl (Zb (v:=u0_0) rfl (Zv hC 0 rfl ZGg rfl (Zo rfl rfl (dn (Yb rfl (decide_eq_false (by omega)) ?_)))))))
   refine ZGb (Zl (Zl (Z2 ?_)))
   refine Zd (sr (Zc (v:=.bool true) rfl (dn (ZF5 ?_))))
   exact Zk rfl (Zf rfl) ⟨true,rfl,h,hC.below⟩ (.inl rfl)
  ·skip
   exact⟨(slq rfl),hC⟩
def Ze4 (a0:Term) (K:Term→Prop):Prop :=
 Ze1 a0.mono (fun r10=>K (⟨r10,a0.factor⟩:Term))
theorem Zp1 (a0:Term)  {K:Term→Prop} (h:Ze4 a0 K) (w0:World)  :
  Calls ZFz 84 #[.agg (ZFw (ZF8 a0))] w0 fun e w'=>∃ (r0:Term),
   e=.returned (.agg (ZFw (ZF8 r0)))∧K r0∧Bel w0 w':=by
 unfold Ze4 at h
 refine cof Tryz.func84 rfl 12 Tryz.ntmps84 ?_
 have hC:=ZGi (X:=Nox) w0 [] (by simp)
 refine sr (Yh (v:=.agg (ZFw (ZF8 a0))) hC (ZF8 a0) rfl rfl fun b1 w3 hB_ hC=>Z9 hC (ZF8 (⟨ZF2,0⟩:Term)) z90 rfl fun b4 w6 hB_ hC=>dn (sr (Z9 hC (ZF8 (⟨ZF2,0⟩:Term)) z90 rfl fun b7 w9 hB_ hC=>dn (sr (Zz 0 Tryz.underlying122 rfl ag87.size rfl rfl (Yg hC 2 (ZFv .u8 a0.mono) rfl ag87 rfl rfl rfl (Zg [.agg (ZFw (ZFv .u8 a0.mono))] _ Tryz.func101 rfl rfl rfl (Zpz a0.mono h _) ?_)))))))
 rintro _ w10 ⟨r10,rfl,h,hB10⟩
 refine rt ?_
 replace hC:=hC.grow hB10
 refine Zz 0 ZGd rfl ag88.size rfl rfl (Zu (v:=.agg (ZFw (ZFv .u8 r10))) hC 0 (ZFv .u8 r10) (ZF8 (⟨r10,0⟩:Term)) rfl ag88.size rfl rfl rfl rfl rfl (ZF6 rfl) rfl fun w11 hC=>dn (sr (Zz 8 Tryz.underlying122 rfl sc2.size rfl rfl (Z6 hC 2 (vI a0.factor) rfl sc2 rfl rfl (Zz 8 ZGd rfl sc2.size rfl rfl (Zu (v:=vI a0.factor) hC 0 [vI a0.factor] (ZF8 (⟨r10,a0.factor⟩:Term)) rfl sc2.size rfl rfl rfl rfl rfl (ZF6 rfl) rfl fun w12 hC=>dn (sr (Yg hC 0 (ZF8 (⟨r10,a0.factor⟩:Term)) rfl ag90 rfl rfl rfl (Zu (v:=.agg (ZFw (ZF8 (⟨r10,a0.factor⟩:Term)))) hC 1 (ZF8 (⟨r10,a0.factor⟩:Term)) (ZF8 (⟨r10,a0.factor⟩:Term)) rfl ag90.size rfl rfl rfl rfl rfl (ZF6 rfl) rfl fun w13 hC=>dn (ZF5 ?_))))))))))
 exact Zk rfl (Xp hC 1 rfl ag90 rfl rfl) ⟨(⟨r10,a0.factor⟩:Term),rfl,h,hC.below⟩ (.inl rfl)
def Ze5 (a0:List Term) (K:List Term→Prop):Prop :=
 ((0≤(a0.length:Int)∧(a0.length:Int) * 16≤281474976710656)∧Ye (fun i10 (s10:(List Term)) nx10=>Ze4 (a0.getD i10 Zuo) (fun r10=>((0≤(i10:Int)∧(i10:Int) < (s10.length:Int))∧nx10 (s10.set i10 r10)))) (fun (s10:(List Term))=>K s10) a0.length 0 (Zuj ((a0.length:Int).toNat) ((⟨ZF2,0⟩:Term):Term)))
theorem Zp2 (a0:List Term)  {K:List Term→Prop} (h:Ze5 a0 K) (w0:World) (q0:ZFy.ty.sl.rep a0 [u0_0] fp0 w0) :
  Calls ZFz 62 #[u0_0] w0 fun e w'=>∃ (r0:List Term) (z0_0:Value) (fz0:List Nat),
   e=.returned (z0_0)∧K r0∧(ZGc (Tr.sl 90 ZFy.tr) r0 [z0_0] fz0).holds w'∧(∀ b,b∈fz0→w0.heap.size≤b)∧Bel w0 w':=by
 unfold Ze5 at h
 refine cof Tryz.func62 rfl 23 Tryz.ntmps62 ?_
 have hC:=ZGi (X:=Nox) w0 [ZB9 ZFy.ty.sl a0 [u0_0] fp0] (al1 q0)
 refine sr (Zc (v:=.slice none 0 0) rfl (dn (sr (Zb (v:=u0_0) rfl (Zv hC 0 rfl ZIy rfl ?_)))))
 obtain ⟨hm7,h⟩:=h
 refine Zhz (sz:=9) hC (ZFy.encs (Zuj ((a0.length:Int).toNat) ((⟨ZF2,0⟩:Term):Term))) ZF7 Zc9 (tr rfl (congrArg (ZIv .i64) (ZIw hm7.1).symm)) (tr rfl (congrArg (ZIv .i64) (ZIw hm7.1).symm)) (by omega) (by omega) (Zgc (E:=ETerm) _ _) fun v5 w6 hB_ hC=>?_
 replace hC:=J4 hC 0 ((Zuj ((a0.length:Int).toNat) ((⟨ZF2,0⟩:Term):Term)).length) (ZFy.encs (Zuj ((a0.length:Int).toNat) ((⟨ZF2,0⟩:Term):Term))) rfl (by simp) rfl
 refine Zc (v:=v5) rfl (dn (ZFx (sr (Zc (v:=vI 0) rfl (dn (ZF3 ?_))))))
 have hN10:a0.length≤9223372036854775807:=Y5 (hC.getP 0 rfl)
 refine Yl (S:=(List Term)) _ _ (fun i10 s10 e_ w_=>∃ (v10:Value),Zy e_ [(0,u0_0),(3,v10),(4,vI (i10:Int))]∧Ctx Nox w0 w_ [own 90 9 v10 s10.length (ZFy.encs s10)] [ZB9 ZFy.ty.sl a0 [u0_0] fp0]) a0.length ?_ ?_ (s0:=(Zuj ((a0.length:Int).toNat) ((⟨ZF2,0⟩:Term):Term))) ?_ h
 ·clear hC h
  rintro i10 s10 e_ w10 nx10 K10 hi10 ⟨v10,hS_,hC⟩ h hK10
  rw [ue hS_]
  refine ZFx (sr (Zb (v:=vI (i10:Int)) rfl (Zb (v:=u0_0) rfl (Zv hC 0 rfl ZIy rfl (Zo rfl rfl (dn (Z8 rfl (decide_eq_true (by omega)) (ZF0 (Zd (ZFx (ZF3 (Zm (Zb (v:=v10) rfl (Zb (v:=vI (i10:Int)) rfl (Zb (v:=u0_0) rfl (Zb (v:=vI (i10:Int)) rfl ?_))))))))))))))))
  obtain ⟨Ad10,c10,hv10⟩:=Z1 (hC.getP 0 rfl) i10 hi10
  refine Yp (len:=a0.length) ZIy ag122.size (tr rfl hv10) rfl (ZGe _) (ZGw.2 hi10) (Jm (ZF8 (a0.getD i10 Zuo)) (Yi (hC.getP 0 rfl) hv10 i10 hi10) ag122 rfl rfl (Zg [.agg (ZFw (ZF8 (a0.getD i10 Zuo)))] _ Tryz.func84 rfl rfl rfl (Zp1 (a0.getD i10 Zuo) h _) ?_))
  rintro _ w11 ⟨r10,rfl,h,hB10⟩
  refine rt ?_
  replace hC:=hC.grow hB10
  obtain ⟨⟨h10,h11⟩,h⟩:=h
  obtain ⟨Ad11,c11,hv11⟩:=Za2 (hC.getM 0 rfl) (ZIs (Zvh _) (show i10 < s10.length by omega))
  refine Zbf (i10 * 9) ZF7 ag90.size (tr rfl hv11) rfl h10 h11 rfl (Zct (v:=.agg (ZFw (ZF8 r10))) hC 0 (ZF8 r10) (ZFy.encs (s10.set i10 r10)) rfl hv11 ag90.size rfl rfl rfl rfl rfl (by rw [ZIx]; exact Zah (sz:=9) (show i10 < s10.length by omega)) (Zgb _ _ _ (show i10 < s10.length by omega)) fun w12 hC=>?_)
  replace hC:=J4 hC 0 ((s10.set i10 r10).length) (ZFy.encs (s10.set i10 r10)) rfl (by simp) rfl
  refine done (Zs (Zd (Zm (Zb (v:=vI (i10:Int)) rfl (Zr rfl rfl (Zc (v:=vI (Zw2.wrap ((i10:Int)+1))) rfl (done ?_)))))))
  exact hK10 (s10.set i10 r10) _ _ ⟨v10,(sl ⟨rfl,rfl,(tr rfl (congrArg _ (Ya hi10 hN10))),trivial⟩),hC⟩ h
 ·clear hC h
  rintro s10 e_ w13 K10 ⟨v10,hS_,hC⟩ h
  rw [ue hS_]
  refine ZFx (sr (Zb (v:=vI (a0.length:Int)) rfl (Zb (v:=u0_0) rfl (Zv hC 0 rfl ZIy rfl (Zo rfl rfl (dn (Yb rfl (decide_eq_false (by omega)) ?_)))))))
  refine ZGb (Zl (Zl (Z2 ?_)))
  refine Zd (sr (Zb (v:=v10) rfl (Zc (v:=v10) rfl (dn (ZF5 ?_)))))
  exact Zk rfl (Zf rfl) ⟨s10,v10,(ZGu (Zva v10)),rfl,h,(Je (hC.getM 0 rfl)),(Jt hC 0 rfl),hC.below⟩ (.inl rfl)
 ·skip
  exact⟨v5,(slq rfl),hC⟩
def Ze6 (a0:ZF1) (K:ZF1→Prop):Prop :=
 Ze5 a0.terms (fun r10=>K (⟨r10⟩:ZF1))
theorem Zp3 (a0:ZF1)  {K:ZF1→Prop} (h:Ze6 a0 K) (w0:World) (q0:ZGj.rep a0 [u0_0] fp0 w0) :
  Calls ZFz 30 #[.agg #[u0_0]] w0 fun e w'=>∃ (r0:ZF1) (z0_0:Value) (fz0:List Nat),
   e=.returned (.agg #[z0_0])∧K r0∧(ZGc (Zn 90) r0 [z0_0] fz0).holds w'∧(∀ b,b∈fz0→w0.heap.size≤b)∧Bel w0 w':=by
 unfold Ze6 at h
 refine cof Tryz.func30 rfl 9 Tryz.ntmps30 ?_
 have hC:=ZGi (X:=Nox) w0 [ZB9 TForm a0 [u0_0] fp0] (al1 q0)
 have hp2:=(hC.getP 0 rfl)
 replace hC:=hC.derive 0 rfl (ZB9 ZFy.ty.sl a0.terms [u0_0] fp0) (fun _=>(Yn hp2)) (fun _ hb_=>hb_)
 refine sr (Yh (v:=.agg #[u0_0]) hC [u0_0] rfl rfl fun b4 w6 hB_ hC=>Z9 hC [.slice none 0 0] z55 rfl fun b7 w9 hB_ hC=>dn (sr (Z9 hC [.slice none 0 0] z55 rfl fun b10 w10 hB_ hC=>dn (sr (Zz 0 Tryz.underlying51 rfl sc49.size rfl rfl (Z6 hC 2 (u0_0) rfl sc49 rfl rfl (Zg [u0_0] _ Tryz.func62 rfl rfl rfl (Zp2 a0.terms h _ (hC.getP 0 rfl)) ?_)))))))
 rintro _ w11 ⟨r10,u10,f10,rfl,h,hr10,hf10,hB10⟩
 refine rt ?_
 replace hC:=hC.push hB10 (ZGc (Tr.sl 90 ZFy.tr) r10 [u10] f10) hr10 hf10
 obtain ⟨ho10,hf11⟩:=Zaq (hC.getM 0 rfl).1
 subst hf11
 replace hC:=hC.recast (c:=own 90 9 u10 r10.length (ZFy.encs r10)) (fun _ h_=>h_) (fun _=>ho10)
 refine Zz 0 ZF4 rfl sc53.size rfl rfl (Zu (v:=u10) hC 1 [u10] [u10] rfl sc53.size rfl rfl (Zb3 (hC.getM 0 rfl)) rfl (Yo (Y8 (hC.getM 0 rfl)) rfl) (ZF6 rfl) rfl fun w12 hC=>dn (sr (Yg hC 1 [u10] rfl ag55 rfl rfl rfl (Zu (v:=.agg #[u10]) hC 2 [u10] [u10] rfl ag55.size rfl rfl rfl rfl (Yo (Y8 (hC.getM 0 rfl)) rfl) (ZF6 rfl) rfl fun w13 hC=>dn (ZF5 ?_)))))
 exact Zk rfl (Xp hC 2 rfl ag55 rfl rfl) ⟨(⟨r10⟩:ZF1),u10,(ZGu (Zva u10)),rfl,h,(Jf (Je (hC.getM 0 rfl))),(Jt hC 0 rfl),hC.below⟩ (.inl rfl)
def Ze7 (a0:Term) (a1:Term) (K:Bool→Prop):Prop :=
 Ze3 a0.mono a1.mono (fun r10=>(if¬ (r10=true) then K false else(if a0.factor≠a1.factor then K false else K true)))
theorem Zp4 (a0:Term) (a1:Term)  {K:Bool→Prop} (h:Ze7 a0 a1 K) (w0:World)  :
  Calls ZFz 91 #[.agg (ZFw (ZF8 a0)),.agg (ZFw (ZF8 a1))] w0 fun e w'=>∃ (r0:Bool),
   e=.returned (.bool r0)∧K r0∧Bel w0 w':=by
 unfold Ze7 at h
 refine cof Tryz.func91 rfl 16 Tryz.ntmps91 ?_
 have hC:=ZGi (X:=Nox) w0 [] (by simp)
 refine sr (Yh (v:=.agg (ZFw (ZF8 a0))) hC (ZF8 a0) rfl rfl fun b1 w3 hB_ hC=>Yh (v:=.agg (ZFw (ZF8 a1))) hC (ZF8 a1) rfl rfl fun b4 w6 hB_ hC=>Zc (v:=.bool false) rfl (dn (ZFx (sr (Zz 0 ZGd rfl ag88.size rfl rfl (Yg hC 1 (ZFv .u8 a0.mono) rfl ag88 rfl rfl rfl (Zz 0 ZGd rfl ag88.size rfl rfl (Yg hC 0 (ZFv .u8 a1.mono) rfl ag88 rfl rfl rfl (Zg [.agg (ZFw (ZFv .u8 a0.mono)),.agg (ZFw (ZFv .u8 a1.mono))] _ Tryz.func105 rfl rfl rfl (Zp0 a0.mono a1.mono h _) ?_)))))))))
 rintro _ w9 ⟨r10,rfl,h,hB10⟩
 refine rt ?_
 replace hC:=hC.grow hB10
 refine Yu rfl (dn ?_)
 refine Zp rfl (fun hb10=>?_) (fun hb10=>?_)
 ·replace h:=ift h (Ym (Yz hb10))
  refine sr (Zc (v:=.bool false) rfl (dn ?_))
  refine ZF5 (Ze ?_)
  exact Zk rfl (Zf rfl) ⟨false,rfl,h,hC.below⟩ (.inl rfl)
 ·replace h:=Zj h (not_not_intro ((Y0 hb10)))
  refine ZF0 (Zd (ZFx (sr (Zz 8 ZGd rfl sc2.size rfl rfl (Z6 hC 1 (vI a0.factor) rfl sc2 rfl rfl (Zz 8 ZGd rfl sc2.size rfl rfl (Z6 hC 0 (vI a1.factor) rfl sc2 rfl rfl (Yw rfl rfl (dn ?_)))))))))
  refine Zp rfl (fun hb11=>?_) (fun hb11=>?_)
  ·replace h:=ift h (ct hb11)
   refine sr (Zc (v:=.bool false) rfl (dn ?_))
   refine ZF5 (Ze ?_)
   exact Zk rfl (Zf rfl) ⟨false,rfl,h,hC.below⟩ (.inl rfl)
  ·replace h:=Zj h (cf hb11)
   refine ZF0 (Zd (sr (Zc (v:=.bool true) rfl (dn (ZF5 ?_)))))
   exact Zk rfl (Zf rfl) ⟨true,rfl,h,hC.below⟩ (.inl rfl)
def Zgt (a0:List Term) (a1:List Term) (K:Bool→Prop):Prop :=
 (if(a0.length:Int)≠(a1.length:Int) then K false else Ye (fun i10 (s10:Unit) nx10=>((0≤(i10:Int)∧(i10:Int) < (a1.length:Int))∧Ze7 (a0.getD i10 Zuo) (a1.getD i10 Zuo) (fun r10=>(if¬ (r10=true) then K false else nx10 ())))) (fun (s10:Unit)=>K true) a0.length 0 ())
theorem Zp5 (a0:List Term) (a1:List Term)  {K:Bool→Prop} (h:Zgt a0 a1 K) (w0:World) (q0:ZFy.ty.sl.rep a0 [u0_0] fp0 w0) (q1:ZFy.ty.sl.rep a1 [u1_0] fp1 w0) :
  Calls ZFz 67 #[u0_0,u1_0] w0 fun e w'=>∃ (r0:Bool),
   e=.returned (.bool r0)∧K r0∧Bel w0 w':=by
 unfold Zgt at h
 refine cof Tryz.func67 rfl 27 Tryz.ntmps67 ?_
 have hC:=ZGi (X:=Nox) w0 [ZB9 ZFy.ty.sl a0 [u0_0] fp0,ZB9 ZFy.ty.sl a1 [u1_0] fp1] (alc q0 (al1 q1))
 refine sr (Zc (v:=.bool false) rfl (dn (ZFx (sr (Zb (v:=u0_0) rfl (Zv hC 0 rfl ZF7 rfl (Zb (v:=u1_0) rfl (Zv hC 1 rfl ZF7 rfl (Yw rfl rfl (dn ?_))))))))))
 refine Zp rfl (fun hb9=>?_) (fun hb9=>?_)
 ·replace h:=ift h (ct hb9)
  refine sr (Zc (v:=.bool false) rfl (dn ?_))
  refine ZF5 (Ze ?_)
  exact Zk rfl (Zf rfl) ⟨false,rfl,h,hC.below⟩ (.inl rfl)
 ·replace h:=Zj h (cf hb9)
  refine ZF0 (Zd (ZFx (sr (Zc (v:=vI 0) rfl (dn (ZF3 ?_))))))
  have hN10:a0.length≤9223372036854775807:=Y5 (hC.getP 0 rfl)
  refine Yl (S:=Unit) _ _ (fun i10 s10 e_ w_=>Zy e_ [(0,u0_0),(1,u1_0),(5,vI (i10:Int))]∧Ctx Nox w0 w_ [] [ZB9 ZFy.ty.sl a0 [u0_0] fp0,ZB9 ZFy.ty.sl a1 [u1_0] fp1]) a0.length ?_ ?_ (s0:=()) ?_ h
  ·clear hC h
   rintro i10 s10 e_ w10 nx10 K10 hi10 ⟨hS_,hC⟩ h hK10
   rw [ue hS_]
   refine ZFx (sr (Zb (v:=vI (i10:Int)) rfl (Zb (v:=u0_0) rfl (Zv hC 0 rfl ZF7 rfl (Zo rfl rfl (dn (Z8 rfl (decide_eq_true (by omega)) (ZF0 (Zd (ZFx (ZF3 (ZFx ?_))))))))))))
   refine cwd 8 mixed [0,0,3,7,0,0,48,112,255,511] [2,3,6,7] [0,1,4,5] (fun hM10 hM11 w11 hB_=>?_)
   replace hC:=hC.grow hB_
   refine bM 0 (u0_0) rfl hM11 (Za 10 1) (bM 1 (vI (i10:Int)) rfl hM11 (Za 10 3) ?_)
   obtain ⟨Ad10,c10,hv10⟩:=Z1 (hC.getP 0 rfl) i10 hi10
   refine bL 2 (.pointer (some (Ad10.add (i10 * 9)))) rfl rfl hM10 (fun _ hB_=>by exact Yx (len:=a0.length) ZF7 ag90.size (by exact tr rfl hv10) rfl (ZGe _) (ZGw.2 hi10)) (Za 10 7) (bL 3 (.agg (ZFw (ZF8 (a0.getD i10 Zuo)))) rfl rfl hM10 (fun _ hB_=>by exact Xq (ZF8 (a0.getD i10 Zuo)) (Yi ((hC.grow hB_).getP 0 rfl) hv10 i10 hi10) ag90 rfl rfl) (Za 10 15) (bM 4 (u1_0) rfl hM11 (Za 10 31) (bM 5 (vI (i10:Int)) rfl hM11 (Za 10 63) ?_)))
   obtain ⟨⟨h10,h11⟩,h⟩:=h
   obtain ⟨Ad11,c11,hv11⟩:=Z1 (hC.getP 1 rfl) i10 (show i10 < a1.length by omega)
   refine bL 6 (.pointer (some (Ad11.add (i10 * 9)))) rfl rfl hM10 (fun _ hB_=>by exact Yx (len:=a1.length) ZF7 ag90.size (by exact tr rfl hv11) rfl h10 h11) (Za 10 127) (bL 7 (.agg (ZFw (ZF8 (a1.getD i10 Zuo)))) rfl rfl hM10 (fun _ hB_=>by exact Xq (ZF8 (a1.getD i10 Zuo)) (Yi ((hC.grow hB_).getP 1 rfl) hv11 i10 (show i10 < a1.length by omega)) ag90 rfl rfl) (Za 10 255) (Z3 8 (by decide) (by decide) (by kernel_rfl) (by kernel_rfl) rfl (Zg [.agg (ZFw (ZF8 (a0.getD i10 Zuo))),.agg (ZFw (ZF8 (a1.getD i10 Zuo)))] _ Tryz.func91 rfl rfl rfl (Zp4 (a0.getD i10 Zuo) (a1.getD i10 Zuo) h _) ?_)))
   rintro _ w12 ⟨r10,rfl,h,hB10⟩
   refine rt ?_
   replace hC:=hC.grow hB10
   refine Yu rfl (done (Z4 (Zd ?_)))
   refine Zp rfl (fun hb10=>?_) (fun hb10=>?_)
   ·replace h:=ift h (Ym (Yz hb10))
    refine sr (Zc (v:=.bool false) rfl (dn ?_))
    refine ZF5 (Zw (Ze (Ze (Zw (Ze ?_)))))
    exact Zk rfl (Zf rfl) ⟨false,rfl,h,hC.below⟩ (.inl rfl)
   ·replace h:=Zj h (not_not_intro ((Y0 hb10)))
    refine ZF0 (Zs (Zd (Zm (Zb (v:=vI (i10:Int)) rfl (Zr rfl rfl (Zc (v:=vI (Zw2.wrap ((i10:Int)+1))) rfl (done ?_)))))))
    exact hK10 () _ _ ⟨(sl ⟨rfl,rfl,(tr rfl (congrArg _ (Ya hi10 hN10))),trivial⟩),hC⟩ h
  ·clear hC h
   rintro s10 e_ w13 K10 ⟨hS_,hC⟩ h
   rw [ue hS_]
   refine ZFx (sr (Zb (v:=vI (a0.length:Int)) rfl (Zb (v:=u0_0) rfl (Zv hC 0 rfl ZF7 rfl (Zo rfl rfl (dn (Yb rfl (decide_eq_false (by omega)) ?_)))))))
   refine ZGb (Zl (Zl (Z2 ?_)))
   refine Zd (sr (Zc (v:=.bool true) rfl (dn (ZF5 ?_))))
   exact Zk rfl (Zf rfl) ⟨true,rfl,h,hC.below⟩ (.inl rfl)
  ·skip
   exact⟨(slq rfl),hC⟩
def Ze8 (a0:ZF1) (a1:ZF1) (K:Bool→Prop):Prop :=
 Zgt a0.terms a1.terms (fun r10=>(if¬ (r10=true) then K false else K true))
theorem Zp6 (a0:ZF1) (a1:ZF1)  {K:Bool→Prop} (h:Ze8 a0 a1 K) (w0:World) (q0:ZGj.rep a0 [u0_0] fp0 w0) (q1:ZGj.rep a1 [u1_0] fp1 w0) :
  Calls ZFz 35 #[.agg #[u0_0],.agg #[u1_0]] w0 fun e w'=>∃ (r0:Bool),
   e=.returned (.bool r0)∧K r0∧Bel w0 w':=by
 unfold Ze8 at h
 refine cof Tryz.func35 rfl 11 Tryz.ntmps35 ?_
 have hC:=ZGi (X:=Nox) w0 [ZB9 TForm a0 [u0_0] fp0,ZB9 TForm a1 [u1_0] fp1] (alc q0 (al1 q1))
 have hp3:=(hC.getP 0 rfl)
 replace hC:=hC.derive 0 rfl (ZB9 ZFy.ty.sl a0.terms [u0_0] fp0) (fun _=>(Yn hp3)) (fun _ hb_=>hb_)
 have hp5:=(hC.getP 2 rfl)
 replace hC:=hC.derive 2 rfl (ZB9 ZFy.ty.sl a1.terms [u1_0] fp1) (fun _=>(Yn hp5)) (fun _ hb_=>hb_)
 refine sr (Yh (v:=.agg #[u0_0]) hC [u0_0] rfl rfl fun b7 w9 hB_ hC=>Yh (v:=.agg #[u1_0]) hC [u1_0] rfl rfl fun b10 w10 hB_ hC=>Zc (v:=.bool false) rfl (dn (ZFx (sr (Zz 0 ZF4 rfl sc53.size rfl rfl (Z6 hC 1 (u0_0) rfl sc53 rfl rfl (Zz 0 ZF4 rfl sc53.size rfl rfl (Z6 hC 0 (u1_0) rfl sc53 rfl rfl (Zg [u0_0,u1_0] _ Tryz.func67 rfl rfl rfl (Zp5 a0.terms a1.terms h _ (hC.getP 1 rfl) (hC.getP 0 rfl)) ?_)))))))))
 rintro _ w11 ⟨r10,rfl,h,hB10⟩
 refine rt ?_
 replace hC:=hC.grow hB10
 refine Yu rfl (dn ?_)
 refine Zp rfl (fun hb10=>?_) (fun hb10=>?_)
 ·replace h:=ift h (Ym (Yz hb10))
  refine sr (Zc (v:=.bool false) rfl (dn ?_))
  refine ZF5 (Ze ?_)
  exact Zk rfl (Zf rfl) ⟨false,rfl,h,hC.below⟩ (.inl rfl)
 ·replace h:=Zj h (not_not_intro ((Y0 hb10)))
  refine ZF0 (Zd (sr (Zc (v:=.bool true) rfl (dn (ZF5 ?_)))))
  exact Zk rfl (Zf rfl) ⟨true,rfl,h,hC.below⟩ (.inl rfl)
def Zbm (a0:List ZF1) (a1:List ZF1) (K:Bool→Prop):Prop :=
 (if(a0.length:Int)≠(a1.length:Int) then K false else Ye (fun i10 (s10:Unit) nx10=>((0≤(i10:Int)∧(i10:Int) < (a1.length:Int))∧Ze8 (a0.getD i10 Zuo) (a1.getD i10 Zuo) (fun r10=>(if¬ (r10=true) then K false else nx10 ())))) (fun (s10:Unit)=>K true) a0.length 0 ())
theorem Zgu (a0:List ZF1) (a1:List ZF1)  {K:Bool→Prop} (h:Zbm a0 a1 K) (w0:World) (q0:ZGj.sl.rep a0 [u0_0] fp0 w0) (q1:ZGj.sl.rep a1 [u1_0] fp1 w0) :
  Calls ZFz 12 #[u0_0,u1_0] w0 fun e w'=>∃ (r0:Bool),
   e=.returned (.bool r0)∧K r0∧Bel w0 w':=by
 unfold Zbm at h
 refine cof Tryz.func12 rfl 27 Tryz.ntmps12 ?_
 have hC:=ZGi (X:=Nox) w0 [ZB9 ZGj.sl a0 [u0_0] fp0,ZB9 ZGj.sl a1 [u1_0] fp1] (alc q0 (al1 q1))
 refine sr (Zc (v:=.bool false) rfl (dn (ZFx (sr (Zb (v:=u0_0) rfl (Zv hC 0 rfl ZGl rfl (Zb (v:=u1_0) rfl (Zv hC 1 rfl ZGl rfl (Yw rfl rfl (dn ?_))))))))))
 refine Zp rfl (fun hb9=>?_) (fun hb9=>?_)
 ·replace h:=ift h (ct hb9)
  refine sr (Zc (v:=.bool false) rfl (dn ?_))
  refine ZF5 (Ze ?_)
  exact Zk rfl (Zf rfl) ⟨false,rfl,h,hC.below⟩ (.inl rfl)
 ·replace h:=Zj h (cf hb9)
  refine ZF0 (Zd (ZFx (sr (Zc (v:=vI 0) rfl (dn (ZF3 ?_))))))
  have hN10:a0.length≤9223372036854775807:=Y5 (hC.getP 0 rfl)
  refine Yl (S:=Unit) _ _ (fun i10 s10 e_ w_=>Zy e_ [(0,u0_0),(1,u1_0),(5,vI (i10:Int))]∧Ctx Nox w0 w_ [] [ZB9 ZGj.sl a0 [u0_0] fp0,ZB9 ZGj.sl a1 [u1_0] fp1]) a0.length ?_ ?_ (s0:=()) ?_ h
  ·clear hC h
   rintro i10 s10 e_ w10 nx10 K10 hi10 ⟨hS_,hC⟩ h hK10
   rw [ue hS_]
   refine ZFx (sr (Zb (v:=vI (i10:Int)) rfl (Zb (v:=u0_0) rfl (Zv hC 0 rfl ZGl rfl (Zo rfl rfl (dn (Z8 rfl (decide_eq_true (by omega)) (ZF0 (Zd (ZFx (ZF3 (ZFx ?_))))))))))))
   refine cwd 8 mixed [0,0,3,7,0,0,48,112,255,511] [2,3,6,7] [0,1,4,5] (fun hM10 hM11 w11 hB_=>?_)
   replace hC:=hC.grow hB_
   refine bM 0 (u0_0) rfl hM11 (Za 10 1) (bM 1 (vI (i10:Int)) rfl hM11 (Za 10 3) ?_)
   obtain ⟨Ad10,c10,hv10⟩:=Z1 (hC.getP 0 rfl) i10 hi10
   refine bL 2 (.pointer (some (Ad10.add (i10 * 1)))) rfl rfl hM10 (fun _ hB_=>by exact Yx (len:=a0.length) ZGl ag55.size (by exact tr rfl hv10) rfl (ZGe _) (ZGw.2 hi10)) (Za 10 7) ?_
   obtain ⟨cs_,hl10,hc10,hr10⟩:=X1 (hC.getP 0 rfl) hv10 i10 hi10
   obtain ⟨u10,rfl⟩:=ZGv.1 hl10
   clear hl10
   rw [Xt _ _ hi10] at hr10
   have hp10:=hr10
   replace hC:=hC.derive 0 rfl (ZB9 ZFy.ty.sl ((a0.getD i10 Zuo).terms) [u10] fp0) (fun _=>(Yn hp10)) (fun _ hb_=>hb_)
   refine bL 3 (.agg #[u10]) rfl rfl hM10 (fun _ hB_=>by exact Xq [u10] (Zab hB_ hc10) ag55 rfl rfl) (Za 10 15) (bM 4 (u1_0) rfl hM11 (Za 10 31) (bM 5 (vI (i10:Int)) rfl hM11 (Za 10 63) ?_))
   obtain ⟨⟨h10,h11⟩,h⟩:=h
   obtain ⟨Ad11,c11,hv11⟩:=Z1 (hC.getP 2 rfl) i10 (show i10 < a1.length by omega)
   refine bL 6 (.pointer (some (Ad11.add (i10 * 1)))) rfl rfl hM10 (fun _ hB_=>by exact Yx (len:=a1.length) ZGl ag55.size (by exact tr rfl hv11) rfl h10 h11) (Za 10 127) ?_
   obtain ⟨cs_,hl11,hc11,hr11⟩:=X1 (hC.getP 2 rfl) hv11 i10 (show i10 < a1.length by omega)
   obtain ⟨u11,rfl⟩:=ZGv.1 hl11
   clear hl11
   rw [Xt _ _ (show i10 < a1.length by omega)] at hr11
   have hp11:=hr11
   replace hC:=hC.derive 2 rfl (ZB9 ZFy.ty.sl ((a1.getD i10 Zuo).terms) [u11] fp1) (fun _=>(Yn hp11)) (fun _ hb_=>hb_)
   refine bL 7 (.agg #[u11]) rfl rfl hM10 (fun _ hB_=>by exact Xq [u11] (Zab hB_ hc11) ag55 rfl rfl) (Za 10 255) (Z3 8 (by decide) (by decide) (by kernel_rfl) (by kernel_rfl) rfl (Zg [.agg #[u10],.agg #[u11]] _ Tryz.func35 rfl rfl rfl (Zp6 (a0.getD i10 Zuo) (a1.getD i10 Zuo) h _ (Yj (hC.getP 1 rfl)) (Yj (hC.getP 0 rfl))) ?_))
   rintro _ w12 ⟨r10,rfl,h,hB10⟩
   refine rt ?_
   replace hC:=hC.grow hB10
   refine Yu rfl (done (Z4 (Zd ?_)))
   refine Zp rfl (fun hb10=>?_) (fun hb10=>?_)
   ·replace h:=ift h (Ym (Yz hb10))
    refine sr (Zc (v:=.bool false) rfl (dn ?_))
    refine ZF5 (Zw (Ze (Ze (Zw (Ze ?_)))))
    exact Zk rfl (Zf rfl) ⟨false,rfl,h,hC.below⟩ (.inl rfl)
   ·replace h:=Zj h (not_not_intro ((Y0 hb10)))
    refine ZF0 (Zs (Zd (Zm (Zb (v:=vI (i10:Int)) rfl (Zr rfl rfl (Zc (v:=vI (Zw2.wrap ((i10:Int)+1))) rfl (done ?_)))))))
    exact hK10 () _ _ ⟨(sl ⟨rfl,rfl,(tr rfl (congrArg _ (Ya hi10 hN10))),trivial⟩),(hC.sP [2,3] rfl)⟩ h
  ·clear hC h
   rintro s10 e_ w13 K10 ⟨hS_,hC⟩ h
   rw [ue hS_]
   refine ZFx (sr (Zb (v:=vI (a0.length:Int)) rfl (Zb (v:=u0_0) rfl (Zv hC 0 rfl ZGl rfl (Zo rfl rfl (dn (Yb rfl (decide_eq_false (by omega)) ?_)))))))
   refine ZGb (Zl (Zl (Z2 ?_)))
   refine Zd (sr (Zc (v:=.bool true) rfl (dn (ZF5 ?_))))
   exact Zk rfl (Zf rfl) ⟨true,rfl,h,hC.below⟩ (.inl rfl)
  ·skip
   exact⟨(slq rfl),hC⟩
def Ze9 (a0:List Term) (a1:Int) (K:Int→List Term→Prop):Prop :=
 Xo (fun (s10:(List Term)×Int×Int) nx10=>(if s10.2.2 < (s10.1.length:Int) then Ye (fun i10 (s11:(List Term)×Int) nx11=>((0≤s10.2.2∧s10.2.2 < (s11.1.length:Int))∧nx11 (s11.1.set s10.2.2.toNat (⟨((s11.1.getD s10.2.2.toNat Zuo).mono).set i10 (ZF9.wrap s11.2),(s11.1.getD s10.2.2.toNat Zuo).factor⟩:Term),Zw2.wrap (s11.2+1)))) (fun (s11:(List Term)×Int)=>((0≤s10.2.2∧s10.2.2 < (s11.1.length:Int))∧nx10 (s11.1.set s10.2.2.toNat (⟨(s11.1.getD s10.2.2.toNat Zuo).mono,s11.2⟩:Term),Zw2.wrap (s11.2+1),Zw2.wrap (s10.2.2+1)))) 8 0 (s10.1,s10.2.1) else K s10.2.1 s10.1)) (a0,a1,0)
theorem Zp7 (a0:List Term) (a1:Int)  {K:Int→List Term→Prop} (h:Ze9 a0 a1 K) (w0:World) (qw0:(own 90 9 u0_0 a0.length (ZFy.encs a0)).holds w0) :
  Calls ZFz 36 #[u0_0,vI a1] w0 fun e w'=>∃ (r0:Int) (mw:List Term),
   e=.returned (vI r0)∧K r0 mw∧(own 90 9 u0_0 mw.length (ZFy.encs mw)).holds w'∧BelO ((ZGu (Zva u0_0))) w0 w':=by
 unfold Ze9 at h
 refine cof Tryz.func36 rfl 35 Tryz.ntmps36 ?_
 have hC:=Ctx.startL w0 ((ZGu (Zva u0_0))) [own 90 9 u0_0 a0.length (ZFy.encs a0)] [] (by simp only [Zuk,Zwq,or_false,forall_eq_or_imp,forall_eq]; exact qw0) (by simp) (by simp only [Zuk,Zwq,or_false,forall_eq_or_imp,forall_eq]; exact fun b hb=>hb) (List.pairwise_singleton _ _) (by simp)
 refine sr (Zc (v:=vI 0) rfl (dn (ZFx (sr (Zc (v:=vI 0) rfl (dn (ZF3 ?_)))))))
 refine X7 (S:=(List Term)×Int×Int) _ (fun s10 e_ w_=>Zy e_ [(0,u0_0),(1,vI s10.2.1),(5,vI s10.2.2)]∧Ctx (fun c_=>c_∈(ZGu (Zva u0_0))) w0 w_ [own 90 9 u0_0 s10.1.length (ZFy.encs s10.1)] []) ?_ (s0:=(a0,a1,0)) ?_ h
 ·clear hC h
  rintro s10 e_ w10 nx10 K11 ⟨hS_,hC⟩ h hK10
  rw [ue hS_]
  refine ZFx (sr (Zb (v:=vI s10.2.2) rfl (Zb (v:=u0_0) rfl (Zek hC 0 rfl ZF7 rfl (Zo rfl rfl (dn ?_))))))
  refine Zp rfl (fun hb10=>?_) (fun hb10=>?_)
  ·replace h:=ift h (ct hb10)
   refine ZF0 (Zd (ZFx (ZF3 (ZFx (sr (Zc (v:=vI 0) rfl (dn (ZF3 ?_))))))))
   refine Yl (S:=(List Term)×Int) _ _ (fun i10 s11 e_ w_=>Zy e_ [(0,u0_0),(1,vI s11.2),(5,vI s10.2.2),(6,vI (i10:Int))]∧Ctx (fun c_=>c_∈(ZGu (Zva u0_0))) w0 w_ [own 90 9 u0_0 s11.1.length (ZFy.encs s11.1)] []) 8 ?_ ?_ (s0:=(s10.1,s10.2.1)) ?_ h
   ·clear hC h
    rintro i10 s11 e_ w11 nx11 K10 hi10 ⟨hS_,hC⟩ h hK11
    rw [ue hS_]
    refine ZFx (sr (Zb (v:=vI (i10:Int)) rfl (Zo rfl rfl (dn (Z8 rfl (decide_eq_true (by omega)) (ZF0 (Zd (ZFx (ZF3 (sr (Zb (v:=u0_0) rfl (Zb (v:=vI s10.2.2) rfl (Zb (v:=vI (i10:Int)) rfl (Zb (v:=vI s11.2) rfl (Zf4 ZG5 ZGz rfl ?_)))))))))))))))
    obtain ⟨⟨h10,h11⟩,h⟩:=h
    obtain ⟨Ad10,c10,hv10⟩:=Za2 (hC.getM 0 rfl) (ZIs (Zvh _) (show s10.2.2.toNat < s11.1.length by omega))
    refine Zbf (s10.2.2.toNat * 9) ZF7 ag90.size (tr rfl hv10) rfl h10 h11 rfl (Zz (s10.2.2.toNat * 9+0) ZGd rfl ag88.size rfl rfl (Y9 (s10.2.2.toNat * 9+0+i10) ZGf sc5.size rfl rfl (ZGe _) (by omega) (by omega) (Zct (v:=.int .u8 (ZF9.wrap s11.2)) hC 0 [.int .u8 (ZF9.wrap s11.2)] (ZFy.encs (s11.1.set s10.2.2.toNat (⟨((s11.1.getD s10.2.2.toNat Zuo).mono).set i10 (ZF9.wrap s11.2),(s11.1.getD s10.2.2.toNat Zuo).factor⟩:Term))) rfl hv10 sc5.size rfl rfl rfl rfl rfl (by rw [ZIx]; have:=Zah (sz:=9) (show s10.2.2.toNat < s11.1.length by omega); have h9:i10+1≤9:=(show i10+1≤9 by omega); have e9:ZFy.sz=9:=rfl; rw [e9]; omega) (Zks (E:=ETerm) (o:=i10) (show s10.2.2.toNat < s11.1.length by omega) (show i10+1≤9 by omega) (Zot hi10)) fun w12 hC=>?_)))
    replace hC:=J4 hC 0 ((s11.1.set s10.2.2.toNat (⟨((s11.1.getD s10.2.2.toNat Zuo).mono).set i10 (ZF9.wrap s11.2),(s11.1.getD s10.2.2.toNat Zuo).factor⟩:Term)).length) (ZFy.encs (s11.1.set s10.2.2.toNat (⟨((s11.1.getD s10.2.2.toNat Zuo).mono).set i10 (ZF9.wrap s11.2),(s11.1.getD s10.2.2.toNat Zuo).factor⟩:Term))) rfl (by simp) rfl
    refine dn (Zm (Zb (v:=vI s11.2) rfl (Zr rfl rfl (Zc (v:=vI (Zw2.wrap (s11.2+1))) rfl (done (Zs (Zd (Zm (Zb (v:=vI (i10:Int)) rfl (Zr rfl rfl (Zc (v:=vI (Zw2.wrap ((i10:Int)+1))) rfl (done ?_))))))))))))
    exact hK11 (s11.1.set s10.2.2.toNat (⟨((s11.1.getD s10.2.2.toNat Zuo).mono).set i10 (ZF9.wrap s11.2),(s11.1.getD s10.2.2.toNat Zuo).factor⟩:Term),Zw2.wrap (s11.2+1)) _ _ ⟨(sl ⟨rfl,rfl,rfl,(tr rfl (congrArg _ (Ya hi10 (by decide)))),trivial⟩),hC⟩ h
   ·clear hC h
    rintro s11 e_ w13 K10 ⟨hS_,hC⟩ h
    rw [ue hS_]
    refine ZFx (sr (Zb (v:=vI 8) rfl (Zo rfl rfl (dn (Yb rfl (decide_eq_false (by omega)) ?_)))))
    refine ZGb (Zl (Zl (Z2 ?_)))
    refine Zd (sr (Zb (v:=u0_0) rfl (Zb (v:=vI s10.2.2) rfl (Zb (v:=vI s11.2) rfl ?_))))
    obtain ⟨⟨h12,h13⟩,h⟩:=h
    obtain ⟨Ad11,c11,hv11⟩:=Za2 (hC.getM 0 rfl) (ZIs (Zvh _) (show s10.2.2.toNat < s11.1.length by omega))
    refine Zbf (s10.2.2.toNat * 9) ZF7 ag90.size (tr rfl hv11) rfl h12 h13 rfl (Zz (s10.2.2.toNat * 9+8) ZGd rfl sc2.size rfl rfl (Zct (v:=vI s11.2) hC 0 [vI s11.2] (ZFy.encs (s11.1.set s10.2.2.toNat (⟨(s11.1.getD s10.2.2.toNat Zuo).mono,s11.2⟩:Term))) rfl hv11 sc2.size rfl rfl rfl rfl rfl (by rw [ZIx]; have:=Zah (sz:=9) (show s10.2.2.toNat < s11.1.length by omega); have h9:8+1≤9:=(ZF6 rfl); have e9:ZFy.sz=9:=rfl; rw [e9]; omega) (Zks (E:=ETerm) (o:=8) (show s10.2.2.toNat < s11.1.length by omega) (ZF6 rfl) rfl) fun w14 hC=>?_))
    replace hC:=J4 hC 0 ((s11.1.set s10.2.2.toNat (⟨(s11.1.getD s10.2.2.toNat Zuo).mono,s11.2⟩:Term)).length) (ZFy.encs (s11.1.set s10.2.2.toNat (⟨(s11.1.getD s10.2.2.toNat Zuo).mono,s11.2⟩:Term))) rfl (by simp) rfl
    refine dn (Zm (Zb (v:=vI s11.2) rfl (Zr rfl rfl (Zc (v:=vI (Zw2.wrap (s11.2+1))) rfl (done (Zs (Zd (Zm (Zb (v:=vI s10.2.2) rfl (Zr rfl rfl (Zc (v:=vI (Zw2.wrap (s10.2.2+1))) rfl (done ?_))))))))))))
    exact hK10 (s11.1.set s10.2.2.toNat (⟨(s11.1.getD s10.2.2.toNat Zuo).mono,s11.2⟩:Term),Zw2.wrap (s11.2+1),Zw2.wrap (s10.2.2+1)) _ _ ⟨(slq rfl),hC⟩ h
   ·skip
    exact⟨(slq rfl),hC⟩
  ·replace h:=Zj h (cf hb10)
   refine ZGb (Zl (Zl (Z2 ?_)))
   refine Zd (sr (Zb (v:=vI s10.2.1) rfl (Zc (v:=vI s10.2.1) rfl (dn (ZF5 ?_)))))
   exact Zk rfl (Zf rfl) ⟨s10.2.1,s10.1,rfl,h,(hC.getM 0 rfl),hC.belO⟩ (.inl rfl)
 ·skip
  exact⟨(slq rfl),hC⟩
def Zfa (a0:List Term) (a1:Int) (K:Int→Prop):Prop :=
 Ye (fun i10 (s11:Int) nx10=>Ye (fun i11 (s10:Int) nx11=>(if((a0.getD i10 Zuo).mono).get i11≠ZF9.wrap s10 then K (-1) else nx11 (Zw2.wrap (s10+1)))) (fun (s10:Int)=>(if(a0.getD i10 Zuo).factor≠s10 then K (-1) else nx10 (Zw2.wrap (s10+1)))) 8 0 s11) (fun (s11:Int)=>K s11) a0.length 0 a1
theorem Zp8 (a0:List Term) (a1:Int)  {K:Int→Prop} (h:Zfa a0 a1 K) (w0:World) (q0:ZFy.ty.sl.rep a0 [u0_0] fp0 w0) :
  Calls ZFz 37 #[u0_0,vI a1] w0 fun e w'=>∃ (r0:Int),
   e=.returned (vI r0)∧K r0∧Bel w0 w':=by
 unfold Zfa at h
 refine cof Tryz.func37 rfl 39 Tryz.ntmps37 ?_
 have hC:=ZGi (X:=Nox) w0 [ZB9 ZFy.ty.sl a0 [u0_0] fp0] (al1 q0)
 refine sr (Zc (v:=vI 0) rfl (dn (ZFx (sr (Zc (v:=vI 0) rfl (dn (ZF3 ?_)))))))
 have hN10:a0.length≤9223372036854775807:=Y5 (hC.getP 0 rfl)
 refine Yl (S:=Int) _ _ (fun i10 s11 e_ w_=>Zy e_ [(0,u0_0),(1,vI s11),(5,vI (i10:Int))]∧Ctx Nox w0 w_ [] [ZB9 ZFy.ty.sl a0 [u0_0] fp0]) a0.length ?_ ?_ (s0:=a1) ?_ h
 ·clear hC h
  rintro i10 s11 e_ w10 nx10 K10 hi10 ⟨hS_,hC⟩ h hK10
  rw [ue hS_]
  refine ZFx (sr (Zb (v:=vI (i10:Int)) rfl (Zb (v:=u0_0) rfl (Zv hC 0 rfl ZF7 rfl (Zo rfl rfl (dn (Z8 rfl (decide_eq_true (by omega)) (ZF0 (Zd (ZFx (ZF3 (ZFx (sr (Zc (v:=vI 0) rfl (dn (ZF3 ?_))))))))))))))))
  refine Yl (S:=Int) _ _ (fun i11 s10 e_ w_=>Zy e_ [(0,u0_0),(1,vI s10),(5,vI (i10:Int)),(6,vI (i11:Int))]∧Ctx Nox w0 w_ [] [ZB9 ZFy.ty.sl a0 [u0_0] fp0]) 8 ?_ ?_ (s0:=s11) ?_ h
  ·clear hC h
   rintro i11 s10 e_ w11 nx11 K11 hi11 ⟨hS_,hC⟩ h hK11
   rw [ue hS_]
   refine ZFx (sr (Zb (v:=vI (i11:Int)) rfl (Zo rfl rfl (dn (Z8 rfl (decide_eq_true (by omega)) (ZF0 (Zd (ZFx (ZF3 (ZFx (sr (Zb (v:=u0_0) rfl (Zb (v:=vI (i10:Int)) rfl (Zb (v:=vI (i11:Int)) rfl ?_))))))))))))))
   obtain ⟨Ad10,c10,hv10⟩:=Z1 (hC.getP 0 rfl) i10 hi10
   refine Yp (len:=a0.length) ZF7 ag90.size (tr rfl hv10) rfl (ZGe _) (ZGw.2 hi10) (Zaf (i10 * 9+0) ZGd rfl ag88.size rfl rfl (Zku (i10 * 9+0+i11) ZGf sc5.size rfl rfl (ZGe _) (by omega) (by omega) (Xh (.int .u8 (((a0.getD i10 Zuo).mono).get i11)) (Xr (o:=i11) (k:=1) (Yi (hC.getP 0 rfl) hv10 i10 hi10) (Zij (r:=_) hi11)) sc5 rfl (Zb (v:=vI s10) rfl (Zf4 ZG5 ZGz rfl (Yw rfl rfl (dn ?_)))))))
   refine Zp rfl (fun hb10=>?_) (fun hb10=>?_)
   ·replace h:=ift h (ct hb10)
    refine sr (Zc (v:=vI (-1)) rfl (dn ?_))
    refine ZF5 (Ze (Zw (Ze (Ze (Zw (Ze (Zw (Ze (Ze (Zw (Ze ?_)))))))))))
    exact Zk rfl (Zf rfl) ⟨(-1),rfl,h,hC.below⟩ (.inl rfl)
   ·replace h:=Zj h (cf hb10)
    refine ZF0 (Zd (Zm (Zb (v:=vI s10) rfl (Zr rfl rfl (Zc (v:=vI (Zw2.wrap (s10+1))) rfl (done (Zs (Zd (Zm (Zb (v:=vI (i11:Int)) rfl (Zr rfl rfl (Zc (v:=vI (Zw2.wrap ((i11:Int)+1))) rfl (done ?_)))))))))))))
    exact hK11 (Zw2.wrap (s10+1)) _ _ ⟨(sl ⟨rfl,rfl,rfl,(tr rfl (congrArg _ (Ya hi11 (by decide)))),trivial⟩),hC⟩ h
  ·clear hC h
   rintro s10 e_ w12 K11 ⟨hS_,hC⟩ h
   rw [ue hS_]
   refine ZFx (sr (Zb (v:=vI 8) rfl (Zo rfl rfl (dn (Yb rfl (decide_eq_false (by omega)) ?_)))))
   refine ZGb (Zl (Zl (Z2 ?_)))
   refine Zd (ZFx (sr (Zb (v:=u0_0) rfl (Zb (v:=vI (i10:Int)) rfl ?_))))
   obtain ⟨Ad11,c11,hv11⟩:=Z1 (hC.getP 0 rfl) i10 hi10
   refine Yp (len:=a0.length) ZF7 ag90.size (tr rfl hv11) rfl (ZGe _) (ZGw.2 hi10) (Zaf (i10 * 9+8) ZGd rfl sc2.size rfl rfl (Xh (vI ((a0.getD i10 Zuo).factor)) (Xr (o:=8) (k:=1) (Yi (hC.getP 0 rfl) hv11 i10 hi10) rfl) sc2 rfl (Zb (v:=vI s10) rfl (Yw rfl rfl (dn ?_)))))
   refine Zp rfl (fun hb11=>?_) (fun hb11=>?_)
   ·replace h:=ift h (ct hb11)
    refine sr (Zc (v:=vI (-1)) rfl (dn ?_))
    refine ZF5 (Ze (Zw (Ze (Ze (Zw (Ze ?_))))))
    exact Zk rfl (Zf rfl) ⟨(-1),rfl,h,hC.below⟩ (.inl rfl)
   ·replace h:=Zj h (cf hb11)
    refine ZF0 (Zd (Zm (Zb (v:=vI s10) rfl (Zr rfl rfl (Zc (v:=vI (Zw2.wrap (s10+1))) rfl (done (Zs (Zd (Zm (Zb (v:=vI (i10:Int)) rfl (Zr rfl rfl (Zc (v:=vI (Zw2.wrap ((i10:Int)+1))) rfl (done ?_)))))))))))))
    exact hK10 (Zw2.wrap (s10+1)) _ _ ⟨(sl ⟨rfl,rfl,(tr rfl (congrArg _ (Ya hi10 hN10))),trivial⟩),hC⟩ h
  ·skip
   exact⟨(slq rfl),hC⟩
 ·clear hC h
  rintro s11 e_ w13 K10 ⟨hS_,hC⟩ h
  rw [ue hS_]
  refine ZFx (sr (Zb (v:=vI (a0.length:Int)) rfl (Zb (v:=u0_0) rfl (Zv hC 0 rfl ZF7 rfl (Zo rfl rfl (dn (Yb rfl (decide_eq_false (by omega)) ?_)))))))
  refine ZGb (Zl (Zl (Z2 ?_)))
  refine Zd (sr (Zb (v:=vI s11) rfl (Zc (v:=vI s11) rfl (dn (ZF5 ?_)))))
  exact Zk rfl (Zf rfl) ⟨s11,rfl,h,hC.below⟩ (.inl rfl)
 ·skip
  exact⟨(slq rfl),hC⟩
def Zav (a0:Bool) (a1:Int) (K:Int→Prop):Prop :=
 (if a0=true then K a1 else K 0)
theorem Zfb (a0:Bool) (a1:Int)  {K:Int→Prop} (h:Zav a0 a1 K) (w0:World)  :
  Calls ZFz 47 #[.bool a0,vI a1] w0 fun e w'=>∃ (r0:Int),
   e=.returned (vI r0)∧K r0∧Bel w0 w':=by
 unfold Zav at h
 refine cof Tryz.func47 rfl 7 Tryz.ntmps47 ?_
 have hC:=ZGi (X:=Nox) w0 [] (by simp)
 refine sr (Zc (v:=vI 0) rfl (dn (ZFx (sr (Zb (v:=.bool a0) rfl (dn ?_))))))
 refine Zp rfl (fun hb1=>?_) (fun hb1=>?_)
 ·replace h:=ift h (hb1)
  refine sr (Zb (v:=vI a1) rfl (Zc (v:=vI a1) rfl (dn ?_)))
  refine ZF5 (Ze ?_)
  exact Zk rfl (Zf rfl) ⟨a1,rfl,h,hC.below⟩ (.inl rfl)
 ·replace h:=Zj h (Ym hb1)
  refine ZF0 (Zd (sr (Zc (v:=vI 0) rfl (dn (ZF5 ?_)))))
  exact Zk rfl (Zf rfl) ⟨0,rfl,h,hC.below⟩ (.inl rfl)
end Go.Proofs.YtheenipahifleaaGreat
namespace Go.Proofs.YtheenipahifleaaGreat
open Go Vc
theorem Zgv {a b c:Int} {K:Bool→Prop} (h:K (decide (b≤a∧a≤c))):Zbh a b c K:=by
  unfold Zbh
  split
  · rename_i h1; simpa [show b≤a from h1] using h
  · rename_i h1; simpa [show ¬ b≤a from h1] using h
theorem Zp9 {ds:List Int} {K:Bool→Prop} (h:K (decide (OkDeg ds))):Zen ds K:=by
  unfold Zen
  refine Ys (fun i _=>∀ j,j < i→1≤ds.getD j Zuo∧ds.getD j Zuo≤12) ds.length ?_ ?_ _ _ _ (by omega) (by intro j hj; omega)
  · intro i s next hi hI hn
    refine Zgv ?_
    split
    · rename_i h1
      have:¬ OkDeg ds:=fun hd=>h1 (by simpa using hd.2 i hi)
      simpa [this] using h
    · rename_i h1
      refine hn _ fun j hj=>?_
      by_cases hji:j=i
      · subst hji; simpa using h1
      · exact hI j (by omega)
  · intro s hI
    have:(decide ((ds.length:Int)≤8))=decide (OkDeg ds):=by
      rw [decide_eq_decide]; unfold OkDeg
      constructor
      · intro h8; exact⟨by omega,hI⟩
      · intro h8; have:=h8.1; omega
    rw [this]; exact h
theorem Zqa {ds : List Int} {a : A8} {K : Bool → Prop} (ha : ∀ i, i < 8 → 0 ≤ a.get i) (hl : ds.length ≤ 8) (h : K (decide (OkMono ds a))) : Zeo ds a K := by
  unfold Zeo
  refine Ys (fun i _=>∀ j,j < i→(j < ds.length→a.get j≤20∧(Zu9 (ds.getD j Zuo) 2≠0→a.get j≤1))∧(ds.length≤j→a.get j=0)) 8 ?_ ?_ _ _ _ (by omega) (by intro j hj; omega)
  · intro i s next hi hI hn
    have no:¬ ((i < ds.length→a.get i≤20∧(Zu9 (ds.getD i Zuo) 2≠0→a.get i≤1))∧(ds.length≤i→a.get i=0))→K false:=by
      intro hno
      have:¬ OkMono ds a:=fun hm=>hno (hm i hi)
      simpa [this] using h
    have yes:((i < ds.length→a.get i≤20∧(Zu9 (ds.getD i Zuo) 2≠0→a.get i≤1))∧(ds.length≤i→a.get i=0))→next ():=by
      intro hy
      refine hn _ fun j hj=>?_
      by_cases hji:j=i
      · subst hji; exact hy
      · exact hI j (by omega)
    split
    · split
      · exact no (by intro q; have:=q.2 (by omega); contradiction)
      · rename_i q
        exact yes ⟨by omega,by intro _; simpa using q⟩
    · split
      · exact no (by intro q; have:=(q.1 (by omega)).1; omega)
      · refine⟨by omega,?_⟩
        split
        · split
          · exact no (by intro q; rename_i q1 q2; have:=(q.1 (by omega)).2 q1; omega)
          · exact yes ⟨fun _=>⟨by omega,fun _=>by omega⟩,by omega⟩
        · rename_i q1
          exact yes ⟨fun _=>⟨by omega,fun q2=>absurd q2 q1⟩,by omega⟩
  · intro s hI
    have:OkMono ds a:=fun i hi=>hI i hi
    simpa [this] using h
theorem Zqb {ds : List Int} {a : A8} {K : Bool → Prop} (hd : OkDeg ds) (ha : ∀ i, i < 8 → 0 ≤ a.get i) (h : K (decide (OkMono ds a))) : Zew ds a K := by
  unfold Zew
  refine Ys (fun i _=>∀ j,j < i→(j < ds.length→a.get j≤20∧(Zu9 (ds.getD j Zuo) 2≠0→a.get j≤1))∧(ds.length≤j→a.get j=0)) 8 ?_ ?_ _ _ _ (by omega) (by intro j hj; omega)
  · intro i s next hi hI hn
    have hai:=ha i hi
    have no:¬ ((i < ds.length→a.get i≤20∧(Zu9 (ds.getD i Zuo) 2≠0→a.get i≤1))∧(ds.length≤i→a.get i=0))→K false:=by
      intro hno
      have:¬ OkMono ds a:=fun hm=>hno (hm i hi)
      simpa [this] using h
    have yes:((i < ds.length→a.get i≤20∧(Zu9 (ds.getD i Zuo) 2≠0→a.get i≤1))∧(ds.length≤i→a.get i=0))→next ():=by
      intro hy
      refine hn _ fun j hj=>?_
      by_cases hji:j=i
      · subst hji; exact hy
      · exact hI j (by omega)
    split
    · refine⟨by omega,?_⟩
      rename_i hl
      have hod:=hd.odd (show i < ds.length by omega)
      split
      · rename_i h1
        split
        · exact no (by intro q; have:=(q.1 (by omega)).2 (by omega); omega)
        · exact yes ⟨fun _=>⟨by omega,fun _=>by omega⟩,by omega⟩
      · rename_i h1
        split
        · exact no (by intro q; have:=(q.1 (by omega)).1; omega)
        · exact yes ⟨fun _=>⟨by omega,fun q=>by omega⟩,by omega⟩
    · split
      · exact no (by intro q; have:=q.2 (by omega); omega)
      · exact yes ⟨by omega,fun _=>by omega⟩
  · intro s hI
    have:OkMono ds a:=fun i hi=>hI i hi
    simpa [this] using h
theorem Ziu {a b c:Int} {K:Bool→Prop} (h:K (decide (b≤a∧a≤c))):Zcd a b c K:=by
  unfold Zcd
  split
  · rename_i h1; simpa [show b≤a from h1] using h
  · rename_i h1; simpa [show ¬ b≤a from h1] using h
theorem Zqc {ds : List Int} {K : Bool → Prop} (h : K (decide (OkDeg ds))) : Zev ds K := by
  unfold Zev
  split
  · rename_i h8
    unfold Zce Zet
    refine Ys (fun i _=>∀ j,j < i→1≤ds.getD j Zuo∧ds.getD j Zuo≤12) ds.length ?_ ?_ _ _ _ (by omega) (by intro j hj; omega)
    · intro i s next hi hI hn
      unfold Zeu
      refine Ziu ?_
      dsimp only
      split
      · rename_i h1
        have:¬ OkDeg ds:=fun hd=>by have:=hd.2 i hi; simp only [Bool.not_eq_true',decide_eq_false_iff_not] at h1; exact h1 this
        simpa [this,show (i:Int)≥0 by omega] using h
      · rename_i h1
        refine hn _ fun j hj=>?_
        by_cases hji:j=i
        · subst hji; simp only [Bool.not_eq_true',decide_eq_false_iff_not,ZJo] at h1; exact h1
        · exact hI j (by omega)
    · intro s hI
      have:OkDeg ds:=⟨by omega,hI⟩
      simpa [this] using h
  · have:¬ OkDeg ds:=fun hd=>by have:=hd.1; omega
    simpa [this] using h
theorem Zgw {a:A8} {K:A8→Prop} (ha:Jy .u8 a) (h:K a):Zbk a K:=by
  unfold Zbk
  refine Ys (fun i (s:A8)=>∀ j,j < 8→s.get j=if j < i then a.get j else 0) 8 ?_ ?_ _ _ _ (by omega) (by intro j hj; simp [ZIz])
  · intro i s next hi hI hn
    have:=Zie (Zif ha hi)
    rw [i64_in _ (by omega)]
    refine hn _ fun j hj=>?_
    rw [ZIq hi]
    by_cases hji:j=i
    · subst hji; simp
    · rw [if_neg hji,hI j hj]
      by_cases hj2:j < i
      · rw [if_pos hj2,if_pos (by omega)]
      · rw [if_neg hj2,if_neg (by omega)]
  · intro s hI
    have:s=a:=ZIr fun i hi=>by rw [hI i hi,if_pos hi]
    rw [this]; exact h
theorem Zqd {a:A8} {K:A8→Prop} (h:K a):Ze1 a K:=by
  unfold Ze1
  refine Ys (fun i (s:A8)=>∀ j,j < 8→s.get j=if j < i then a.get j else 0) 8 ?_ ?_ _ _ _ (by omega) (by intro j hj; simp [ZIz])
  · intro i s next hi hI hn
    refine hn _ fun j hj=>?_
    rw [ZIq hi]
    by_cases hji:j=i
    · subst hji; simp
    · rw [if_neg hji,hI j hj]
      by_cases hj2:j < i
      · rw [if_pos hj2,if_pos (by omega)]
      · rw [if_neg hj2,if_neg (by omega)]
  · intro s hI
    have:s=a:=ZIr fun i hi=>by rw [hI i hi,if_pos hi]
    rw [this]; exact h
theorem Zfc {ds:List Int} {K:List Int→Prop} (hl:ds.length≤1048576) (h:K ds):Za7 ds K:=by
  unfold Za7
  refine⟨by omega,?_⟩
  refine Ys (fun i (s:List Int)=>s.length=ds.length∧∀ j,j < i→s.getD j Zuo=ds.getD j Zuo) ds.length ?_ ?_ _ _ _ (by omega) (by simp)
  · intro i s next hi hI hn
    refine⟨by omega,hn _ ⟨by simpa using hI.1,fun j hj=>?_⟩⟩
    by_cases hji:j=i
    · subst hji; simp [Zuv,hI.1,hi]
    · rw [← hI.2 j (by omega)]; simp [Zuv,List.getElem?_set_ne (fun e=>hji e.symm)]
  · intro s hI
    have:s=ds:=by
      apply List.ext_getElem hI.1
      intro i h1 h2
      have:=hI.2 i h2
      simpa [Zuv,h1,h2] using this
    rw [this]; exact h
theorem Zqe {a b:A8} {K:Bool→Prop} (h:K (decide (a=b))):Ze3 a b K:=by
  unfold Ze3
  refine Ys (fun i _=>∀ j,j < i→a.get j=b.get j) 8 ?_ ?_ _ _ _ (by omega) (by intro j hj; omega)
  · intro i s next hi hI hn
    split
    · rename_i h1
      have:¬ a=b:=fun e=>h1 (by rw [e])
      simpa [this] using h
    · rename_i h1
      refine hn _ fun j hj=>?_
      by_cases hji:j=i
      · subst hji; simpa using h1
      · exact hI j (by omega)
  · intro s hI
    have:a=b:=ZIr hI
    simpa [this] using h
theorem Zla {a b : List Int} {K : Bool → Prop} (h : K (decide (a = b))) : Zcg a b K := by
  unfold Zcg
  split
  · rename_i h1
    have:¬ a=b:=fun e=>h1 (by rw [e])
    simpa [this] using h
  · rename_i h1
    have hl:a.length=b.length:=by omega
    refine Ys (fun i _=>∀ j,j < i→a.getD j Zuo=b.getD j Zuo) a.length ?_ ?_ _ _ _ (by omega) (by intro j hj; omega)
    · intro i s next hi hI hn
      refine⟨by omega,?_⟩
      split
      · rename_i h1
        have:¬ a=b:=fun e=>h1 (by rw [e])
        simpa [this] using h
      · rename_i h1
        refine hn _ fun j hj=>?_
        by_cases hji:j=i
        · subst hji; simpa using h1
        · exact hI j (by omega)
    · intro s hI
      have:a=b:=by
        apply List.ext_getElem hl
        intro i h1 h2
        have:=hI i h1
        simpa [Zuv,h1,h2] using this
      simpa [this] using h
end Go.Proofs.YtheenipahifleaaGreat
namespace Go.Proofs.YtheenipahifleaaGreat
open Go Vc
theorem Zgx {ds:List Int} {a:A8} (h:X2 ds a) (hl:ds.length≤8) {i:Nat} (hi:i < ds.length) (ho:Zu9 (ds.getD i Zuo) 2≠0):a.get i≤1:=((h i (by omega)).1 hi).2 ho
theorem Zqf {ds:List Int} {a b s:A8} (ha:X2 ds a) (hb:X2 ds b) (hl:ds.length≤8) (h:∀ j,j < 8→s.get j=if j < ds.length then a.get j+b.get j else 0):s=a.add b:=by
  refine ZIr fun i hi=>?_
  rw [h i hi,A8.get_add]
  split
  · rfl
  · rw [(ha i hi).2 (by omega),(hb i hi).2 (by omega)]; rfl
theorem Zqg {ds : List Int} {a b : A8} {K : A8 → Int → Prop} (hd : OkDeg ds) (ha : X2 ds a) (hb : X2 ds b) (pa : ∀ i, i < 8 → 0 ≤ a.get i) (pb : ∀ i, i < 8 → 0 ≤ b.get i)
    (h:K (Yr ds a b).1 (Yr ds a b).2):Zep ds a b K:=by
  have h8:=hd.1
  unfold Zep
  refine Ys (fun i (s:A8×Int)=>(∀ j,j < i→j < ds.length→Zu9 (ds.getD j Zuo) 2≠0→¬ (0 < a.get j∧0 < b.get j))∧(∀ j,j < 8→s.1.get j=if j < i then a.get j+b.get j else 0)∧(s.2=1∨s.2=-1)∧s.2 * sg (Zap ds a b (ds.length - i) i)=sg (Zap ds a b ds.length 0)) ds.length ?_ ?_ _ _ _ (by omega) ⟨by intro j hj; omega,by intro j hj; simp [ZIz],by simp,by simp⟩
  · rintro i ⟨s1,s2⟩ next hi ⟨h1,h2,h3,h4⟩ hn
    have hi8:i < 8:=by omega
    have pai:=pa i hi8
    have pbi:=pb i hi8
    have a20:=((ha i hi8).1 hi).1
    have b20:=((hb i hi8).1 hi).1
    have hr:ds.length - i=(ds.length - (i+1))+1:=by omega
    rw [hr] at h4
    simp only [Zap] at h4
    dsimp only at h1 h2 h3 h4 ⊢
    have hw:ZF9.wrap (a.get i+b.get i)=a.get i+b.get i:=Zgj _ (by omega)
    rw [hw]
    have hset:∀ j,j < 8→(s1.set i (a.get i+b.get i)).get j=if j < i+1 then a.get j+b.get j else 0:=by
      intro j hj
      rw [ZIq hi8]
      by_cases hji:j=i
      · subst hji; simp
      · rw [if_neg hji,h2 j hj]
        by_cases hj2:j < i
        · rw [if_pos hj2,if_pos (by omega)]
        · rw [if_neg hj2,if_neg (by omega)]
    refine⟨by omega,by omega,by omega,?_⟩
    split
    · rename_i he
      rw [if_pos (.inl he),ZIo] at h4
      refine hn _ ⟨fun j hj hjl ho=>?_,hset,h3,h4⟩
      by_cases hji:j=i
      · subst hji; exact absurd he ho
      · exact h1 j (by omega) hjl ho
    · rename_i he
      have a1:=Zgx ha h8 hi he
      have b1:=Zgx hb h8 hi he
      refine⟨by omega,?_⟩
      rw [ZIq hi8,if_pos rfl]
      split
      · rename_i hc
        have:Clash ds a b:=⟨i,hi,he,by omega,by omega⟩
        simpa [Yr,this] using h
      · rename_i hc
        have hnc:∀ j,j < i+1→j < ds.length→Zu9 (ds.getD j Zuo) 2≠0→¬ (0 < a.get j∧0 < b.get j):=by
          intro j hj hjl ho
          by_cases hji:j=i
          · subst hji; omega
          · exact h1 j (by omega) hjl ho
        rw [i64_in _ (by omega)]
        refine X8 (fun (t:Int×Int)=>((i:Int)+1≤t.1∧t.1≤ds.length)∧(t.2=1∨t.2=-1)∧(b.get i=1→t.2 * sg (Zao ds a (ds.length - t.1.toNat) t.1.toNat)=s2 * sg (Zao ds a (ds.length - (i+1)) (i+1)))∧(b.get i≠1→t.2=s2)) (fun t=>ds.length - t.1.toNat) ?_ ⟨by omega,h3,fun _=>by rw [show ((i:Int)+1).toNat=i+1 by omega],fun _=>rfl⟩
        rintro ⟨j,c⟩ next' ⟨⟨q1,q2⟩,q3,q4,q5⟩ hn'
        dsimp only at q1 q2 q3 q4 q5 ⊢
        split
        · rename_i hj
          refine⟨by omega,?_⟩
          split
          · rename_i hb1
            have hjn:j.toNat < ds.length:=by omega
            refine⟨by omega,?_⟩
            have q4:=q4 hb1
            have hr2:ds.length - j.toNat=(ds.length - (j.toNat+1))+1:=by omega
            rw [hr2] at q4
            simp only [Zao] at q4
            have hj1:(j+1).toNat=j.toNat+1:=by omega
            rw [i64_in (j+1) (by omega)]
            have pj:=pa j.toNat (by omega)
            split
            · rename_i ho
              have aj:=Zgx ha h8 hjn ho
              have od:=hd.odd hjn
              have od1:Zu9 (ds.getD j.toNat Zuo) 2=1:=by omega
              rw [od1,Int.one_mul] at q4
              refine⟨by omega,?_⟩
              split
              · rename_i haj
                rw [haj,Int.add_comm,Zom] at q4
                rw [i64_in (0 - c) (by omega)]
                refine hn' _ ⟨⟨by dsimp only; omega,by dsimp only; omega⟩,by dsimp only; omega,fun _=>?_,fun hne=>absurd hb1 hne⟩ (by dsimp only; omega)
                dsimp only
                rw [hj1,Int.zero_sub,Int.neg_mul,← Int.mul_neg]; exact q4
              · rename_i haj
                rw [show a.get j.toNat=0 by omega,ZIo] at q4
                refine hn' _ ⟨⟨by dsimp only; omega,by dsimp only; omega⟩,q3,fun _=>?_,fun hne=>absurd hb1 hne⟩ (by dsimp only; omega)
                dsimp only
                rw [hj1]; exact q4
            · rename_i ho
              rw [show Zu9 (ds.getD j.toNat Zuo) 2=0 by simpa using ho,Int.zero_mul,ZIo] at q4
              refine hn' _ ⟨⟨by dsimp only; omega,by dsimp only; omega⟩,q3,fun _=>?_,fun hne=>absurd hb1 hne⟩ (by dsimp only; omega)
              dsimp only
              rw [hj1]; exact q4
          · rename_i hb1
            refine hn _ ⟨hnc,hset,q3,?_⟩
            rw [if_pos (.inr (by omega)),ZIo] at h4
            dsimp only
            rw [q5 hb1]; exact h4
        · rename_i hj
          refine hn _ ⟨hnc,hset,q3,?_⟩
          dsimp only
          by_cases hb1:b.get i=1
          · have q4:=q4 hb1
            rw [show ds.length - j.toNat=0 by omega] at q4
            simp only [Zao] at q4
            rw [show sg 0=1 from rfl,Int.mul_one] at q4
            rw [if_neg (by omega),Zgk,← Int.mul_assoc] at h4
            rw [q4]; exact h4
          · rw [if_pos (.inr (by omega)),ZIo] at h4
            rw [q5 hb1]; exact h4
  · rintro ⟨s1,s2⟩ ⟨h1,h2,h3,h4⟩
    have hnc:¬ Clash ds a b:=fun ⟨i,hi,ho,hp⟩=>h1 i hi hi ho hp
    rw [Nat.sub_self] at h4
    simp only [Zap] at h4
    rw [show sg 0=1 from rfl,Int.mul_one] at h4
    have hs:s1=a.add b:=Zqf ha hb h8 h2
    dsimp only at h4 ⊢
    rw [hs,h4]
    simpa [Yr,hnc] using h
theorem Zqh {ds : List Int} {a b : A8} {K : A8 → Int → Prop} (hd : OkDeg ds) (ha : X2 ds a) (hb : X2 ds b) (pa : ∀ i, i < 8 → 0 ≤ a.get i) (pb : ∀ i, i < 8 → 0 ≤ b.get i)
    (h:K (Yr ds a b).1 (Yr ds a b).2):Zer a ds b K:=by
  have h8:=hd.1
  have bnd:∀ (x:A8),X2 ds x→∀ i,i < 8→x.get i≤100:=by
    intro x hx i hi
    by_cases hl:i < ds.length
    · exact((hx i hi).1 hl).1
    · rw [(hx i hi).2 (by omega)]; omega
  unfold Zer
  refine Ys (fun i (c:Int)=>(∀ j,j < i→j < ds.length→Zu9 (ds.getD j Zuo) 2≠0→¬ (0 < a.get j∧0 < b.get j))∧(0≤c∧c≤8 * i)∧c+Zap ds a b (ds.length - i) i=Zap ds a b ds.length 0) ds.length ?_ ?_ _ _ _ (by omega) ⟨by intro j hj; omega,by omega,by simp⟩
  · rintro i c next hi ⟨h1,h2,h4⟩ hn
    have hi8:i < 8:=by omega
    have pai:=pa i hi8
    have pbi:=pb i hi8
    have hr:ds.length - i=(ds.length - (i+1))+1:=by omega
    rw [hr] at h4
    simp only [Zap] at h4
    split
    · rename_i he
      rw [if_pos (.inl he),ZIo] at h4
      refine hn _ ⟨fun j hj hjl ho=>?_,by omega,h4⟩
      by_cases hji:j=i
      · subst hji; exact absurd he ho
      · exact h1 j (by omega) hjl ho
    · rename_i he
      refine⟨by omega,?_⟩
      have hnc:¬ (0 < a.get i∧0 < b.get i)→∀ j,j < i+1→j < ds.length→Zu9 (ds.getD j Zuo) 2≠0→¬ (0 < a.get j∧0 < b.get j):=by
        intro hno j hj hjl ho
        by_cases hji:j=i
        · subst hji; exact hno
        · exact h1 j (by omega) hjl ho
      split
      · rename_i hap
        refine⟨by omega,?_⟩
        split
        · rename_i hbp
          have:Clash ds a b:=⟨i,hi,he,by omega,by omega⟩
          simpa [Yr,this] using h
        · rename_i hbp
          rw [if_pos (.inr (by omega)),ZIo] at h4
          exact⟨by omega,hn _ ⟨hnc (by omega),by omega,h4⟩⟩
      · rename_i hap
        refine⟨by omega,?_⟩
        split
        · rename_i hbp
          have he0:¬ (Zu9 (ds.getD i Zuo) 2=0∨b.get i≤0):=by rintro (q | q); exact he q; omega
          rw [if_neg he0] at h4
          rw [i64_in _ (by omega)]
          refine X8 (fun (t:Int×Int)=>((i:Int)+1≤t.1∧t.1≤ds.length)∧(0≤t.2∧t.2≤8 * i+(t.1 - (i+1)))∧t.2+Zao ds a (ds.length - t.1.toNat) t.1.toNat=c+Zao ds a (ds.length - (i+1)) (i+1)) (fun t=>ds.length - t.1.toNat) ?_ ⟨by omega,by omega,by rw [show ((i:Int)+1).toNat=i+1 by omega]⟩
          rintro ⟨j,d⟩ next' ⟨⟨q1,q2⟩,q3,q4⟩ hn'
          dsimp only at q1 q2 q3 q4 ⊢
          split
          · rename_i hj
            have hjn:j.toNat < ds.length:=by omega
            refine⟨by omega,by omega,?_⟩
            have hr2:ds.length - j.toNat=(ds.length - (j.toNat+1))+1:=by omega
            rw [hr2] at q4
            simp only [Zao] at q4
            have hj1:(j+1).toNat=j.toNat+1:=by omega
            have pj:=pa j.toNat (by omega)
            have hm:0≤Zu9 (ds.getD j.toNat Zuo) 2 * a.get j.toNat∧Zu9 (ds.getD j.toNat Zuo) 2 * a.get j.toNat≤1:=by
              rcases hd.odd hjn with od | od
              · rw [od]; omega
              · have:=Zgx ha h8 hjn (by omega)
                rw [od]; omega
            rw [i64_in (Zu9 (ds.getD j.toNat Zuo) 2 * a.get j.toNat) (by omega),i64_in (d+Zu9 (ds.getD j.toNat Zuo) 2 * a.get j.toNat) (by omega),i64_in (j+1) (by omega)]
            refine hn' _ ⟨⟨by dsimp only; omega,by dsimp only; omega⟩,by dsimp only; omega,?_⟩ (by dsimp only; omega)
            dsimp only
            rw [hj1]; omega
          · rename_i hj
            rw [show ds.length - j.toNat=0 by omega] at q4
            simp only [Zao] at q4
            refine hn _ ⟨hnc (by omega),by omega,by omega⟩
        · rename_i hbp
          rw [if_pos (.inr (by omega)),ZIo] at h4
          exact hn _ ⟨hnc (by omega),by omega,h4⟩
  · rintro c ⟨h1,h2,h4⟩
    have hnc:¬ Clash ds a b:=fun ⟨i,hi,ho,hp⟩=>h1 i hi hi ho hp
    rw [Nat.sub_self] at h4
    simp only [Zap,Int.add_zero] at h4
    refine Ys (fun i (s:A8)=>∀ j,j < 8→s.get j=if j < i then a.get j+b.get j else a.get j) 8 ?_ ?_ _ _ _ (by omega) (by intro j hj; simp)
    · intro i s next hi hI hn
      have e1:=hI i hi
      rw [if_neg (by omega)] at e1
      have:=bnd a ha i hi
      have:=bnd b hb i hi
      have:=pa i hi
      have:=pb i hi
      rw [e1,i64_in _ (by omega)]
      refine hn _ fun j hj=>?_
      rw [ZIq hi]
      by_cases hji:j=i
      · subst hji; simp
      · rw [if_neg hji,hI j hj]
        by_cases hj2:j < i
        · rw [if_pos hj2,if_pos (by omega)]
        · rw [if_neg hj2,if_neg (by omega)]
    · intro s hI
      have hs:s=a.add b:=ZIr fun i hi=>by rw [hI i hi,if_pos hi,A8.get_add]
      have hj:Yr ds a b=(a.add b,sg c):=by simp [Yr,hnc,h4]
      rw [hj] at h
      rw [hs]
      split
      · rename_i ho
        have:sg c=-1:=by unfold sg; rw [ZIt (by omega)] at ho; rw [if_neg (by omega)]
        rw [this] at h; exact h
      · rename_i ho
        have:sg c=1:=by unfold sg; rw [ZIt (by omega)] at ho; rw [if_pos (by omega)]
        rw [this] at h; exact h
end Go.Proofs.YtheenipahifleaaGreat
namespace Go.Proofs.YtheenipahifleaaGreat
open Go Vc
theorem Zqi {l:List (A8×Int)} {K:List A8→Prop} (hl:l.length≤100000) (hok:∀ p,p∈l→OkP p.1) (h:∀ xs:List A8,xs.Perm (l.map (·.1))→xs.Pairwise (fun a b=>¬ pcmp b a < 0)→K xs):Zes l K:=by
  unfold Zes
  refine Zc3 (fun l' (s:List A8)=>(s++l'.map (·.1)).Perm (l.map (·.1))∧s.length+l'.length=l.length) ?_ ?_ l [] ⟨by simp,by simp⟩
  · intro l' p l'' s next hp ⟨h1,h2⟩ hn
    have hpp:=Zc4 hp
    have hln:=Zc0 hp
    refine⟨by unfold X5; omega,hn _ ⟨?_,by simp; omega⟩⟩
    refine List.Perm.trans ?_ h1
    rw [List.append_assoc]
    refine List.Perm.append_left _ ?_
    exact(hpp.map (·.1)).symm
  · intro s ⟨h1,h2⟩
    rw [List.map_nil,List.append_nil] at h1
    refine⟨⟨fun x hx=>?_,by simp at h2; omega⟩,fun xs hp hw=>h xs (hp.trans h1) hw⟩
    obtain ⟨p,hp,rfl⟩:=Zvz.1 (h1.mem_iff.1 hx)
    exact hok p hp
theorem Zqj {l : List (A8 × Int)} {K : ZF1 → Int → Prop} (hl : l.length ≤ 400) (hok : ∀ p, p ∈ l → OkP p.1) (h3 : (∃ p, p ∈ l ∧ ∃ i, i < 8 ∧ p.1.get i > 20) → K ⟨[]⟩ 3)
    (h0:(∀ p,p∈l→∀ i,i < 8→p.1.get i≤20)→∀ xs:List A8,xs.Perm (l.map (·.1))→xs.Pairwise (fun a b=>¬ pcmp b a < 0)→K ⟨xs.map fun x=>⟨x,(Y1 l x).getD 0⟩⟩ 0):Zdg l K:=by
  unfold Zdg
  rw [if_neg (by omega)]
  refine Zqi (by omega) hok fun xs hp hw=>?_
  have hxl:xs.length=l.length:=by simpa using hp.length_eq
  have hxm:∀ i,i < xs.length→∃ p,p∈l∧p.1=xs.getD i Zuo:=by
    intro i hi
    have:xs.getD i Zuo∈xs:=by simp [Zuv,hi]
    obtain ⟨p,hpl,he⟩:=Zvz.1 (hp.mem_iff.1 this)
    exact⟨p,hpl,he⟩
  refine Ys (fun i (s:List Term)=>(∀ j,j < i→∀ q,q < 8→(xs.getD j Zuo).get q≤20)∧s=(xs.take i).map fun x=>⟨x,(Y1 l x).getD 0⟩) xs.length ?_ ?_ _ _ _ (by omega) ⟨by intro j hj; omega,by simp⟩
  · intro i s next hi ⟨h1, h2⟩ hn
    obtain ⟨p,hpl,hpe⟩:=hxm i hi
    refine Ys (fun j (t:A8)=>(∀ q,q < j→(xs.getD i Zuo).get q≤20)∧∀ q,q < 8→t.get q=if q < j then(xs.getD i Zuo).get q else 0) 8 ?_ ?_ _ _ _ (by omega) ⟨by intro q hq; omega,by intro q hq; simp [ZIz]⟩
    · intro j t next' hj ⟨g1, g2⟩ hn'
      split
      · rename_i hgt
        exact h3 ⟨p,hpl,j,hj,by rw [hpe]; exact hgt⟩
      · rename_i hgt
        have hnn:=(hok p hpl _ (A8.mem_list.2 ⟨j,hj,rfl⟩)).1
        rw [hpe] at hnn
        rw [Zgj _ (by omega)]
        refine hn' _ ⟨fun q hq=>?_,fun q hq=>?_⟩
        · by_cases hqj:q=j
          · subst hqj; omega
          · exact g1 q (by omega)
        · rw [ZIq hj]
          by_cases hqj:q=j
          · subst hqj; simp
          · rw [if_neg hqj,g2 q hq]
            by_cases hq2:q < j
            · rw [if_pos hq2,if_pos (by omega)]
            · rw [if_neg hq2,if_neg (by omega)]
    · intro t ⟨g1,g2⟩
      have ht:t=xs.getD i Zuo:=ZIr fun q hq=>by rw [g2 q hq,if_pos hq]
      have hsl:s.length=i:=by rw [h2]; simp; omega
      refine⟨by unfold X5; omega,hn _ ⟨fun j hj q hq=>?_,?_⟩⟩
      · by_cases hji:j=i
        · subst hji; exact g1 q hq
        · exact h1 j (by omega) q hq
      · rw [List.take_add_one,List.map_append,← h2,ht]
        congr 1
        simp [Zuv,hi]
  · intro s ⟨h1,h2⟩
    rw [h2,List.take_length]
    refine h0 (fun p hpl i hi=>?_) xs hp hw
    have:p.1∈xs:=hp.mem_iff.2 (Zvz.2 ⟨p,hpl,rfl⟩)
    obtain ⟨j,hj,hje⟩:=List.getElem_of_mem this
    have:=h1 j hj i hi
    rwa [show xs.getD j Zuo=p.1 by simp [Zuv,hj,hje]] at this
end Go.Proofs.YtheenipahifleaaGreat
namespace Vc
open Go
theorem Zlb:∀ (xs ys:List Int),xs.length=ys.length→Xv xs ys=0→xs=ys
  | [],[],_,_=>rfl
  | x :: xs, y :: ys, h, h0 => by
    simp only [Xv] at h0
    split at h0
    · omega
    · rename_i he
      have he:x=y:=ZJo.1 he
      rw [he,Zlb xs ys (by simpa using h) h0]
  | [],_::_,h,_=>by simp at h
  | _::_,[],h,_=>by simp at h
theorem Zlc:∀ (xs ys:List Int),Xv xs ys=- Xv ys xs
  | [],[]=>rfl
  | x :: xs, y :: ys => by
    simp only [Xv]
    have:=Zlc xs ys
    split <;> split <;> omega
  | [],_::_=>rfl
  | _::_,[]=>rfl
theorem A8.list_inj {a b:A8} (h:a.list=b.list):a=b:=by
  cases a; cases b
  simpa [A8.list] using h
theorem Zld (a:A8):pcmp a a=0:=Zkj _
theorem Zle (a b:A8):pcmp a b=- pcmp b a:=Zlc _ _
theorem Zai {a b c:A8} (h1:pcmp a b < 0) (h2:pcmp b c < 0):pcmp a c < 0:=Zia a.list b.list c.list rfl rfl h1 h2
theorem Zgy {a b:A8} (h1:¬ pcmp a b < 0) (h2:¬ pcmp b a < 0):a=b :=
  A8.list_inj (Zlb _ _ rfl (by have:=Zle a b; unfold pcmp at *; omega))
theorem Zfd {a b:A8} (h:pcmp a b < 0):a≠b:=by rintro rfl; rw [Zld] at h; omega
theorem Zfe {a b:A8} (h:pcmp a b < 0):b≠a:=fun e=>Zfd h e.symm
theorem Zlf {a b:A8} (h:pcmp a b < 0):¬ pcmp b a < 0:=by have:=Zle a b; omega
def tot {α:Type} (f:α→Int):List α→Int
  | []=>0
  | a::l=>f a+tot f l
theorem Zdj {α:Type} (f:α→Int) (l k:List α):tot f (l++k)=tot f l+tot f k:=by
  induction l with
  | nil=>simp [tot]
  | cons a l ih=>simp only [List.cons_append,tot,ih]; omega
theorem Zch {α:Type} (f:α→Int) {l k:List α} (h:l.Perm k):tot f l=tot f k:=by
  induction h with
  | nil=>rfl
  | cons x _ ih=>simp only [tot,ih]
  | swap x y l=>simp only [tot]; omega
  | trans _ _ h1 h2=>exact h1.trans h2
theorem Zaj {α β:Type} (f:β→Int) (g:α→β) (l:List α):tot f (l.map g)=tot (fun a=>f (g a)) l:=by
  induction l with
  | nil=>rfl
  | cons a l ih=>simp only [Zvp,tot,ih]
theorem Zaw {α:Type} {f g:α→Int} {l:List α} (h:∀ a,a∈l→f a=g a):tot f l=tot g l:=by
  induction l with
  | nil=>rfl
  | cons a l ih=>simp only [tot]; rw [h a (by simp),ih fun b hb=>h b (by simp [hb])]
theorem Zlg {α:Type} (k:Int) (f:α→Int) (l:List α):tot (fun a=>k * f a) l=k * tot f l:=by
  induction l with
  | nil=>simp [tot]
  | cons a l ih=>simp only [tot,ih,Int.mul_add]
theorem Zqk {α:Type} (f g:α→Int) (l:List α):tot (fun a=>f a+g a) l=tot f l+tot g l:=by
  induction l with
  | nil=>simp [tot]
  | cons a l ih=>simp only [tot,ih]; omega
theorem Zgz {α:Type} {f:α→Int} {l:List α} (h:∀ a,a∈l→f a=0):tot f l=0:=by
  induction l with
  | nil=>rfl
  | cons a l ih=>simp only [tot]; rw [h a (by simp),ih fun b hb=>h b (by simp [hb])]; rfl
theorem Ziv {α:Type} {f g:α→Int} {l:List α} (h:∀ a,a∈l→f a % 10007=g a % 10007):tot f l % 10007=tot g l % 10007:=by
  induction l with
  | nil=>rfl
  | cons a l ih =>
    have h1:=h a (by simp)
    have h2:=ih fun b hb=>h b (by simp [hb])
    simp only [tot]; omega
def co (l:List (A8×Int)) (m:A8):Int:=tot (fun p=>if p.1=m then p.2 else 0) l
def coT (l:List Term) (m:A8):Int:=tot (fun t=>if t.mono=m then t.factor else 0) l
theorem J0 (p:A8×Int) (l:List (A8×Int)) (m:A8):co (p::l) m=(if p.1=m then p.2 else 0)+co l m:=rfl
theorem Zak (t:Term) (l:List Term) (m:A8):coT (t::l) m=(if t.mono=m then t.factor else 0)+coT l m:=rfl
theorem Zax (m:A8):coT [] m=0:=rfl
theorem Za8 (m:A8):co [] m=0:=rfl
theorem Za9 (l:List Term) (t:Term) (m:A8):coT (l++[t]) m=coT l m+(if t.mono=m then t.factor else 0):=by
  rw [coT,Zdj]; simp [tot,coT]
theorem Zdk {l:List Term} {m:A8} (h:∀ t,t∈l→t.mono≠m):coT l m=0:=Zgz fun t ht=>if_neg (h t ht)
theorem Zba {l:List (A8×Int)} {m:A8} (h:∀ t,t∈l→t.1≠m):co l m=0:=Zgz fun t ht=>if_neg (h t ht)
def Canon (l:List Term):Prop:=l.Pairwise (fun a b=>pcmp a.mono b.mono < 0)∧∀ t,t∈l→1≤t.factor∧t.factor≤10006
theorem Canon.nil:Canon []:=⟨ZJv,by simp⟩
theorem Canon.tail {t:Term} {l:List Term} (h:Canon (t::l)):Canon l:=⟨(Zu5.1 h.1).2,fun s hs=>h.2 s (by simp [hs])⟩
theorem Canon.head {t:Term} {l:List Term} (h:Canon (t::l)):∀ s,s∈l→pcmp t.mono s.mono < 0:=(Zu5.1 h.1).1
theorem Canon.snoc {l:List Term} {t:Term} (h:Canon l) (hl:∀ s,s∈l→pcmp s.mono t.mono < 0) (hf:1≤t.factor∧t.factor≤10006):Canon (l++[t]):=by
  refine⟨ZJw.2 ⟨h.1,by simp,fun a ha b hb=>?_⟩,fun s hs=>?_⟩
  · obtain rfl:b=t:=by simpa using hb
    exact hl a ha
  · rcases List.mem_append.1 hs with q | q
    · exact h.2 s q
    · obtain rfl:s=t:=by simpa using q
      exact hf
theorem Canon.at_head {t:Term} {l:List Term} (h:Canon (t::l)):coT (t::l) t.mono=t.factor:=by
  rw [Zak,if_pos rfl,Zdk fun s hs=>Zfe (h.head s hs),Int.add_zero]
theorem Canon.range {l:List Term} (h:Canon l) (m:A8):0≤coT l m∧coT l m≤10006:=by
  induction l with
  | nil=>simp [Zax]
  | cons t l ih =>
    by_cases hm:t.mono=m
    · subst hm
      rw [h.at_head]
      have:=h.2 t (by simp)
      omega
    · rw [Zak,if_neg hm,ZIo]
      exact ih h.tail
theorem Zlh : ∀ (A B : List Term), Canon A → Canon B → (∀ m, coT A m = coT B m) → A = B
  | [],[],_,_,_=>rfl
  | [], b :: B, _, hB, h => by
    have:=h b.mono
    rw [hB.at_head,Zax] at this
    have:=hB.2 b (by simp)
    omega
  | a :: A, [], hA, _, h => by
    have:=h a.mono
    rw [hA.at_head,Zax] at this
    have:=hA.2 a (by simp)
    omega
  | a :: A, b :: B, hA, hB, h => by
    have ha:=hA.2 a (by simp)
    have hb:=hB.2 b (by simp)
    by_cases h1:pcmp a.mono b.mono < 0
    · exfalso
      have:=h a.mono
      rw [hA.at_head,Zdk (l:=b::B)] at this
      · omega
      · intro t ht
        rcases Zuk.1 ht with rfl | ht
        · exact Zfe h1
        · exact Zfe (Zai h1 (hB.head t ht))
    · by_cases h2:pcmp b.mono a.mono < 0
      · exfalso
        have:=h b.mono
        rw [hB.at_head,Zdk (l:=a::A)] at this
        · omega
        · intro t ht
          rcases Zuk.1 ht with rfl | ht
          · exact Zfe h2
          · exact Zfe (Zai h2 (hA.head t ht))
      · have hm:a.mono=b.mono:=Zgy h1 h2
        have hf:a.factor=b.factor:=by
          have:=h a.mono
          rw [hA.at_head,hm,hB.at_head] at this; exact this
        have hab:a=b:=by cases a; cases b; simp only at hm hf; rw [hm,hf]
        subst hab
        rw [Zlh A B hA.tail hB.tail fun m=>?_]
        have:=h m
        rw [Zak,Zak] at this
        omega
theorem Zli {A B:List Term} (hA:Canon A) (hB:Canon B) (h:∀ m,coT A m % 10007=coT B m % 10007):A=B :=
  Zlh A B hA hB fun m=>by have:=h m; have:=hA.range m; have:=hB.range m; omega
theorem Zff (x:Int):-10007 < Zu9 x 10007∧Zu9 x 10007 < 10007:=by
  rcases Int.le_total 0 x with h | h
  · rw [ZIt h]; omega
  · have e:Zu9 x 10007=- Zu9 (-x) 10007:=by rw [Int.neg_tmod]; omega
    rw [e,ZIt (by omega)]; omega
theorem Zlj (x:Int):Zu9 (Zu9 x 10007+10007) 10007=x % 10007:=by
  have h1:=Zff x
  rw [ZIt (by omega)]
  have h2:x=10007 * Int.tdiv x 10007+Zu9 x 10007:=(ZJy x 10007).symm
  omega
theorem Zlk (x:Int):Zu9 x 10007 % 10007=x % 10007:=by
  have h2:x=10007 * Int.tdiv x 10007+Zu9 x 10007:=(ZJy x 10007).symm
  omega
theorem Zql {d e:Nat} (h:d * e=10007):d=1∨e=1:=by
  have key:∀ k,k < 101→k ∣ 10007→k≤1:=by decide
  by_cases hd:d < 101
  · left
    have:=key d hd ⟨e,h.symm⟩
    rcases Nat.eq_zero_or_pos d with rfl | q
    · simp at h
    · omega
  · by_cases he:e < 101
    · right
      have:=key e he ⟨d,by rw [Nat.mul_comm]; exact h.symm⟩
      rcases Nat.eq_zero_or_pos e with rfl | q
      · simp at h
      · omega
    · exfalso
      have:101 * 101≤d * e:=Nat.mul_le_mul (by omega) (by omega)
      omega
theorem Zqm {a:Nat} (h1:1≤a) (h2:a≤10006):Nat.Coprime 10007 a:=by
  obtain ⟨e,he⟩:=Nat.gcd_dvd_left 10007 a
  rcases Zql he.symm with q | q
  · exact q
  · exfalso
    rw [q,Nat.mul_one] at he
    have:=Nat.le_of_dvd (by omega) (Nat.gcd_dvd_right 10007 a)
    omega
theorem Zqn {a b:Int} (ha:1≤a∧a≤10006) (hb:1≤b∧b≤10006):(a * b) % 10007≠0:=by
  obtain ⟨x,rfl⟩:=ZJ1 (show 0≤a by omega)
  obtain ⟨y,rfl⟩:=ZJ1 (show 0≤b by omega)
  intro h
  have h:(x * y) % 10007=0:=by
    have e:((x:Int) * (y:Int))=((x * y:Nat):Int):=(Int.natCast_mul x y).symm
    rw [e] at h; omega
  have:=(Zqm (a:=x) (by omega) (by omega)).dvd_of_dvd_mul_left (Nat.dvd_of_mod_eq_zero h)
  have:=Nat.le_of_dvd (by omega) this
  omega
theorem Zqo {s a b:Int} (hs:s=1∨s=-1) (ha:1≤a∧a≤10006) (hb:1≤b∧b≤10006):1≤(s * (a * b)) % 10007∧(s * (a * b)) % 10007≤10006:=by
  have:=Zqn ha hb
  rcases hs with rfl | rfl <;> omega
theorem Zll:∀ (a x y:List Int),a.length=x.length→x.length=y.length→Xv (List.zipWith (·+·) a x) (List.zipWith (·+·) a y)=Xv x y
  | [],[],[],_,_=>rfl
  | a :: ar, x :: xs, y :: ys, h1, h2 => by
    simp only [List.zipWith_cons_cons,Xv]
    have:=Zll ar xs ys (by simpa using h1) (by simpa using h2)
    by_cases h:x=y
    · subst h; simpa using this
    · rw [if_pos (by omega),if_pos h]; omega
  | [],_::_,_,h,_=>by simp at h
  | _::_,[],_,h,_=>by simp at h
  | _::_,_::_,[],_,h=>by simp at h
  | [],[],_::_,_,h=>by simp at h
theorem Zqp (a x y:A8):pcmp (a.add x) (a.add y)=pcmp x y:=Zll a.list x.list y.list rfl rfl
theorem J6 {α:Type} [Inhabited α] {l:List α} {i:Nat} (h:i < l.length):l.take (i+1)=l.take i++[l.getD i Zuo]:=by
  rw [List.take_add_one]; simp [Zuv,h]
theorem Canon.at_lt {l:List Term} (h:Canon l) {i j:Nat} (hij:i < j) (hj:j < l.length):pcmp (l.getD i Zuo).mono (l.getD j Zuo).mono < 0:=by
  have:=(List.pairwise_iff_getElem.1 h.1) i j (by omega) hj hij
  simpa [Zuv,hj,show i < l.length by omega] using this
theorem Canon.at_range {l:List Term} (h:Canon l) {i:Nat} (hi:i < l.length):1≤(l.getD i Zuo).factor∧(l.getD i Zuo).factor≤10006:=h.2 _ (by simp [Zuv,hi])
theorem Ja {α:Type} [Inhabited α] {l:List α} {i:Nat} (h:i < l.length):l.getD i Zuo∈l:=by simp [Zuv,h]
structure AddI (f g:List Term) (k:Int) (out:List Term) (i j:Nat):Prop where
  hi:i≤f.length
  hj:j≤g.length
  can:Canon out
  cf:∀ m,coT out m % 10007=(coT (f.take i) m+k * coT (g.take j) m) % 10007
  bf:∀ x,x∈out→i < f.length→pcmp x.mono (f.getD i Zuo).mono < 0
  bg:∀ x,x∈out→j < g.length→pcmp x.mono (g.getD j Zuo).mono < 0
  mo:∀ x,x∈out→∃ y,(y∈f∨y∈g)∧y.mono=x.mono
  ln:out.length≤i+j
theorem AddI.zero (f g:List Term) (k:Int):AddI f g k [] 0 0 :=
  ⟨by omega,by omega,Canon.nil,by intro m; simp [Zax],by simp,by simp,by simp,by simp⟩
theorem Zay {α:Type} {l:List α} {t x:α} (h:x∈l++[t]):x∈l∨x=t:=by simpa using h
theorem AddI.stepF {f g:List Term} {k:Int} {out:List Term} {i j:Nat} (h:AddI f g k out i j) (cf:Canon f) (cg:Canon g) (hi:i < f.length) (hb:j < g.length→pcmp (f.getD i Zuo).mono (g.getD j Zuo).mono < 0) :
    AddI f g k (out++[f.getD i Zuo]) (i+1) j where
  hi:=hi
  hj:=h.hj
  can:=h.can.snoc (fun s hs=>h.bf s hs hi) (cf.at_range hi)
  cf m:=by
    have:=h.cf m
    rw [Za9,J6 hi,Za9]
    omega
  bf x hx hl:=by
    rcases Zay hx with q | rfl
    · exact Zai (h.bf x q hi) (cf.at_lt (by omega) hl)
    · exact cf.at_lt (by omega) hl
  bg x hx hl:=by
    rcases Zay hx with q | rfl
    · exact h.bg x q hl
    · exact hb hl
  mo x hx:=by
    rcases Zay hx with q | rfl
    · exact h.mo x q
    · exact⟨_,.inl (Ja hi),rfl⟩
  ln:=by have:=h.ln; simp; omega
theorem AddI.cfG {f g:List Term} {k:Int} {out:List Term} {i j:Nat} (h:AddI f g k out i j) (hj:j < g.length) (m:A8) :
    k * coT (g.take (j+1)) m=k * coT (g.take j) m+(if(g.getD j Zuo).mono=m then k * (g.getD j Zuo).factor else 0):=by
  rw [J6 hj,Za9,Int.mul_add]
  split <;> simp
theorem AddI.stepG0 {f g:List Term} {k:Int} {out:List Term} {i j:Nat} (h:AddI f g k out i j) (cf:Canon f) (cg:Canon g) (hj:j < g.length)
    (hz:(k * (g.getD j Zuo).factor) % 10007=0):AddI f g k out i (j+1) where
  hi:=h.hi
  hj:=hj
  can:=h.can
  cf m:=by
    have:=h.cf m
    rw [h.cfG hj m]
    split <;> omega
  bf:=h.bf
  bg x hx hl:=Zai (h.bg x hx hj) (cg.at_lt (by omega) hl)
  mo:=h.mo
  ln:=by have:=h.ln; omega
theorem AddI.stepG1 {f g:List Term} {k:Int} {out:List Term} {i j:Nat} (h:AddI f g k out i j) (cf:Canon f) (cg:Canon g) (hj:j < g.length) (hb:i < f.length→pcmp (g.getD j Zuo).mono (f.getD i Zuo).mono < 0)
    {v:Int} (hv:v=(k * (g.getD j Zuo).factor) % 10007) (hz:v≠0):AddI f g k (out++[⟨(g.getD j Zuo).mono,v⟩]) i (j+1) where
  hi:=h.hi
  hj:=hj
  can:=h.can.snoc (fun s hs=>h.bg s hs hj) (by dsimp only; omega)
  cf m:=by
    have:=h.cf m
    rw [h.cfG hj m,Za9]
    dsimp only
    split <;> omega
  bf x hx hl:=by
    rcases Zay hx with q | rfl
    · exact h.bf x q hl
    · exact hb hl
  bg x hx hl:=by
    rcases Zay hx with q | rfl
    · exact Zai (h.bg x q hj) (cg.at_lt (by omega) hl)
    · exact cg.at_lt (by omega) hl
  mo x hx:=by
    rcases Zay hx with q | rfl
    · exact h.mo x q
    · exact⟨_,.inr (Ja hj),rfl⟩
  ln:=by have:=h.ln; simp; omega
theorem AddI.stepB0 {f g:List Term} {k:Int} {out:List Term} {i j:Nat} (h:AddI f g k out i j) (cf:Canon f) (cg:Canon g) (hi:i < f.length) (hj:j < g.length) (he:(f.getD i Zuo).mono=(g.getD j Zuo).mono)
    (hz:((f.getD i Zuo).factor+k * (g.getD j Zuo).factor) % 10007=0):AddI f g k out (i+1) (j+1) where
  hi:=hi
  hj:=hj
  can:=h.can
  cf m:=by
    have:=h.cf m
    rw [h.cfG hj m,J6 hi,Za9,he]
    split <;> omega
  bf x hx hl:=Zai (h.bf x hx hi) (cf.at_lt (by omega) hl)
  bg x hx hl:=Zai (h.bg x hx hj) (cg.at_lt (by omega) hl)
  mo:=h.mo
  ln:=by have:=h.ln; omega
theorem AddI.stepB1 {f g:List Term} {k:Int} {out:List Term} {i j:Nat} (h:AddI f g k out i j) (cf:Canon f) (cg:Canon g) (hi:i < f.length) (hj:j < g.length) (he:(f.getD i Zuo).mono=(g.getD j Zuo).mono)
    {v:Int} (hv:v=((f.getD i Zuo).factor+k * (g.getD j Zuo).factor) % 10007) (hz:v≠0):AddI f g k (out++[⟨(f.getD i Zuo).mono,v⟩]) (i+1) (j+1) where
  hi:=hi
  hj:=hj
  can:=h.can.snoc (fun s hs=>h.bf s hs hi) (by dsimp only; omega)
  cf m:=by
    have:=h.cf m
    rw [h.cfG hj m,J6 hi,Za9,Za9,he]
    dsimp only
    split <;> omega
  bf x hx hl:=by
    rcases Zay hx with q | rfl
    · exact Zai (h.bf x q hi) (cf.at_lt (by omega) hl)
    · exact cf.at_lt (by omega) hl
  bg x hx hl:=by
    rcases Zay hx with q | rfl
    · exact Zai (h.bg x q hj) (cg.at_lt (by omega) hl)
    · dsimp only; rw [he]; exact cg.at_lt (by omega) hl
  mo x hx:=by
    rcases Zay hx with q | rfl
    · exact h.mo x q
    · exact⟨_,.inl (Ja hi),rfl⟩
  ln:=by have:=h.ln; simp; omega
structure IsAdd (f g:List Term) (k:Int) (out:List Term):Prop where
  can:Canon out
  cf:∀ m,coT out m % 10007=(coT f m+k * coT g m) % 10007
  mo:∀ x,x∈out→∃ y,(y∈f∨y∈g)∧y.mono=x.mono
  ln:out.length≤f.length+g.length
theorem AddI.done {f g:List Term} {k:Int} {out:List Term} {i j:Nat} (h:AddI f g k out i j) (hi:¬ i < f.length) (hj:¬ j < g.length):IsAdd f g k out where
  can:=h.can
  cf m:=by have:=h.cf m; rwa [Zv9 (by omega),Zv9 (by omega)] at this
  mo:=h.mo
  ln:=by have:=h.ln; have:=h.hi; have:=h.hj; omega
def pr1 (ds:List Int) (a:A8) (n:Int) (b:A8) (m':Int) (m:A8):Int:=if(Yr ds a b).1=m then(Yr ds a b).2 * (n * m') else 0
def shC (ds:List Int) (t:Term) (g:List Term) (m:A8):Int:=tot (fun u=>pr1 ds t.mono t.factor u.mono u.factor m) g
def prC (ds:List Int) (f g:List Term) (m:A8):Int:=tot (fun t=>shC ds t g m) f
structure IsShift (ds:List Int) (t:Term) (g out:List Term):Prop where
  can:Canon out
  cf:∀ m,coT out m % 10007=shC ds t g m % 10007
  mo:∀ x,x∈out→∃ u,u∈g∧x.mono=t.mono.add u.mono∧¬ Clash ds t.mono u.mono
  ln:out.length≤g.length
theorem IsShift.nil (ds:List Int) (t:Term):IsShift ds t [] []:=⟨Canon.nil,by intro m; rfl,by simp,by simp⟩
theorem Zlm (ds:List Int) (t:Term) (g:List Term) (u:Term) (m:A8):shC ds t (g++[u]) m=shC ds t g m+pr1 ds t.mono t.factor u.mono u.factor m:=by
  rw [shC,Zdj]; simp [tot,shC]
theorem Canon.init {l:List Term} {u:Term} (h:Canon (l++[u])):Canon l∧∀ s,s∈l→pcmp s.mono u.mono < 0:=by
  have:=ZJw.1 h.1
  exact⟨⟨this.1,fun s hs=>h.2 s (by simp [hs])⟩,fun s hs=>this.2.2 s hs u (by simp)⟩
theorem IsShift.skip {ds:List Int} {t:Term} {g out:List Term} {u:Term} (h:IsShift ds t g out) (hs:(Yr ds t.mono u.mono).2=0):IsShift ds t (g++[u]) out where
  can:=h.can
  cf m:=by
    have:=h.cf m
    rw [Zlm,pr1,hs]
    split <;> simp [this]
  mo x hx:=by
    obtain ⟨u',hu,he⟩:=h.mo x hx
    exact⟨u',by simp [hu],he⟩
  ln:=by have:=h.ln; simp; omega
theorem Zfg {ds:List Int} {a b:A8} (h:(Yr ds a b).2≠0):¬ Clash ds a b∧(Yr ds a b).1=a.add b∧((Yr ds a b).2=1∨(Yr ds a b).2=-1):=by
  have hc:¬ Clash ds a b:=fun q=>h (by simp [Yr,q])
  refine⟨hc,by simp [Yr,hc],?_⟩
  simp only [Yr,hc,if_false]
  exact Zko _
theorem IsShift.put {ds:List Int} {t:Term} {g out:List Term} {u:Term} (h:IsShift ds t g out) (cg:Canon (g++[u])) (ht:1≤t.factor∧t.factor≤10006) (hs:(Yr ds t.mono u.mono).2≠0) {v:Int} (hv:v=((Yr ds t.mono u.mono).2 * (t.factor * u.factor)) % 10007) :
    IsShift ds t (g++[u]) (out++[⟨(Yr ds t.mono u.mono).1,v⟩]):=by
  obtain ⟨hc,he,hsg⟩:=Zfg hs
  have hu:=cg.2 u (by simp)
  have hnz:=Zqo hsg ht hu
  refine⟨h.can.snoc (fun s hs'=>?_) (by dsimp only; omega),fun m=>?_,fun x hx=>?_,by have:=h.ln; simp; omega⟩
  · obtain ⟨u',hu',he',_⟩:=h.mo s hs'
    dsimp only
    rw [he,he',Zqp]
    exact cg.init.2 u' hu'
  · have:=h.cf m
    rw [Za9,Zlm,pr1]
    dsimp only
    split <;> omega
  · rcases Zay hx with q | rfl
    · obtain ⟨u',hu',he'⟩:=h.mo x q
      exact⟨u',by simp [hu'],he'⟩
    · exact⟨u,by simp,he,hc⟩
structure IsProd (ds:List Int) (f g out:List Term):Prop where
  can:Canon out
  cf:∀ m,coT out m % 10007=prC ds f g m % 10007
  mo:∀ x,x∈out→∃ t u,t∈f∧u∈g∧x.mono=t.mono.add u.mono∧¬ Clash ds t.mono u.mono
  ln:out.length≤f.length * g.length
theorem IsProd.nil (ds:List Int) (g:List Term):IsProd ds [] g []:=⟨Canon.nil,by intro m; rfl,by simp,by simp⟩
theorem IsProd.step {ds:List Int} {f g out sh out':List Term} {t:Term} (h:IsProd ds f g out) (hs:IsShift ds t g sh) (ha:IsAdd out sh 1 out'):IsProd ds (f++[t]) g out' where
  can:=ha.can
  cf m:=by
    have h1:=h.cf m
    have h2:=hs.cf m
    have h3:=ha.cf m
    rw [prC,Zdj]
    simp only [tot]
    unfold prC at h1
    omega
  mo x hx:=by
    obtain ⟨y,hy | hy,he⟩:=ha.mo x hx
    · obtain ⟨a,u,h1,h2,h3,h4⟩:=h.mo y hy
      exact⟨a,u,by simp [h1],h2,he ▸ h3,h4⟩
    · obtain ⟨u,h2,h3,h4⟩:=hs.mo y hy
      exact⟨t,u,by simp,h2,he ▸ h3,h4⟩
  ln:=by
    have h1:=h.ln
    have h2:=hs.ln
    have h3:=ha.ln
    have:(f++[t]).length * g.length=f.length * g.length+g.length:=by simp [Nat.add_mul]
    omega
def MapOk (l:List (A8×Int)):Prop:=(l.map Zvq).Nodup∧∀ p,p∈l→1≤p.2∧p.2≤10006
theorem MapOk.nil:MapOk []:=⟨by simp,by simp⟩
theorem Zdl {l : List (A8 × Int)} (h : (l.map Zvq).Nodup) (m : A8) : (Y1 l m).getD 0 = co l m := by
  induction l with
  | nil=>rfl
  | cons p l ih =>
    simp only [Zvp,ZIp] at h
    simp only [Y1,J0]
    by_cases hm:m=p.1
    · subst hm
      rw [if_pos rfl,if_pos rfl,Zba]
      · simp
      · intro t ht e
        exact h.1 (Zvz.2 ⟨t,ht,e⟩)
    · rw [if_neg hm,if_neg (fun e=>hm e.symm),ih h.2,ZIo]
theorem Zln {l : List (A8 × Int)} (h : (l.map Zvq).Nodup) (x : A8) (v : Int) (m : A8) : co (Yf l x v) m = if m = x then v else co l m := by
  induction l with
  | nil => simp only [Yf, J0, Za8]; by_cases hm : m = x
           · subst hm; simp
           · rw [if_neg (fun e=>hm e.symm),if_neg hm]; rfl
  | cons p l ih =>
    simp only [Zvp,ZIp] at h
    simp only [Yf]
    split
    · rename_i hx
      rw [J0,J0]
      dsimp only
      by_cases hm:m=x
      · subst hm
        rw [if_pos rfl,if_pos rfl,Zba]
        · simp
        · intro t ht e
          exact h.1 (Zvz.2 ⟨t,ht,by rw [e,hx]⟩)
      · rw [if_neg (fun e=>hm e.symm),if_neg hm,if_neg (fun e=>hm (by rw [hx,e]))]
    · rename_i hx
      rw [J0,J0,ih h.2]
      by_cases hm:m=x
      · subst hm; rw [if_pos rfl,if_pos rfl,if_neg (fun e=>hx e.symm)]; simp
      · rw [if_neg hm,if_neg hm]
theorem Zqq {l : List (A8 × Int)} (h : (l.map Zvq).Nodup) (x : A8) (m : A8) : co (Xu l x) m = if m = x then 0 else co l m := by
  induction l with
  | nil=>simp [Xu,Za8]
  | cons p l ih =>
    simp only [Zvp,ZIp] at h
    simp only [Xu]
    split
    · rename_i hx
      rw [J0]
      by_cases hm:m=x
      · subst hm
        rw [if_pos rfl,Zba]
        intro t ht e
        exact h.1 (Zvz.2 ⟨t,ht,by rw [e,hx]⟩)
      · rw [if_neg hm,if_neg (fun e=>hm (by rw [hx,e]))]; simp
    · rename_i hx
      rw [J0,J0,ih h.2]
      by_cases hm:m=x
      · subst hm; rw [if_pos rfl,if_pos rfl,if_neg (fun e=>hx e.symm)]; rfl
      · rw [if_neg hm,if_neg hm]
theorem Ziw {l:List (A8×Int)} {x:A8} {p:A8×Int} (h:p∈Xu l x):p∈l:=by
  induction l with
  | nil=>simp [Xu] at h
  | cons q l ih =>
    simp only [Xu] at h
    split at h
    · simp [h]
    · rcases Zuk.1 h with rfl | h
      · simp
      · simp [ih h]
theorem Zqr {l:List (A8×Int)} (x:A8) (h:(l.map Zvq).Nodup):((Xu l x).map Zvq).Nodup:=by
  induction l with
  | nil=>simp [Xu]
  | cons q l ih =>
    simp only [Zvp,ZIp] at h
    simp only [Xu]
    split
    · exact h.2
    · simp only [Zvp,ZIp]
      refine⟨fun hq=>h.1 ?_,ih h.2⟩
      obtain ⟨p,hp,he⟩:=Zvz.1 hq
      exact Zvz.2 ⟨p,Ziw hp,he⟩
theorem Zix {l : List (A8 × Int)} {x : A8} {v : Int} {p : A8 × Int} (h : p ∈ Yf l x v) : p = (x, v) ∨ p ∈ l := by
  induction l with
  | nil=>left; simpa [Yf] using h
  | cons q l ih =>
    simp only [Yf] at h
    split at h
    · rcases Zuk.1 h with rfl | h
      · exact .inl rfl
      · exact .inr (by simp [h])
    · rcases Zuk.1 h with rfl | h
      · exact .inr (by simp)
      · rcases ih h with e | e
        · exact .inl e
        · exact .inr (by simp [e])
theorem Zqs (l:List (A8×Int)) (x:A8) (v:Int):(Yf l x v).length≤l.length+1:=by
  induction l with
  | nil=>simp [Yf]
  | cons q l ih=>simp only [Yf]; split <;> simp; omega
theorem Zqt (l:List (A8×Int)) (x:A8):(Xu l x).length≤l.length:=by
  induction l with
  | nil=>simp [Xu]
  | cons q l ih=>simp only [Xu]; split <;> simp; omega
theorem MapOk.put {l:List (A8×Int)} (h:MapOk l) {x:A8} {v:Int} (hv:1≤v∧v≤10006):MapOk (Yf l x v) :=
  ⟨Zh8 h.1,fun p hp=>by rcases Zix hp with rfl | q; exact hv; exact h.2 p q⟩
theorem MapOk.del {l:List (A8×Int)} (h:MapOk l) (x:A8):MapOk (Xu l x):=⟨Zqr x h.1,fun p hp=>h.2 p (Ziw hp)⟩
theorem MapOk.range {l : List (A8 × Int)} (h : MapOk l) (m : A8) : 0 ≤ co l m ∧ co l m ≤ 10006 := by
  rw [← Zdl h.1]
  cases hg:Y1 l m with
  | none=>simp
  | some v =>
    have:(m,v)∈l:=by
      clear h
      induction l with
      | nil=>simp [Y1] at hg
      | cons p l ih =>
        simp only [Y1] at hg
        split at hg
        · rename_i e; injection hg with e2; subst e2; subst e; simp
        · simp [ih hg]
    have:=h.2 _ this
    simp only [Option.getD_some]
    dsimp only at this
    omega
structure IsPut (l:List (A8×Int)) (x:A8) (c:Int) (l':List (A8×Int)):Prop where
  ok:MapOk l'
  cf:∀ m,co l' m % 10007=(co l m+if x=m then c else 0) % 10007
  ks:∀ p,p∈l'→p.1=x∨∃ q,q∈l∧q.1=p.1
  ln:l'.length≤l.length+1
theorem IsPut.put {l:List (A8×Int)} (h:MapOk l) {x:A8} {c v:Int} (hv:v=(co l x+c) % 10007) (hz:v≠0):IsPut l x c (Yf l x v) where
  ok:=h.put (by omega)
  cf m:=by
    rw [Zln h.1]
    by_cases hm:m=x
    · subst hm; rw [if_pos rfl,if_pos rfl]; omega
    · rw [if_neg hm,if_neg (fun e=>hm e.symm)]; simp
  ks p hp:=by
    rcases Zix hp with rfl | q
    · exact .inl rfl
    · exact .inr ⟨p,q,rfl⟩
  ln:=Zqs _ _ _
theorem IsPut.del {l:List (A8×Int)} (h:MapOk l) {x:A8} {c:Int} (hz:(co l x+c) % 10007=0):IsPut l x c (Xu l x) where
  ok:=h.del x
  cf m:=by
    rw [Zqq h.1]
    by_cases hm:m=x
    · subst hm; rw [if_pos rfl,if_pos rfl]; omega
    · rw [if_neg hm,if_neg (fun e=>hm e.symm)]; simp
  ks p hp:=.inr ⟨p,Ziw hp,rfl⟩
  ln:=by have:=Zqt l x; omega
theorem Zqu {l : List (A8 × Int)} (h : MapOk l) {xs : List A8} (hp : xs.Perm (l.map Zvq)) (hw : xs.Pairwise (fun a b => ¬ pcmp b a < 0)) : Canon (xs.map fun x => ⟨x, (Y1 l x).getD 0⟩) ∧ ∀ m, coT (xs.map fun x => ⟨x, (Y1 l x).getD 0⟩) m = co l m := by
  have hnd:xs.Nodup:=hp.nodup_iff.2 h.1
  have hmem:∀ x,x∈xs→∃ v,(x,v)∈l∧(Y1 l x).getD 0=v:=by
    intro x hx
    obtain ⟨p,hpl,rfl⟩:=Zvz.1 (hp.mem_iff.1 hx)
    refine⟨p.2,hpl,?_⟩
    rw [Zdl h.1]
    have h1:=h.1
    clear hp hx h
    induction l with
    | nil=>simp at hpl
    | cons q l ih =>
      simp only [Zvp,ZIp] at h1
      rw [J0]
      rcases Zuk.1 hpl with rfl | hpl
      · rw [if_pos rfl,Zba]
        · simp
        · intro t ht e; exact h1.1 (Zvz.2 ⟨t,ht,e⟩)
      · rw [if_neg (fun e=>h1.1 (Zvz.2 ⟨p,hpl,e.symm⟩)),ih hpl h1.2,ZIo]
  refine⟨⟨?_,fun t ht=>?_⟩,fun m=>?_⟩
  · rw [List.pairwise_map]
    have:xs.Pairwise (fun a b=>a≠b):=hnd
    refine(hw.and this).imp fun {a b} hab=>?_
    by_cases q:pcmp a b < 0
    · exact q
    · exact absurd (Zgy q hab.1) hab.2
  · obtain ⟨x,hx,rfl⟩:=Zvz.1 ht
    obtain ⟨v,hv,he⟩:=hmem x hx
    dsimp only
    rw [he]
    exact h.2 _ hv
  · rw [coT,Zaj]
    dsimp only
    rw [Zch _ hp,Zaj]
    refine Zaw fun p hpl=>?_
    obtain ⟨v,hv,he⟩:=hmem p.1 (hp.mem_iff.2 (Zvz.2 ⟨p,hpl,rfl⟩))
    have:v=p.2:=by
      rw [← he,Zdl h.1]
      have h1:=h.1
      clear hp h hmem he hv
      induction l with
      | nil=>simp at hpl
      | cons q l ih =>
        simp only [Zvp,ZIp] at h1
        rw [J0]
        rcases Zuk.1 hpl with rfl | hpl
        · rw [if_pos rfl,Zba]
          · simp
          · intro t ht e; exact h1.1 (Zvz.2 ⟨t,ht,e⟩)
        · rw [if_neg (fun e=>h1.1 (Zvz.2 ⟨p,hpl,e.symm⟩)),ih hpl h1.2,ZIo]
    rw [he,this]
def Zci (a:A8):List A8→List A8
  | []=>[a]
  | b::l=>if pcmp a b < 0 then a::b::l else b::Zci a l
theorem Zlo (a:A8) (l:List A8):(Zci a l).Perm (a::l):=by
  induction l with
  | nil=>exact ZI2 _
  | cons b l ih =>
    simp only [Zci]
    split
    · exact ZI2 _
    · exact(ih.cons b).trans (List.Perm.swap _ _ _)
theorem Zqv {a b c:A8} (h1:¬ pcmp b a < 0) (h2:¬ pcmp c b < 0):¬ pcmp c a < 0:=fun h=>by
  by_cases q:pcmp a b < 0
  · exact h2 (Zai h q)
  · have:=Zgy q h1
    subst this
    exact h2 h
theorem Zqw {a:A8} {l:List A8} (h:l.Pairwise (fun a b=>¬ pcmp b a < 0)):(Zci a l).Pairwise (fun a b=>¬ pcmp b a < 0):=by
  induction l with
  | nil=>simp [Zci]
  | cons b l ih =>
    simp only [Zci]
    have hb:=Zu5.1 h
    split
    · rename_i q
      refine Zu5.2 ⟨fun x hx=>?_,h⟩
      rcases Zuk.1 hx with rfl | hx
      · exact Zlf q
      · exact Zqv (Zlf q) (hb.1 x hx)
    · rename_i q
      refine Zu5.2 ⟨fun x hx=>?_,ih hb.2⟩
      rcases Zuk.1 ((Zlo a l).mem_iff.1 hx) with rfl | hx
      · exact q
      · exact hb.1 x hx
theorem Zlp:∀ l:List A8,∃ xs:List A8,xs.Perm l∧xs.Pairwise (fun a b=>¬ pcmp b a < 0)
  | []=>⟨[],ZI2 _,ZJv⟩
  | a :: l => by
    obtain ⟨xs,h1,h2⟩:=Zlp l
    exact⟨Zci a xs,(Zlo a xs).trans (h1.cons a),Zqw h2⟩
end Vc
namespace Vc
open Go Go.RowKit Go.ChangeShapes Go.WideShapes Go.ChangeAt
section
variable {H:Type} {enc:TypeId×Value→H} {P:Program} {W:World}
end
end Vc
