import Derived.Test.YtheenipahifleaaGreatQ2
set_option linter.unusedSectionVars false
set_option linter.unusedSimpArgs false
set_option linter.unusedVariables false
open Decidable renaming not_not→ZI0
open Go renaming wp_seq→ZE9,wp_skip→ZFc,wp_ret→ZFh,wp_block→ZFf,wp_exit→ZFn
open Go.IntKind renaming i64→Zwe,u8→ZFl
open Go.Proofs.Tryz renaming prog→ZFb,underlying22→ZFs,underlying99→ZF5,underlying53→ZFj,func87→ZHx,underlying90→ZFp,underlying55→ZFg,underlying28→ZFx,underlying110→ZFw,underlying88→ZFr,underlying32→ZFt,underlying49→ZIa,underlying3→ZGh,underlying5→ZGb
open Go.Value renaming map→ZHy,ownBlock→Zum,int→ZH7
open Inhabited renaming default→Zt0
open Int renaming tmod→Zul,natCast_nonneg→ZFq,ofNat_lt→ZF8,zero_add→ZH0,tmod_eq_emod_of_nonneg→ZH5,toNat_of_nonneg→ZH8,mul_tdiv_add_tmod→ZJa,eq_ofNat_of_zero_le→ZJd
open List renaming toArray→ZE8,replicate→Ztv,mem_singleton→Zvn,mem_cons→Ztw,mem_map→Zvb,getD→Zt7,map_cons→Zu1,nodup_cons→ZH1,pairwise_cons→Zuh,not_mem_nil→Zv2,length_eq_one_iff→ZF7,pairwise_append→ZI8,take_of_length_le→Zvl
open List.Pairwise renaming nil→ZI7
open List.Perm renaming refl→ZIe
open Nat renaming le_of_ble_eq_true→ZFi,le_trans→Zt1,lt_of_le_of_lt→ZH4,zero_le→Zut,le_refl→Ztz
open Option renaming toList→ZF6
open Prod renaming fst→Zu2
open Vc renaming ETerm→ZFa,Form→ZFd,TForm→ZFv,TInts→ZHz
open Vc.A8 renaming enc→ZE7,zero→ZFe,enc_get→ZFm,enc_set→ZF3,get_set→ZH2,ext_get→ZH3,get_zero→ZIb
open Vc.Ctx renaming start→ZFu
open Vc.Enc renaming encs_len→ZH9
open Vc.Term renaming enc→ZFk
open Vc.Tr renaming item→ZFo
open Vc.Ty renaming item→ZBl
set_option maxRecDepth 4000
set_option maxHeartbeats 4000000
namespace Go.Proofs.YtheenipahifleaaGreat
open Go Go.RowKit Vc
variable {b0 bp0 b1 bp1 b2 bp2 b3 bp3 b4 bp4 b5 bp5 b6 bp6 b7 bp7 mb0:Nat} {u0_0 u0_1 u0_2 u0_3 u0_4 u0_5 u1_0 u1_1 u1_2 u1_3 u1_4 u1_5 u2_0 u2_1 u2_2 u2_3 u2_4 u2_5 u3_0 u3_1 u3_2 u3_3 u3_4 u3_5 u4_0 u4_1 u4_2 u4_3 u4_4 u4_5 u5_0 u5_1 u5_2 u5_3 u5_4 u5_5 u6_0 u6_1 u6_2 u6_3 u6_4 u6_5 u7_0 u7_1 u7_2 u7_3 u7_4 u7_5:Value} {fp0 fp1 fp2 fp3 fp4 fp5 fp6 fp7 fp0_0 fp0_1 fp0_2 fp0_3 fp0_4 fp0_5 fp1_0 fp1_1 fp1_2 fp1_3 fp1_4 fp1_5 F0:List Nat}
def Zch (a0:List (A8×Int)) (K:ZFd→Int→Prop):Prop :=
 (if(a0.length:Int) > 400 then K (⟨[]⟩:ZFd) 3 else Zev a0 (fun r10=>Yg (fun i10 (s11:(List Term)) nx10=>Yg (fun i11 (s10:A8) nx11=>(if(r10.getD i10 Zt0).get i11 > 20 then K (⟨[]⟩:ZFd) 3 else nx11 (s10.set i11 (ZFl.wrap ((r10.getD i10 Zt0).get i11))))) (fun (s10:A8)=>(X4 (s11.length+1) 16∧nx10 (s11++[(⟨s10,(Yw a0 (r10.getD i10 Zt0)).getD 0⟩:Term)]))) 8 0 ZFe) (fun (s11:(List Term))=>K (⟨s11⟩:ZFd) 0) r10.length 0 []))
theorem Zpu (a0:List (A8×Int))  {K:ZFd→Int→Prop} (h:Zch a0 K) (w0:World) (q0:(mapS b0 a0).holds w0) :
  Calls ZFb 66 #[.map (some b0)] w0 fun e w'=>∃ (r0:ZFd) (z0_0:Value) (fz0:List Nat) (r1:Int),
   e=.returned (.tuple #[.agg #[z0_0],vI r1])∧K r0 r1∧(ZFo (Zj 90) r0 [z0_0] fz0).holds w'∧(∀ b,b∈fz0→w0.heap.size≤b)∧Bel w0 w':=by
 unfold Zch at h
 refine cof Tryz.func66 rfl 48 Tryz.ntmps66 ?_
 have hC:=ZFu (X:=Nox) w0 [mapS b0 a0] (al1 q0)
 refine sr (Yb hC [.slice none 0 0] z55 rfl fun b2 w4 hB_ hC=>Zc (v:=vI 0) rfl (dn (ZE9 (sr (Zb (v:=.map (some b0)) rfl (Zh6 (hC.getP 0 rfl) ZF5 rfl rfl (Xx rfl rfl (dn ?_))))))))
 refine Zq rfl (fun hb5=>?_) (fun hb5=>?_)
 ·replace h:=ift h (ct hb5)
  refine sr (Xp [] rfl (Za7   _) (Zu (v:=.agg #[.slice none 0 0]) hC 0 [.slice none 0 0] [.slice none 0 0] rfl ag55.size rfl rfl rfl rfl rfl (ZFi rfl) rfl fun w6 hC=>Zc (v:=vI 3) rfl (dn ?_)))
  refine ZFh (Ze ?_)
  exact Xy rfl (X3 hC 0 rfl ag55 rfl rfl) (Zg rfl) ⟨(⟨[]⟩:ZFd),.slice none 0 0,[],3,rfl,h,(Jr (Zbl _ _ _)),(fun b hb=>absurd hb (by simp)),hC.below⟩ (.inl rfl)
 ·replace h:=Zl h (cf hb5)
  refine ZFc (Zd (sr (Xp [] rfl (Za7   _) (Yb hC [.slice none 0 0] z55 rfl fun b7 w9 hB_ hC=>Zu (v:=.agg #[.slice none 0 0]) hC 0 [.slice none 0 0] [.slice none 0 0] rfl ag55.size rfl rfl rfl rfl rfl (ZFi rfl) rfl fun w10 hC=>dn (ZE9 (sr (Zb (v:=.map (some b0)) rfl (Zf [.map (some b0)] _ Tryz.func90 rfl rfl rfl (Zpt a0 h _ (hC.getP 0 rfl)) ?_))))))))
  rintro _ w11 ⟨r10,u10,f10,rfl,h,hr10,hf10,hB10⟩
  refine rt ?_
  replace hC:=hC.push hB10 (ZFo (Tr.sl 110 ((EA .i64).tr)) r10 [u10] f10) hr10 hf10
  obtain ⟨ho10,hf11⟩:=Zda (hC.getM 0 rfl).1
  subst hf11
  replace hC:=hC.recast (c:=own 110 8 u10 r10.length ((EA .i64).encs r10)) (fun _ h_=>h_) (fun _=>ho10)
  refine Zem hC 0 rfl Tryz.underlying128 rfl (Zb (v:=vI 0) rfl (dn (ZFf ?_)))
  have hN10:r10.length≤9223372036854775807:=Zno (hC.getM 0 rfl)
  refine Yp (S:=(List Term)) _ _ (fun i10 s11 e_ w_=>∃ (v10:Value),Z2 e_ [(0,.map (some b0)),(2,vQ b2),(4,vQ b7),(16,u10),(17,vI (r10.length:Int)),(18,vI (i10:Int))]∧Ctx Nox w0 w_ [own 90 9 v10 s11.length (ZFa.encs s11),own 110 8 u10 r10.length ((EA .i64).encs r10),blk b7 55 [v10],blk b2 55 [.slice none 0 0]] [mapS b0 a0]) r10.length ?_ ?_ (s0:=[]) ?_ h
  ·clear hC h
   rintro i10 s11 e_ w12 nx10 K10 hi10 ⟨v10,hS_,hC⟩ h hK10
   rw [ue hS_]
   refine sr (Zo rfl rfl (dn (ZE9 (Z8 rfl (decide_eq_true (by omega)) (ZFc (Zd (ZE9 (ZFf (sr ?_)))))))))
   obtain ⟨Ad10,c10,hv10⟩:=Za4 (hC.getM 1 rfl) (ZH4 (Zut _) hi10)
   refine Zbj (i10 * 8) Tryz.underlying128 ag110.size (tr rfl hv10) rfl (ZFq _) (ZF8.2 hi10) rfl (X9 (ZE7 .i64 (r10.getD i10 Zt0)) (Zj4 (hC.getM 1 rfl) hv10 i10 hi10) ag110 rfl rfl (Yb hC (ZE7 .i64 ZFe) J3 rfl fun b10 w13 hB_ hC=>Zu (v:=.agg (ZE8 (ZE7 .i64 (r10.getD i10 Zt0)))) hC 0 (ZE7 .i64 (r10.getD i10 Zt0)) (ZE7 .i64 (r10.getD i10 Zt0)) rfl ag110.size rfl rfl rfl rfl rfl (ZFi rfl) rfl fun w14 hC=>dn (sr (Xp [] rfl (Zeo   _) (Yb hC (ZE7 .u8 ZFe) z88 rfl fun b11 w15 hB_ hC=>Zu (v:=.agg (ZE8 (ZE7 .u8 ZFe))) hC 0 (ZE7 .u8 ZFe) (ZE7 .u8 ZFe) rfl ag88.size rfl rfl rfl rfl rfl (ZFi rfl) rfl fun w16 hC=>dn (ZE9 (sr (Yd hC 1 (ZE7 .i64 (r10.getD i10 Zt0)) rfl ag110 rfl rfl rfl (Zb (v:=vI 0) rfl (dn (ZFf ?_)))))))))))
   refine Yp (S:=A8) _ _ (fun i11 s10 e_ w_=>Z2 e_ [(0,.map (some b0)),(2,vQ b2),(4,vQ b7),(6,vQ b10),(7,vQ b11),(16,u10),(17,vI (r10.length:Int)),(18,vI (i10:Int)),(23,.agg (ZE8 (ZE7 .i64 (r10.getD i10 Zt0)))),(24,vI (i11:Int))]∧Ctx Nox w0 w_ [blk b11 88 (ZE7 .u8 s10),blk b10 110 (ZE7 .i64 (r10.getD i10 Zt0)),own 90 9 v10 s11.length (ZFa.encs s11),own 110 8 u10 r10.length ((EA .i64).encs r10),blk b7 55 [v10],blk b2 55 [.slice none 0 0]] [mapS b0 a0]) 8 ?_ ?_ (s0:=ZFe) ?_ h
   ·clear hC h
    rintro i11 s10 e_ w17 nx11 K11 hi11 ⟨hS_,hC⟩ h hK11
    rw [ue hS_]
    refine sr (Zo rfl rfl (dn (ZE9 (Z8 rfl (decide_eq_true (by omega)) (ZFc (Zd (ZE9 (ZFf (sr (Zb (v:=vI (i11:Int)) rfl (Zf0 (vI ((r10.getD i10 Zt0).get i11)) ZFw rfl rfl (ZFq _) (by omega) sc3 (ZFm _ _ hi11) (Zc (v:=vI (i11:Int)) rfl (Zc (v:=vI ((r10.getD i10 Zt0).get i11)) rfl (dn (ZE9 (sr (Zb (v:=vI ((r10.getD i10 Zt0).get i11)) rfl (Xx rfl rfl (dn ?_)))))))))))))))))))
    refine Zq rfl (fun hb10=>?_) (fun hb10=>?_)
    ·replace h:=ift h (ct hb10)
     refine sr (Xp [] rfl (Za7   _) (Zu (v:=.agg #[.slice none 0 0]) hC 5 [.slice none 0 0] [.slice none 0 0] rfl ag55.size rfl rfl rfl rfl rfl (ZFi rfl) rfl fun w18 hC=>Zc (v:=vI 3) rfl (dn ?_)))
     refine ZFh (Ze (Zv (Ze (Ze (Zv (Ze (Zv (Ze (Ze (Zv (Ze ?_)))))))))))
     exact Xy rfl (X3 hC 5 rfl ag55 rfl rfl) (Zg rfl) ⟨(⟨[]⟩:ZFd),.slice none 0 0,[],3,rfl,h,(Jr (Zbl _ _ _)),(fun b hb=>absurd hb (by simp)),hC.below⟩ (.inl rfl)
    ·replace h:=Zl h (cf hb10)
     refine ZFc (Zd (Zn (Zb (v:=vI (i11:Int)) rfl (Zb (v:=vI ((r10.getD i10 Zt0).get i11)) rfl (Zfz ZGh ZGb rfl (Xc i11 ZFr sc5.size rfl rfl (ZFq _) (by omega) (by omega) (Zu (v:=.int .u8 (ZFl.wrap ((r10.getD i10 Zt0).get i11))) hC 0 [.int .u8 (ZFl.wrap ((r10.getD i10 Zt0).get i11))] (ZE7 .u8 (s10.set i11 (ZFl.wrap ((r10.getD i10 Zt0).get i11)))) rfl sc5.size rfl rfl rfl rfl rfl hi11 (ZF3 _ _ _ hi11) fun w19 hC=>done (Zt (Zd (Zn (Zr rfl rfl (Zb (v:=vI (Zwe.wrap ((i11:Int)+1))) rfl (done ?_)))))))))))))
     exact hK11 (s10.set i11 (ZFl.wrap ((r10.getD i10 Zt0).get i11))) _ _ ⟨(sl ⟨rfl,rfl,rfl,rfl,rfl,rfl,rfl,rfl,rfl,(tr rfl (congrArg _ (Z9 hi11 (by decide)))),trivial⟩),hC⟩ h
   ·clear hC h
    rintro s10 e_ w20 K11 ⟨hS_,hC⟩ h
    rw [ue hS_]
    refine sr (Zo rfl rfl (dn (ZE9 (Ya rfl (decide_eq_false (by omega)) ?_))))
    refine ZFn (Zm (Zm (Z5 ?_)))
    refine Zd ?_
    refine cwd 8 mixed [0,1,0,0,0,24,60,124,255,511,1023] [1,2,4,5,6] [0,3] (fun hM10 hM11 w21 hB_=>?_)
    replace hC:=hC.grow hB_
    refine bF 0 (vQ b7) rfl rfl hM11 (fun _=>by exact Ye 0 ZFg rfl sc53.size rfl rfl) (Za 11 1) (bL 1 (v10) rfl rfl hM10 (fun _ hB_=>by exact Yc (hC.grow hB_) 4 (v10) rfl sc53 rfl rfl) (Za 11 3) (bL 2 (.agg (ZE8 (ZE7 .u8 s10))) rfl rfl hM10 (fun _ hB_=>by exact Yo (hC.grow hB_) 0 (ZE7 .u8 s10) rfl ag88 rfl rfl rfl) (Za 11 7) (bM 3 (.map (some b0)) rfl hM11 (Za 11 15) (bL 4 (.agg (ZE8 (ZE7 .i64 (r10.getD i10 Zt0)))) rfl rfl hM10 (fun _ hB_=>by exact Yo (hC.grow hB_) 1 (ZE7 .i64 (r10.getD i10 Zt0)) rfl ag110 rfl rfl rfl) (Za 11 31) (bL 5 (vI ((Yw a0 (r10.getD i10 Zt0)).getD 0)) rfl rfl hM10 (fun _ hB_=>by exact Zki (r10.getD i10 Zt0) 0 ((hC.grow hB_).getP 0 rfl) X5 ZF5 z2 rfl rfl) (Za 11 63) (bL 6 (.agg (ZE8 (ZFk (⟨s10,(Yw a0 (r10.getD i10 Zt0)).getD 0⟩:Term)))) rfl rfl hM10 (fun _ hB_=>by exact Zf1 [(0,.agg (ZE8 (ZE7 .u8 s10))),(1,vI ((Yw a0 (r10.getD i10 Zt0)).getD 0))] rfl (Zen s10 ((Yw a0 (r10.getD i10 Zt0)).getD 0)  _)) (Za 11 127) (aO 7 rfl (Ju (sz:=9) hC [(0,.agg (ZE8 (ZFk (⟨s10,(Yw a0 (r10.getD i10 Zt0)).getD 0⟩:Term))))] (ZFa.encs [(⟨s10,(Yw a0 (r10.getD i10 Zt0)).getD 0⟩:Term)]) rfl (fun _=>Zdc (⟨s10,(Yw a0 (r10.getD i10 Zt0)).getD 0⟩:Term) _) rfl (by decide) fun b12 w22 hB_ hC=>done (aK (by assumption) (Za 11 255) (Z0 8 (by decide) (by decide) (by kernel_rfl) (by kernel_rfl) rfl ?_))))))))))
    obtain ⟨hm10,h⟩:=h
    refine Zb4 hC 3 ZFj Zdd rfl (by decide) (by decide) rfl (Zam (hC.getM 0 rfl)) (fun q hq=>Enc.encs_one' (E:=ETerm) _ q hq) rfl rfl hm10 fun v11 w23 hC=>?_
    replace hC:=J8 hC 3 ((s11++[(⟨s10,(Yw a0 (r10.getD i10 Zt0)).getD 0⟩:Term)]).length) (ZFa.encs (s11++[(⟨s10,(Yw a0 (r10.getD i10 Zt0)).getD 0⟩:Term)])) rfl (by simp) (by first | (simp [Enc.encs_append]; done) | simp [Enc.encs_append,Enc.encs])
    refine Zz 0 ZFg rfl sc53.size rfl rfl (Zu (v:=v11) hC 5 [v11] [v11] rfl sc53.size rfl rfl (Zb7 (hC.getM 3 rfl)) rfl (Ym (Y8 (hC.getM 3 rfl)) rfl) (ZFi rfl) rfl fun w24 hC=>done (Z1 (Zt (Zd (Zn (Zr rfl rfl (Zb (v:=vI (Zwe.wrap ((i10:Int)+1))) rfl (done ?_))))))))
    exact hK10 (s11++[(⟨s10,(Yw a0 (r10.getD i10 Zt0)).getD 0⟩:Term)]) _ _ ⟨v11,(sl ⟨rfl,rfl,rfl,rfl,rfl,(tr rfl (congrArg _ (Z9 hi10 hN10))),trivial⟩),(hC.xM [3,4,5,6] rfl)⟩ h
   ·skip
    exact⟨(slq rfl),hC⟩
  ·clear hC h
   rintro s11 e_ w25 K10 ⟨v10,hS_,hC⟩ h
   rw [ue hS_]
   refine sr (Zo rfl rfl (dn (ZE9 (Ya rfl (decide_eq_false (by omega)) ?_))))
   refine ZFn (Zm (Zm (Z5 ?_)))
   refine Zd (sr (Yd hC 2 [v10] rfl ag55 rfl rfl rfl (Zu (v:=.agg #[v10]) hC 3 [v10] [v10] rfl ag55.size rfl rfl rfl rfl (Ym (Y8 (hC.getM 0 rfl)) rfl) (ZFi rfl) rfl fun w26 hC=>Zc (v:=vI 0) rfl (dn (ZFh ?_)))))
   exact Xy rfl (X3 hC 3 rfl ag55 rfl rfl) (Zg rfl) ⟨(⟨s11⟩:ZFd),v10,(ZF6 (Zum v10)),0,rfl,h,(Jr (Jq (hC.getM 0 rfl))),(Jo hC 0 rfl),hC.below⟩ (.inl rfl)
  ·skip
   replace hC:=hC.pushNil 90 9
   exact⟨.slice none 0 0,(slq rfl),hC⟩
def Zax (a0:List (A8×Int)) (a1:List (A8×Int)) (a2:Int) (K:List (A8×Int)→Prop):Prop :=
 Zaf (fun (q10:A8×Int) (s10:(List (A8×Int))) nx10=>Zdi s10 q10.1 (Zul (Zwe.wrap (q10.2 * a2)) 10007) (fun m10=>nx10 m10)) (fun (s10:(List (A8×Int)))=>K s10) a1.length a1 a0
theorem Zgr (a0:List (A8×Int)) (a1:List (A8×Int)) (a2:Int)  {K:List (A8×Int)→Prop} (h:Zax a0 a1 a2 K) (w0:World) (q0:(mapS b0 a0).holds w0) (d1:∀ c,c∈[b1]→c≠b0) (q1:(mapS b1 a1).holds w0) :
  Calls ZFb 89 #[.map (some b0),.map (some b1),vI a2] w0 fun e w'=>∃ (m0:List (A8×Int)),
   e=.returned (.tuple #[])∧K m0∧(mapS b0 m0).holds w'∧BelB b0 w0 w':=by
 unfold Zax at h
 refine cof Tryz.func89 rfl 22 Tryz.ntmps89 ?_
 have hC:=Ctx.start1 w0 b0 (it:=mapS b0 a0) rfl [mapS b1 a1] q0 (by simp only [Ztw,Zv2,or_false,forall_eq_or_imp,forall_eq]; exact q1) (by simp only [Ztw,Zv2,or_false,forall_eq_or_imp,forall_eq]; exact d1)
 refine sr (Zb (v:=.map (some b1)) rfl (Zc2 hC 0 rfl ZF5 rfl fun r3 es4 ck5 w10 hB_ hn6 hbn7 hC=>dn (ZFf ?_)))
 refine Zc6 (S:=(List (A8×Int))) _ _ (fun l10 s10 e_ w_=>∃ (la10:Option MapEntry),Z2 e_ [(0,.map (some b0)),(2,vI a2),(9,vQ r3)]∧Ctx (fun c_=>c_=b0) w0 w_ [itI (kvA .i64) (vvI .i64) r3 b1 es4 ck5 la10 l10,mapS b0 s10] [Jw b1 es4 ck5,mapS b1 a1]) ?_ (l0:=a1) (s0:=a0) ?_ h
 ·clear hC h
  rintro l10 s10 e_ w11 nx10 K10 ⟨la10,hS_,hC⟩ h hK10
  rw [ue hS_]
  refine sr ?_
  refine Zc3 hC 0 0 rfl rfl hn6 hbn7 rfl (fun hr10=>?_) (fun q10 l11 ent10 w12 hp10 hk10 hv10 hC=>?_)
  ·replace h:=h.1 hr10
   refine Y2 (v:=.bool false) rfl rfl (dn (ZE9 (Ya rfl rfl ?_)))
   refine ZFn (Zm (Zm (Z5 ?_)))
   exact Zhv rfl  ⟨s10,rfl,h,(hC.getM 1 rfl),hC.belB⟩ (.inr rfl)
  ·replace h:=h.2 q10 l11 hp10
   refine Y2 (v:=.bool true) rfl rfl (dn (ZE9 (Z8 rfl rfl (ZFc (Zd (ZFf (sr (Zc4 hC 0 0 q10 rfl rfl hn6 rfl hk10 hv10 (Y2 (v:=.agg (ZE8 (ZE7 .i64 q10.1))) rfl rfl (Y2 (v:=vI q10.2) rfl rfl (Yb hC (ZE7 .i64 ZFe) J3 rfl fun b10 w13 hB_ hC=>Zu (v:=.agg (ZE8 (ZE7 .i64 q10.1))) hC 0 (ZE7 .i64 q10.1) (ZE7 .i64 q10.1) rfl ag110.size rfl rfl rfl rfl rfl (ZFi rfl) rfl fun w14 hC=>Zc (v:=vI q10.2) rfl (dn (Zn (Zb (v:=.map (some b0)) rfl (Yd hC 0 (ZE7 .i64 q10.1) rfl ag110 rfl rfl rfl (Zb (v:=vI q10.2) rfl (Zb (v:=vI a2) rfl (Zbg rfl rfl (Jj rfl rfl (by decide) (Zf [.map (some b0),.agg (ZE8 (ZE7 .i64 q10.1)),vI (Zul (Zwe.wrap (q10.2 * a2)) 10007)] _ Tryz.func103 rfl rfl rfl (Zk6 s10 q10.1 (Zul (Zwe.wrap (q10.2 * a2)) 10007) h _ (hC.getM 2 rfl)) ?_))))))))))))))))))))
   rintro _ w15 ⟨m10,rfl,h,hm10,hB10⟩
   refine rt ?_
   replace hC:=hC.turnB 2 rfl hB10 rfl rfl hm10
   refine done (Zt ?_)
   exact hK10 q10 l11 m10 _ _ hp10 ⟨(some ent10),(slq rfl),(hC.xM [1,2] rfl)⟩ h
 ·skip
  exact⟨none,(slq rfl),hC⟩
def J4 (a0:List (A8×Int)) (a1:List Int) (a2:List (A8×Int)) (K:List (A8×Int)→Prop):Prop :=
 Zaf (fun (q10:A8×Int) (s11:(List (A8×Int))) nx11=>Zaf (fun (q11:A8×Int) (s10:(List (A8×Int))) nx10=>Zeu q10.1 a1 q11.1 (fun r10 r11=>(if r11≠0 then Zdi s10 r10 (Zul (Zwe.wrap ((Zwe.wrap (r11 * q10.2)) * q11.2)) 10007) (fun m10=>nx10 m10) else nx10 s10))) (fun (s10:(List (A8×Int)))=>nx11 s10) a2.length a2 s11) (fun (s11:(List (A8×Int)))=>K s11) a0.length a0 ([]:List (A8×Int))
theorem X7 (a0:List (A8×Int)) (a1:List Int) (a2:List (A8×Int))  {K:List (A8×Int)→Prop} (h:J4 a0 a1 a2 K) (w0:World) (q0:(mapS b0 a0).holds w0) (q1:ZHz.rep a1 [u1_0] fp1 w0) (q2:(mapS b2 a2).holds w0) :
  Calls ZFb 87 #[.map (some b0),u1_0,.map (some b2)] w0 fun e w'=>∃ (r0:List (A8×Int)) (zb0:Nat),
   e=.returned (.map (some zb0))∧K r0∧(mapS zb0 r0).holds w'∧w0.heap.size≤zb0∧Bel w0 w':=by
 unfold J4 at h
 refine cof ZHx rfl 48 Tryz.ntmps87 ?_
 have hC:=ZFu (X:=Nox) w0 [ZBl TInts a1 [u1_0] fp1,mapS b0 a0,mapS b2 a2] (alc q1 (alc q0 (al1 q2)))
 refine sr (Zc (v:=.map none) rfl (dn (sr (Zbk hC (kvA .i64) (vvI .i64) fun b4 w6 hB_ hC=>Zc (v:=.map (some b4)) rfl (dn (ZE9 (sr (Zb (v:=.map (some b0)) rfl (Zc2 hC 1 rfl ZF5 rfl fun r7 es8 ck9 w10 hB_ hn10 hbn10 hC=>dn (ZFf ?_))))))))))
 refine Zc6 (S:=(List (A8×Int))) _ _ (fun l12 s11 e_ w_=>∃ (la10:Option MapEntry),Z2 e_ [(1,u1_0),(2,.map (some b2)),(7,.map (some b4)),(16,vQ r7)]∧Ctx Nox w0 w_ [itI (kvA .i64) (vvI .i64) r7 b0 es8 ck9 la10 l12,mapS b4 s11] [Jw b0 es8 ck9,ZBl TInts a1 [u1_0] fp1,mapS b0 a0,mapS b2 a2]) ?_ (l0:=a0) (s0:=([]:List (A8×Int))) ?_ h
 ·clear hC h
  rintro l12 s11 e_ w11 nx11 K10 ⟨la10,hS_,hC⟩ h hK11
  rw [ue hS_]
  refine sr ?_
  refine Zc3 hC 0 0 rfl rfl hn10 hbn10 rfl (fun hr10=>?_) (fun q10 l10 ent10 w12 hp11 hk10 hv10 hC=>?_)
  ·replace h:=h.1 hr10
   refine Y2 (v:=.bool false) rfl rfl (dn (ZE9 (Ya rfl rfl ?_)))
   refine ZFn (Zm (Zm (Z5 ?_)))
   refine Zd (sr (Zb (v:=.map (some b4)) rfl (Zc (v:=.map (some b4)) rfl (dn (ZFh ?_)))))
   exact Zk rfl (Zg rfl) ⟨s11,b4,rfl,h,(hC.getM 1 rfl),(Zei hC 1 rfl),hC.below⟩ (.inl rfl)
  ·replace h:=h.2 q10 l10 hp11
   refine Y2 (v:=.bool true) rfl rfl (dn (ZE9 (Z8 rfl rfl (ZFc (Zd (ZFf (sr (Zc4 hC 0 0 q10 rfl rfl hn10 rfl hk10 hv10 (Y2 (v:=.agg (ZE8 (ZE7 .i64 q10.1))) rfl rfl (Y2 (v:=vI q10.2) rfl rfl (Yb hC (ZE7 .i64 ZFe) J3 rfl fun b10 w13 hB_ hC=>Zu (v:=.agg (ZE8 (ZE7 .i64 q10.1))) hC 0 (ZE7 .i64 q10.1) (ZE7 .i64 q10.1) rfl ag110.size rfl rfl rfl rfl rfl (ZFi rfl) rfl fun w14 hC=>Zc (v:=vI q10.2) rfl (dn (sr (Zb (v:=.map (some b2)) rfl (Zc2 hC 3 rfl ZF5 rfl fun r12 es10 ck10 w15 hB_ hn11 hbn11 hC=>dn (ZFf ?_))))))))))))))))
   refine Zc6 (S:=(List (A8×Int))) _ _ (fun l13 s10 e_ w_=>∃ (la11:Option MapEntry),Z2 e_ [(1,u1_0),(2,.map (some b2)),(7,.map (some b4)),(8,vQ b10),(9,vI q10.2),(16,vQ r7),(23,vQ r12)]∧Ctx Nox w0 w_ [itI (kvA .i64) (vvI .i64) r12 b2 es10 ck10 la11 l13,blk b10 110 (ZE7 .i64 q10.1),itI (kvA .i64) (vvI .i64) r7 b0 es8 ck9 (some ent10) l10,mapS b4 s10] [Jw b2 es10 ck10,Jw b0 es8 ck9,ZBl TInts a1 [u1_0] fp1,mapS b0 a0,mapS b2 a2]) ?_ (l0:=a2) (s0:=s11) ?_ h
   ·clear hC h
    rintro l13 s10 e_ w16 nx10 K11 ⟨la11,hS_,hC⟩ h hK10
    rw [ue hS_]
    refine sr ?_
    refine Zc3 hC 0 0 rfl rfl hn11 hbn11 rfl (fun hr11=>?_) (fun q11 l11 ent11 w17 hp10 hk11 hv11 hC=>?_)
    ·replace h:=h.1 hr11
     refine Y2 (v:=.bool false) rfl rfl (dn (ZE9 (Ya rfl rfl ?_)))
     refine ZFn (Zm (Zm (Z5 ?_)))
     refine Zt ?_
     exact hK11 q10 l10 s10 _ _ hp11 ⟨(some ent10),(slq rfl),((hC.xM [2,3] rfl).sP [1,2,3,4] rfl)⟩ h
    ·replace h:=h.2 q11 l11 hp10
     refine Y2 (v:=.bool true) rfl rfl (dn (ZE9 (Z8 rfl rfl (ZFc (Zd (ZFf (sr (Zc4 hC 0 0 q11 rfl rfl hn11 rfl hk11 hv11 (Y2 (v:=.agg (ZE8 (ZE7 .i64 q11.1))) rfl rfl (Y2 (v:=vI q11.2) rfl rfl (Yb hC (ZE7 .i64 ZFe) J3 rfl fun b11 w18 hB_ hC=>Zu (v:=.agg (ZE8 (ZE7 .i64 q11.1))) hC 0 (ZE7 .i64 q11.1) (ZE7 .i64 q11.1) rfl ag110.size rfl rfl rfl rfl rfl (ZFi rfl) rfl fun w19 hC=>Zc (v:=vI q11.2) rfl (dn (sr (Yd hC 2 (ZE7 .i64 q10.1) rfl ag110 rfl rfl rfl (Zb (v:=u1_0) rfl (Yd hC 0 (ZE7 .i64 q11.1) rfl ag110 rfl rfl rfl (Zf [.agg (ZE8 (ZE7 .i64 q10.1)),u1_0,.agg (ZE8 (ZE7 .i64 q11.1))] _ Tryz.func102 rfl rfl rfl (Zpr q10.1 a1 q11.1 h _ (hC.getP 2 rfl)) ?_)))))))))))))))))
     rintro _ w20 ⟨r10,r11,rfl,h,hB10⟩
     refine rt ?_
     replace hC:=hC.grow hB10
     refine Zb (v:=.tuple #[.agg (ZE8 (ZE7 .i64 r10)),vI r11]) rfl (Y2 (v:=.agg (ZE8 (ZE7 .i64 r10))) rfl rfl (Y2 (v:=vI r11) rfl rfl (Yb hC (ZE7 .i64 ZFe) J3 rfl fun b12 w21 hB_ hC=>Zu (v:=.agg (ZE8 (ZE7 .i64 r10))) hC 0 (ZE7 .i64 r10) (ZE7 .i64 r10) rfl ag110.size rfl rfl rfl rfl rfl (ZFi rfl) rfl fun w22 hC=>Zc (v:=vI r11) rfl (dn (sr (Zb (v:=vI r11) rfl (Y7 rfl rfl (dn ?_))))))))
     refine Zq rfl (fun hb10=>?_) (fun hb10=>?_)
     ·replace h:=ift h (ct hb10)
      refine Zn (Zb (v:=.map (some b4)) rfl (Yd hC 0 (ZE7 .i64 r10) rfl ag110 rfl rfl rfl (Zb (v:=vI r11) rfl (Zb (v:=vI q10.2) rfl (Zbg rfl rfl (Zb (v:=vI q11.2) rfl (Zbg rfl rfl (Jj rfl rfl (by decide) (Zf [.map (some b4),.agg (ZE8 (ZE7 .i64 r10)),vI (Zul (Zwe.wrap ((Zwe.wrap (r11 * q10.2)) * q11.2)) 10007)] _ Tryz.func103 rfl rfl rfl (Zk6 s10 r10 (Zul (Zwe.wrap ((Zwe.wrap (r11 * q10.2)) * q11.2)) 10007) h _ (hC.getM 5 rfl)) ?_)))))))))
      rintro _ w23 ⟨m10,rfl,h,hm10,hB11⟩
      refine rt ?_
      replace hC:=hC.turnB 5 rfl hB11 rfl rfl hm10
      refine done (Zt ?_)
      exact hK10 q11 l11 m10 _ _ hp10 ⟨(some ent11),(slq rfl),(hC.xM [2,3,4,5] rfl)⟩ h
     ·replace h:=Zl h (cf hb10)
      refine ZFc (Zt ?_)
      exact hK10 q11 l11 s10 _ _ hp10 ⟨(some ent11),(slq rfl),(hC.xM [2,3,4,5] rfl)⟩ h
   ·skip
    exact⟨none,(slq rfl),hC⟩
 ·skip
  exact⟨none,(slq rfl),hC⟩
def Zdk (a0:Int) (a1:Int) (a2:Int) (K:Bool→Prop):Prop :=
 (if a0≥a1 then K (decide (a0≤a2)) else K false)
theorem Zk8 (a0:Int) (a1:Int) (a2:Int)  {K:Bool→Prop} (h:Zdk a0 a1 a2 K) (w0:World)  :
  Calls ZFb 45 #[vI a0,vI a1,vI a2] w0 fun e w'=>∃ (r0:Bool),
   e=.returned (.bool r0)∧K r0∧Bel w0 w':=by
 unfold Zdk at h
 refine cof Tryz.func45 rfl 15 Tryz.ntmps45 ?_
 have hC:=ZFu (X:=Nox) w0 [] (by simp)
 refine sr (Zc (v:=.bool false) rfl (dn (sr (Zb (v:=vI a0) rfl (Zb (v:=vI a1) rfl (Zbh rfl rfl (Zb (v:=.bool (decide (a0≥a1))) rfl ?_)))))))
 refine Yt (decide (a0≥a1)) (fun hb1=>?_) (fun hb1=>?_)
 ·replace h:=ift h (ct hb1)
  refine Zi 3 10 rfl rfl hb1 (Zb (v:=vI a0) rfl (Zi 3 10 rfl rfl hb1 (Zb (v:=vI a2) rfl (Zi 3 10 rfl rfl hb1 (Zb3 rfl rfl (Zw (v:=.bool (decide (a0≤a2))) (b:=true) (tr rfl (congrArg _ hb1)) rfl (Zc (v:=.bool (decide (a0≤a2))) rfl (dn (ZFh ?_)))))))))
  exact Zk rfl (Zg rfl) ⟨decide (a0≤a2),rfl,h,hC.below⟩ (.inl rfl)
 ·replace h:=Zl h (cf hb1)
  refine Zh (b:=false) 3 10 rfl (tr rfl (congrArg _ hb1)) (by decide) (Zh (b:=false) 3 10 rfl (tr rfl (congrArg _ hb1)) (by decide) (Zh (b:=false) 3 10 rfl (tr rfl (congrArg _ hb1)) (by decide) (Zw (v:=.bool false) (b:=false) (tr rfl (congrArg _ hb1)) rfl (Zc (v:=.bool false) rfl (dn (ZFh ?_))))))
  exact Zk rfl (Zg rfl) ⟨false,rfl,h,hC.below⟩ (.inl rfl)
def Zgs (a0:List Int) (p1:Int→(Bool→Prop)→Prop) (K:Int→Prop):Prop :=
 Yg (fun i10 (s10:Unit) nx10=>p1 (a0.getD i10 Zt0) (fun r10=>(if r10=true then K (i10:Int) else nx10 ()))) (fun (s10:Unit)=>K (-1)) a0.length 0 ()
theorem Zpv (a0:List Int) (p1:Int→(Bool→Prop)→Prop)  {K:Int→Prop} (h:Zgs a0 p1 K) (w0:World) (q0:ZHz.rep a0 [u0_0] fp0 w0) {g1:Nat} {cp1:List Value} {fn1:Func} (hf1:ZFb.funcs[g1]? = some fn1) (hb1:fn1.body.isNone=false) (hn1:(fn1.name == "runtime.NumGoroutine")=false) (hp1:∀ (y0:Int) (K_:Bool→Prop) (w_:World),Bel w0 w_→p1 y0 K_→Calls ZFb g1 (ZE8 ([vI y0]++cp1)) w_ fun e w'=>∃ (z0:Bool),e=.returned (.bool z0)∧K_ z0∧Bel w_ w') :
  Calls ZFb 70 #[u0_0,.func (.func g1) #[] (ZE8 cp1)] w0 fun e w'=>∃ (r0:Int),
   e=.returned (vI r0)∧K r0∧Bel w0 w':=by
 unfold Zgs at h
 refine cof Tryz.func70 rfl 19 Tryz.ntmps70 ?_
 have hC:=ZFu (X:=Nox) w0 [ZBl TInts a0 [u0_0] fp0] (al1 q0)
 refine sr (Zc (v:=vI 0) rfl (dn (ZE9 (sr (Zb (v:=u0_0) rfl (Zx hC 0 rfl ZFs rfl (Zb (v:=vI 0) rfl (dn (ZFf ?_)))))))))
 have hN10:a0.length≤9223372036854775807:=Y0 (hC.getP 0 rfl)
 refine Yp (S:=Unit) _ _ (fun i10 s10 e_ w_=>Z2 e_ [(0,u0_0),(1,.func (.func g1) #[] (ZE8 cp1)),(7,vI (a0.length:Int)),(8,vI (i10:Int))]∧Ctx Nox w0 w_ [] [ZBl TInts a0 [u0_0] fp0]) a0.length ?_ ?_ (s0:=()) ?_ h
 ·clear hC h
  rintro i10 s10 e_ w10 nx10 K10 hi10 ⟨hS_,hC⟩ h hK10
  rw [ue hS_]
  refine sr (Zo rfl rfl (dn (ZE9 (Z8 rfl (decide_eq_true (by omega)) (ZFc (Zd (ZE9 (ZFf (sr (Zb (v:=vI (i10:Int)) rfl (Zc (v:=vI (i10:Int)) rfl (dn (sr (Zb (v:=.func (.func g1) #[] (ZE8 cp1)) rfl (Zb (v:=u0_0) rfl (Zb (v:=vI (i10:Int)) rfl ?_))))))))))))))))
  obtain ⟨Ad10,c10,hv10⟩:=Z3 (hC.getP 0 rfl) i10 hi10
  refine Yu (len:=a0.length) ZFs sc2.size (tr rfl hv10) rfl (ZFq _) (ZF8.2 hi10) (Xz (vI (a0.getD i10 Zt0)) (Yj (hC.getP 0 rfl) hv10 i10 hi10) sc2 rfl ?_)
  refine Zkd [vI (a0.getD i10 Zt0)] _ rfl hf1 hb1 hn1 rfl (hp1 _ _ _ hC.below  h) (fun ret10 w11 hR10=>?_)
  obtain ⟨r10,rfl,h,hB10⟩:=hR10
  refine⟨_,rfl,?_⟩
  replace hC:=hC.grow hB10
  refine dn ?_
  refine Zq rfl (fun hb10=>?_) (fun hb10=>?_)
  ·replace h:=ift h (hb10)
   refine sr (Zb (v:=vI (i10:Int)) rfl (Zc (v:=vI (i10:Int)) rfl (dn ?_)))
   refine ZFh (Zv (Ze (Ze (Zv (Ze ?_)))))
   exact Zk rfl (Zg rfl) ⟨(i10:Int),rfl,h,hC.below⟩ (.inl rfl)
  ·replace h:=Zl h (Yq hb10)
   refine ZFc (Zt (Zd (Zn (Zr rfl rfl (Zb (v:=vI (Zwe.wrap ((i10:Int)+1))) rfl (done ?_))))))
   exact hK10 () _ _ ⟨(sl ⟨rfl,rfl,rfl,(tr rfl (congrArg _ (Z9 hi10 hN10))),trivial⟩),hC⟩ h
 ·clear hC h
  rintro s10 e_ w12 K10 ⟨hS_,hC⟩ h
  rw [ue hS_]
  refine sr (Zo rfl rfl (dn (ZE9 (Ya rfl (decide_eq_false (by omega)) ?_))))
  refine ZFn (Zm (Zm (Z5 ?_)))
  refine Zd (sr (Zc (v:=vI (-1)) rfl (dn (ZFh ?_))))
  exact Zk rfl (Zg rfl) ⟨(-1),rfl,h,hC.below⟩ (.inl rfl)
 ·skip
  exact⟨(slq rfl),hC⟩
def Zgt (a0:List Int) (p1:Int→(Bool→Prop)→Prop) (K:Bool→Prop):Prop :=
 Zgs a0 p1 (fun r5=>K (decide (r5≥0)))
theorem Zpw (a0:List Int) (p1:Int→(Bool→Prop)→Prop)  {K:Bool→Prop} (h:Zgt a0 p1 K) (w0:World) (q0:ZHz.rep a0 [u0_0] fp0 w0) {g1:Nat} {cp1:List Value} {fn1:Func} (hf1:ZFb.funcs[g1]? = some fn1) (hb1:fn1.body.isNone=false) (hn1:(fn1.name == "runtime.NumGoroutine")=false) (hp1:∀ (y0:Int) (K_:Bool→Prop) (w_:World),Bel w0 w_→p1 y0 K_→Calls ZFb g1 (ZE8 ([vI y0]++cp1)) w_ fun e w'=>∃ (z0:Bool),e=.returned (.bool z0)∧K_ z0∧Bel w_ w') :
  Calls ZFb 43 #[u0_0,.func (.func g1) #[] (ZE8 cp1)] w0 fun e w'=>∃ (r0:Bool),
   e=.returned (.bool r0)∧K r0∧Bel w0 w':=by
 unfold Zgt at h
 refine cof Tryz.func43 rfl 9 Tryz.ntmps43 ?_
 have hC:=ZFu (X:=Nox) w0 [ZBl TInts a0 [u0_0] fp0] (al1 q0)
 refine sr (Zc (v:=.bool false) rfl (dn (sr (Zb (v:=u0_0) rfl (Zb (v:=.func (.func g1) #[] (ZE8 cp1)) rfl (Zf [u0_0,.func (.func g1) #[] (ZE8 cp1)] _ Tryz.func70 rfl rfl rfl (Zpv a0 p1 h _ (hC.getP 0 rfl) hf1 hb1 hn1 (fun x0_ K_ w_ hb_=>hp1 x0_ K_ w_ (Zke hC.below hb_))) ?_))))))
 rintro _ w4 ⟨r5,rfl,h,hB6⟩
 refine rt ?_
 replace hC:=hC.grow hB6
 refine Zbh rfl rfl (Zc (v:=.bool (decide (r5≥0))) rfl (dn (ZFh ?_)))
 exact Zk rfl (Zg rfl) ⟨decide (r5≥0),rfl,h,hC.below⟩ (.inl rfl)
def Zew (a0:Int) (K:Bool→Prop):Prop :=
 Zdk a0 1 12 (fun r4=>K (!r4))
theorem Zpx (a0:Int)  {K:Bool→Prop} (h:Zew a0 K) (w0:World)  :
  Calls ZFb 106 #[vI a0] w0 fun e w'=>∃ (r0:Bool),
   e=.returned (.bool r0)∧K r0∧Bel w0 w':=by
 unfold Zew at h
 refine cof Tryz.func106 rfl 6 Tryz.ntmps106 ?_
 have hC:=ZFu (X:=Nox) w0 [] (by simp)
 refine sr (Zc (v:=.bool false) rfl (dn (sr (Zb (v:=vI a0) rfl (Zf [vI a0,vI 1,vI 12] _ Tryz.func45 rfl rfl rfl (Zk8 a0 1 12 h _) ?_)))))
 rintro _ w3 ⟨r4,rfl,h,hB5⟩
 refine rt ?_
 replace hC:=hC.grow hB5
 refine Y4 rfl (Zc (v:=.bool (!r4)) rfl (dn (ZFh ?_)))
 exact Zk rfl (Zg rfl) ⟨!r4,rfl,h,hC.below⟩ (.inl rfl)
def Zex (a0:List Int) (K:Bool→Prop):Prop :=
 (if(a0.length:Int)≤8 then Zgt a0 Zew (fun r9=>K (!r9)) else K false)
theorem Zpy (a0:List Int)  {K:Bool→Prop} (h:Zex a0 K) (w0:World) (q0:ZHz.rep a0 [u0_0] fp0 w0) :
  Calls ZFb 92 #[u0_0] w0 fun e w'=>∃ (r0:Bool),
   e=.returned (.bool r0)∧K r0∧Bel w0 w':=by
 unfold Zex at h
 refine cof Tryz.func92 rfl 11 Tryz.ntmps92 ?_
 have hC:=ZFu (X:=Nox) w0 [ZBl TInts a0 [u0_0] fp0] (al1 q0)
 refine sr (Zc (v:=.bool false) rfl (dn (sr (Zb (v:=u0_0) rfl (Zx hC 0 rfl ZFs rfl (Zb3 rfl rfl (Zb (v:=.bool (decide ((a0.length:Int)≤8))) rfl ?_)))))))
 refine Yt (decide ((a0.length:Int)≤8)) (fun hb5=>?_) (fun hb5=>?_)
 ·replace h:=ift h (ct hb5)
  refine Zi 3 6 rfl rfl hb5 (Zb (v:=u0_0) rfl (Zi 3 6 rfl rfl hb5 (Zf [u0_0,.func (.func 106) #[] (ZE8 [])] _ Tryz.func43 rfl rfl rfl (Zpw a0 Zew h _ (hC.getP 0 rfl) Tryz.func106 rfl rfl (fun x0_ K_ w_ _ hq_=>Zpx x0_ hq_ w_)) ?_)))
  rintro _ w8 ⟨r9,rfl,h,hB10⟩
  refine rt ?_
  replace hC:=hC.grow hB10
  refine Zi 3 6 rfl rfl hb5 (Y4 rfl (Zw (v:=.bool (!r9)) (b:=true) (tr rfl (congrArg _ hb5)) rfl (Zc (v:=.bool (!r9)) rfl (dn (ZFh ?_)))))
  exact Zk rfl (Zg rfl) ⟨!r9,rfl,h,hC.below⟩ (.inl rfl)
 ·replace h:=Zl h (cf hb5)
  refine Zh (b:=false) 3 6 rfl (tr rfl (congrArg _ hb5)) (by decide) (Zh (b:=false) 3 6 rfl (tr rfl (congrArg _ hb5)) (by decide) (Zh (b:=false) 3 6 rfl (tr rfl (congrArg _ hb5)) (by decide) (Zw (v:=.bool false) (b:=false) (tr rfl (congrArg _ hb5)) rfl (Zc (v:=.bool false) rfl (dn (ZFh ?_))))))
  exact Zk rfl (Zg rfl) ⟨false,rfl,h,hC.below⟩ (.inl rfl)
def Zey (a0:List Int) (a1:A8) (K:Bool→Prop):Prop :=
 Yg (fun i10 (s10:Unit) nx10=>(if(i10:Int) < (a0.length:Int) then((0≤(i10:Int)∧(i10:Int) < (a0.length:Int))∧(if Zul (a0.getD i10 Zt0) 2=1 then(if a1.get i10 > 1 then K false else nx10 ()) else(if a1.get i10 > 20 then K false else nx10 ()))) else(if a1.get i10 > 0 then K false else nx10 ()))) (fun (s10:Unit)=>K true) 8 0 ()
theorem Zpz (a0:List Int) (a1:A8)  {K:Bool→Prop} (h:Zey a0 a1 K) (w0:World) (q0:ZHz.rep a0 [u0_0] fp0 w0) :
  Calls ZFb 97 #[u0_0,.agg (ZE8 (ZE7 .u8 a1))] w0 fun e w'=>∃ (r0:Bool),
   e=.returned (.bool r0)∧K r0∧Bel w0 w':=by
 unfold Zey at h
 refine cof Tryz.func97 rfl 27 Tryz.ntmps97 ?_
 have hC:=ZFu (X:=Nox) w0 [ZBl TInts a0 [u0_0] fp0] (al1 q0)
 refine sr (Yf (v:=.agg (ZE8 (ZE7 .u8 a1))) hC (ZE7 .u8 a1) rfl rfl fun b2 w4 hB_ hC=>Zc (v:=.bool false) rfl (dn (ZE9 (sr (Yd hC 0 (ZE7 .u8 a1) rfl ag88 rfl rfl rfl (Zb (v:=vI 0) rfl (dn (ZFf ?_))))))))
 refine Yp (S:=Unit) _ _ (fun i10 s10 e_ w_=>Z2 e_ [(0,u0_0),(8,.agg (ZE8 (ZE7 .u8 a1))),(9,vI (i10:Int))]∧Ctx Nox w0 w_ [] [ZBl TInts a0 [u0_0] fp0]) 8 ?_ ?_ (s0:=()) ?_ h
 ·clear hC h
  rintro i10 s10 e_ w10 nx10 K10 hi10 ⟨hS_,hC⟩ h hK10
  rw [ue hS_]
  refine sr (Zo rfl rfl (dn (ZE9 (Z8 rfl (decide_eq_true (by omega)) (ZFc (Zd (ZE9 (ZFf (sr (Zb (v:=vI (i10:Int)) rfl (Zf0 (.int .u8 (a1.get i10)) ZFr rfl rfl (ZFq _) (by omega) sc5 (ZFm _ _ hi10) (Zc (v:=vI (i10:Int)) rfl (Zc (v:=.int .u8 (a1.get i10)) rfl (dn (sr (Zc (v:=.int .u8 0) rfl (dn (ZE9 (sr (Zb (v:=vI (i10:Int)) rfl (Zb (v:=u0_0) rfl (Zx hC 0 rfl ZFs rfl (Zo rfl rfl (dn ?_))))))))))))))))))))))))
  refine Zq rfl (fun hb10=>?_) (fun hb10=>?_)
  ·replace h:=ift h (ct hb10)
   refine sr (Zc (v:=.int .u8 20) rfl (dn (sr (Zb (v:=u0_0) rfl (Zb (v:=vI (i10:Int)) rfl ?_)))))
   obtain ⟨⟨h10,h11⟩,h⟩:=h
   obtain ⟨Ad10,c10,hv10⟩:=Z3 (hC.getP 0 rfl) i10 (show i10 < a0.length by omega)
   refine Yu (len:=a0.length) ZFs sc2.size (tr rfl hv10) rfl h10 h11 (Xz (vI (a0.getD i10 Zt0)) (Yj (hC.getP 0 rfl) hv10 i10 (show i10 < a0.length by omega)) sc2 rfl (Jj rfl rfl (by decide) (Jh rfl rfl (dn ?_))))
   refine Zq rfl (fun hb11=>?_) (fun hb11=>?_)
   ·replace h:=ift h (ct hb11)
    refine Zn (Zc (v:=.int .u8 1) rfl (dn (sr (Zb (v:=.int .u8 (a1.get i10)) rfl (Zb (v:=.int .u8 1) rfl (Xx rfl rfl (dn ?_)))))))
    refine Zq rfl (fun hb12=>?_) (fun hb12=>?_)
    ·replace h:=ift h (ct hb12)
     refine sr (Zc (v:=.bool false) rfl (dn ?_))
     refine ZFh (Zv (Ze (Ze (Zv (Ze ?_)))))
     exact Zk rfl (Zg rfl) ⟨false,rfl,h,hC.below⟩ (.inl rfl)
    ·replace h:=Zl h (cf hb12)
     refine ZFc (Zt (Zd (Zn (Zr rfl rfl (Zb (v:=vI (Zwe.wrap ((i10:Int)+1))) rfl (done ?_))))))
     exact hK10 () _ _ ⟨(sl ⟨rfl,rfl,(tr rfl (congrArg _ (Z9 hi10 (by decide)))),trivial⟩),hC⟩ h
   ·replace h:=Zl h (cf hb11)
    refine ZFc (Zd (sr (Zb (v:=.int .u8 (a1.get i10)) rfl (Zb (v:=.int .u8 20) rfl (Xx rfl rfl (dn ?_))))))
    refine Zq rfl (fun hb13=>?_) (fun hb13=>?_)
    ·replace h:=ift h (ct hb13)
     refine sr (Zc (v:=.bool false) rfl (dn ?_))
     refine ZFh (Zv (Ze (Ze (Zv (Ze ?_)))))
     exact Zk rfl (Zg rfl) ⟨false,rfl,h,hC.below⟩ (.inl rfl)
    ·replace h:=Zl h (cf hb13)
     refine ZFc (Zt (Zd (Zn (Zr rfl rfl (Zb (v:=vI (Zwe.wrap ((i10:Int)+1))) rfl (done ?_))))))
     exact hK10 () _ _ ⟨(sl ⟨rfl,rfl,(tr rfl (congrArg _ (Z9 hi10 (by decide)))),trivial⟩),hC⟩ h
  ·replace h:=Zl h (cf hb10)
   refine ZFc (Zd (sr (Zb (v:=.int .u8 (a1.get i10)) rfl (Zb (v:=.int .u8 0) rfl (Xx rfl rfl (dn ?_))))))
   refine Zq rfl (fun hb14=>?_) (fun hb14=>?_)
   ·replace h:=ift h (ct hb14)
    refine sr (Zc (v:=.bool false) rfl (dn ?_))
    refine ZFh (Zv (Ze (Ze (Zv (Ze ?_)))))
    exact Zk rfl (Zg rfl) ⟨false,rfl,h,hC.below⟩ (.inl rfl)
   ·replace h:=Zl h (cf hb14)
    refine ZFc (Zt (Zd (Zn (Zr rfl rfl (Zb (v:=vI (Zwe.wrap ((i10:Int)+1))) rfl (done ?_))))))
    exact hK10 () _ _ ⟨(sl ⟨rfl,rfl,(tr rfl (congrArg _ (Z9 hi10 (by decide)))),trivial⟩),hC⟩ h
 ·clear hC h
  rintro s10 e_ w11 K10 ⟨hS_,hC⟩ h
  rw [ue hS_]
  refine sr (Zo rfl rfl (dn (ZE9 (Ya rfl (decide_eq_false (by omega)) ?_))))
  refine ZFn (Zm (Zm (Z5 ?_)))
  refine Zd (sr (Zc (v:=.bool true) rfl (dn (ZFh ?_))))
  exact Zk rfl (Zg rfl) ⟨true,rfl,h,hC.below⟩ (.inl rfl)
 ·skip
  exact⟨(slq rfl),(hC.xM [] rfl)⟩
def Zgu (a0:Int) (K:Bool→Prop):Prop :=
 Zdk a0 1 10006 (fun r4=>K r4)
theorem Zp0 (a0:Int)  {K:Bool→Prop} (h:Zgu a0 K) (w0:World)  :
  Calls ZFb 48 #[vI a0] w0 fun e w'=>∃ (r0:Bool),
   e=.returned (.bool r0)∧K r0∧Bel w0 w':=by
 unfold Zgu at h
 refine cof Tryz.func48 rfl 5 Tryz.ntmps48 ?_
 have hC:=ZFu (X:=Nox) w0 [] (by simp)
 refine sr (Zc (v:=.bool false) rfl (dn (sr (Zb (v:=vI a0) rfl (Zf [vI a0,vI 1,vI 10006] _ Tryz.func45 rfl rfl rfl (Zk8 a0 1 10006 h _) ?_)))))
 rintro _ w3 ⟨r4,rfl,h,hB5⟩
 refine rt ?_
 replace hC:=hC.grow hB5
 refine Zc (v:=.bool r4) rfl (dn (ZFh ?_))
 exact Zk rfl (Zg rfl) ⟨r4,rfl,h,hC.below⟩ (.inl rfl)
def Zdl (a0:List Int) (a1:ZFd) (K:Bool→Prop):Prop :=
 (if(a1.terms.length:Int) > 400 then K false else Yg (fun i10 (s10:Unit) nx10=>Zey a0 ((a1.terms.getD i10 Zt0).mono) (fun r10=>(if¬ (r10=true) then K false else Zgu ((a1.terms.getD i10 Zt0).factor) (fun r13=>(if¬ (r13=true) then K false else(if(i10:Int) > 0 then((0≤Zwe.wrap ((i10:Int) - 1)∧Zwe.wrap ((i10:Int) - 1) < (a1.terms.length:Int))∧Zbq ((a1.terms.getD ((Zwe.wrap ((i10:Int) - 1)).toNat) Zt0).mono) (fun r11=>Zbq ((a1.terms.getD i10 Zt0).mono) (fun r12=>Zgq r11 r12 (fun r14=>(if r14≥0 then K false else nx10 ()))))) else nx10 ())))))) (fun (s10:Unit)=>K true) a1.terms.length 0 ())
theorem Zk9 (a0:List Int) (a1:ZFd)  {K:Bool→Prop} (h:Zdl a0 a1 K) (w0:World) (q0:ZHz.rep a0 [u0_0] fp0 w0) (q1:ZFv.rep a1 [u1_0] fp1 w0) :
  Calls ZFb 74 #[u0_0,.agg #[u1_0]] w0 fun e w'=>∃ (r0:Bool),
   e=.returned (.bool r0)∧K r0∧Bel w0 w':=by
 unfold Zdl at h
 refine cof Tryz.func74 rfl 48 Tryz.ntmps74 ?_
 have hC:=ZFu (X:=Nox) w0 [ZBl TInts a0 [u0_0] fp0,ZBl TForm a1 [u1_0] fp1] (alc q0 (al1 q1))
 have hp3:=(hC.getP 1 rfl)
 replace hC:=hC.derive 1 rfl (ZBl ZFa.ty.sl a1.terms [u1_0] fp1) (fun _=>(Yn hp3)) (fun _ hb_=>hb_)
 refine sr (Yf (v:=.agg #[u1_0]) hC [u1_0] rfl rfl fun b5 w7 hB_ hC=>Zc (v:=.bool false) rfl (dn (ZE9 (sr (Zz 0 ZFg rfl sc53.size rfl rfl (Z6 hC 0 (u1_0) rfl sc53 rfl rfl (Zx hC 0 rfl ZFj rfl (Xx rfl rfl (dn ?_)))))))))
 refine Zq rfl (fun hb12=>?_) (fun hb12=>?_)
 ·replace h:=ift h (ct hb12)
  refine sr (Zc (v:=.bool false) rfl (dn ?_))
  refine ZFh (Ze ?_)
  exact Zk rfl (Zg rfl) ⟨false,rfl,h,hC.below⟩ (.inl rfl)
 ·replace h:=Zl h (cf hb12)
  refine ZFc (Zd (ZE9 (sr (Zz 0 ZFg rfl sc53.size rfl rfl (Z6 hC 0 (u1_0) rfl sc53 rfl rfl (Zx hC 0 rfl ZFj rfl (Zb (v:=vI 0) rfl (dn (ZFf ?_)))))))))
  have hN10:a1.terms.length≤9223372036854775807:=Y0 (hC.getP 0 rfl)
  refine Yp (S:=Unit) _ _ (fun i10 s10 e_ w_=>Z2 e_ [(0,u0_0),(3,vQ b5),(12,u1_0),(13,vI (a1.terms.length:Int)),(14,vI (i10:Int))]∧Ctx Nox w0 w_ [blk b5 55 [u1_0]] [ZBl ZFa.ty.sl a1.terms [u1_0] fp1,ZBl TInts a0 [u0_0] fp0,ZBl TForm a1 [u1_0] fp1]) a1.terms.length ?_ ?_ (s0:=()) ?_ h
  ·clear hC h
   rintro i10 s10 e_ w10 nx10 K10 hi10 ⟨hS_,hC⟩ h hK10
   rw [ue hS_]
   refine sr (Zo rfl rfl (dn (ZE9 (Z8 rfl (decide_eq_true (by omega)) (ZFc (Zd (ZE9 (ZFf (sr (Zb (v:=vI (i10:Int)) rfl ?_))))))))))
   obtain ⟨Ad11,c10,hv10⟩:=Z3 (hC.getP 0 rfl) i10 hi10
   refine Yu (len:=a1.terms.length) ZFj ag90.size (tr rfl hv10) rfl (ZFq _) (ZF8.2 hi10) (X9 (ZFk (a1.terms.getD i10 Zt0)) (Yj (hC.getP 0 rfl) hv10 i10 hi10) ag90 rfl rfl (Yb hC (ZFk (⟨ZFe,0⟩:Term)) z90 rfl fun b10 w11 hB_ hC=>Zc (v:=vI (i10:Int)) rfl (Zu (v:=.agg (ZE8 (ZFk (a1.terms.getD i10 Zt0)))) hC 0 (ZFk (a1.terms.getD i10 Zt0)) (ZFk (a1.terms.getD i10 Zt0)) rfl ag90.size rfl rfl rfl rfl rfl (ZFi rfl) rfl fun w12 hC=>dn (ZE9 (sr (Zb (v:=u0_0) rfl (Zz 0 ZFp rfl ag88.size rfl rfl (Yd hC 0 (ZE7 .u8 ((a1.terms.getD i10 Zt0).mono)) rfl ag88 rfl rfl rfl (Zf [u0_0,.agg (ZE8 (ZE7 .u8 ((a1.terms.getD i10 Zt0).mono)))] _ Tryz.func97 rfl rfl rfl (Zpz a0 ((a1.terms.getD i10 Zt0).mono) h _ (hC.getP 1 rfl)) ?_)))))))))
   rintro _ w13 ⟨r10,rfl,h,hB10⟩
   refine rt ?_
   replace hC:=hC.grow hB10
   refine Y4 rfl (Zb (v:=.bool (!r10)) rfl ?_)
   refine Yt (!r10) (fun hb11=>?_) (fun hb11=>?_)
   ·replace h:=ift h (Yq (Y5 hb11))
    refine Zh (b:=true) 5 24 rfl (tr rfl (congrArg _ hb11)) (by decide) (Zh (b:=true) 5 24 rfl (tr rfl (congrArg _ hb11)) (by decide) (Zh (b:=true) 5 24 rfl (tr rfl (congrArg _ hb11)) (by decide) (Zh (b:=true) 5 24 rfl (tr rfl (congrArg _ hb11)) (by decide) (Zw (v:=.bool true) (b:=true) (tr rfl (congrArg _ hb11)) rfl (dn (Z8 rfl rfl (sr (Zc (v:=.bool false) rfl (dn ?_)))))))))
    refine ZFh (Ze (Zv (Ze (Ze (Zv (Ze ?_))))))
    exact Zk rfl (Zg rfl) ⟨false,rfl,h,hC.below⟩ (.inl rfl)
   ·replace h:=Zl h (not_not_intro ((Y6 hb11)))
    refine Zi 5 24 rfl rfl hb11 (Zz 8 ZFp rfl sc2.size rfl rfl (Zi 5 24 rfl rfl hb11 (Z6 hC 0 (vI ((a1.terms.getD i10 Zt0).factor)) rfl sc2 rfl rfl (Zi 5 24 rfl rfl hb11 (Zf [vI ((a1.terms.getD i10 Zt0).factor)] _ Tryz.func48 rfl rfl rfl (Zp0 ((a1.terms.getD i10 Zt0).factor) h _) ?_)))))
    rintro _ w14 ⟨r13,rfl,h,hB11⟩
    refine rt ?_
    replace hC:=hC.grow hB11
    refine Zi 5 24 rfl rfl hb11 (Y4 rfl (Zw (v:=.bool (!r13)) (b:=false) (tr rfl (congrArg _ hb11)) rfl (dn ?_)))
    refine Zq rfl (fun hb13=>?_) (fun hb13=>?_)
    ·replace h:=ift h (Yq (Y5 hb13))
     refine sr (Zc (v:=.bool false) rfl (dn ?_))
     refine ZFh (Ze (Zv (Ze (Ze (Zv (Ze ?_))))))
     exact Zk rfl (Zg rfl) ⟨false,rfl,h,hC.below⟩ (.inl rfl)
    ·replace h:=Zl h (not_not_intro ((Y6 hb13)))
     refine ZFc (Zd (ZE9 ?_))
     refine cwd 13 mixed [0,1,3,7,15,7,39,127,255,511,1023,7,2055,8191,16383,32767,65535] [4,7,9,12] [0,1,2,3,4,5,6,7,8,9,10,11,12] (fun hM11 hM10 w15 hB_=>?_)
     replace hC:=hC.grow hB_
     refine bM 0 (vI (i10:Int)) rfl hM10 (Za 17 1) (bF 1 (.bool (decide ((i10:Int) > 0))) rfl rfl hM10 (fun _=>by exact Zju rfl rfl) (Za 17 3) (bM 2 (.bool (decide ((i10:Int) > 0))) rfl hM10 (Za 17 7) ?_))
     refine Yt (decide ((i10:Int) > 0)) (fun hb10=>?_) (fun hb10=>?_)
     ·replace h:=ift h (ct hb10)
      refine aF 3 (vQ b5) rfl rfl (hM10 3 rfl) (Z7 2 32 rfl rfl hb10) (fun _=>by exact Ye 0 ZFg rfl sc53.size rfl rfl) (Za 17 15) (aL 4 (u1_0) rfl rfl (hM11 4 rfl) (Z7 2 32 rfl rfl hb10) (fun _ hB_=>by exact Yc (hC.grow hB_) 1 (u1_0) rfl sc53 rfl rfl) (Za 17 31) (aF 5 (vI (i10:Int)) rfl rfl (hM10 5 rfl) (Z7 2 32 rfl rfl hb10) (fun _=>by exact Xw (v:=vI (i10:Int)) rfl) (Za 17 63) (aF 6 (vI (Zwe.wrap ((i10:Int) - 1))) rfl rfl (hM10 6 rfl) (Z7 2 32 rfl rfl hb10) (fun _=>by exact Zht rfl rfl) (Za 17 127) ?_)))
      obtain ⟨⟨h10,h11⟩,h⟩:=h
      obtain ⟨Ad10,c11,hv11⟩:=Z3 (hC.getP 0 rfl) ((Zwe.wrap ((i10:Int) - 1)).toNat) (show (Zwe.wrap ((i10:Int) - 1)).toNat < a1.terms.length by omega)
      refine aL 7 (.pointer (some (Ad10.add ((Zwe.wrap ((i10:Int) - 1)).toNat * 9)))) rfl rfl (hM11 7 rfl) (Z7 2 32 rfl rfl hb10) (fun _ hB_=>by exact Yy (len:=a1.terms.length) ZFj ag90.size (by exact tr rfl hv11) rfl h10 h11) (Za 17 255) (aF 8 (.pointer (some (Ad10.add ((Zwe.wrap ((i10:Int) - 1)).toNat * 9+0)))) rfl rfl (hM10 8 rfl) (Z7 2 32 rfl rfl hb10) (fun _=>by exact J1 ((Zwe.wrap ((i10:Int) - 1)).toNat * 9+0) ZFp rfl ag88.size rfl rfl) (Za 17 511) (aL 9 (.agg (ZE8 (ZE7 .u8 ((a1.terms.getD ((Zwe.wrap ((i10:Int) - 1)).toNat) Zt0).mono)))) rfl rfl (hM11 9 rfl) (Z7 2 32 rfl rfl hb10) (fun _ hB_=>by exact Xl (ZE7 .u8 ((a1.terms.getD ((Zwe.wrap ((i10:Int) - 1)).toNat) Zt0).mono)) (Xo (o:=0) (k:=8) (Yj ((hC.grow hB_).getP 0 rfl) hv11 ((Zwe.wrap ((i10:Int) - 1)).toNat) (show (Zwe.wrap ((i10:Int) - 1)).toNat < a1.terms.length by omega)) rfl) ag88 rfl rfl) (Za 17 1023) (aF 11 (vQ b10) rfl rfl (hM10 11 rfl) (Z7 2 32 rfl rfl hb10) (fun _=>by exact Ye 0 ZFp rfl ag88.size rfl rfl) (Za 17 3071) (aL 12 (.agg (ZE8 (ZE7 .u8 ((a1.terms.getD i10 Zt0).mono)))) rfl rfl (hM11 12 rfl) (Z7 2 32 rfl rfl hb10) (fun _ hB_=>by exact Yo (hC.grow hB_) 0 (ZE7 .u8 ((a1.terms.getD i10 Zt0).mono)) rfl ag88 rfl rfl rfl) (Za 17 7167) (aO 10 rfl (Zi 2 32 rfl rfl hb10 (Zf [.agg (ZE8 (ZE7 .u8 ((a1.terms.getD ((Zwe.wrap ((i10:Int) - 1)).toNat) Zt0).mono)))] _ Tryz.func85 rfl rfl rfl (Zgp ((a1.terms.getD ((Zwe.wrap ((i10:Int) - 1)).toNat) Zt0).mono) h _) ?_)))))))
      rintro _ w16 ⟨r11,rfl,h,hB12⟩
      refine rt ?_
      replace hC:=hC.grow hB12
      refine done (aK (by assumption) (Za 17 8191) (Z0 13 (by decide) (by decide) (by kernel_rfl) (by kernel_rfl) rfl (Zi 2 32 rfl rfl hb10 (Zf [.agg (ZE8 (ZE7 .u8 ((a1.terms.getD i10 Zt0).mono)))] _ Tryz.func85 rfl rfl rfl (Zgp ((a1.terms.getD i10 Zt0).mono) h _) ?_))))
      rintro _ w17 ⟨r12,rfl,h,hB13⟩
      refine rt ?_
      replace hC:=hC.grow hB13
      refine Zi 2 32 rfl rfl hb10 (Zf [.agg (ZE8 (ZE7 .i64 r11)),.agg (ZE8 (ZE7 .i64 r12))] _ Tryz.func98 rfl rfl rfl (Zk7 r11 r12 h _) ?_)
      rintro _ w18 ⟨r14,rfl,h,hB14⟩
      refine rt ?_
      replace hC:=hC.grow hB14
      refine Zi 2 32 rfl rfl hb10 (Zbh rfl rfl (Zw (v:=.bool (decide (r14≥0))) (b:=true) (tr rfl (congrArg _ hb10)) rfl (done (Z1 (Zd ?_)))))
      refine Zq rfl (fun hb14=>?_) (fun hb14=>?_)
      ·replace h:=ift h (ct hb14)
       refine sr (Zc (v:=.bool false) rfl (dn ?_))
       refine ZFh (Zv (Ze (Ze (Zv (Ze ?_)))))
       exact Zk rfl (Zg rfl) ⟨false,rfl,h,hC.below⟩ (.inl rfl)
      ·replace h:=Zl h (cf hb14)
       refine ZFc (Zt (Zd (Zn (Zr rfl rfl (Zb (v:=vI (Zwe.wrap ((i10:Int)+1))) rfl (done ?_))))))
       exact hK10 () _ _ ⟨(sl ⟨rfl,rfl,rfl,rfl,(tr rfl (congrArg _ (Z9 hi10 hN10))),trivial⟩),(hC.xM [1] rfl)⟩ h
     ·replace h:=Zl h (cf hb10)
      refine Zp Zs 3 undef rfl rfl (by kernel_rfl) (hM10 3 rfl) (fun w_=>.inr ⟨Z4 (b:=false) 2 32 rfl (tr rfl (congrArg _ hb10)) (by decide),rfl⟩) (l9:=(Za 17 15)) (by kernel_rfl) (Zp Zs 4 undef rfl rfl (by kernel_rfl) (hM10 4 rfl) (fun w_=>.inr ⟨Z4 (b:=false) 2 32 rfl (tr rfl (congrArg _ hb10)) (by decide),rfl⟩) (l9:=(Za 17 31)) (by kernel_rfl) (Zp Zs 5 undef rfl rfl (by kernel_rfl) (hM10 5 rfl) (fun w_=>.inr ⟨Z4 (b:=false) 2 32 rfl (tr rfl (congrArg _ hb10)) (by decide),rfl⟩) (l9:=(Za 17 63)) (by kernel_rfl) (Zp Zs 6 undef rfl rfl (by kernel_rfl) (hM10 6 rfl) (fun w_=>.inr ⟨Z4 (b:=false) 2 32 rfl (tr rfl (congrArg _ hb10)) (by decide),rfl⟩) (l9:=(Za 17 127)) (by kernel_rfl) (Zp Zs 7 undef rfl rfl (by kernel_rfl) (hM10 7 rfl) (fun w_=>.inr ⟨Z4 (b:=false) 2 32 rfl (tr rfl (congrArg _ hb10)) (by decide),rfl⟩) (l9:=(Za 17 255)) (by kernel_rfl) (Zp Zs 8 undef rfl rfl (by kernel_rfl) (hM10 8 rfl) (fun w_=>.inr ⟨Z4 (b:=false) 2 32 rfl (tr rfl (congrArg _ hb10)) (by decide),rfl⟩) (l9:=(Za 17 511)) (by kernel_rfl) (Zp Zs 9 undef rfl rfl (by kernel_rfl) (hM10 9 rfl) (fun w_=>.inr ⟨Z4 (b:=false) 2 32 rfl (tr rfl (congrArg _ hb10)) (by decide),rfl⟩) (l9:=(Za 17 1023)) (by kernel_rfl) (Zp Zs 10 undef rfl rfl (by kernel_rfl) (hM10 10 rfl) (fun w_=>.inr ⟨Z4 (b:=false) 2 32 rfl (tr rfl (congrArg _ hb10)) (by decide),rfl⟩) (l9:=(Za 17 2047)) (by kernel_rfl) (Zp Zs 11 undef rfl rfl (by kernel_rfl) (hM10 11 rfl) (fun w_=>.inr ⟨Z4 (b:=false) 2 32 rfl (tr rfl (congrArg _ hb10)) (by decide),rfl⟩) (l9:=(Za 17 4095)) (by kernel_rfl) (Zp Zs 12 undef rfl rfl (by kernel_rfl) (hM10 12 rfl) (fun w_=>.inr ⟨Z4 (b:=false) 2 32 rfl (tr rfl (congrArg _ hb10)) (by decide),rfl⟩) (l9:=(Za 17 8191)) (by kernel_rfl) (Z0 13 (by decide) (by decide) (by kernel_rfl) (by kernel_rfl) rfl (Zh (b:=false) 2 32 rfl (tr rfl (congrArg _ hb10)) (by decide) (Zh (b:=false) 2 32 rfl (tr rfl (congrArg _ hb10)) (by decide) (Zh (b:=false) 2 32 rfl (tr rfl (congrArg _ hb10)) (by decide) (Zw (v:=.bool false) (b:=false) (tr rfl (congrArg _ hb10)) rfl (done (Z1 (Zd (Ya rfl rfl (ZFc (Zt (Zd (Zn (Zr rfl rfl (Zb (v:=vI (Zwe.wrap ((i10:Int)+1))) rfl (done ?_)))))))))))))))))))))))))
      exact hK10 () _ _ ⟨(sl ⟨rfl,rfl,rfl,rfl,(tr rfl (congrArg _ (Z9 hi10 hN10))),trivial⟩),(hC.xM [1] rfl)⟩ h
  ·clear hC h
   rintro s10 e_ w19 K10 ⟨hS_,hC⟩ h
   rw [ue hS_]
   refine sr (Zo rfl rfl (dn (ZE9 (Ya rfl (decide_eq_false (by omega)) ?_))))
   refine ZFn (Zm (Zm (Z5 ?_)))
   refine Zd (sr (Zc (v:=.bool true) rfl (dn (ZFh ?_))))
   exact Zk rfl (Zg rfl) ⟨true,rfl,h,hC.below⟩ (.inl rfl)
  ·skip
   exact⟨(slq rfl),hC⟩
def Zez (a0:A8) (a1:List Int) (K:Int→Prop):Prop :=
 Yg (fun i10 (s10:Int) nx10=>((0≤(i10:Int)∧(i10:Int) < 8)∧nx10 (Zwe.wrap (s10+(Zwe.wrap ((a1.getD i10 Zt0) * (a0.get i10))))))) (fun (s10:Int)=>K s10) a1.length 0 0
theorem Zp1 (a0:A8) (a1:List Int)  {K:Int→Prop} (h:Zez a0 a1 K) (w0:World) (q1:ZHz.rep a1 [u1_0] fp1 w0) :
  Calls ZFb 112 #[.agg (ZE8 (ZE7 .i64 a0)),u1_0] w0 fun e w'=>∃ (r0:Int),
   e=.returned (vI r0)∧K r0∧Bel w0 w':=by
 unfold Zez at h
 refine cof Tryz.func112 rfl 24 Tryz.ntmps112 ?_
 have hC:=ZFu (X:=Nox) w0 [ZBl TInts a1 [u1_0] fp1] (al1 q1)
 refine sr (Yf (v:=.agg (ZE8 (ZE7 .i64 a0))) hC (ZE7 .i64 a0) rfl rfl fun b2 w4 hB_ hC=>Zc (v:=vI 0) rfl (dn (sr (Zc (v:=vI 0) rfl (dn (ZE9 (sr (Zb (v:=u1_0) rfl (Zx hC 0 rfl ZFs rfl (Zb (v:=vI 0) rfl (dn (ZFf ?_))))))))))))
 have hN10:a1.length≤9223372036854775807:=Y0 (hC.getP 0 rfl)
 refine Yp (S:=Int) _ _ (fun i10 s10 e_ w_=>Z2 e_ [(2,vQ b2),(5,vI s10),(8,u1_0),(9,vI (a1.length:Int)),(10,vI (i10:Int))]∧Ctx Nox w0 w_ [blk b2 110 (ZE7 .i64 a0)] [ZBl TInts a1 [u1_0] fp1]) a1.length ?_ ?_ (s0:=0) ?_ h
 ·clear hC h
  rintro i10 s10 e_ w10 nx10 K10 hi10 ⟨hS_,hC⟩ h hK10
  rw [ue hS_]
  refine sr (Zo rfl rfl (dn (ZE9 (Z8 rfl (decide_eq_true (by omega)) (ZFc (Zd (ZE9 (ZFf (sr (Zb (v:=vI (i10:Int)) rfl ?_))))))))))
  obtain ⟨Ad10,c10,hv10⟩:=Z3 (hC.getP 0 rfl) i10 hi10
  refine Yu (len:=a1.length) ZFs sc2.size (tr rfl hv10) rfl (ZFq _) (ZF8.2 hi10) (Xz (vI (a1.getD i10 Zt0)) (Yj (hC.getP 0 rfl) hv10 i10 hi10) sc2 rfl (Zc (v:=vI (i10:Int)) rfl (Zc (v:=vI (a1.getD i10 Zt0)) rfl (dn (Zn (Zb (v:=vI s10) rfl (Zb (v:=vI (a1.getD i10 Zt0)) rfl (Zb (v:=vI (i10:Int)) rfl ?_))))))))
  obtain ⟨⟨h10,h11⟩,h⟩:=h
  refine Xc i10 ZFw sc3.size rfl rfl h10 h11 (by omega) (Z6 hC 0 (vI (a0.get i10)) rfl sc3 rfl (ZFm _ _ (show i10 < 8 by omega)) (Zbg rfl rfl (Zr rfl rfl (Zc (v:=vI (Zwe.wrap (s10+(Zwe.wrap ((a1.getD i10 Zt0) * (a0.get i10)))))) rfl (done (Zt (Zd (Zn (Zr rfl rfl (Zb (v:=vI (Zwe.wrap ((i10:Int)+1))) rfl (done ?_)))))))))))
  exact hK10 (Zwe.wrap (s10+(Zwe.wrap ((a1.getD i10 Zt0) * (a0.get i10))))) _ _ ⟨(sl ⟨rfl,rfl,rfl,rfl,(tr rfl (congrArg _ (Z9 hi10 hN10))),trivial⟩),hC⟩ h
 ·clear hC h
  rintro s10 e_ w11 K10 ⟨hS_,hC⟩ h
  rw [ue hS_]
  refine sr (Zo rfl rfl (dn (ZE9 (Ya rfl (decide_eq_false (by omega)) ?_))))
  refine ZFn (Zm (Zm (Z5 ?_)))
  refine Zd (sr (Zb (v:=vI s10) rfl (Zc (v:=vI s10) rfl (dn (ZFh ?_)))))
  exact Zk rfl (Zg rfl) ⟨s10,rfl,h,hC.below⟩ (.inl rfl)
 ·skip
  exact⟨(slq rfl),hC⟩
def Ze0 (a0:List Int) (a1:ZFd) (K:Int→Bool→Prop):Prop :=
 Yg (fun i10 (s10:Int) nx10=>Zbq ((a1.terms.getD i10 Zt0).mono) (fun r11=>Zez r11 a0 (fun r10=>(if s10≥0 then(if r10≠s10 then K 0 false else nx10 r10) else nx10 r10)))) (fun (s10:Int)=>K s10 true) a1.terms.length 0 (-1)
theorem Zp2 (a0:List Int) (a1:ZFd)  {K:Int→Bool→Prop} (h:Ze0 a0 a1 K) (w0:World) (q0:ZHz.rep a0 [u0_0] fp0 w0) (q1:ZFv.rep a1 [u1_0] fp1 w0) :
  Calls ZFb 107 #[u0_0,.agg #[u1_0]] w0 fun e w'=>∃ (r0:Int) (r1:Bool),
   e=.returned (.tuple #[vI r0,.bool r1])∧K r0 r1∧Bel w0 w':=by
 unfold Ze0 at h
 refine cof Tryz.func107 rfl 32 Tryz.ntmps107 ?_
 have hC:=ZFu (X:=Nox) w0 [ZBl TInts a0 [u0_0] fp0,ZBl TForm a1 [u1_0] fp1] (alc q0 (al1 q1))
 have hp3:=(hC.getP 1 rfl)
 replace hC:=hC.derive 1 rfl (ZBl ZFa.ty.sl a1.terms [u1_0] fp1) (fun _=>(Yn hp3)) (fun _ hb_=>hb_)
 refine sr (Yf (v:=.agg #[u1_0]) hC [u1_0] rfl rfl fun b5 w7 hB_ hC=>Zc (v:=vI 0) rfl (Zc (v:=.bool false) rfl (dn (sr (Zc (v:=vI (-1)) rfl (dn (ZE9 (sr (Zz 0 ZFg rfl sc53.size rfl rfl (Z6 hC 0 (u1_0) rfl sc53 rfl rfl (Zx hC 0 rfl ZFj rfl (Zb (v:=vI 0) rfl (dn (ZFf ?_))))))))))))))
 have hN10:a1.terms.length≤9223372036854775807:=Y0 (hC.getP 0 rfl)
 refine Yp (S:=Int) _ _ (fun i10 s10 e_ w_=>Z2 e_ [(0,u0_0),(6,vI s10),(11,u1_0),(12,vI (a1.terms.length:Int)),(13,vI (i10:Int))]∧Ctx Nox w0 w_ [] [ZBl ZFa.ty.sl a1.terms [u1_0] fp1,ZBl TInts a0 [u0_0] fp0,ZBl TForm a1 [u1_0] fp1]) a1.terms.length ?_ ?_ (s0:=(-1)) ?_ h
 ·clear hC h
  rintro i10 s10 e_ w10 nx10 K10 hi10 ⟨hS_,hC⟩ h hK10
  rw [ue hS_]
  refine sr (Zo rfl rfl (dn (ZE9 (Z8 rfl (decide_eq_true (by omega)) (ZFc (Zd (ZE9 (ZFf (sr ?_)))))))))
  obtain ⟨Ad10,c10,hv10⟩:=Z3 (hC.getP 0 rfl) i10 hi10
  refine Yu (len:=a1.terms.length) ZFj ag90.size (tr rfl hv10) rfl (ZFq _) (ZF8.2 hi10) (X9 (ZFk (a1.terms.getD i10 Zt0)) (Yj (hC.getP 0 rfl) hv10 i10 hi10) ag90 rfl rfl (Yb hC (ZFk (⟨ZFe,0⟩:Term)) z90 rfl fun b10 w11 hB_ hC=>Zu (v:=.agg (ZE8 (ZFk (a1.terms.getD i10 Zt0)))) hC 0 (ZFk (a1.terms.getD i10 Zt0)) (ZFk (a1.terms.getD i10 Zt0)) rfl ag90.size rfl rfl rfl rfl rfl (ZFi rfl) rfl fun w12 hC=>dn (sr (Zz 0 ZFp rfl ag88.size rfl rfl (Yd hC 0 (ZE7 .u8 ((a1.terms.getD i10 Zt0).mono)) rfl ag88 rfl rfl rfl (Zf [.agg (ZE8 (ZE7 .u8 ((a1.terms.getD i10 Zt0).mono)))] _ Tryz.func85 rfl rfl rfl (Zgp ((a1.terms.getD i10 Zt0).mono) h _) ?_))))))
  rintro _ w13 ⟨r11,rfl,h,hB10⟩
  refine rt ?_
  replace hC:=hC.grow hB10
  refine Zb (v:=u0_0) rfl (Zf [.agg (ZE8 (ZE7 .i64 r11)),u0_0] _ Tryz.func112 rfl rfl rfl (Zp1 r11 a0 h _ (hC.getP 1 rfl)) ?_)
  rintro _ w14 ⟨r10,rfl,h,hB11⟩
  refine rt ?_
  replace hC:=hC.grow hB11
  refine Zc (v:=vI r10) rfl (dn (ZE9 (sr (Zb (v:=vI s10) rfl (Zbh rfl rfl (Zb (v:=.bool (decide (s10≥0))) rfl ?_))))))
  refine Yt (decide (s10≥0)) (fun hb10=>?_) (fun hb10=>?_)
  ·replace h:=ift h (ct hb10)
   refine Zi 2 24 rfl rfl hb10 (Zb (v:=vI r10) rfl (Zi 2 24 rfl rfl hb10 (Zb (v:=vI s10) rfl (Zi 2 24 rfl rfl hb10 (Y7 rfl rfl (Zw (v:=.bool (decide (r10≠s10))) (b:=true) (tr rfl (congrArg _ hb10)) rfl (dn ?_)))))))
   refine Zq rfl (fun hb11=>?_) (fun hb11=>?_)
   ·replace h:=ift h (ct hb11)
    refine sr (Zc (v:=vI 0) rfl (Zc (v:=.bool false) rfl (dn ?_)))
    refine ZFh (Ze (Zv (Ze (Ze (Zv (Ze ?_))))))
    exact Xy rfl (Zg rfl) (Zg rfl) ⟨0,false,rfl,h,hC.below⟩ (.inl rfl)
   ·replace h:=Zl h (cf hb11)
    refine ZFc (Zd (Zn (Zb (v:=vI r10) rfl (Zc (v:=vI r10) rfl (done (Zt (Zd (Zn (Zr rfl rfl (Zb (v:=vI (Zwe.wrap ((i10:Int)+1))) rfl (done ?_)))))))))))
    exact hK10 r10 _ _ ⟨(sl ⟨rfl,rfl,rfl,rfl,(tr rfl (congrArg _ (Z9 hi10 hN10))),trivial⟩),(hC.xM [] rfl)⟩ h
  ·replace h:=Zl h (cf hb10)
   refine Zh (b:=false) 2 24 rfl (tr rfl (congrArg _ hb10)) (by decide) (Zh (b:=false) 2 24 rfl (tr rfl (congrArg _ hb10)) (by decide) (Zh (b:=false) 2 24 rfl (tr rfl (congrArg _ hb10)) (by decide) (Zw (v:=.bool false) (b:=false) (tr rfl (congrArg _ hb10)) rfl (dn (Ya rfl rfl (ZFc (Zd (Zn (Zb (v:=vI r10) rfl (Zc (v:=vI r10) rfl (done (Zt (Zd (Zn (Zr rfl rfl (Zb (v:=vI (Zwe.wrap ((i10:Int)+1))) rfl (done ?_)))))))))))))))))
   exact hK10 r10 _ _ ⟨(sl ⟨rfl,rfl,rfl,rfl,(tr rfl (congrArg _ (Z9 hi10 hN10))),trivial⟩),(hC.xM [] rfl)⟩ h
 ·clear hC h
  rintro s10 e_ w15 K10 ⟨hS_,hC⟩ h
  rw [ue hS_]
  refine sr (Zo rfl rfl (dn (ZE9 (Ya rfl (decide_eq_false (by omega)) ?_))))
  refine ZFn (Zm (Zm (Z5 ?_)))
  refine Zd (sr (Zb (v:=vI s10) rfl (Zc (v:=vI s10) rfl (Zc (v:=.bool true) rfl (dn (ZFh ?_))))))
  exact Xy rfl (Zg rfl) (Zg rfl) ⟨s10,true,rfl,h,hC.below⟩ (.inl rfl)
 ·skip
  exact⟨(slq rfl),(hC.xM [] rfl)⟩
def Zdm (a0:List Int) (a1:ZFd) (a2:Int) (K:Bool→Prop):Prop :=
 Ze0 a0 a1 (fun r10 r11=>(if r11=true then(if r10=(-1) then K true else K (decide (r10=a2))) else K false))
theorem Zla (a0:List Int) (a1:ZFd) (a2:Int)  {K:Bool→Prop} (h:Zdm a0 a1 a2 K) (w0:World) (q0:ZHz.rep a0 [u0_0] fp0 w0) (q1:ZFv.rep a1 [u1_0] fp1 w0) :
  Calls ZFb 93 #[u0_0,.agg #[u1_0],vI a2] w0 fun e w'=>∃ (r0:Bool),
   e=.returned (.bool r0)∧K r0∧Bel w0 w':=by
 unfold Zdm at h
 refine cof Tryz.func93 rfl 25 Tryz.ntmps93 ?_
 have hC:=ZFu (X:=Nox) w0 [ZBl TInts a0 [u0_0] fp0,ZBl TForm a1 [u1_0] fp1] (alc q0 (al1 q1))
 have hp3:=(hC.getP 1 rfl)
 replace hC:=hC.derive 1 rfl (ZBl ZFa.ty.sl a1.terms [u1_0] fp1) (fun _=>(Yn hp3)) (fun _ hb_=>hb_)
 refine sr (Yf (v:=.agg #[u1_0]) hC [u1_0] rfl rfl fun b5 w7 hB_ hC=>Zc (v:=.bool false) rfl (dn (sr (Zb (v:=u0_0) rfl (Yd hC 0 [u1_0] rfl ag55 rfl rfl rfl (Zf [u0_0,.agg #[u1_0]] _ Tryz.func107 rfl rfl rfl (Zp2 a0 a1 h _ (hC.getP 1 rfl) (Yh (hC.getP 0 rfl))) ?_))))))
 rintro _ w10 ⟨r10,r11,rfl,h,hB10⟩
 refine rt ?_
 replace hC:=hC.grow hB10
 refine Zb (v:=.tuple #[vI r10,.bool r11]) rfl (Y2 (v:=vI r10) rfl rfl (Y2 (v:=.bool r11) rfl rfl (Zc (v:=vI r10) rfl (Zc (v:=.bool r11) rfl (dn (sr (Zb (v:=.bool r11) rfl (Zb (v:=.bool r11) rfl ?_))))))))
 refine Yt r11 (fun hb10=>?_) (fun hb10=>?_)
 ·replace h:=ift h (hb10)
  refine Zi 1 16 rfl rfl hb10 (Zb (v:=vI r10) rfl (Zi 1 16 rfl rfl hb10 (Jh rfl rfl (Zi 1 16 rfl rfl hb10 (Zb (v:=.bool (decide (r10=(-1)))) rfl ?_)))))
  refine Yt (decide (r10=(-1))) (fun hb11=>?_) (fun hb11=>?_)
  ·replace h:=ift h (ct hb11)
   refine Zh (b:=true) 4 19 rfl (tr rfl (congrArg _ hb11)) (by decide) (Zh (b:=true) 4 19 rfl (tr rfl (congrArg _ hb11)) (by decide) (Zh (b:=true) 4 19 rfl (tr rfl (congrArg _ hb11)) (by decide) (Zi 1 16 rfl rfl hb10 (Zw (v:=.bool true) (b:=true) (tr rfl (congrArg _ hb11)) rfl (Zw (v:=.bool true) (b:=true) (tr rfl (congrArg _ hb10)) rfl (Zc (v:=.bool true) rfl (dn (ZFh ?_))))))))
   exact Zk rfl (Zg rfl) ⟨true,rfl,h,hC.below⟩ (.inl rfl)
  ·replace h:=Zl h (cf hb11)
   refine Zi 4 19 rfl rfl hb11 (Zb (v:=vI r10) rfl (Zi 4 19 rfl rfl hb11 (Zb (v:=vI a2) rfl (Zi 4 19 rfl rfl hb11 (Jh rfl rfl (Zi 1 16 rfl rfl hb10 (Zw (v:=.bool (decide (r10=a2))) (b:=false) (tr rfl (congrArg _ hb11)) rfl (Zw (v:=.bool (decide (r10=a2))) (b:=true) (tr rfl (congrArg _ hb10)) rfl (Zc (v:=.bool (decide (r10=a2))) rfl (dn (ZFh ?_)))))))))))
   exact Zk rfl (Zg rfl) ⟨decide (r10=a2),rfl,h,hC.below⟩ (.inl rfl)
 ·replace h:=Zl h (Yq hb10)
  refine Zh (b:=false) 1 16 rfl (tr rfl (congrArg _ hb10)) (by decide) (Zh (b:=false) 1 16 rfl (tr rfl (congrArg _ hb10)) (by decide) (Zh (b:=false) 1 16 rfl (tr rfl (congrArg _ hb10)) (by decide) (Xg 4 19 rfl rfl (Xg 4 19 rfl rfl (Xg 4 19 rfl rfl (Zh (b:=false) 1 16 rfl (tr rfl (congrArg _ hb10)) (by decide) (Zw (v:=.bool false) (b:=false) (tr rfl (congrArg _ hb10)) rfl (Zc (v:=.bool false) rfl (dn (ZFh ?_))))))))))
  exact Zk rfl (Zg rfl) ⟨false,rfl,h,hC.below⟩ (.inl rfl)
def Ze1 (a0:Alg) (K:List (Option (List (A8×Int)))→Prop):Prop :=
 Yg (fun i10 (s10:(List (Option (List (A8×Int))))) nx10=>Zaw (a0.images.getD i10 Zt0) (fun r10=>((0≤(i10:Int)∧(i10:Int) < 8)∧nx10 (s10.set i10 (some r10))))) (fun (s10:(List (Option (List (A8×Int)))))=>K s10) a0.images.length 0 (Ztv 8 none:List (Option (List (A8×Int))))
theorem Zp3 (a0:Alg)  {K:List (Option (List (A8×Int)))→Prop} (h:Ze1 a0 K) (w0:World) (q0:TAlg.rep a0 [u0_0,u0_1] fp0 w0) (qb0:(blk b0 32 [u0_0,u0_1]).holds w0) :
  Calls ZFb 108 #[vQ b0] w0 fun e w'=>∃ (r0:List (Option (List (A8×Int)))) (zc0:List Value) (fz0:List Nat),
   e=.returned (.agg (ZE8 zc0))∧K r0∧(Je (kvA .i64) (vvI .i64) 8).rep r0 zc0 fz0 w'∧(∀ b,b∈fz0→w0.heap.size≤b)∧Bel w0 w':=by
 unfold Ze1 at h
 refine cof Tryz.func108 rfl 23 Tryz.ntmps108 ?_
 have hC:=ZFu (X:=Nox) w0 [ZBl TAlg a0 [u0_0,u0_1] fp0,blk b0 32 [u0_0,u0_1]] (alc q0 (al1 qb0))
 replace hC:=hC.dAlg 0 rfl
 refine sr (Yb hC (Ztv 8 (ZHy none)) Zin rfl fun b5 w7 hB_ hC=>dn (sr (Xp (v:=.agg (ZE8 (Ztv 8 (ZHy none)))) [] rfl (Zpn _) (Yb hC (Ztv 8 (ZHy none)) Zin rfl fun b8 w10 hB_ hC=>?_))))
 replace hC:=hC.pushE (ZBl (Je (kvA .i64) (vvI .i64) 8) (Ztv 8 none:List (Option (List (A8×Int)))) (Ztv 8 (ZHy none)) []) (Zgm (kvA .i64) (vvI .i64) 8 _) rfl
 replace hC:=hC.pushE (ZBl (Je (kvA .i64) (vvI .i64) 8) (Ztv 8 none:List (Option (List (A8×Int)))) (Ztv 8 (ZHy none)) []) (Zgm (kvA .i64) (vvI .i64) 8 _) rfl
 have hl10:=Za6 (hC.getP 1 rfl)
 have hl11:=Za6 (hC.getP 0 rfl)
 refine Zu (v:=.agg (ZE8 (Ztv 8 (ZHy none)))) hC 0 (Ztv 8 (ZHy none)) (Ztv 8 (ZHy none)) rfl ag145.size rfl rfl rfl hl11 (Zij (hC.getP 0 rfl)) (by rw [hl10]; exact Ztz _) (Zik (hl11.trans hl10.symm)) fun w11 hC=>dn (ZE9 (sr (Zb (v:=vQ b0) rfl (Za3 rfl (Zz 1 ZFt rfl sc28.size rfl rfl (Zb6 (u0_1) (hC.getP 5 rfl) sc28 rfl rfl (Zx hC 2 rfl ZFx rfl (Zb (v:=vI 0) rfl (dn (ZFf ?_))))))))))
 have hN10:a0.images.length≤9223372036854775807:=Y0 (hC.getP 2 rfl)
 refine Yp (S:=(List (Option (List (A8×Int))))) _ _ (fun i10 s10 e_ w_=>∃ (v10:List Value),∃ (f10:List Nat),Z2 e_ [(2,vQ b5),(3,vQ b8),(10,u0_1),(11,vI (a0.images.length:Int)),(12,vI (i10:Int))]∧(∀ b,b∈f10→w0.heap.size≤b)∧Ctx Nox w0 w_ [blk b8 145 v10,blk b5 145 (Ztv 8 (ZHy none))] [ZBl (Je (kvA .i64) (vvI .i64) 8) s10 v10 f10,ZBl ZFv.sl a0.images [u0_1] fp0,ZBl TInts a0.degrees [u0_0] fp0,ZBl TAlg a0 [u0_0,u0_1] fp0,blk b0 32 [u0_0,u0_1]]) a0.images.length ?_ ?_ (s0:=(Ztv 8 none:List (Option (List (A8×Int))))) ?_ h
 ·clear hC h
  rintro i10 s10 e_ w12 nx10 K10 hi10 ⟨v10,f10,hS_,hq10,hC⟩ h hK10
  rw [ue hS_]
  refine sr (Zo rfl rfl (dn (ZE9 (Z8 rfl (decide_eq_true (by omega)) (ZFc (Zd (ZE9 (ZFf (sr (Zb (v:=vI (i10:Int)) rfl ?_))))))))))
  obtain ⟨Ad10,c10,hv10⟩:=Z3 (hC.getP 1 rfl) i10 hi10
  refine Yu (len:=a0.images.length) ZFx ag55.size (tr rfl hv10) rfl (ZFq _) (ZF8.2 hi10) ?_
  obtain ⟨cs_,hl12,hc10,hr10⟩:=Xh (hC.getP 1 rfl) hv10 i10 hi10
  obtain ⟨u10,rfl⟩:=ZF7.1 hl12
  clear hl12
  rw [Xf _ _ hi10] at hr10
  have hp10:=hr10
  replace hC:=hC.derive 1 rfl (ZBl ZFa.ty.sl ((a0.images.getD i10 Zt0).terms) [u10] fp0) (fun _=>(Yn hp10)) (fun _ hb_=>hb_)
  refine X9 [u10] hc10 ag55 rfl rfl (Yb hC [.slice none 0 0] z55 rfl fun b11 w13 hB_ hC=>Zc (v:=vI (i10:Int)) rfl (Zu (v:=.agg #[u10]) hC 0 [u10] [u10] rfl ag55.size rfl rfl rfl rfl (Ym (J2 (hC.getP 0 rfl)) rfl) (ZFi rfl) rfl fun w14 hC=>dn (Zn (Zb (v:=vI (i10:Int)) rfl (Yd hC 0 [u10] rfl ag55 rfl rfl rfl (Zf [.agg #[u10]] _ Tryz.func64 rfl rfl rfl (Zdj (a0.images.getD i10 Zt0) h _ (Yh (hC.getP 0 rfl))) ?_))))))
  rintro _ w15 ⟨r10,b10,rfl,h,hr11,hf10,hB10⟩
  refine rt ?_
  replace hC:=hC.push hB10 (mapS b10 r10) hr11 (fun b_ hb_=>by obtain rfl:=Zvn.1 hb_; exact hf10)
  obtain ⟨⟨h10,h11⟩,h⟩:=h
  refine Xc i10 Tryz.underlying145 sc99.size rfl rfl h10 h11 (by omega) ?_
  have hf11:=Zei hC 0 rfl
  replace hC:=hC.thaw 0 rfl (mapS b10 r10) id (fun _ hb_=>hb_)
  replace hC:=hC.joinP 0 2 rfl rfl (ZBl (Je (kvA .i64) (vvI .i64) 8) (s10.set i10 (some r10)) (v10.set i10 (ZHy (some b10))) (b10::f10)) (fun a_ b_=>Zo7 b_ a_) (fun c_ hc_=>(Ztw.1 hc_).elim (fun h_=>.inl (by rw [h_]; exact Zvn.2 rfl)) .inr)
  have hs10:∀ b,b∈(b10::f10)→w0.heap.size≤b:=(fun b hb=>(Ztw.1 hb).elim (fun h_=>by rw [h_]; exact hf11) (fun hb=>hq10 b hb))
  have hl13:=Za6 (hC.getP 3 rfl)
  refine Zu (v:=.map (some b10)) hC 1 [.map (some b10)] (v10.set i10 (ZHy (some b10))) rfl sc99.size rfl rfl rfl rfl rfl (by rw [hl13]; omega) (Zpb (by rw [hl13]; omega) (by omega)) fun w16 hC=>done (Zt (Zd (Zn (Zr rfl rfl (Zb (v:=vI (Zwe.wrap ((i10:Int)+1))) rfl (done ?_))))))
  exact hK10 (s10.set i10 (some r10)) _ _ ⟨v10.set i10 (ZHy (some b10)),(b10::f10),(sl ⟨rfl,rfl,rfl,rfl,(tr rfl (congrArg _ (Z9 hi10 hN10))),trivial⟩),hs10,((hC.xM [1,2] rfl).sP [0,4,5,6,7] rfl)⟩ h
 ·clear hC h
  rintro s10 e_ w17 K10 ⟨v10,f10,hS_,hq10,hC⟩ h
  rw [ue hS_]
  refine sr (Zo rfl rfl (dn (ZE9 (Ya rfl (decide_eq_false (by omega)) ?_))))
  refine ZFn (Zm (Zm (Z5 ?_)))
  refine Zd (sr ?_)
  have hl14:=Za6 (hC.getP 0 rfl)
  refine Yd hC 0 v10 rfl ag145 rfl (Zo9 hl14) hl14 ?_
  replace hC:=hC.pushE (ZBl (Je (kvA .i64) (vvI .i64) 8) (Ztv 8 none:List (Option (List (A8×Int)))) (Ztv 8 (ZHy none)) []) (Zgm (kvA .i64) (vvI .i64) 8 _) rfl
  have hl15:=Za6 (hC.getP 0 rfl)
  have hl16:=Za6 (hC.getP 1 rfl)
  refine Zu (v:=.agg (ZE8 v10)) hC 1 v10 v10 rfl ag145.size rfl rfl rfl hl16 (Zij (hC.getP 1 rfl)) (by rw [hl15]; exact Ztz _) (Zik (hl16.trans hl15.symm)) fun w18 hC=>dn (ZFh ?_)
  exact Zk rfl (X3 hC 1 rfl ag145 rfl (Za6 (hC.getP 1 rfl))) ⟨s10,v10,f10,rfl,h,(hC.getP 1 rfl),(fun b hb=>hq10 b hb),hC.below⟩ (.inl rfl)
 ·skip
  exact⟨Ztv 8 (ZHy none),[],(slq rfl),(fun b hb=>absurd hb (by simp)),(hC.sP [0,2,3,4,5] rfl)⟩
def Zdn (a0:Alg) (a1:List (A8×Int)) (K:List (A8×Int)→Prop):Prop :=
 Ze1 a0 (fun r11=>Zaf (fun (q10:A8×Int) (s12:(List (A8×Int))) nx11=>Yg (fun i10 (s10:A8×(List (A8×Int))×Int) nx10=>(if q10.1.get i10 > 0 then Jc (fun (s11:A8×Int) nx12=>(if s11.2 < Zwe.wrap ((i10:Int)+1) then((0≤s11.2∧s11.2 < 8)∧nx12 (s11.1.set s11.2.toNat 0,Zwe.wrap (s11.2+1))) else(∃ ml10,r11[i10]? = some (some ml10)∧J4 (Yk ([]:List (A8×Int)) (s10.1.set i10 (Zwe.wrap ((q10.1.get i10) - 1))) 1) a0.degrees ml10 (fun r13=>J4 r13 a0.degrees (Yk ([]:List (A8×Int)) s11.1 1) (fun r14=>Zbp (Zwe.wrap ((Zwe.wrap (s10.2.2 * q10.2)) * (q10.1.get i10))) (fun r12=>Zax s10.2.1 r14 r12 (fun m10=>(if(i10:Int) < (a0.degrees.length:Int) then((0≤(i10:Int)∧(i10:Int) < (a0.degrees.length:Int))∧(if Zul (a0.degrees.getD i10 Zt0) 2=1 then(if Zul (q10.1.get i10) 2=1 then nx10 (s10.1.set i10 (q10.1.get i10),m10,Zwe.wrap (0 - s10.2.2)) else nx10 (s10.1.set i10 (q10.1.get i10),m10,s10.2.2)) else nx10 (s10.1.set i10 (q10.1.get i10),m10,s10.2.2))) else nx10 (s10.1.set i10 (q10.1.get i10),m10,s10.2.2))))))))) (q10.1,0) else(if(i10:Int) < (a0.degrees.length:Int) then((0≤(i10:Int)∧(i10:Int) < (a0.degrees.length:Int))∧(if Zul (a0.degrees.getD i10 Zt0) 2=1 then(if Zul (q10.1.get i10) 2=1 then nx10 (s10.1.set i10 (q10.1.get i10),s10.2.1,Zwe.wrap (0 - s10.2.2)) else nx10 (s10.1.set i10 (q10.1.get i10),s10.2.1,s10.2.2)) else nx10 (s10.1.set i10 (q10.1.get i10),s10.2.1,s10.2.2))) else nx10 (s10.1.set i10 (q10.1.get i10),s10.2.1,s10.2.2)))) (fun (s10:A8×(List (A8×Int))×Int)=>nx11 s10.2.1) 8 0 (ZFe,s12,1)) (fun (s12:(List (A8×Int)))=>K s12) a1.length a1 ([]:List (A8×Int)))
theorem Zlb (a0 : Alg) (a1 : List (A8 × Int))  {K : List (A8 × Int) → Prop} (h : Zdn a0 a1 K) (w0 : World) (q0 : TAlg.rep a0 [u0_0, u0_1] fp0 w0) (qb0 : (blk b0 32 [u0_0, u0_1]).holds w0) (q1 : (mapS b1 a1).holds w0) :
  Calls ZFb 95 #[vQ b0,.map (some b1)] w0 fun e w'=>∃ (r0:List (A8×Int)) (zb0:Nat),
   e=.returned (.map (some zb0))∧K r0∧(mapS zb0 r0).holds w'∧w0.heap.size≤zb0∧Bel w0 w':=by
 unfold Zdn at h
 refine cof Tryz.func95 rfl 107 Tryz.ntmps95 ?_
 have hC:=ZFu (X:=Nox) w0 [ZBl TAlg a0 [u0_0,u0_1] fp0,blk b0 32 [u0_0,u0_1],mapS b1 a1] (alc q0 (alc qb0 (al1 q1)))
 replace hC:=hC.dAlg 0 rfl
 refine sr (Zc (v:=.map none) rfl (dn (sr (Zbk hC (kvA .i64) (vvI .i64) fun b6 w8 hB_ hC=>Zb (v:=vQ b0) rfl (Zf [vQ b0] _ Tryz.func108 rfl rfl rfl (Zp3 a0 h _ (Yi (hC.getP 1 rfl) (hC.getP 0 rfl)) (hC.getP 3 rfl)) ?_)))))
 rintro _ w11 ⟨r11,cs10,f10,rfl,h,hr10,hf10,hB10⟩
 refine rt ?_
 have hs10:=Zn1 hC.size hf10
 replace hC:=hC.pushR hB10 (ZBl (Je (kvA .i64) (vvI .i64) 8) r11 cs10 f10) hr10 (fun b hb=>.inl (hf10 b hb))
 refine Yb hC (Ztv 8 (ZHy none)) Zin rfl fun b11 w12 hB_ hC=>Zc (v:=.map (some b6)) rfl ?_
 replace hC:=hC.pushE (ZBl (Je (kvA .i64) (vvI .i64) 8) (Ztv 8 none:List (Option (List (A8×Int)))) (Ztv 8 (ZHy none)) []) (Zgm (kvA .i64) (vvI .i64) 8 _) rfl
 have hl10:=Za6 (hC.getP 0 rfl)
 have hl11:=Za6 (hC.getP 1 rfl)
 refine Zu (v:=.agg (ZE8 cs10)) hC 0 cs10 cs10 rfl ag145.size rfl rfl rfl hl11 (Zij (hC.getP 1 rfl)) (by rw [hl10]; exact Ztz _) (Zik (hl11.trans hl10.symm)) fun w13 hC=>dn (ZE9 (sr (Zb (v:=.map (some b1)) rfl (Zc2 hC 6 rfl ZF5 rfl fun r10 es10 ck10 w14 hB_ hn10 hbn10 hC=>dn (ZFf ?_)))))
 refine Zc6 (S:=(List (A8×Int))) _ _ (fun l11 s12 e_ w_=>∃ (la10:Option MapEntry),Z2 e_ [(0,vQ b0),(5,.map (some b6)),(6,vQ b11),(21,vQ r10)]∧Ctx Nox w0 w_ [itI (kvA .i64) (vvI .i64) r10 b1 es10 ck10 la10 l11,blk b11 145 cs10,mapS b6 s12] [Jw b1 es10 ck10,ZBl (Je (kvA .i64) (vvI .i64) 8) r11 cs10 f10,ZBl ZFv.sl a0.images [u0_1] fp0,ZBl TInts a0.degrees [u0_0] fp0,ZBl TAlg a0 [u0_0,u0_1] fp0,blk b0 32 [u0_0,u0_1],mapS b1 a1]) ?_ (l0:=a1) (s0:=([]:List (A8×Int))) ?_ h
 ·clear hC h
  rintro l11 s12 e_ w15 nx11 K11 ⟨la10,hS_,hC⟩ h hK11
  rw [ue hS_]
  refine sr ?_
  refine Zc3 hC 0 0 rfl rfl hn10 hbn10 rfl (fun hr11=>?_) (fun q10 l10 ent10 w16 hp10 hk10 hv12 hC=>?_)
  ·replace h:=h.1 hr11
   refine Y2 (v:=.bool false) rfl rfl (dn (ZE9 (Ya rfl rfl ?_)))
   refine ZFn (Zm (Zm (Z5 ?_)))
   refine Zd (sr (Zb (v:=.map (some b6)) rfl (Zc (v:=.map (some b6)) rfl (dn (ZFh ?_)))))
   exact Zk rfl (Zg rfl) ⟨s12,b6,rfl,h,(hC.getM 2 rfl),(Zei hC 2 rfl),hC.below⟩ (.inl rfl)
  ·replace h := h.2 q10 l10 hp10
   refine Y2 (v:=.bool true) rfl rfl (dn (ZE9 (Z8 rfl rfl (ZFc (Zd (ZFf (sr (Zc4 hC 0 0 q10 rfl rfl hn10 rfl hk10 hv12 (Y2 (v:=.agg (ZE8 (ZE7 .i64 q10.1))) rfl rfl (Y2 (v:=vI q10.2) rfl rfl (Yb hC (ZE7 .i64 ZFe) J3 rfl fun b14 w17 hB_ hC=>Zu (v:=.agg (ZE8 (ZE7 .i64 q10.1))) hC 0 (ZE7 .i64 q10.1) (ZE7 .i64 q10.1) rfl ag110.size rfl rfl rfl rfl rfl (ZFi rfl) rfl fun w18 hC=>Zc (v:=vI q10.2) rfl (dn (sr (Xp [] rfl (Zgo   _) (Yb hC (ZE7 .i64 ZFe) J3 rfl fun b15 w19 hB_ hC=>Zu (v:=.agg (ZE8 (ZE7 .i64 ZFe))) hC 0 (ZE7 .i64 ZFe) (ZE7 .i64 ZFe) rfl ag110.size rfl rfl rfl rfl rfl (ZFi rfl) rfl fun w20 hC=>Zc (v:=vI 1) rfl (dn (sr (Yd hC 1 (ZE7 .i64 q10.1) rfl ag110 rfl rfl rfl (Zb (v:=vI 0) rfl (dn (ZFf ?_)))))))))))))))))))))
   refine Yp (S:=A8×(List (A8×Int))×Int) _ _ (fun i10 s10 e_ w_=>Z2 e_ [(0,vQ b0),(5,.map (some b6)),(6,vQ b11),(7,vQ b14),(8,vI q10.2),(9,vQ b15),(10,vI s10.2.2),(21,vQ r10),(28,.agg (ZE8 (ZE7 .i64 q10.1))),(29,vI (i10:Int))]∧Ctx Nox w0 w_ [blk b15 110 (ZE7 .i64 s10.1),blk b14 110 (ZE7 .i64 q10.1),itI (kvA .i64) (vvI .i64) r10 b1 es10 ck10 (some ent10) l10,blk b11 145 cs10,mapS b6 s10.2.1] [Jw b1 es10 ck10,ZBl (Je (kvA .i64) (vvI .i64) 8) r11 cs10 f10,ZBl ZFv.sl a0.images [u0_1] fp0,ZBl TInts a0.degrees [u0_0] fp0,ZBl TAlg a0 [u0_0,u0_1] fp0,blk b0 32 [u0_0,u0_1],mapS b1 a1]) 8 ?_ ?_ (s0:=(ZFe,s12,1)) ?_ h
   ·clear hC h
    rintro i10 s10 e_ w21 nx10 K10 hi10 ⟨hS_,hC⟩ h hK10
    rw [ue hS_]
    refine sr (Zo rfl rfl (dn (ZE9 (Z8 rfl (decide_eq_true (by omega)) (ZFc (Zd (ZE9 (ZFf (sr (Zb (v:=vI (i10:Int)) rfl (Zf0 (vI (q10.1.get i10)) ZFw rfl rfl (ZFq _) (by omega) sc3 (ZFm _ _ hi10) (Zc (v:=vI (i10:Int)) rfl (Zc (v:=vI (q10.1.get i10)) rfl (dn (ZE9 (sr (Zb (v:=vI (q10.1.get i10)) rfl (Xx rfl rfl (dn ?_)))))))))))))))))))
    refine Zq rfl (fun hb14=>?_) (fun hb14=>?_)
    ·replace h:=ift h (ct hb14)
     refine sr (Yd hC 1 (ZE7 .i64 q10.1) rfl ag110 rfl rfl rfl (Yb hC (ZE7 .i64 ZFe) J3 rfl fun b30 w22 hB_ hC=>Zu (v:=.agg (ZE8 (ZE7 .i64 q10.1))) hC 0 (ZE7 .i64 q10.1) (ZE7 .i64 q10.1) rfl ag110.size rfl rfl rfl rfl rfl (ZFi rfl) rfl fun w23 hC=>dn (ZE9 (sr (Zb (v:=vI (i10:Int)) rfl (Zr rfl rfl (Zb (v:=vI 0) rfl (dn (ZFf ?_)))))))))
     refine Jk (S:=A8×Int) _ (fun s11 e_ w_=>Z2 e_ [(0,vQ b0),(5,.map (some b6)),(6,vQ b11),(7,vQ b14),(8,vI q10.2),(9,vQ b15),(10,vI s10.2.2),(11,vI (i10:Int)),(12,vI (q10.1.get i10)),(13,vQ b30),(21,vQ r10),(28,.agg (ZE8 (ZE7 .i64 q10.1))),(29,vI (i10:Int)),(37,vI (Zwe.wrap ((i10:Int)+1))),(38,vI s11.2)]∧Ctx Nox w0 w_ [blk b30 110 (ZE7 .i64 s11.1),blk b15 110 (ZE7 .i64 s10.1),blk b14 110 (ZE7 .i64 q10.1),itI (kvA .i64) (vvI .i64) r10 b1 es10 ck10 (some ent10) l10,blk b11 145 cs10,mapS b6 s10.2.1] [Jw b1 es10 ck10,ZBl (Je (kvA .i64) (vvI .i64) 8) r11 cs10 f10,ZBl ZFv.sl a0.images [u0_1] fp0,ZBl TInts a0.degrees [u0_0] fp0,ZBl TAlg a0 [u0_0,u0_1] fp0,blk b0 32 [u0_0,u0_1],mapS b1 a1]) ?_ (s0:=(q10.1,0)) ?_ h
     ·clear hC h
      rintro s11 e_ w24 nx12 K12 ⟨hS_,hC⟩ h hK12
      rw [ue hS_]
      refine sr (Zo rfl rfl (dn (ZE9 ?_)))
      refine Zq rfl (fun hb15=>?_) (fun hb15=>?_)
      ·replace h:=ift h (ct hb15)
       refine ZFc (Zd (ZE9 (ZFf (sr (Zb (v:=vI s11.2) rfl (Zc (v:=vI s11.2) rfl (dn (Zn (Zb (v:=vI s11.2) rfl ?_)))))))))
       obtain ⟨⟨h10,h11⟩,h⟩:=h
       refine Xc s11.2.toNat ZFw sc3.size rfl rfl h10 h11 (by omega) (Zu (v:=vI 0) hC 0 [vI 0] (ZE7 .i64 (s11.1.set s11.2.toNat 0)) rfl sc3.size rfl rfl rfl rfl rfl (show s11.2.toNat < 8 by omega) (ZF3 _ _ _ (show s11.2.toNat < 8 by omega)) fun w25 hC=>done (Zt (Zd (Zn (Zr rfl rfl (Zb (v:=vI (Zwe.wrap (s11.2+1))) rfl (done ?_)))))))
       exact hK12 (s11.1.set s11.2.toNat 0,Zwe.wrap (s11.2+1)) _ _ ⟨(slq rfl),hC⟩ h
      ·replace h:=Zl h (cf hb15)
       refine ZFn (Zm (Zm (Z5 ?_)))
       refine Zd (sr (Yd hC 1 (ZE7 .i64 s10.1) rfl ag110 rfl rfl rfl (Yb hC (ZE7 .i64 ZFe) J3 rfl fun b43 w26 hB_ hC=>Zu (v:=.agg (ZE8 (ZE7 .i64 s10.1))) hC 0 (ZE7 .i64 s10.1) (ZE7 .i64 s10.1) rfl ag110.size rfl rfl rfl rfl rfl (ZFi rfl) rfl fun w27 hC=>dn (sr (Zb (v:=vI (i10:Int)) rfl (Zb (v:=vI (q10.1.get i10)) rfl (Zb2 rfl rfl (Xc i10 ZFw sc3.size rfl rfl (ZFq _) (by omega) (by omega) (Zu (v:=vI (Zwe.wrap ((q10.1.get i10) - 1))) hC 0 [vI (Zwe.wrap ((q10.1.get i10) - 1))] (ZE7 .i64 (s10.1.set i10 (Zwe.wrap ((q10.1.get i10) - 1)))) rfl sc3.size rfl rfl rfl rfl rfl hi10 (ZF3 _ _ _ hi10) fun w28 hC=>dn (ZE9 ?_))))))))))
       refine Zkz 20 mixed [0,0,3,7,0,16,48,112,0,256,768,2047,0,4096,12288,28672,0,0,196608,458752,1048575,2097151] [1,7,9,10,15,17] [3,4,5,6,8,12,13,14,19] (fun hM11 hM10 w10 hB_=>?_)
       replace hC:=hC.grow hB_
       have hN_:w10.heap.size≤w10.heap.size:=Ztz _
       refine Ja (Xa _) 1 (.agg (ZE8 (ZE7 .i64 (s10.1.set i10 (Zwe.wrap ((q10.1.get i10) - 1)))))) rfl rfl (by kernel_rfl) (hM11 1 rfl) (fun w_ hB_=>.inl ⟨rfl,by exact Yo (hC.grow (Zcd hB_)) 0 (ZE7 .i64 (s10.1.set i10 (Zwe.wrap ((q10.1.get i10) - 1)))) rfl ag110 rfl rfl rfl⟩) (l9:=(Za 22 2)) (by kernel_rfl) (bMR (Xa _) 4 (vQ b0) rfl hM10 (Za 22 18) (Zp (Xa _) 5 (vQ b0) rfl rfl (by kernel_rfl) (hM10 5 rfl) (fun w_=>.inl ⟨rfl,by exact Jn rfl⟩) (l9:=(Za 22 50)) (by kernel_rfl) (Zp (Xa _) 6 (vQ b0) rfl rfl (by kernel_rfl) (hM10 6 rfl) (fun w_=>.inl ⟨rfl,by exact Ye 0 ZFt rfl sc22.size rfl rfl⟩) (l9:=(Za 22 114)) (by kernel_rfl) (Ja (Xa _) 7 (u0_0) rfl rfl (by kernel_rfl) (hM11 7 rfl) (fun w_ hB_=>.inl ⟨rfl,by exact Zae (u0_0) ((hC.grow (Zcd hB_)).getP 5 rfl) sc22 rfl rfl⟩) (l9:=(Za 22 242)) (by kernel_rfl) (bMR (Xa _) 8 (vI (i10:Int)) rfl hM10 (Za 22 498) (Ja (Xa _) 9 (.pointer (some ⟨b11,i10,none⟩)) rfl rfl (by kernel_rfl) (hM11 9 rfl) (fun w_ hB_=>.inl ⟨rfl,by exact Jb i10 Tryz.underlying145 sc99.size rfl rfl (ZFq _) (by omega) (by omega)⟩) (l9:=(Za 22 1010)) (by kernel_rfl) ?_))))))
       obtain ⟨ml10,hl12,h⟩:=h
       obtain ⟨b10,hb18,hbf10,hm10⟩:=Zo8 (hC.getP 1 rfl) hl12
       replace hC:=hC.derive 1 rfl (mapS b10 ml10) (fun _=>hm10) (fun c_ hc_=>by obtain rfl:=Zvn.1 hc_; exact hbf10)
       refine Ja (Xa _) 10 (.map (some b10)) rfl rfl (by kernel_rfl) (hM11 10 rfl) (fun w_ hB_=>.inl ⟨rfl,by exact Yc (hC.grow (Zcd hB_)) 5 (.map (some b10)) rfl sc99 rfl (Zpa hb18 (by omega))⟩) (l9:=(Za 22 2034)) (by kernel_rfl) (bMR (Xa _) 12 (vQ b0) rfl hM10 (Za 22 6130) (Zp (Xa _) 13 (vQ b0) rfl rfl (by kernel_rfl) (hM10 13 rfl) (fun w_=>.inl ⟨rfl,by exact Jn rfl⟩) (l9:=(Za 22 14322)) (by kernel_rfl) (Zp (Xa _) 14 (vQ b0) rfl rfl (by kernel_rfl) (hM10 14 rfl) (fun w_=>.inl ⟨rfl,by exact Ye 0 ZFt rfl sc22.size rfl rfl⟩) (l9:=(Za 22 30706)) (by kernel_rfl) (Ja (Xa _) 15 (u0_0) rfl rfl (by kernel_rfl) (hM11 15 rfl) (fun w_ hB_=>.inl ⟨rfl,by exact Zae (u0_0) ((hC.grow (Zcd hB_)).getP 6 rfl) sc22 rfl rfl⟩) (l9:=(Za 22 63474)) (by kernel_rfl) (Ja (Xa _) 17 (.agg (ZE8 (ZE7 .i64 s11.1))) rfl rfl (by kernel_rfl) (hM11 17 rfl) (fun w_ hB_=>.inl ⟨rfl,by exact Yo (hC.grow (Zcd hB_)) 1 (ZE7 .i64 s11.1) rfl ag110 rfl rfl rfl⟩) (l9:=(Za 22 194546)) (by kernel_rfl) ?_)))))
       refine Zeg (fun e_ w_=>∃ (b17:Nat),∃ (r15:List (A8×Int)),Z2 e_ [(0,vQ b0),(5,.map (some b6)),(6,vQ b11),(7,vQ b14),(8,vI q10.2),(9,vQ b15),(10,vI s10.2.2),(11,vI (i10:Int)),(12,vI (q10.1.get i10)),(16,.map (some b17)),(21,vQ r10),(28,.agg (ZE8 (ZE7 .i64 q10.1))),(29,vI (i10:Int))]∧Ctx Nox w0 w_ [mapS b17 r15,blk b15 110 (ZE7 .i64 s10.1),blk b14 110 (ZE7 .i64 q10.1),itI (kvA .i64) (vvI .i64) r10 b1 es10 ck10 (some ent10) l10,blk b11 145 cs10,mapS b6 s10.2.1] [Jw b1 es10 ck10,ZBl (Je (kvA .i64) (vvI .i64) 8) r11 cs10 f10,ZBl ZFv.sl a0.images [u0_1] fp0,ZBl TInts a0.degrees [u0_0] fp0,ZBl TAlg a0 [u0_0,u0_1] fp0,blk b0 32 [u0_0,u0_1],mapS b1 a1]∧(Zbp (Zwe.wrap ((Zwe.wrap (s10.2.2 * q10.2)) * (q10.1.get i10))) (fun r12=>Zax s10.2.1 r15 r12 (fun m10=>(if(i10:Int) < (a0.degrees.length:Int) then((0≤(i10:Int)∧(i10:Int) < (a0.degrees.length:Int))∧(if Zul (a0.degrees.getD i10 Zt0) 2=1 then(if Zul (q10.1.get i10) 2=1 then nx10 (s10.1.set i10 (q10.1.get i10),m10,Zwe.wrap (0 - s10.2.2)) else nx10 (s10.1.set i10 (q10.1.get i10),m10,s10.2.2)) else nx10 (s10.1.set i10 (q10.1.get i10),m10,s10.2.2))) else nx10 (s10.1.set i10 (q10.1.get i10),m10,s10.2.2)))))) ?_ ?_
       ·clear hC h
        rintro e_ w29 ⟨b17,r15,hS_,hC,h⟩
        rw [ue hS_]
        refine Zd (Zn (Zb (v:=.map (some b6)) rfl (Zb (v:=.map (some b17)) rfl (Zb (v:=vI s10.2.2) rfl (Zb (v:=vI q10.2) rfl (Zbg rfl rfl (Zb (v:=vI (q10.1.get i10)) rfl (Zbg rfl rfl (Zf [vI (Zwe.wrap ((Zwe.wrap (s10.2.2 * q10.2)) * (q10.1.get i10)))] _ Tryz.func109 rfl rfl rfl (Zk5 (Zwe.wrap ((Zwe.wrap (s10.2.2 * q10.2)) * (q10.1.get i10))) h _) ?_)))))))))
        rintro _ w30 ⟨r12,rfl,h,hB11⟩
        refine rt ?_
        replace hC:=hC.grow hB11
        refine Zf [.map (some b6),.map (some b17),vI r12] _ Tryz.func89 rfl rfl rfl (Zgr s10.2.1 r15 r12 h _ (hC.getM 5 rfl) (fun c_ hc_ e_=>hC.mm 0 5 rfl rfl (by decide) c_ hc_ (Zvn.2 e_)) (hC.getM 0 rfl)) ?_
        rintro _ w31 ⟨m10,rfl,h,hm11,hB12⟩
        refine rt ?_
        replace hC:=hC.turnB 5 rfl hB12 rfl rfl hm11
        refine dn (sr (Zb (v:=vI (i10:Int)) rfl (Zb (v:=vI (q10.1.get i10)) rfl (Xc i10 ZFw sc3.size rfl rfl (ZFq _) (by omega) (by omega) (Zu (v:=vI (q10.1.get i10)) hC 1 [vI (q10.1.get i10)] (ZE7 .i64 (s10.1.set i10 (q10.1.get i10))) rfl sc3.size rfl rfl rfl rfl rfl hi10 (ZF3 _ _ _ hi10) fun w32 hC=>dn (sr (Zb (v:=vI (i10:Int)) rfl (Zb (v:=vQ b0) rfl (Za3 rfl (Zz 0 ZFt rfl sc22.size rfl rfl (Zb6 (u0_0) (hC.getP 5 rfl) sc22 rfl rfl (Zx hC 3 rfl ZFs rfl (Zo rfl rfl (Zb (v:=.bool (decide ((i10:Int) < (a0.degrees.length:Int)))) rfl ?_))))))))))))))
        refine Yt (decide ((i10:Int) < (a0.degrees.length:Int))) (fun hb10=>?_) (fun hb10=>?_)
        ·replace h:=ift h (ct hb10)
         refine Zi 7 87 rfl rfl hb10 (Zb (v:=vQ b0) rfl (Zi 7 87 rfl rfl hb10 (Za3 rfl (Zi 7 87 rfl rfl hb10 (Zz 0 ZFt rfl sc22.size rfl rfl (Zi 7 87 rfl rfl hb10 (Zb6 (u0_0) (hC.getP 5 rfl) sc22 rfl rfl (Zi 7 87 rfl rfl hb10 (Zb (v:=vI (i10:Int)) rfl (Zi 7 87 rfl rfl hb10 ?_))))))))))
         obtain ⟨⟨h12,h13⟩,h⟩:=h
         obtain ⟨Ad10,c10,hv10⟩:=Z3 (hC.getP 3 rfl) i10 (show i10 < a0.degrees.length by omega)
         refine Yu (len:=a0.degrees.length) ZFs sc2.size (tr rfl hv10) rfl h12 h13 (Zi 7 87 rfl rfl hb10 (Xz (vI (a0.degrees.getD i10 Zt0)) (Yj (hC.getP 3 rfl) hv10 i10 (show i10 < a0.degrees.length by omega)) sc2 rfl (Zi 7 87 rfl rfl hb10 (Jj rfl rfl (by decide) (Zi 7 87 rfl rfl hb10 (Jh rfl rfl (Zw (v:=.bool (decide (Zul (a0.degrees.getD i10 Zt0) 2=1))) (b:=true) (tr rfl (congrArg _ hb10)) rfl (Zb (v:=.bool (decide (Zul (a0.degrees.getD i10 Zt0) 2=1))) rfl ?_))))))))
         refine Yt (decide (Zul (a0.degrees.getD i10 Zt0) 2=1)) (fun hb12=>?_) (fun hb12=>?_)
         ·replace h:=ift h (ct hb12)
          refine Zi 18 98 rfl rfl hb12 (Zb (v:=vI (q10.1.get i10)) rfl (Zi 18 98 rfl rfl hb12 (Jj rfl rfl (by decide) (Zi 18 98 rfl rfl hb12 (Jh rfl rfl (Zw (v:=.bool (decide (Zul (q10.1.get i10) 2=1))) (b:=true) (tr rfl (congrArg _ hb12)) rfl (dn ?_)))))))
          refine Zq rfl (fun hb16=>?_) (fun hb16=>?_)
          ·replace h:=ift h (ct hb16)
           refine Zn (Zb (v:=vI s10.2.2) rfl (Zfy rfl (Zc (v:=vI (Zwe.wrap (0 - s10.2.2))) rfl (done (Zt (Zd (Zn (Zr rfl rfl (Zb (v:=vI (Zwe.wrap ((i10:Int)+1))) rfl (done ?_))))))))))
           exact hK10 (s10.1.set i10 (q10.1.get i10),m10,Zwe.wrap (0 - s10.2.2)) _ _ ⟨(sl ⟨rfl,rfl,rfl,rfl,rfl,rfl,rfl,rfl,rfl,(tr rfl (congrArg _ (Z9 hi10 (by decide)))),trivial⟩),(hC.xM [1,2,3,4,5] rfl)⟩ h
          ·replace h:=Zl h (cf hb16)
           refine ZFc (Zt (Zd (Zn (Zr rfl rfl (Zb (v:=vI (Zwe.wrap ((i10:Int)+1))) rfl (done ?_))))))
           exact hK10 (s10.1.set i10 (q10.1.get i10),m10,s10.2.2) _ _ ⟨(sl ⟨rfl,rfl,rfl,rfl,rfl,rfl,rfl,rfl,rfl,(tr rfl (congrArg _ (Z9 hi10 (by decide)))),trivial⟩),(hC.xM [1,2,3,4,5] rfl)⟩ h
         ·replace h:=Zl h (cf hb12)
          refine Zh (b:=false) 18 98 rfl (tr rfl (congrArg _ hb12)) (by decide) (Zh (b:=false) 18 98 rfl (tr rfl (congrArg _ hb12)) (by decide) (Zh (b:=false) 18 98 rfl (tr rfl (congrArg _ hb12)) (by decide) (Zw (v:=.bool false) (b:=false) (tr rfl (congrArg _ hb12)) rfl (dn (Ya rfl rfl (ZFc (Zt (Zd (Zn (Zr rfl rfl (Zb (v:=vI (Zwe.wrap ((i10:Int)+1))) rfl (done ?_))))))))))))
          exact hK10 (s10.1.set i10 (q10.1.get i10),m10,s10.2.2) _ _ ⟨(sl ⟨rfl,rfl,rfl,rfl,rfl,rfl,rfl,rfl,rfl,(tr rfl (congrArg _ (Z9 hi10 (by decide)))),trivial⟩),(hC.xM [1,2,3,4,5] rfl)⟩ h
        ·replace h:=Zl h (cf hb10)
         refine Zh (b:=false) 7 87 rfl (tr rfl (congrArg _ hb10)) (by decide) (Zh (b:=false) 7 87 rfl (tr rfl (congrArg _ hb10)) (by decide) (Zh (b:=false) 7 87 rfl (tr rfl (congrArg _ hb10)) (by decide) (Zh (b:=false) 7 87 rfl (tr rfl (congrArg _ hb10)) (by decide) (Zh (b:=false) 7 87 rfl (tr rfl (congrArg _ hb10)) (by decide) (Zh (b:=false) 7 87 rfl (tr rfl (congrArg _ hb10)) (by decide) (Zh (b:=false) 7 87 rfl (tr rfl (congrArg _ hb10)) (by decide) (Zh (b:=false) 7 87 rfl (tr rfl (congrArg _ hb10)) (by decide) (Zh (b:=false) 7 87 rfl (tr rfl (congrArg _ hb10)) (by decide) (Zw (v:=.bool false) (b:=false) (tr rfl (congrArg _ hb10)) rfl (Zb (v:=.bool false) rfl (Zh (b:=false) 18 98 rfl (tr rfl (congrArg _ rfl)) (by decide) (Zh (b:=false) 18 98 rfl (tr rfl (congrArg _ rfl)) (by decide) (Zh (b:=false) 18 98 rfl (tr rfl (congrArg _ rfl)) (by decide) (Zw (v:=.bool false) (b:=false) rfl rfl (dn (Ya rfl rfl (ZFc (Zt (Zd (Zn (Zr rfl rfl (Zb (v:=vI (Zwe.wrap ((i10:Int)+1))) rfl (done ?_)))))))))))))))))))))))
         exact hK10 (s10.1.set i10 (q10.1.get i10),m10,s10.2.2) _ _ ⟨(sl ⟨rfl,rfl,rfl,rfl,rfl,rfl,rfl,rfl,rfl,(tr rfl (congrArg _ (Z9 hi10 (by decide)))),trivial⟩),(hC.xM [1,2,3,4,5] rfl)⟩ h
       refine Jv 0 16 rfl rfl (by kernel_rfl) ?_ ?_
       ·skip
        refine Zce hC (kvA .i64) (vvI .i64) fun b12 w33 hn_ hB_ hC=>?_
        have hnb_b12975:=Zt1 hN_ hn_
        refine done ?_
        refine Yz (X8 hN_ (by assumption)) hN_ (l9:=(Za 22 194547)) (by kernel_rfl) (fun hN_=>?_)
        refine Jv 2 16 rfl rfl (by kernel_rfl) ?_ ?_
        ·skip
         refine Js hC 0 (s10.1.set i10 (Zwe.wrap ((q10.1.get i10) - 1))) 1 rfl X5 ZF5 rfl rfl rfl (fun w34 hBB_ hC=>?_) (.inr rfl)
         refine done ?_
         refine Yz (Ji hN_ hnb_b12975 hBB_) hN_ (l9:=(Za 22 194551)) (by kernel_rfl) (fun hN_=>?_)
         refine bMR (Xa _) 3 (.map (some b12)) rfl hM10 (Za 22 194559) ?_
         refine Jv 11 16 rfl rfl (by kernel_rfl) ?_ ?_
         ·skip
          refine Zf [.map (some b12),u0_0,.map (some b10)] _ ZHx rfl rfl rfl (X7 (Yk ([]:List (A8×Int)) (s10.1.set i10 (Zwe.wrap ((q10.1.get i10) - 1))) 1) a0.degrees ml10 h _ (hC.getM 0 rfl) (hC.getP 4 rfl) (hC.getP 0 rfl)) ?_
          rintro _ w35 ⟨r13,b31,rfl,h,hr12,hf11,hB13⟩
          refine rt ?_
          replace hC:=hC.push hB13 (mapS b31 r13) hr12 (fun b_ hb_=>by obtain rfl:=Zvn.1 hb_; exact hf11)
          refine done ?_
          refine Yz (X8 hN_ (by assumption)) hN_ (l9:=(Za 22 196607)) (by kernel_rfl) (fun hN_=>?_)
          refine aO 16 rfl (Zce hC (kvA .i64) (vvI .i64) fun b32 w36 hn_ hB_ hC=>?_)
          have hnb_b12988:=Zt1 hN_ hn_
          refine done ?_
          refine Yz (X8 hN_ (by assumption)) hN_ (l9:=(Za 22 262143)) (by kernel_rfl) (fun hN_=>?_)
          refine aO 18 rfl ?_
          refine Js hC 0 s11.1 1 rfl X5 ZF5 rfl rfl rfl (fun w37 hBB_ hC=>?_) (.inr rfl)
          refine done ?_
          refine Yz (Ji hN_ hnb_b12988 hBB_) hN_ (l9:=(Za 22 524287)) (by kernel_rfl) (fun hN_=>?_)
          refine bMR (Xa _) 19 (.map (some b32)) rfl hM10 (Za 22 1048575) (Z0 20 (by decide) (by decide) (by kernel_rfl) (by kernel_rfl) rfl (Zf [.map (some b31),u0_0,.map (some b32)] _ ZHx rfl rfl rfl (X7 r13 a0.degrees (Yk ([]:List (A8×Int)) s11.1 1) h _ (hC.getM 1 rfl) (hC.getP 4 rfl) (hC.getM 0 rfl)) ?_))
          rintro _ w38 ⟨r14,b20,rfl,h,hr13,hf12,hB14⟩
          refine rt ?_
          replace hC:=hC.push hB14 (mapS b20 r14) hr13 (fun b_ hb_=>by obtain rfl:=Zvn.1 hb_; exact hf12)
          refine Zc (v:=.map (some b20)) rfl (done (Z1 ?_))
          exact⟨rfl,_,rfl,⟨b20,r14,(slq rfl),((hC.xM [0,6,7,8,9,10] rfl).sP [1,2,3,4,5,6,7] rfl),h⟩⟩
         ·skip
          refine Zce hC (kvA .i64) (vvI .i64) fun b19 w39 hn_ hB_ hC=>?_
          have hnb_b13001:=Zt1 hN_ hn_
          refine done ?_
          refine Yz (X8 hN_ (by assumption)) hN_ (l9:=(Za 22 260095)) (by kernel_rfl) (fun hN_=>?_)
          refine Jv 11 18 rfl rfl (by kernel_rfl) ?_ ?_
          ·skip
           refine Zf [.map (some b12),u0_0,.map (some b10)] _ ZHx rfl rfl rfl (X7 (Yk ([]:List (A8×Int)) (s10.1.set i10 (Zwe.wrap ((q10.1.get i10) - 1))) 1) a0.degrees ml10 h _ (hC.getM 1 rfl) (hC.getP 4 rfl) (hC.getP 0 rfl)) ?_
           rintro _ w40 ⟨r16,b33,rfl,h,hr14,hf13,hB15⟩
           refine rt ?_
           replace hC:=hC.push hB15 (mapS b33 r16) hr14 (fun b_ hb_=>by obtain rfl:=Zvn.1 hb_; exact hf13)
           refine done ?_
           refine Yz (X8 hN_ (by assumption)) hN_ (l9:=(Za 22 262143)) (by kernel_rfl) (fun hN_=>?_)
           refine aO 18 rfl ?_
           refine Js hC 1 s11.1 1 rfl X5 ZF5 rfl rfl rfl (fun w41 hBB_ hC=>?_) (.inr rfl)
           refine done ?_
           refine Yz (Ji hN_ hnb_b13001 hBB_) hN_ (l9:=(Za 22 524287)) (by kernel_rfl) (fun hN_=>?_)
           refine bMR (Xa _) 19 (.map (some b19)) rfl hM10 (Za 22 1048575) (Z0 20 (by decide) (by decide) (by kernel_rfl) (by kernel_rfl) rfl (Zf [.map (some b33),u0_0,.map (some b19)] _ ZHx rfl rfl rfl (X7 r16 a0.degrees (Yk ([]:List (A8×Int)) s11.1 1) h _ (hC.getM 0 rfl) (hC.getP 4 rfl) (hC.getM 1 rfl)) ?_))
           rintro _ w42 ⟨r17,b21,rfl,h,hr15,hf14,hB16⟩
           refine rt ?_
           replace hC:=hC.push hB16 (mapS b21 r17) hr15 (fun b_ hb_=>by obtain rfl:=Zvn.1 hb_; exact hf14)
           refine Zc (v:=.map (some b21)) rfl (done (Z1 ?_))
           exact⟨rfl,_,rfl,⟨b21,r17,(slq rfl),((hC.xM [0,6,7,8,9,10] rfl).sP [1,2,3,4,5,6,7] rfl),h⟩⟩
          ·skip
           refine Js hC 0 s11.1 1 rfl X5 ZF5 rfl rfl rfl (fun w43 hBB_ hC=>?_) (.inr rfl)
           refine done ?_
           refine Yz (Ji hN_ hnb_b13001 hBB_) hN_ (l9:=(Za 22 522239)) (by kernel_rfl) (fun hN_=>?_)
           refine bMR (Xa _) 19 (.map (some b19)) rfl hM10 (Za 22 1046527) (aO 11 rfl (Zf [.map (some b12),u0_0,.map (some b10)] _ ZHx rfl rfl rfl (X7 (Yk ([]:List (A8×Int)) (s10.1.set i10 (Zwe.wrap ((q10.1.get i10) - 1))) 1) a0.degrees ml10 h _ (hC.getM 1 rfl) (hC.getP 4 rfl) (hC.getP 0 rfl)) ?_))
           rintro _ w44 ⟨r18,b34,rfl,h,hr16,hf15,hB17⟩
           refine rt ?_
           replace hC:=hC.push hB17 (mapS b34 r18) hr16 (fun b_ hb_=>by obtain rfl:=Zvn.1 hb_; exact hf15)
           refine done ?_
           refine Yz (X8 hN_ (by assumption)) hN_ (l9:=(Za 22 1048575)) (by kernel_rfl) (fun hN_=>?_)
           refine Z0 20 (by decide) (by decide) (by kernel_rfl) (by kernel_rfl) rfl (Zf [.map (some b34),u0_0,.map (some b19)] _ ZHx rfl rfl rfl (X7 r18 a0.degrees (Yk ([]:List (A8×Int)) s11.1 1) h _ (hC.getM 0 rfl) (hC.getP 4 rfl) (hC.getM 1 rfl)) ?_)
           rintro _ w45 ⟨r19,b22,rfl,h,hr17,hf16,hB18⟩
           refine rt ?_
           replace hC:=hC.push hB18 (mapS b22 r19) hr17 (fun b_ hb_=>by obtain rfl:=Zvn.1 hb_; exact hf16)
           refine Zc (v:=.map (some b22)) rfl (done (Z1 ?_))
           exact⟨rfl,_,rfl,⟨b22,r19,(slq rfl),((hC.xM [0,6,7,8,9,10] rfl).sP [1,2,3,4,5,6,7] rfl),h⟩⟩
        ·skip
         refine Zce hC (kvA .i64) (vvI .i64) fun b16 w46 hn_ hB_ hC=>?_
         have hnb_b13042:=Zt1 hN_ hn_
         refine done ?_
         refine Yz (X8 hN_ (by assumption)) hN_ (l9:=(Za 22 260083)) (by kernel_rfl) (fun hN_=>?_)
         refine Jv 2 18 rfl rfl (by kernel_rfl) ?_ ?_
         ·skip
          refine Js hC 1 (s10.1.set i10 (Zwe.wrap ((q10.1.get i10) - 1))) 1 rfl X5 ZF5 rfl rfl rfl (fun w47 hBB_ hC=>?_) (.inr rfl)
          refine done ?_
          refine Yz (Ji hN_ hnb_b12975 hBB_) hN_ (l9:=(Za 22 260087)) (by kernel_rfl) (fun hN_=>?_)
          refine bMR (Xa _) 3 (.map (some b12)) rfl hM10 (Za 22 260095) ?_
          refine Jv 11 18 rfl rfl (by kernel_rfl) ?_ ?_
          ·skip
           refine Zf [.map (some b12),u0_0,.map (some b10)] _ ZHx rfl rfl rfl (X7 (Yk ([]:List (A8×Int)) (s10.1.set i10 (Zwe.wrap ((q10.1.get i10) - 1))) 1) a0.degrees ml10 h _ (hC.getM 1 rfl) (hC.getP 4 rfl) (hC.getP 0 rfl)) ?_
           rintro _ w48 ⟨r20,b35,rfl,h,hr18,hf17,hB19⟩
           refine rt ?_
           replace hC:=hC.push hB19 (mapS b35 r20) hr18 (fun b_ hb_=>by obtain rfl:=Zvn.1 hb_; exact hf17)
           refine done ?_
           refine Yz (X8 hN_ (by assumption)) hN_ (l9:=(Za 22 262143)) (by kernel_rfl) (fun hN_=>?_)
           refine aO 18 rfl ?_
           refine Js hC 1 s11.1 1 rfl X5 ZF5 rfl rfl rfl (fun w49 hBB_ hC=>?_) (.inr rfl)
           refine done ?_
           refine Yz (Ji hN_ hnb_b13042 hBB_) hN_ (l9:=(Za 22 524287)) (by kernel_rfl) (fun hN_=>?_)
           refine bMR (Xa _) 19 (.map (some b16)) rfl hM10 (Za 22 1048575) (Z0 20 (by decide) (by decide) (by kernel_rfl) (by kernel_rfl) rfl (Zf [.map (some b35),u0_0,.map (some b16)] _ ZHx rfl rfl rfl (X7 r20 a0.degrees (Yk ([]:List (A8×Int)) s11.1 1) h _ (hC.getM 0 rfl) (hC.getP 4 rfl) (hC.getM 1 rfl)) ?_))
           rintro _ w50 ⟨r21,b23,rfl,h,hr19,hf18,hB20⟩
           refine rt ?_
           replace hC:=hC.push hB20 (mapS b23 r21) hr19 (fun b_ hb_=>by obtain rfl:=Zvn.1 hb_; exact hf18)
           refine Zc (v:=.map (some b23)) rfl (done (Z1 ?_))
           exact⟨rfl,_,rfl,⟨b23,r21,(slq rfl),((hC.xM [0,6,7,8,9,10] rfl).sP [1,2,3,4,5,6,7] rfl),h⟩⟩
          ·skip
           refine Js hC 0 s11.1 1 rfl X5 ZF5 rfl rfl rfl (fun w51 hBB_ hC=>?_) (.inr rfl)
           refine done ?_
           refine Yz (Ji hN_ hnb_b13042 hBB_) hN_ (l9:=(Za 22 522239)) (by kernel_rfl) (fun hN_=>?_)
           refine bMR (Xa _) 19 (.map (some b16)) rfl hM10 (Za 22 1046527) (aO 11 rfl (Zf [.map (some b12),u0_0,.map (some b10)] _ ZHx rfl rfl rfl (X7 (Yk ([]:List (A8×Int)) (s10.1.set i10 (Zwe.wrap ((q10.1.get i10) - 1))) 1) a0.degrees ml10 h _ (hC.getM 1 rfl) (hC.getP 4 rfl) (hC.getP 0 rfl)) ?_))
           rintro _ w52 ⟨r22,b36,rfl,h,hr20,hf19,hB21⟩
           refine rt ?_
           replace hC:=hC.push hB21 (mapS b36 r22) hr20 (fun b_ hb_=>by obtain rfl:=Zvn.1 hb_; exact hf19)
           refine done ?_
           refine Yz (X8 hN_ (by assumption)) hN_ (l9:=(Za 22 1048575)) (by kernel_rfl) (fun hN_=>?_)
           refine Z0 20 (by decide) (by decide) (by kernel_rfl) (by kernel_rfl) rfl (Zf [.map (some b36),u0_0,.map (some b16)] _ ZHx rfl rfl rfl (X7 r22 a0.degrees (Yk ([]:List (A8×Int)) s11.1 1) h _ (hC.getM 0 rfl) (hC.getP 4 rfl) (hC.getM 1 rfl)) ?_)
           rintro _ w53 ⟨r23,b24,rfl,h,hr21,hf20,hB22⟩
           refine rt ?_
           replace hC:=hC.push hB22 (mapS b24 r23) hr21 (fun b_ hb_=>by obtain rfl:=Zvn.1 hb_; exact hf20)
           refine Zc (v:=.map (some b24)) rfl (done (Z1 ?_))
           exact⟨rfl,_,rfl,⟨b24,r23,(slq rfl),((hC.xM [0,6,7,8,9,10] rfl).sP [1,2,3,4,5,6,7] rfl),h⟩⟩
         ·skip
          refine Js hC 0 s11.1 1 rfl X5 ZF5 rfl rfl rfl (fun w54 hBB_ hC=>?_) (.inr rfl)
          refine done ?_
          refine Yz (Ji hN_ hnb_b13042 hBB_) hN_ (l9:=(Za 22 522227)) (by kernel_rfl) (fun hN_=>?_)
          refine bMR (Xa _) 19 (.map (some b16)) rfl hM10 (Za 22 1046515) (aO 2 rfl ?_)
          refine Js hC 1 (s10.1.set i10 (Zwe.wrap ((q10.1.get i10) - 1))) 1 rfl X5 ZF5 rfl rfl rfl (fun w55 hBB_ hC=>?_) (.inr rfl)
          refine done ?_
          refine Yz (Ji hN_ hnb_b12975 hBB_) hN_ (l9:=(Za 22 1046519)) (by kernel_rfl) (fun hN_=>?_)
          refine bMR (Xa _) 3 (.map (some b12)) rfl hM10 (Za 22 1046527) (aO 11 rfl (Zf [.map (some b12),u0_0,.map (some b10)] _ ZHx rfl rfl rfl (X7 (Yk ([]:List (A8×Int)) (s10.1.set i10 (Zwe.wrap ((q10.1.get i10) - 1))) 1) a0.degrees ml10 h _ (hC.getM 1 rfl) (hC.getP 4 rfl) (hC.getP 0 rfl)) ?_))
          rintro _ w56 ⟨r24,b37,rfl,h,hr22,hf21,hB23⟩
          refine rt ?_
          replace hC:=hC.push hB23 (mapS b37 r24) hr22 (fun b_ hb_=>by obtain rfl:=Zvn.1 hb_; exact hf21)
          refine done ?_
          refine Yz (X8 hN_ (by assumption)) hN_ (l9:=(Za 22 1048575)) (by kernel_rfl) (fun hN_=>?_)
          refine Z0 20 (by decide) (by decide) (by kernel_rfl) (by kernel_rfl) rfl (Zf [.map (some b37),u0_0,.map (some b16)] _ ZHx rfl rfl rfl (X7 r24 a0.degrees (Yk ([]:List (A8×Int)) s11.1 1) h _ (hC.getM 0 rfl) (hC.getP 4 rfl) (hC.getM 1 rfl)) ?_)
          rintro _ w57 ⟨r25,b25,rfl,h,hr23,hf22,hB24⟩
          refine rt ?_
          replace hC:=hC.push hB24 (mapS b25 r25) hr23 (fun b_ hb_=>by obtain rfl:=Zvn.1 hb_; exact hf22)
          refine Zc (v:=.map (some b25)) rfl (done (Z1 ?_))
          exact⟨rfl,_,rfl,⟨b25,r25,(slq rfl),((hC.xM [0,6,7,8,9,10] rfl).sP [1,2,3,4,5,6,7] rfl),h⟩⟩
       ·skip
        refine Zce hC (kvA .i64) (vvI .i64) fun b13 w58 hn_ hB_ hC=>?_
        have hnb_b13104:=Zt1 hN_ hn_
        refine done ?_
        refine Yz (X8 hN_ (by assumption)) hN_ (l9:=(Za 22 260082)) (by kernel_rfl) (fun hN_=>?_)
        refine Jv 0 18 rfl rfl (by kernel_rfl) ?_ ?_
        ·skip
         refine Zce hC (kvA .i64) (vvI .i64) fun b18 w59 hn_ hB_ hC=>?_
         have hnb_b13107:=Zt1 hN_ hn_
         refine done ?_
         refine Yz (X8 hN_ (by assumption)) hN_ (l9:=(Za 22 260083)) (by kernel_rfl) (fun hN_=>?_)
         refine Jv 2 18 rfl rfl (by kernel_rfl) ?_ ?_
         ·skip
          refine Js hC 0 (s10.1.set i10 (Zwe.wrap ((q10.1.get i10) - 1))) 1 rfl X5 ZF5 rfl rfl rfl (fun w60 hBB_ hC=>?_) (.inr rfl)
          refine done ?_
          refine Yz (Ji hN_ hnb_b13107 hBB_) hN_ (l9:=(Za 22 260087)) (by kernel_rfl) (fun hN_=>?_)
          refine bMR (Xa _) 3 (.map (some b18)) rfl hM10 (Za 22 260095) ?_
          refine Jv 11 18 rfl rfl (by kernel_rfl) ?_ ?_
          ·skip
           refine Zf [.map (some b18),u0_0,.map (some b10)] _ ZHx rfl rfl rfl (X7 (Yk ([]:List (A8×Int)) (s10.1.set i10 (Zwe.wrap ((q10.1.get i10) - 1))) 1) a0.degrees ml10 h _ (hC.getM 0 rfl) (hC.getP 4 rfl) (hC.getP 0 rfl)) ?_
           rintro _ w61 ⟨r26,b38,rfl,h,hr24,hf23,hB25⟩
           refine rt ?_
           replace hC:=hC.push hB25 (mapS b38 r26) hr24 (fun b_ hb_=>by obtain rfl:=Zvn.1 hb_; exact hf23)
           refine done ?_
           refine Yz (X8 hN_ (by assumption)) hN_ (l9:=(Za 22 262143)) (by kernel_rfl) (fun hN_=>?_)
           refine aO 18 rfl ?_
           refine Js hC 2 s11.1 1 rfl X5 ZF5 rfl rfl rfl (fun w62 hBB_ hC=>?_) (.inr rfl)
           refine done ?_
           refine Yz (Ji hN_ hnb_b13104 hBB_) hN_ (l9:=(Za 22 524287)) (by kernel_rfl) (fun hN_=>?_)
           refine bMR (Xa _) 19 (.map (some b13)) rfl hM10 (Za 22 1048575) (Z0 20 (by decide) (by decide) (by kernel_rfl) (by kernel_rfl) rfl (Zf [.map (some b38),u0_0,.map (some b13)] _ ZHx rfl rfl rfl (X7 r26 a0.degrees (Yk ([]:List (A8×Int)) s11.1 1) h _ (hC.getM 0 rfl) (hC.getP 4 rfl) (hC.getM 2 rfl)) ?_))
           rintro _ w63 ⟨r27,b26,rfl,h,hr25,hf24,hB26⟩
           refine rt ?_
           replace hC:=hC.push hB26 (mapS b26 r27) hr25 (fun b_ hb_=>by obtain rfl:=Zvn.1 hb_; exact hf24)
           refine Zc (v:=.map (some b26)) rfl (done (Z1 ?_))
           exact⟨rfl,_,rfl,⟨b26,r27,(slq rfl),((hC.xM [0,6,7,8,9,10] rfl).sP [1,2,3,4,5,6,7] rfl),h⟩⟩
          ·skip
           refine Js hC 1 s11.1 1 rfl X5 ZF5 rfl rfl rfl (fun w64 hBB_ hC=>?_) (.inr rfl)
           refine done ?_
           refine Yz (Ji hN_ hnb_b13104 hBB_) hN_ (l9:=(Za 22 522239)) (by kernel_rfl) (fun hN_=>?_)
           refine bMR (Xa _) 19 (.map (some b13)) rfl hM10 (Za 22 1046527) (aO 11 rfl (Zf [.map (some b18),u0_0,.map (some b10)] _ ZHx rfl rfl rfl (X7 (Yk ([]:List (A8×Int)) (s10.1.set i10 (Zwe.wrap ((q10.1.get i10) - 1))) 1) a0.degrees ml10 h _ (hC.getM 0 rfl) (hC.getP 4 rfl) (hC.getP 0 rfl)) ?_))
           rintro _ w65 ⟨r28,b39,rfl,h,hr26,hf25,hB27⟩
           refine rt ?_
           replace hC:=hC.push hB27 (mapS b39 r28) hr26 (fun b_ hb_=>by obtain rfl:=Zvn.1 hb_; exact hf25)
           refine done ?_
           refine Yz (X8 hN_ (by assumption)) hN_ (l9:=(Za 22 1048575)) (by kernel_rfl) (fun hN_=>?_)
           refine Z0 20 (by decide) (by decide) (by kernel_rfl) (by kernel_rfl) rfl (Zf [.map (some b39),u0_0,.map (some b13)] _ ZHx rfl rfl rfl (X7 r28 a0.degrees (Yk ([]:List (A8×Int)) s11.1 1) h _ (hC.getM 0 rfl) (hC.getP 4 rfl) (hC.getM 2 rfl)) ?_)
           rintro _ w66 ⟨r29,b27,rfl,h,hr27,hf26,hB28⟩
           refine rt ?_
           replace hC:=hC.push hB28 (mapS b27 r29) hr27 (fun b_ hb_=>by obtain rfl:=Zvn.1 hb_; exact hf26)
           refine Zc (v:=.map (some b27)) rfl (done (Z1 ?_))
           exact⟨rfl,_,rfl,⟨b27,r29,(slq rfl),((hC.xM [0,6,7,8,9,10] rfl).sP [1,2,3,4,5,6,7] rfl),h⟩⟩
         ·skip
          refine Js hC 1 s11.1 1 rfl X5 ZF5 rfl rfl rfl (fun w67 hBB_ hC=>?_) (.inr rfl)
          refine done ?_
          refine Yz (Ji hN_ hnb_b13104 hBB_) hN_ (l9:=(Za 22 522227)) (by kernel_rfl) (fun hN_=>?_)
          refine bMR (Xa _) 19 (.map (some b13)) rfl hM10 (Za 22 1046515) (aO 2 rfl ?_)
          refine Js hC 0 (s10.1.set i10 (Zwe.wrap ((q10.1.get i10) - 1))) 1 rfl X5 ZF5 rfl rfl rfl (fun w68 hBB_ hC=>?_) (.inr rfl)
          refine done ?_
          refine Yz (Ji hN_ hnb_b13107 hBB_) hN_ (l9:=(Za 22 1046519)) (by kernel_rfl) (fun hN_=>?_)
          refine bMR (Xa _) 3 (.map (some b18)) rfl hM10 (Za 22 1046527) (aO 11 rfl (Zf [.map (some b18),u0_0,.map (some b10)] _ ZHx rfl rfl rfl (X7 (Yk ([]:List (A8×Int)) (s10.1.set i10 (Zwe.wrap ((q10.1.get i10) - 1))) 1) a0.degrees ml10 h _ (hC.getM 0 rfl) (hC.getP 4 rfl) (hC.getP 0 rfl)) ?_))
          rintro _ w69 ⟨r30,b40,rfl,h,hr28,hf27,hB29⟩
          refine rt ?_
          replace hC:=hC.push hB29 (mapS b40 r30) hr28 (fun b_ hb_=>by obtain rfl:=Zvn.1 hb_; exact hf27)
          refine done ?_
          refine Yz (X8 hN_ (by assumption)) hN_ (l9:=(Za 22 1048575)) (by kernel_rfl) (fun hN_=>?_)
          refine Z0 20 (by decide) (by decide) (by kernel_rfl) (by kernel_rfl) rfl (Zf [.map (some b40),u0_0,.map (some b13)] _ ZHx rfl rfl rfl (X7 r30 a0.degrees (Yk ([]:List (A8×Int)) s11.1 1) h _ (hC.getM 0 rfl) (hC.getP 4 rfl) (hC.getM 2 rfl)) ?_)
          rintro _ w70 ⟨r31,b28,rfl,h,hr29,hf28,hB30⟩
          refine rt ?_
          replace hC:=hC.push hB30 (mapS b28 r31) hr29 (fun b_ hb_=>by obtain rfl:=Zvn.1 hb_; exact hf28)
          refine Zc (v:=.map (some b28)) rfl (done (Z1 ?_))
          exact⟨rfl,_,rfl,⟨b28,r31,(slq rfl),((hC.xM [0,6,7,8,9,10] rfl).sP [1,2,3,4,5,6,7] rfl),h⟩⟩
        ·skip
         refine Js hC 0 s11.1 1 rfl X5 ZF5 rfl rfl rfl (fun w71 hBB_ hC=>?_) (.inr rfl)
         refine done ?_
         refine Yz (Ji hN_ hnb_b13104 hBB_) hN_ (l9:=(Za 22 522226)) (by kernel_rfl) (fun hN_=>?_)
         refine bMR (Xa _) 19 (.map (some b13)) rfl hM10 (Za 22 1046514) (aO 0 rfl (Zce hC (kvA .i64) (vvI .i64) fun b41 w72 hn_ hB_ hC=>?_))
         have hnb_b13170:=Zt1 hN_ hn_
         refine done ?_
         refine Yz (X8 hN_ (by assumption)) hN_ (l9:=(Za 22 1046515)) (by kernel_rfl) (fun hN_=>?_)
         refine aO 2 rfl ?_
         refine Js hC 0 (s10.1.set i10 (Zwe.wrap ((q10.1.get i10) - 1))) 1 rfl X5 ZF5 rfl rfl rfl (fun w73 hBB_ hC=>?_) (.inr rfl)
         refine done ?_
         refine Yz (Ji hN_ hnb_b13170 hBB_) hN_ (l9:=(Za 22 1046519)) (by kernel_rfl) (fun hN_=>?_)
         refine bMR (Xa _) 3 (.map (some b41)) rfl hM10 (Za 22 1046527) (aO 11 rfl (Zf [.map (some b41),u0_0,.map (some b10)] _ ZHx rfl rfl rfl (X7 (Yk ([]:List (A8×Int)) (s10.1.set i10 (Zwe.wrap ((q10.1.get i10) - 1))) 1) a0.degrees ml10 h _ (hC.getM 0 rfl) (hC.getP 4 rfl) (hC.getP 0 rfl)) ?_))
         rintro _ w74 ⟨r32,b42,rfl,h,hr30,hf29,hB31⟩
         refine rt ?_
         replace hC:=hC.push hB31 (mapS b42 r32) hr30 (fun b_ hb_=>by obtain rfl:=Zvn.1 hb_; exact hf29)
         refine done ?_
         refine Yz (X8 hN_ (by assumption)) hN_ (l9:=(Za 22 1048575)) (by kernel_rfl) (fun hN_=>?_)
         refine Z0 20 (by decide) (by decide) (by kernel_rfl) (by kernel_rfl) rfl (Zf [.map (some b42),u0_0,.map (some b13)] _ ZHx rfl rfl rfl (X7 r32 a0.degrees (Yk ([]:List (A8×Int)) s11.1 1) h _ (hC.getM 0 rfl) (hC.getP 4 rfl) (hC.getM 2 rfl)) ?_)
         rintro _ w75 ⟨r33,b29,rfl,h,hr31,hf30,hB32⟩
         refine rt ?_
         replace hC:=hC.push hB32 (mapS b29 r33) hr31 (fun b_ hb_=>by obtain rfl:=Zvn.1 hb_; exact hf30)
         refine Zc (v:=.map (some b29)) rfl (done (Z1 ?_))
         exact⟨rfl,_,rfl,⟨b29,r33,(slq rfl),((hC.xM [0,6,7,8,9,10] rfl).sP [1,2,3,4,5,6,7] rfl),h⟩⟩
     ·skip
      exact⟨(slq rfl),hC⟩
    ·replace h:=Zl h (cf hb14)
     refine ZFc (Zd (sr (Zb (v:=vI (i10:Int)) rfl (Zb (v:=vI (q10.1.get i10)) rfl (Xc i10 ZFw sc3.size rfl rfl (ZFq _) (by omega) (by omega) (Zu (v:=vI (q10.1.get i10)) hC 0 [vI (q10.1.get i10)] (ZE7 .i64 (s10.1.set i10 (q10.1.get i10))) rfl sc3.size rfl rfl rfl rfl rfl hi10 (ZF3 _ _ _ hi10) fun w76 hC=>dn (sr (Zb (v:=vI (i10:Int)) rfl (Zb (v:=vQ b0) rfl (Za3 rfl (Zz 0 ZFt rfl sc22.size rfl rfl (Zb6 (u0_0) (hC.getP 5 rfl) sc22 rfl rfl (Zx hC 3 rfl ZFs rfl (Zo rfl rfl (Zb (v:=.bool (decide ((i10:Int) < (a0.degrees.length:Int)))) rfl ?_)))))))))))))))
     refine Yt (decide ((i10:Int) < (a0.degrees.length:Int))) (fun hb11=>?_) (fun hb11=>?_)
     ·replace h:=ift h (ct hb11)
      refine Zi 7 87 rfl rfl hb11 (Zb (v:=vQ b0) rfl (Zi 7 87 rfl rfl hb11 (Za3 rfl (Zi 7 87 rfl rfl hb11 (Zz 0 ZFt rfl sc22.size rfl rfl (Zi 7 87 rfl rfl hb11 (Zb6 (u0_0) (hC.getP 5 rfl) sc22 rfl rfl (Zi 7 87 rfl rfl hb11 (Zb (v:=vI (i10:Int)) rfl (Zi 7 87 rfl rfl hb11 ?_))))))))))
      obtain ⟨⟨h14,h15⟩,h⟩:=h
      obtain ⟨Ad11,c11,hv11⟩:=Z3 (hC.getP 3 rfl) i10 (show i10 < a0.degrees.length by omega)
      refine Yu (len:=a0.degrees.length) ZFs sc2.size (tr rfl hv11) rfl h14 h15 (Zi 7 87 rfl rfl hb11 (Xz (vI (a0.degrees.getD i10 Zt0)) (Yj (hC.getP 3 rfl) hv11 i10 (show i10 < a0.degrees.length by omega)) sc2 rfl (Zi 7 87 rfl rfl hb11 (Jj rfl rfl (by decide) (Zi 7 87 rfl rfl hb11 (Jh rfl rfl (Zw (v:=.bool (decide (Zul (a0.degrees.getD i10 Zt0) 2=1))) (b:=true) (tr rfl (congrArg _ hb11)) rfl (Zb (v:=.bool (decide (Zul (a0.degrees.getD i10 Zt0) 2=1))) rfl ?_))))))))
      refine Yt (decide (Zul (a0.degrees.getD i10 Zt0) 2=1)) (fun hb13=>?_) (fun hb13=>?_)
      ·replace h:=ift h (ct hb13)
       refine Zi 18 98 rfl rfl hb13 (Zb (v:=vI (q10.1.get i10)) rfl (Zi 18 98 rfl rfl hb13 (Jj rfl rfl (by decide) (Zi 18 98 rfl rfl hb13 (Jh rfl rfl (Zw (v:=.bool (decide (Zul (q10.1.get i10) 2=1))) (b:=true) (tr rfl (congrArg _ hb13)) rfl (dn ?_)))))))
       refine Zq rfl (fun hb17=>?_) (fun hb17=>?_)
       ·replace h:=ift h (ct hb17)
        refine Zn (Zb (v:=vI s10.2.2) rfl (Zfy rfl (Zc (v:=vI (Zwe.wrap (0 - s10.2.2))) rfl (done (Zt (Zd (Zn (Zr rfl rfl (Zb (v:=vI (Zwe.wrap ((i10:Int)+1))) rfl (done ?_))))))))))
        exact hK10 (s10.1.set i10 (q10.1.get i10),s10.2.1,Zwe.wrap (0 - s10.2.2)) _ _ ⟨(sl ⟨rfl,rfl,rfl,rfl,rfl,rfl,rfl,rfl,rfl,(tr rfl (congrArg _ (Z9 hi10 (by decide)))),trivial⟩),hC⟩ h
       ·replace h:=Zl h (cf hb17)
        refine ZFc (Zt (Zd (Zn (Zr rfl rfl (Zb (v:=vI (Zwe.wrap ((i10:Int)+1))) rfl (done ?_))))))
        exact hK10 (s10.1.set i10 (q10.1.get i10),s10.2.1,s10.2.2) _ _ ⟨(sl ⟨rfl,rfl,rfl,rfl,rfl,rfl,rfl,rfl,rfl,(tr rfl (congrArg _ (Z9 hi10 (by decide)))),trivial⟩),hC⟩ h
      ·replace h:=Zl h (cf hb13)
       refine Zh (b:=false) 18 98 rfl (tr rfl (congrArg _ hb13)) (by decide) (Zh (b:=false) 18 98 rfl (tr rfl (congrArg _ hb13)) (by decide) (Zh (b:=false) 18 98 rfl (tr rfl (congrArg _ hb13)) (by decide) (Zw (v:=.bool false) (b:=false) (tr rfl (congrArg _ hb13)) rfl (dn (Ya rfl rfl (ZFc (Zt (Zd (Zn (Zr rfl rfl (Zb (v:=vI (Zwe.wrap ((i10:Int)+1))) rfl (done ?_))))))))))))
       exact hK10 (s10.1.set i10 (q10.1.get i10),s10.2.1,s10.2.2) _ _ ⟨(sl ⟨rfl,rfl,rfl,rfl,rfl,rfl,rfl,rfl,rfl,(tr rfl (congrArg _ (Z9 hi10 (by decide)))),trivial⟩),hC⟩ h
     ·replace h:=Zl h (cf hb11)
      refine Zh (b:=false) 7 87 rfl (tr rfl (congrArg _ hb11)) (by decide) (Zh (b:=false) 7 87 rfl (tr rfl (congrArg _ hb11)) (by decide) (Zh (b:=false) 7 87 rfl (tr rfl (congrArg _ hb11)) (by decide) (Zh (b:=false) 7 87 rfl (tr rfl (congrArg _ hb11)) (by decide) (Zh (b:=false) 7 87 rfl (tr rfl (congrArg _ hb11)) (by decide) (Zh (b:=false) 7 87 rfl (tr rfl (congrArg _ hb11)) (by decide) (Zh (b:=false) 7 87 rfl (tr rfl (congrArg _ hb11)) (by decide) (Zh (b:=false) 7 87 rfl (tr rfl (congrArg _ hb11)) (by decide) (Zh (b:=false) 7 87 rfl (tr rfl (congrArg _ hb11)) (by decide) (Zw (v:=.bool false) (b:=false) (tr rfl (congrArg _ hb11)) rfl (Zb (v:=.bool false) rfl (Zh (b:=false) 18 98 rfl (tr rfl (congrArg _ rfl)) (by decide) (Zh (b:=false) 18 98 rfl (tr rfl (congrArg _ rfl)) (by decide) (Zh (b:=false) 18 98 rfl (tr rfl (congrArg _ rfl)) (by decide) (Zw (v:=.bool false) (b:=false) rfl rfl (dn (Ya rfl rfl (ZFc (Zt (Zd (Zn (Zr rfl rfl (Zb (v:=vI (Zwe.wrap ((i10:Int)+1))) rfl (done ?_)))))))))))))))))))))))
      exact hK10 (s10.1.set i10 (q10.1.get i10),s10.2.1,s10.2.2) _ _ ⟨(sl ⟨rfl,rfl,rfl,rfl,rfl,rfl,rfl,rfl,rfl,(tr rfl (congrArg _ (Z9 hi10 (by decide)))),trivial⟩),hC⟩ h
   ·clear hC h
    rintro s10 e_ w77 K10 ⟨hS_,hC⟩ h
    rw [ue hS_]
    refine sr (Zo rfl rfl (dn (ZE9 (Ya rfl (decide_eq_false (by omega)) ?_))))
    refine ZFn (Zm (Zm (Z5 ?_)))
    refine Zt ?_
    exact hK11 q10 l10 s10.2.1 _ _ hp10 ⟨(some ent10),(slq rfl),(hC.xM [2,3,4] rfl)⟩ h
   ·skip
    exact⟨(slq rfl),hC⟩
 ·skip
  exact⟨none,(slq rfl),(hC.sP [0,2,3,4,5,6,7] rfl)⟩
def Ze2 (a0:A8) (K:A8→Prop):Prop :=
 Yg (fun i10 (s10:A8) nx10=>nx10 (s10.set i10 (a0.get i10))) (fun (s10:A8)=>K s10) 8 0 ZFe
theorem Zp4 (a0:A8)  {K:A8→Prop} (h:Ze2 a0 K) (w0:World)  :
  Calls ZFb 101 #[.agg (ZE8 (ZE7 .u8 a0))] w0 fun e w'=>∃ (r0:A8),
   e=.returned (.agg (ZE8 (ZE7 .u8 r0)))∧K r0∧Bel w0 w':=by
 unfold Ze2 at h
 refine cof Tryz.func101 rfl 15 Tryz.ntmps101 ?_
 have hC:=ZFu (X:=Nox) w0 [] (by simp)
 refine sr (Yf (v:=.agg (ZE8 (ZE7 .u8 a0))) hC (ZE7 .u8 a0) rfl rfl fun b1 w3 hB_ hC=>Yb hC (ZE7 .u8 ZFe) z88 rfl fun b4 w6 hB_ hC=>dn (sr (Yb hC (ZE7 .u8 ZFe) z88 rfl fun b7 w9 hB_ hC=>dn (ZE9 (sr (Zc (v:=vI 0) rfl (dn (ZFf ?_))))))))
 refine Yp (S:=A8) _ _ (fun i10 s10 e_ w_=>Z2 e_ [(1,vQ b1),(2,vQ b4),(3,vQ b7),(4,vI (i10:Int))]∧Ctx Nox w0 w_ [blk b7 88 (ZE7 .u8 s10),blk b4 88 (ZE7 .u8 ZFe),blk b1 87 (ZE7 .u8 a0)] []) 8 ?_ ?_ (s0:=ZFe) ?_ h
 ·clear hC h
  rintro i10 s10 e_ w10 nx10 K10 hi10 ⟨hS_,hC⟩ h hK10
  rw [ue hS_]
  refine ZE9 (sr (Zb (v:=vI (i10:Int)) rfl (Zo rfl rfl (dn (Z8 rfl (decide_eq_true (by omega)) (ZFc (Zd (ZE9 (ZFf (Zn (Zb (v:=vI (i10:Int)) rfl (Zb (v:=vI (i10:Int)) rfl (Xc i10 Tryz.underlying87 sc5.size rfl rfl (ZFq _) (by omega) (by omega) (Z6 hC 2 (.int .u8 (a0.get i10)) rfl sc5 rfl (ZFm _ _ hi10) (Xc i10 ZFr sc5.size rfl rfl (ZFq _) (by omega) (by omega) (Zu (v:=.int .u8 (a0.get i10)) hC 0 [.int .u8 (a0.get i10)] (ZE7 .u8 (s10.set i10 (a0.get i10))) rfl sc5.size rfl rfl rfl rfl rfl hi10 (ZF3 _ _ _ hi10) fun w11 hC=>done (Zt (Zd (Zn (Zb (v:=vI (i10:Int)) rfl (Zr rfl rfl (Zc (v:=vI (Zwe.wrap ((i10:Int)+1))) rfl (done ?_)))))))))))))))))))))))
  exact hK10 (s10.set i10 (a0.get i10)) _ _ ⟨(sl ⟨rfl,rfl,rfl,(tr rfl (congrArg _ (Z9 hi10 (by decide)))),trivial⟩),hC⟩ h
 ·clear hC h
  rintro s10 e_ w12 K10 ⟨hS_,hC⟩ h
  rw [ue hS_]
  refine ZE9 (sr (Zb (v:=vI 8) rfl (Zo rfl rfl (dn (Ya rfl (decide_eq_false (by omega)) ?_)))))
  refine ZFn (Zm (Zm (Z5 ?_)))
  refine Zd (sr (Yd hC 0 (ZE7 .u8 s10) rfl ag88 rfl rfl rfl (Zu (v:=.agg (ZE8 (ZE7 .u8 s10))) hC 1 (ZE7 .u8 s10) (ZE7 .u8 s10) rfl ag88.size rfl rfl rfl rfl rfl (ZFi rfl) rfl fun w13 hC=>dn (ZFh ?_))))
  exact Zk rfl (X3 hC 1 rfl ag88 rfl rfl) ⟨s10,rfl,h,hC.below⟩ (.inl rfl)
 ·skip
  exact⟨(slq rfl),hC⟩
def Ze3 (a0:List Int) (K:List Int→Prop):Prop :=
 ((0≤(a0.length:Int)∧(a0.length:Int) * 8≤281474976710656)∧Yg (fun i10 (s10:(List Int)) nx10=>((0≤(i10:Int)∧(i10:Int) < (s10.length:Int))∧nx10 (s10.set i10 (a0.getD i10 Zt0)))) (fun (s10:(List Int))=>K s10) a0.length 0 (Ztv ((a0.length:Int).toNat) (0:Int)))
theorem Zp5 (a0:List Int)  {K:List Int→Prop} (h:Ze3 a0 K) (w0:World) (q0:ZHz.rep a0 [u0_0] fp0 w0) :
  Calls ZFb 18 #[u0_0] w0 fun e w'=>∃ (r0:List Int) (z0_0:Value) (fz0:List Nat),
   e=.returned (z0_0)∧K r0∧(ZFo (Tr.sl 2 (eI.tr)) r0 [z0_0] fz0).holds w'∧(∀ b,b∈fz0→w0.heap.size≤b)∧Bel w0 w':=by
 unfold Ze3 at h
 refine cof Tryz.func18 rfl 22 Tryz.ntmps18 ?_
 have hC:=ZFu (X:=Nox) w0 [ZBl TInts a0 [u0_0] fp0] (al1 q0)
 refine sr (Zc (v:=.slice none 0 0) rfl (dn (sr (Zb (v:=u0_0) rfl (Zx hC 0 rfl ZFs rfl ?_)))))
 obtain ⟨hm7,h⟩:=h
 refine Zhx (sz:=1) hC (eI.encs (Ztv ((a0.length:Int).toNat) (0:Int))) ZFs el2 (tr rfl (congrArg (ZH7 .i64) (ZH8 hm7.1).symm)) (tr rfl (congrArg (ZH7 .i64) (ZH8 hm7.1).symm)) (by omega) (by omega) (Zf7 (E:=eI) _ _) fun v5 w6 hB_ hC=>?_
 replace hC:=J8 hC 0 ((Ztv ((a0.length:Int).toNat) (0:Int)).length) (eI.encs (Ztv ((a0.length:Int).toNat) (0:Int))) rfl (by simp) rfl
 refine Zc (v:=v5) rfl (dn (ZE9 (sr (Zc (v:=vI 0) rfl (dn (ZFf ?_))))))
 have hN10:a0.length≤9223372036854775807:=Y0 (hC.getP 0 rfl)
 refine Yp (S:=(List Int)) _ _ (fun i10 s10 e_ w_=>∃ (v10:Value),Z2 e_ [(0,u0_0),(3,v10),(4,vI (i10:Int))]∧Ctx Nox w0 w_ [own 2 1 v10 s10.length (eI.encs s10)] [ZBl TInts a0 [u0_0] fp0]) a0.length ?_ ?_ (s0:=(Ztv ((a0.length:Int).toNat) (0:Int))) ?_ h
 ·clear hC h
  rintro i10 s10 e_ w10 nx10 K10 hi10 ⟨v10,hS_,hC⟩ h hK10
  rw [ue hS_]
  refine ZE9 (sr (Zb (v:=vI (i10:Int)) rfl (Zb (v:=u0_0) rfl (Zx hC 0 rfl ZFs rfl (Zo rfl rfl (dn (Z8 rfl (decide_eq_true (by omega)) (ZFc (Zd (ZE9 (ZFf (Zn (Zb (v:=v10) rfl (Zb (v:=vI (i10:Int)) rfl (Zb (v:=u0_0) rfl (Zb (v:=vI (i10:Int)) rfl ?_))))))))))))))))
  obtain ⟨Ad10,c10,hv10⟩:=Z3 (hC.getP 0 rfl) i10 hi10
  refine Yu (len:=a0.length) ZFs sc2.size (tr rfl hv10) rfl (ZFq _) (ZF8.2 hi10) (Xz (vI (a0.getD i10 Zt0)) (Yj (hC.getP 0 rfl) hv10 i10 hi10) sc2 rfl ?_)
  obtain ⟨⟨h10,h11⟩,h⟩:=h
  obtain ⟨Ad11,c11,hv11⟩:=Za4 (hC.getM 0 rfl) (ZH4 (Zut _) (show i10 < s10.length by omega))
  refine Zbj (i10 * 1) ZFs sc2.size (tr rfl hv11) rfl h10 h11 rfl (Zcy (v:=vI (a0.getD i10 Zt0)) hC 0 [vI (a0.getD i10 Zt0)] (eI.encs (s10.set i10 (a0.getD i10 Zt0))) rfl hv11 sc2.size rfl rfl rfl rfl rfl (by rw [ZH9]; exact Zan (sz:=1) (show i10 < s10.length by omega)) (Zf6 _ _ _ (show i10 < s10.length by omega)) fun w11 hC=>?_)
  replace hC:=J8 hC 0 ((s10.set i10 (a0.getD i10 Zt0)).length) (eI.encs (s10.set i10 (a0.getD i10 Zt0))) rfl (by simp) rfl
  refine done (Zt (Zd (Zn (Zb (v:=vI (i10:Int)) rfl (Zr rfl rfl (Zc (v:=vI (Zwe.wrap ((i10:Int)+1))) rfl (done ?_)))))))
  exact hK10 (s10.set i10 (a0.getD i10 Zt0)) _ _ ⟨v10,(sl ⟨rfl,rfl,(tr rfl (congrArg _ (Z9 hi10 hN10))),trivial⟩),hC⟩ h
 ·clear hC h
  rintro s10 e_ w12 K10 ⟨v10,hS_,hC⟩ h
  rw [ue hS_]
  refine ZE9 (sr (Zb (v:=vI (a0.length:Int)) rfl (Zb (v:=u0_0) rfl (Zx hC 0 rfl ZFs rfl (Zo rfl rfl (dn (Ya rfl (decide_eq_false (by omega)) ?_)))))))
  refine ZFn (Zm (Zm (Z5 ?_)))
  refine Zd (sr (Zb (v:=v10) rfl (Zc (v:=v10) rfl (dn (ZFh ?_)))))
  exact Zk rfl (Zg rfl) ⟨s10,v10,(ZF6 (Zum v10)),rfl,h,(Jq (hC.getM 0 rfl)),(Jo hC 0 rfl),hC.below⟩ (.inl rfl)
 ·skip
  exact⟨v5,(slq rfl),hC⟩
def Ze4 (a0:A8) (a1:A8) (K:Bool→Prop):Prop :=
 Yg (fun i10 (s10:Unit) nx10=>(if a0.get i10≠a1.get i10 then K false else nx10 ())) (fun (s10:Unit)=>K true) 8 0 ()
theorem Zp6 (a0:A8) (a1:A8)  {K:Bool→Prop} (h:Ze4 a0 a1 K) (w0:World)  :
  Calls ZFb 105 #[.agg (ZE8 (ZE7 .u8 a0)),.agg (ZE8 (ZE7 .u8 a1))] w0 fun e w'=>∃ (r0:Bool),
   e=.returned (.bool r0)∧K r0∧Bel w0 w':=by
 unfold Ze4 at h
 refine cof Tryz.func105 rfl 17 Tryz.ntmps105 ?_
 have hC:=ZFu (X:=Nox) w0 [] (by simp)
 refine sr (Yf (v:=.agg (ZE8 (ZE7 .u8 a0))) hC (ZE7 .u8 a0) rfl rfl fun b1 w3 hB_ hC=>Yf (v:=.agg (ZE8 (ZE7 .u8 a1))) hC (ZE7 .u8 a1) rfl rfl fun b4 w6 hB_ hC=>Zc (v:=.bool false) rfl (dn (ZE9 (sr (Zc (v:=vI 0) rfl (dn (ZFf ?_)))))))
 refine Yp (S:=Unit) _ _ (fun i10 s10 e_ w_=>Z2 e_ [(2,vQ b1),(3,vQ b4),(5,vI (i10:Int))]∧Ctx Nox w0 w_ [blk b4 88 (ZE7 .u8 a1),blk b1 88 (ZE7 .u8 a0)] []) 8 ?_ ?_ (s0:=()) ?_ h
 ·clear hC h
  rintro i10 s10 e_ w10 nx10 K10 hi10 ⟨hS_,hC⟩ h hK10
  rw [ue hS_]
  refine ZE9 (sr (Zb (v:=vI (i10:Int)) rfl (Zo rfl rfl (dn (Z8 rfl (decide_eq_true (by omega)) (ZFc (Zd (ZE9 (ZFf (ZE9 ?_))))))))))
  refine cwd 6 mixed [0,1,3,0,8,24,63] [1,2,4,5] [0,3] (fun hM10 hM11 w11 hB_=>?_)
  replace hC:=hC.grow hB_
  refine bM 0 (vI (i10:Int)) rfl hM11 (Za 7 1) (bL 1 (.pointer (some ⟨b1,i10,none⟩)) rfl rfl hM10 (fun _ hB_=>by exact Jb i10 ZFr sc5.size rfl rfl (ZFq _) (by omega) (by omega)) (Za 7 3) (bL 2 (.int .u8 (a0.get i10)) rfl rfl hM10 (fun _ hB_=>by exact Yc (hC.grow hB_) 1 (.int .u8 (a0.get i10)) rfl sc5 rfl (ZFm _ _ hi10)) (Za 7 7) (bM 3 (vI (i10:Int)) rfl hM11 (Za 7 15) (bL 4 (.pointer (some ⟨b4,i10,none⟩)) rfl rfl hM10 (fun _ hB_=>by exact Jb i10 ZFr sc5.size rfl rfl (ZFq _) (by omega) (by omega)) (Za 7 31) (bL 5 (.int .u8 (a1.get i10)) rfl rfl hM10 (fun _ hB_=>by exact Yc (hC.grow hB_) 0 (.int .u8 (a1.get i10)) rfl sc5 rfl (ZFm _ _ hi10)) (Za 7 63) (Z0 6 (by decide) (by decide) (by kernel_rfl) (by kernel_rfl) rfl (Y7 rfl rfl (done (Z1 (Zd ?_))))))))))
  refine Zq rfl (fun hb10=>?_) (fun hb10=>?_)
  ·replace h:=ift h (ct hb10)
   refine sr (Zc (v:=.bool false) rfl (dn ?_))
   refine ZFh (Zv (Ze (Ze (Zv (Ze ?_)))))
   exact Zk rfl (Zg rfl) ⟨false,rfl,h,hC.below⟩ (.inl rfl)
  ·replace h:=Zl h (cf hb10)
   refine ZFc (Zt (Zd (Zn (Zb (v:=vI (i10:Int)) rfl (Zr rfl rfl (Zc (v:=vI (Zwe.wrap ((i10:Int)+1))) rfl (done ?_)))))))
   exact hK10 () _ _ ⟨(sl ⟨rfl,rfl,(tr rfl (congrArg _ (Z9 hi10 (by decide)))),trivial⟩),hC⟩ h
 ·clear hC h
  rintro s10 e_ w12 K10 ⟨hS_,hC⟩ h
  rw [ue hS_]
  refine ZE9 (sr (Zb (v:=vI 8) rfl (Zo rfl rfl (dn (Ya rfl (decide_eq_false (by omega)) ?_)))))
  refine ZFn (Zm (Zm (Z5 ?_)))
  refine Zd (sr (Zc (v:=.bool true) rfl (dn (ZFh ?_))))
  exact Zk rfl (Zg rfl) ⟨true,rfl,h,hC.below⟩ (.inl rfl)
 ·skip
  exact⟨(slq rfl),hC⟩
def Ze5 (a0:List Int) (a1:List Int) (K:Bool→Prop):Prop :=
 (if(a0.length:Int)≠(a1.length:Int) then K false else Yg (fun i10 (s10:Unit) nx10=>((0≤(i10:Int)∧(i10:Int) < (a1.length:Int))∧(if a0.getD i10 Zt0≠a1.getD i10 Zt0 then K false else nx10 ()))) (fun (s10:Unit)=>K true) a0.length 0 ())
theorem Zp7 (a0:List Int) (a1:List Int)  {K:Bool→Prop} (h:Ze5 a0 a1 K) (w0:World) (q0:ZHz.rep a0 [u0_0] fp0 w0) (q1:ZHz.rep a1 [u1_0] fp1 w0) :
  Calls ZFb 20 #[u0_0,u1_0] w0 fun e w'=>∃ (r0:Bool),
   e=.returned (.bool r0)∧K r0∧Bel w0 w':=by
 unfold Ze5 at h
 refine cof Tryz.func20 rfl 26 Tryz.ntmps20 ?_
 have hC:=ZFu (X:=Nox) w0 [ZBl TInts a0 [u0_0] fp0,ZBl TInts a1 [u1_0] fp1] (alc q0 (al1 q1))
 refine sr (Zc (v:=.bool false) rfl (dn (ZE9 (sr (Zb (v:=u0_0) rfl (Zx hC 0 rfl ZFs rfl (Zb (v:=u1_0) rfl (Zx hC 1 rfl ZFs rfl (Y7 rfl rfl (dn ?_))))))))))
 refine Zq rfl (fun hb9=>?_) (fun hb9=>?_)
 ·replace h:=ift h (ct hb9)
  refine sr (Zc (v:=.bool false) rfl (dn ?_))
  refine ZFh (Ze ?_)
  exact Zk rfl (Zg rfl) ⟨false,rfl,h,hC.below⟩ (.inl rfl)
 ·replace h:=Zl h (cf hb9)
  refine ZFc (Zd (ZE9 (sr (Zc (v:=vI 0) rfl (dn (ZFf ?_))))))
  have hN10:a0.length≤9223372036854775807:=Y0 (hC.getP 0 rfl)
  refine Yp (S:=Unit) _ _ (fun i10 s10 e_ w_=>Z2 e_ [(0,u0_0),(1,u1_0),(5,vI (i10:Int))]∧Ctx Nox w0 w_ [] [ZBl TInts a0 [u0_0] fp0,ZBl TInts a1 [u1_0] fp1]) a0.length ?_ ?_ (s0:=()) ?_ h
  ·clear hC h
   rintro i10 s10 e_ w10 nx10 K10 hi10 ⟨hS_,hC⟩ h hK10
   rw [ue hS_]
   refine ZE9 (sr (Zb (v:=vI (i10:Int)) rfl (Zb (v:=u0_0) rfl (Zx hC 0 rfl ZFs rfl (Zo rfl rfl (dn (Z8 rfl (decide_eq_true (by omega)) (ZFc (Zd (ZE9 (ZFf (ZE9 ?_))))))))))))
   refine cwd 8 mixed [0,0,3,7,0,0,48,112,255] [2,3,6,7] [0,1,4,5] (fun hM10 hM11 w11 hB_=>?_)
   replace hC:=hC.grow hB_
   refine bM 0 (u0_0) rfl hM11 (Za 9 1) (bM 1 (vI (i10:Int)) rfl hM11 (Za 9 3) ?_)
   obtain ⟨Ad10,c10,hv10⟩:=Z3 (hC.getP 0 rfl) i10 hi10
   refine bL 2 (.pointer (some (Ad10.add (i10 * 1)))) rfl rfl hM10 (fun _ hB_=>by exact Yy (len:=a0.length) ZFs sc2.size (by exact tr rfl hv10) rfl (ZFq _) (ZF8.2 hi10)) (Za 9 7) (bL 3 (vI (a0.getD i10 Zt0)) rfl rfl hM10 (fun _ hB_=>by exact J7 (vI (a0.getD i10 Zt0)) (Yj ((hC.grow hB_).getP 0 rfl) hv10 i10 hi10) sc2 rfl) (Za 9 15) (bM 4 (u1_0) rfl hM11 (Za 9 31) (bM 5 (vI (i10:Int)) rfl hM11 (Za 9 63) ?_)))
   obtain ⟨⟨h10,h11⟩,h⟩:=h
   obtain ⟨Ad11,c11,hv11⟩:=Z3 (hC.getP 1 rfl) i10 (show i10 < a1.length by omega)
   refine bL 6 (.pointer (some (Ad11.add (i10 * 1)))) rfl rfl hM10 (fun _ hB_=>by exact Yy (len:=a1.length) ZFs sc2.size (by exact tr rfl hv11) rfl h10 h11) (Za 9 127) (bL 7 (vI (a1.getD i10 Zt0)) rfl rfl hM10 (fun _ hB_=>by exact J7 (vI (a1.getD i10 Zt0)) (Yj ((hC.grow hB_).getP 1 rfl) hv11 i10 (show i10 < a1.length by omega)) sc2 rfl) (Za 9 255) (Z0 8 (by decide) (by decide) (by kernel_rfl) (by kernel_rfl) rfl (Y7 rfl rfl (done (Z1 (Zd ?_))))))
   refine Zq rfl (fun hb10=>?_) (fun hb10=>?_)
   ·replace h:=ift h (ct hb10)
    refine sr (Zc (v:=.bool false) rfl (dn ?_))
    refine ZFh (Zv (Ze (Ze (Zv (Ze ?_)))))
    exact Zk rfl (Zg rfl) ⟨false,rfl,h,hC.below⟩ (.inl rfl)
   ·replace h:=Zl h (cf hb10)
    refine ZFc (Zt (Zd (Zn (Zb (v:=vI (i10:Int)) rfl (Zr rfl rfl (Zc (v:=vI (Zwe.wrap ((i10:Int)+1))) rfl (done ?_)))))))
    exact hK10 () _ _ ⟨(sl ⟨rfl,rfl,(tr rfl (congrArg _ (Z9 hi10 hN10))),trivial⟩),hC⟩ h
  ·clear hC h
   rintro s10 e_ w12 K10 ⟨hS_,hC⟩ h
   rw [ue hS_]
   refine ZE9 (sr (Zb (v:=vI (a0.length:Int)) rfl (Zb (v:=u0_0) rfl (Zx hC 0 rfl ZFs rfl (Zo rfl rfl (dn (Ya rfl (decide_eq_false (by omega)) ?_)))))))
   refine ZFn (Zm (Zm (Z5 ?_)))
   refine Zd (sr (Zc (v:=.bool true) rfl (dn (ZFh ?_))))
   exact Zk rfl (Zg rfl) ⟨true,rfl,h,hC.below⟩ (.inl rfl)
  ·skip
   exact⟨(slq rfl),hC⟩
def Ze6 (a0:Term) (K:Term→Prop):Prop :=
 Ze2 a0.mono (fun r10=>K (⟨r10,a0.factor⟩:Term))
theorem Zp8 (a0:Term)  {K:Term→Prop} (h:Ze6 a0 K) (w0:World)  :
  Calls ZFb 84 #[.agg (ZE8 (ZFk a0))] w0 fun e w'=>∃ (r0:Term),
   e=.returned (.agg (ZE8 (ZFk r0)))∧K r0∧Bel w0 w':=by
 unfold Ze6 at h
 refine cof Tryz.func84 rfl 12 Tryz.ntmps84 ?_
 have hC:=ZFu (X:=Nox) w0 [] (by simp)
 refine sr (Yf (v:=.agg (ZE8 (ZFk a0))) hC (ZFk a0) rfl rfl fun b1 w3 hB_ hC=>Yb hC (ZFk (⟨ZFe,0⟩:Term)) z90 rfl fun b4 w6 hB_ hC=>dn (sr (Yb hC (ZFk (⟨ZFe,0⟩:Term)) z90 rfl fun b7 w9 hB_ hC=>dn (sr (Zz 0 Tryz.underlying122 rfl ag87.size rfl rfl (Yd hC 2 (ZE7 .u8 a0.mono) rfl ag87 rfl rfl rfl (Zf [.agg (ZE8 (ZE7 .u8 a0.mono))] _ Tryz.func101 rfl rfl rfl (Zp4 a0.mono h _) ?_)))))))
 rintro _ w10 ⟨r10,rfl,h,hB10⟩
 refine rt ?_
 replace hC:=hC.grow hB10
 refine Zz 0 ZFp rfl ag88.size rfl rfl (Zu (v:=.agg (ZE8 (ZE7 .u8 r10))) hC 0 (ZE7 .u8 r10) (ZFk (⟨r10,0⟩:Term)) rfl ag88.size rfl rfl rfl rfl rfl (ZFi rfl) rfl fun w11 hC=>dn (sr (Zz 8 Tryz.underlying122 rfl sc2.size rfl rfl (Z6 hC 2 (vI a0.factor) rfl sc2 rfl rfl (Zz 8 ZFp rfl sc2.size rfl rfl (Zu (v:=vI a0.factor) hC 0 [vI a0.factor] (ZFk (⟨r10,a0.factor⟩:Term)) rfl sc2.size rfl rfl rfl rfl rfl (ZFi rfl) rfl fun w12 hC=>dn (sr (Yd hC 0 (ZFk (⟨r10,a0.factor⟩:Term)) rfl ag90 rfl rfl rfl (Zu (v:=.agg (ZE8 (ZFk (⟨r10,a0.factor⟩:Term)))) hC 1 (ZFk (⟨r10,a0.factor⟩:Term)) (ZFk (⟨r10,a0.factor⟩:Term)) rfl ag90.size rfl rfl rfl rfl rfl (ZFi rfl) rfl fun w13 hC=>dn (ZFh ?_))))))))))
 exact Zk rfl (X3 hC 1 rfl ag90 rfl rfl) ⟨(⟨r10,a0.factor⟩:Term),rfl,h,hC.below⟩ (.inl rfl)
def Ze7 (a0:List Term) (K:List Term→Prop):Prop :=
 ((0≤(a0.length:Int)∧(a0.length:Int) * 16≤281474976710656)∧Yg (fun i10 (s10:(List Term)) nx10=>Ze6 (a0.getD i10 Zt0) (fun r10=>((0≤(i10:Int)∧(i10:Int) < (s10.length:Int))∧nx10 (s10.set i10 r10)))) (fun (s10:(List Term))=>K s10) a0.length 0 (Ztv ((a0.length:Int).toNat) ((⟨ZFe,0⟩:Term):Term)))
theorem Zp9 (a0:List Term)  {K:List Term→Prop} (h:Ze7 a0 K) (w0:World) (q0:ZFa.ty.sl.rep a0 [u0_0] fp0 w0) :
  Calls ZFb 62 #[u0_0] w0 fun e w'=>∃ (r0:List Term) (z0_0:Value) (fz0:List Nat),
   e=.returned (z0_0)∧K r0∧(ZFo (Tr.sl 90 ZFa.tr) r0 [z0_0] fz0).holds w'∧(∀ b,b∈fz0→w0.heap.size≤b)∧Bel w0 w':=by
 unfold Ze7 at h
 refine cof Tryz.func62 rfl 23 Tryz.ntmps62 ?_
 have hC:=ZFu (X:=Nox) w0 [ZBl ZFa.ty.sl a0 [u0_0] fp0] (al1 q0)
 refine sr (Zc (v:=.slice none 0 0) rfl (dn (sr (Zb (v:=u0_0) rfl (Zx hC 0 rfl ZIa rfl ?_)))))
 obtain ⟨hm7,h⟩:=h
 refine Zhx (sz:=9) hC (ZFa.encs (Ztv ((a0.length:Int).toNat) ((⟨ZFe,0⟩:Term):Term))) ZFj Zdd (tr rfl (congrArg (ZH7 .i64) (ZH8 hm7.1).symm)) (tr rfl (congrArg (ZH7 .i64) (ZH8 hm7.1).symm)) (by omega) (by omega) (Zf7 (E:=ETerm) _ _) fun v5 w6 hB_ hC=>?_
 replace hC:=J8 hC 0 ((Ztv ((a0.length:Int).toNat) ((⟨ZFe,0⟩:Term):Term)).length) (ZFa.encs (Ztv ((a0.length:Int).toNat) ((⟨ZFe,0⟩:Term):Term))) rfl (by simp) rfl
 refine Zc (v:=v5) rfl (dn (ZE9 (sr (Zc (v:=vI 0) rfl (dn (ZFf ?_))))))
 have hN10:a0.length≤9223372036854775807:=Y0 (hC.getP 0 rfl)
 refine Yp (S:=(List Term)) _ _ (fun i10 s10 e_ w_=>∃ (v10:Value),Z2 e_ [(0,u0_0),(3,v10),(4,vI (i10:Int))]∧Ctx Nox w0 w_ [own 90 9 v10 s10.length (ZFa.encs s10)] [ZBl ZFa.ty.sl a0 [u0_0] fp0]) a0.length ?_ ?_ (s0:=(Ztv ((a0.length:Int).toNat) ((⟨ZFe,0⟩:Term):Term))) ?_ h
 ·clear hC h
  rintro i10 s10 e_ w10 nx10 K10 hi10 ⟨v10,hS_,hC⟩ h hK10
  rw [ue hS_]
  refine ZE9 (sr (Zb (v:=vI (i10:Int)) rfl (Zb (v:=u0_0) rfl (Zx hC 0 rfl ZIa rfl (Zo rfl rfl (dn (Z8 rfl (decide_eq_true (by omega)) (ZFc (Zd (ZE9 (ZFf (Zn (Zb (v:=v10) rfl (Zb (v:=vI (i10:Int)) rfl (Zb (v:=u0_0) rfl (Zb (v:=vI (i10:Int)) rfl ?_))))))))))))))))
  obtain ⟨Ad10,c10,hv10⟩:=Z3 (hC.getP 0 rfl) i10 hi10
  refine Yu (len:=a0.length) ZIa ag122.size (tr rfl hv10) rfl (ZFq _) (ZF8.2 hi10) (X9 (ZFk (a0.getD i10 Zt0)) (Yj (hC.getP 0 rfl) hv10 i10 hi10) ag122 rfl rfl (Zf [.agg (ZE8 (ZFk (a0.getD i10 Zt0)))] _ Tryz.func84 rfl rfl rfl (Zp8 (a0.getD i10 Zt0) h _) ?_))
  rintro _ w11 ⟨r10,rfl,h,hB10⟩
  refine rt ?_
  replace hC:=hC.grow hB10
  obtain ⟨⟨h10,h11⟩,h⟩:=h
  obtain ⟨Ad11,c11,hv11⟩:=Za4 (hC.getM 0 rfl) (ZH4 (Zut _) (show i10 < s10.length by omega))
  refine Zbj (i10 * 9) ZFj ag90.size (tr rfl hv11) rfl h10 h11 rfl (Zcy (v:=.agg (ZE8 (ZFk r10))) hC 0 (ZFk r10) (ZFa.encs (s10.set i10 r10)) rfl hv11 ag90.size rfl rfl rfl rfl rfl (by rw [ZH9]; exact Zan (sz:=9) (show i10 < s10.length by omega)) (Zf6 _ _ _ (show i10 < s10.length by omega)) fun w12 hC=>?_)
  replace hC:=J8 hC 0 ((s10.set i10 r10).length) (ZFa.encs (s10.set i10 r10)) rfl (by simp) rfl
  refine done (Zt (Zd (Zn (Zb (v:=vI (i10:Int)) rfl (Zr rfl rfl (Zc (v:=vI (Zwe.wrap ((i10:Int)+1))) rfl (done ?_)))))))
  exact hK10 (s10.set i10 r10) _ _ ⟨v10,(sl ⟨rfl,rfl,(tr rfl (congrArg _ (Z9 hi10 hN10))),trivial⟩),hC⟩ h
 ·clear hC h
  rintro s10 e_ w13 K10 ⟨v10,hS_,hC⟩ h
  rw [ue hS_]
  refine ZE9 (sr (Zb (v:=vI (a0.length:Int)) rfl (Zb (v:=u0_0) rfl (Zx hC 0 rfl ZIa rfl (Zo rfl rfl (dn (Ya rfl (decide_eq_false (by omega)) ?_)))))))
  refine ZFn (Zm (Zm (Z5 ?_)))
  refine Zd (sr (Zb (v:=v10) rfl (Zc (v:=v10) rfl (dn (ZFh ?_)))))
  exact Zk rfl (Zg rfl) ⟨s10,v10,(ZF6 (Zum v10)),rfl,h,(Jq (hC.getM 0 rfl)),(Jo hC 0 rfl),hC.below⟩ (.inl rfl)
 ·skip
  exact⟨v5,(slq rfl),hC⟩
def Ze8 (a0:ZFd) (K:ZFd→Prop):Prop :=
 Ze7 a0.terms (fun r10=>K (⟨r10⟩:ZFd))
theorem Zqa (a0:ZFd)  {K:ZFd→Prop} (h:Ze8 a0 K) (w0:World) (q0:ZFv.rep a0 [u0_0] fp0 w0) :
  Calls ZFb 30 #[.agg #[u0_0]] w0 fun e w'=>∃ (r0:ZFd) (z0_0:Value) (fz0:List Nat),
   e=.returned (.agg #[z0_0])∧K r0∧(ZFo (Zj 90) r0 [z0_0] fz0).holds w'∧(∀ b,b∈fz0→w0.heap.size≤b)∧Bel w0 w':=by
 unfold Ze8 at h
 refine cof Tryz.func30 rfl 9 Tryz.ntmps30 ?_
 have hC:=ZFu (X:=Nox) w0 [ZBl TForm a0 [u0_0] fp0] (al1 q0)
 have hp2:=(hC.getP 0 rfl)
 replace hC:=hC.derive 0 rfl (ZBl ZFa.ty.sl a0.terms [u0_0] fp0) (fun _=>(Yn hp2)) (fun _ hb_=>hb_)
 refine sr (Yf (v:=.agg #[u0_0]) hC [u0_0] rfl rfl fun b4 w6 hB_ hC=>Yb hC [.slice none 0 0] z55 rfl fun b7 w9 hB_ hC=>dn (sr (Yb hC [.slice none 0 0] z55 rfl fun b10 w10 hB_ hC=>dn (sr (Zz 0 Tryz.underlying51 rfl sc49.size rfl rfl (Z6 hC 2 (u0_0) rfl sc49 rfl rfl (Zf [u0_0] _ Tryz.func62 rfl rfl rfl (Zp9 a0.terms h _ (hC.getP 0 rfl)) ?_)))))))
 rintro _ w11 ⟨r10,u10,f10,rfl,h,hr10,hf10,hB10⟩
 refine rt ?_
 replace hC:=hC.push hB10 (ZFo (Tr.sl 90 ZFa.tr) r10 [u10] f10) hr10 hf10
 obtain ⟨ho10,hf11⟩:=Zda (hC.getM 0 rfl).1
 subst hf11
 replace hC:=hC.recast (c:=own 90 9 u10 r10.length (ZFa.encs r10)) (fun _ h_=>h_) (fun _=>ho10)
 refine Zz 0 ZFg rfl sc53.size rfl rfl (Zu (v:=u10) hC 1 [u10] [u10] rfl sc53.size rfl rfl (Zb7 (hC.getM 0 rfl)) rfl (Ym (Y8 (hC.getM 0 rfl)) rfl) (ZFi rfl) rfl fun w12 hC=>dn (sr (Yd hC 1 [u10] rfl ag55 rfl rfl rfl (Zu (v:=.agg #[u10]) hC 2 [u10] [u10] rfl ag55.size rfl rfl rfl rfl (Ym (Y8 (hC.getM 0 rfl)) rfl) (ZFi rfl) rfl fun w13 hC=>dn (ZFh ?_)))))
 exact Zk rfl (X3 hC 2 rfl ag55 rfl rfl) ⟨(⟨r10⟩:ZFd),u10,(ZF6 (Zum u10)),rfl,h,(Jr (Jq (hC.getM 0 rfl))),(Jo hC 0 rfl),hC.below⟩ (.inl rfl)
def Ze9 (a0:Term) (a1:Term) (K:Bool→Prop):Prop :=
 Ze4 a0.mono a1.mono (fun r10=>(if¬ (r10=true) then K false else(if a0.factor≠a1.factor then K false else K true)))
theorem Zqb (a0:Term) (a1:Term)  {K:Bool→Prop} (h:Ze9 a0 a1 K) (w0:World)  :
  Calls ZFb 91 #[.agg (ZE8 (ZFk a0)),.agg (ZE8 (ZFk a1))] w0 fun e w'=>∃ (r0:Bool),
   e=.returned (.bool r0)∧K r0∧Bel w0 w':=by
 unfold Ze9 at h
 refine cof Tryz.func91 rfl 16 Tryz.ntmps91 ?_
 have hC:=ZFu (X:=Nox) w0 [] (by simp)
 refine sr (Yf (v:=.agg (ZE8 (ZFk a0))) hC (ZFk a0) rfl rfl fun b1 w3 hB_ hC=>Yf (v:=.agg (ZE8 (ZFk a1))) hC (ZFk a1) rfl rfl fun b4 w6 hB_ hC=>Zc (v:=.bool false) rfl (dn (ZE9 (sr (Zz 0 ZFp rfl ag88.size rfl rfl (Yd hC 1 (ZE7 .u8 a0.mono) rfl ag88 rfl rfl rfl (Zz 0 ZFp rfl ag88.size rfl rfl (Yd hC 0 (ZE7 .u8 a1.mono) rfl ag88 rfl rfl rfl (Zf [.agg (ZE8 (ZE7 .u8 a0.mono)),.agg (ZE8 (ZE7 .u8 a1.mono))] _ Tryz.func105 rfl rfl rfl (Zp6 a0.mono a1.mono h _) ?_)))))))))
 rintro _ w9 ⟨r10,rfl,h,hB10⟩
 refine rt ?_
 replace hC:=hC.grow hB10
 refine Y4 rfl (dn ?_)
 refine Zq rfl (fun hb10=>?_) (fun hb10=>?_)
 ·replace h:=ift h (Yq (Y5 hb10))
  refine sr (Zc (v:=.bool false) rfl (dn ?_))
  refine ZFh (Ze ?_)
  exact Zk rfl (Zg rfl) ⟨false,rfl,h,hC.below⟩ (.inl rfl)
 ·replace h:=Zl h (not_not_intro ((Y6 hb10)))
  refine ZFc (Zd (ZE9 (sr (Zz 8 ZFp rfl sc2.size rfl rfl (Z6 hC 1 (vI a0.factor) rfl sc2 rfl rfl (Zz 8 ZFp rfl sc2.size rfl rfl (Z6 hC 0 (vI a1.factor) rfl sc2 rfl rfl (Y7 rfl rfl (dn ?_)))))))))
  refine Zq rfl (fun hb11=>?_) (fun hb11=>?_)
  ·replace h:=ift h (ct hb11)
   refine sr (Zc (v:=.bool false) rfl (dn ?_))
   refine ZFh (Ze ?_)
   exact Zk rfl (Zg rfl) ⟨false,rfl,h,hC.below⟩ (.inl rfl)
  ·replace h:=Zl h (cf hb11)
   refine ZFc (Zd (sr (Zc (v:=.bool true) rfl (dn (ZFh ?_)))))
   exact Zk rfl (Zg rfl) ⟨true,rfl,h,hC.below⟩ (.inl rfl)
def Zgv (a0:List Term) (a1:List Term) (K:Bool→Prop):Prop :=
 (if(a0.length:Int)≠(a1.length:Int) then K false else Yg (fun i10 (s10:Unit) nx10=>((0≤(i10:Int)∧(i10:Int) < (a1.length:Int))∧Ze9 (a0.getD i10 Zt0) (a1.getD i10 Zt0) (fun r10=>(if¬ (r10=true) then K false else nx10 ())))) (fun (s10:Unit)=>K true) a0.length 0 ())
theorem Zqc (a0:List Term) (a1:List Term)  {K:Bool→Prop} (h:Zgv a0 a1 K) (w0:World) (q0:ZFa.ty.sl.rep a0 [u0_0] fp0 w0) (q1:ZFa.ty.sl.rep a1 [u1_0] fp1 w0) :
  Calls ZFb 67 #[u0_0,u1_0] w0 fun e w'=>∃ (r0:Bool),
   e=.returned (.bool r0)∧K r0∧Bel w0 w':=by
 unfold Zgv at h
 refine cof Tryz.func67 rfl 27 Tryz.ntmps67 ?_
 have hC:=ZFu (X:=Nox) w0 [ZBl ZFa.ty.sl a0 [u0_0] fp0,ZBl ZFa.ty.sl a1 [u1_0] fp1] (alc q0 (al1 q1))
 refine sr (Zc (v:=.bool false) rfl (dn (ZE9 (sr (Zb (v:=u0_0) rfl (Zx hC 0 rfl ZFj rfl (Zb (v:=u1_0) rfl (Zx hC 1 rfl ZFj rfl (Y7 rfl rfl (dn ?_))))))))))
 refine Zq rfl (fun hb9=>?_) (fun hb9=>?_)
 ·replace h:=ift h (ct hb9)
  refine sr (Zc (v:=.bool false) rfl (dn ?_))
  refine ZFh (Ze ?_)
  exact Zk rfl (Zg rfl) ⟨false,rfl,h,hC.below⟩ (.inl rfl)
 ·replace h:=Zl h (cf hb9)
  refine ZFc (Zd (ZE9 (sr (Zc (v:=vI 0) rfl (dn (ZFf ?_))))))
  have hN10:a0.length≤9223372036854775807:=Y0 (hC.getP 0 rfl)
  refine Yp (S:=Unit) _ _ (fun i10 s10 e_ w_=>Z2 e_ [(0,u0_0),(1,u1_0),(5,vI (i10:Int))]∧Ctx Nox w0 w_ [] [ZBl ZFa.ty.sl a0 [u0_0] fp0,ZBl ZFa.ty.sl a1 [u1_0] fp1]) a0.length ?_ ?_ (s0:=()) ?_ h
  ·clear hC h
   rintro i10 s10 e_ w10 nx10 K10 hi10 ⟨hS_,hC⟩ h hK10
   rw [ue hS_]
   refine ZE9 (sr (Zb (v:=vI (i10:Int)) rfl (Zb (v:=u0_0) rfl (Zx hC 0 rfl ZFj rfl (Zo rfl rfl (dn (Z8 rfl (decide_eq_true (by omega)) (ZFc (Zd (ZE9 (ZFf (ZE9 ?_))))))))))))
   refine cwd 8 mixed [0,0,3,7,0,0,48,112,255,511] [2,3,6,7] [0,1,4,5] (fun hM10 hM11 w11 hB_=>?_)
   replace hC:=hC.grow hB_
   refine bM 0 (u0_0) rfl hM11 (Za 10 1) (bM 1 (vI (i10:Int)) rfl hM11 (Za 10 3) ?_)
   obtain ⟨Ad10,c10,hv10⟩:=Z3 (hC.getP 0 rfl) i10 hi10
   refine bL 2 (.pointer (some (Ad10.add (i10 * 9)))) rfl rfl hM10 (fun _ hB_=>by exact Yy (len:=a0.length) ZFj ag90.size (by exact tr rfl hv10) rfl (ZFq _) (ZF8.2 hi10)) (Za 10 7) (bL 3 (.agg (ZE8 (ZFk (a0.getD i10 Zt0)))) rfl rfl hM10 (fun _ hB_=>by exact Xl (ZFk (a0.getD i10 Zt0)) (Yj ((hC.grow hB_).getP 0 rfl) hv10 i10 hi10) ag90 rfl rfl) (Za 10 15) (bM 4 (u1_0) rfl hM11 (Za 10 31) (bM 5 (vI (i10:Int)) rfl hM11 (Za 10 63) ?_)))
   obtain ⟨⟨h10,h11⟩,h⟩:=h
   obtain ⟨Ad11,c11,hv11⟩:=Z3 (hC.getP 1 rfl) i10 (show i10 < a1.length by omega)
   refine bL 6 (.pointer (some (Ad11.add (i10 * 9)))) rfl rfl hM10 (fun _ hB_=>by exact Yy (len:=a1.length) ZFj ag90.size (by exact tr rfl hv11) rfl h10 h11) (Za 10 127) (bL 7 (.agg (ZE8 (ZFk (a1.getD i10 Zt0)))) rfl rfl hM10 (fun _ hB_=>by exact Xl (ZFk (a1.getD i10 Zt0)) (Yj ((hC.grow hB_).getP 1 rfl) hv11 i10 (show i10 < a1.length by omega)) ag90 rfl rfl) (Za 10 255) (Z0 8 (by decide) (by decide) (by kernel_rfl) (by kernel_rfl) rfl (Zf [.agg (ZE8 (ZFk (a0.getD i10 Zt0))),.agg (ZE8 (ZFk (a1.getD i10 Zt0)))] _ Tryz.func91 rfl rfl rfl (Zqb (a0.getD i10 Zt0) (a1.getD i10 Zt0) h _) ?_)))
   rintro _ w12 ⟨r10,rfl,h,hB10⟩
   refine rt ?_
   replace hC:=hC.grow hB10
   refine Y4 rfl (done (Z1 (Zd ?_)))
   refine Zq rfl (fun hb10=>?_) (fun hb10=>?_)
   ·replace h:=ift h (Yq (Y5 hb10))
    refine sr (Zc (v:=.bool false) rfl (dn ?_))
    refine ZFh (Zv (Ze (Ze (Zv (Ze ?_)))))
    exact Zk rfl (Zg rfl) ⟨false,rfl,h,hC.below⟩ (.inl rfl)
   ·replace h:=Zl h (not_not_intro ((Y6 hb10)))
    refine ZFc (Zt (Zd (Zn (Zb (v:=vI (i10:Int)) rfl (Zr rfl rfl (Zc (v:=vI (Zwe.wrap ((i10:Int)+1))) rfl (done ?_)))))))
    exact hK10 () _ _ ⟨(sl ⟨rfl,rfl,(tr rfl (congrArg _ (Z9 hi10 hN10))),trivial⟩),hC⟩ h
  ·clear hC h
   rintro s10 e_ w13 K10 ⟨hS_,hC⟩ h
   rw [ue hS_]
   refine ZE9 (sr (Zb (v:=vI (a0.length:Int)) rfl (Zb (v:=u0_0) rfl (Zx hC 0 rfl ZFj rfl (Zo rfl rfl (dn (Ya rfl (decide_eq_false (by omega)) ?_)))))))
   refine ZFn (Zm (Zm (Z5 ?_)))
   refine Zd (sr (Zc (v:=.bool true) rfl (dn (ZFh ?_))))
   exact Zk rfl (Zg rfl) ⟨true,rfl,h,hC.below⟩ (.inl rfl)
  ·skip
   exact⟨(slq rfl),hC⟩
def Zfa (a0:ZFd) (a1:ZFd) (K:Bool→Prop):Prop :=
 Zgv a0.terms a1.terms (fun r10=>(if¬ (r10=true) then K false else K true))
theorem Zqd (a0:ZFd) (a1:ZFd)  {K:Bool→Prop} (h:Zfa a0 a1 K) (w0:World) (q0:ZFv.rep a0 [u0_0] fp0 w0) (q1:ZFv.rep a1 [u1_0] fp1 w0) :
  Calls ZFb 35 #[.agg #[u0_0],.agg #[u1_0]] w0 fun e w'=>∃ (r0:Bool),
   e=.returned (.bool r0)∧K r0∧Bel w0 w':=by
 unfold Zfa at h
 refine cof Tryz.func35 rfl 11 Tryz.ntmps35 ?_
 have hC:=ZFu (X:=Nox) w0 [ZBl TForm a0 [u0_0] fp0,ZBl TForm a1 [u1_0] fp1] (alc q0 (al1 q1))
 have hp3:=(hC.getP 0 rfl)
 replace hC:=hC.derive 0 rfl (ZBl ZFa.ty.sl a0.terms [u0_0] fp0) (fun _=>(Yn hp3)) (fun _ hb_=>hb_)
 have hp5:=(hC.getP 2 rfl)
 replace hC:=hC.derive 2 rfl (ZBl ZFa.ty.sl a1.terms [u1_0] fp1) (fun _=>(Yn hp5)) (fun _ hb_=>hb_)
 refine sr (Yf (v:=.agg #[u0_0]) hC [u0_0] rfl rfl fun b7 w9 hB_ hC=>Yf (v:=.agg #[u1_0]) hC [u1_0] rfl rfl fun b10 w10 hB_ hC=>Zc (v:=.bool false) rfl (dn (ZE9 (sr (Zz 0 ZFg rfl sc53.size rfl rfl (Z6 hC 1 (u0_0) rfl sc53 rfl rfl (Zz 0 ZFg rfl sc53.size rfl rfl (Z6 hC 0 (u1_0) rfl sc53 rfl rfl (Zf [u0_0,u1_0] _ Tryz.func67 rfl rfl rfl (Zqc a0.terms a1.terms h _ (hC.getP 1 rfl) (hC.getP 0 rfl)) ?_)))))))))
 rintro _ w11 ⟨r10,rfl,h,hB10⟩
 refine rt ?_
 replace hC:=hC.grow hB10
 refine Y4 rfl (dn ?_)
 refine Zq rfl (fun hb10=>?_) (fun hb10=>?_)
 ·replace h:=ift h (Yq (Y5 hb10))
  refine sr (Zc (v:=.bool false) rfl (dn ?_))
  refine ZFh (Ze ?_)
  exact Zk rfl (Zg rfl) ⟨false,rfl,h,hC.below⟩ (.inl rfl)
 ·replace h:=Zl h (not_not_intro ((Y6 hb10)))
  refine ZFc (Zd (sr (Zc (v:=.bool true) rfl (dn (ZFh ?_)))))
  exact Zk rfl (Zg rfl) ⟨true,rfl,h,hC.below⟩ (.inl rfl)
def Zay (a0:List ZFd) (a1:List ZFd) (K:Bool→Prop):Prop :=
 (if(a0.length:Int)≠(a1.length:Int) then K false else Yg (fun i10 (s10:Unit) nx10=>((0≤(i10:Int)∧(i10:Int) < (a1.length:Int))∧Zfa (a0.getD i10 Zt0) (a1.getD i10 Zt0) (fun r10=>(if¬ (r10=true) then K false else nx10 ())))) (fun (s10:Unit)=>K true) a0.length 0 ())
theorem Zdo (a0:List ZFd) (a1:List ZFd)  {K:Bool→Prop} (h:Zay a0 a1 K) (w0:World) (q0:ZFv.sl.rep a0 [u0_0] fp0 w0) (q1:ZFv.sl.rep a1 [u1_0] fp1 w0) :
  Calls ZFb 12 #[u0_0,u1_0] w0 fun e w'=>∃ (r0:Bool),
   e=.returned (.bool r0)∧K r0∧Bel w0 w':=by
 unfold Zay at h
 refine cof Tryz.func12 rfl 27 Tryz.ntmps12 ?_
 have hC:=ZFu (X:=Nox) w0 [ZBl ZFv.sl a0 [u0_0] fp0,ZBl ZFv.sl a1 [u1_0] fp1] (alc q0 (al1 q1))
 refine sr (Zc (v:=.bool false) rfl (dn (ZE9 (sr (Zb (v:=u0_0) rfl (Zx hC 0 rfl ZFx rfl (Zb (v:=u1_0) rfl (Zx hC 1 rfl ZFx rfl (Y7 rfl rfl (dn ?_))))))))))
 refine Zq rfl (fun hb9=>?_) (fun hb9=>?_)
 ·replace h:=ift h (ct hb9)
  refine sr (Zc (v:=.bool false) rfl (dn ?_))
  refine ZFh (Ze ?_)
  exact Zk rfl (Zg rfl) ⟨false,rfl,h,hC.below⟩ (.inl rfl)
 ·replace h:=Zl h (cf hb9)
  refine ZFc (Zd (ZE9 (sr (Zc (v:=vI 0) rfl (dn (ZFf ?_))))))
  have hN10:a0.length≤9223372036854775807:=Y0 (hC.getP 0 rfl)
  refine Yp (S:=Unit) _ _ (fun i10 s10 e_ w_=>Z2 e_ [(0,u0_0),(1,u1_0),(5,vI (i10:Int))]∧Ctx Nox w0 w_ [] [ZBl ZFv.sl a0 [u0_0] fp0,ZBl ZFv.sl a1 [u1_0] fp1]) a0.length ?_ ?_ (s0:=()) ?_ h
  ·clear hC h
   rintro i10 s10 e_ w10 nx10 K10 hi10 ⟨hS_,hC⟩ h hK10
   rw [ue hS_]
   refine ZE9 (sr (Zb (v:=vI (i10:Int)) rfl (Zb (v:=u0_0) rfl (Zx hC 0 rfl ZFx rfl (Zo rfl rfl (dn (Z8 rfl (decide_eq_true (by omega)) (ZFc (Zd (ZE9 (ZFf (ZE9 ?_))))))))))))
   refine cwd 8 mixed [0,0,3,7,0,0,48,112,255,511] [2,3,6,7] [0,1,4,5] (fun hM10 hM11 w11 hB_=>?_)
   replace hC:=hC.grow hB_
   refine bM 0 (u0_0) rfl hM11 (Za 10 1) (bM 1 (vI (i10:Int)) rfl hM11 (Za 10 3) ?_)
   obtain ⟨Ad10,c10,hv10⟩:=Z3 (hC.getP 0 rfl) i10 hi10
   refine bL 2 (.pointer (some (Ad10.add (i10 * 1)))) rfl rfl hM10 (fun _ hB_=>by exact Yy (len:=a0.length) ZFx ag55.size (by exact tr rfl hv10) rfl (ZFq _) (ZF8.2 hi10)) (Za 10 7) ?_
   obtain ⟨cs_,hl10,hc10,hr10⟩:=Xh (hC.getP 0 rfl) hv10 i10 hi10
   obtain ⟨u10,rfl⟩:=ZF7.1 hl10
   clear hl10
   rw [Xf _ _ hi10] at hr10
   have hp10:=hr10
   replace hC:=hC.derive 0 rfl (ZBl ZFa.ty.sl ((a0.getD i10 Zt0).terms) [u10] fp0) (fun _=>(Yn hp10)) (fun _ hb_=>hb_)
   refine bL 3 (.agg #[u10]) rfl rfl hM10 (fun _ hB_=>by exact Xl [u10] (J9 hB_ hc10) ag55 rfl rfl) (Za 10 15) (bM 4 (u1_0) rfl hM11 (Za 10 31) (bM 5 (vI (i10:Int)) rfl hM11 (Za 10 63) ?_))
   obtain ⟨⟨h10,h11⟩,h⟩:=h
   obtain ⟨Ad11,c11,hv11⟩:=Z3 (hC.getP 2 rfl) i10 (show i10 < a1.length by omega)
   refine bL 6 (.pointer (some (Ad11.add (i10 * 1)))) rfl rfl hM10 (fun _ hB_=>by exact Yy (len:=a1.length) ZFx ag55.size (by exact tr rfl hv11) rfl h10 h11) (Za 10 127) ?_
   obtain ⟨cs_,hl11,hc11,hr11⟩:=Xh (hC.getP 2 rfl) hv11 i10 (show i10 < a1.length by omega)
   obtain ⟨u11,rfl⟩:=ZF7.1 hl11
   clear hl11
   rw [Xf _ _ (show i10 < a1.length by omega)] at hr11
   have hp11:=hr11
   replace hC:=hC.derive 2 rfl (ZBl ZFa.ty.sl ((a1.getD i10 Zt0).terms) [u11] fp1) (fun _=>(Yn hp11)) (fun _ hb_=>hb_)
   refine bL 7 (.agg #[u11]) rfl rfl hM10 (fun _ hB_=>by exact Xl [u11] (J9 hB_ hc11) ag55 rfl rfl) (Za 10 255) (Z0 8 (by decide) (by decide) (by kernel_rfl) (by kernel_rfl) rfl (Zf [.agg #[u10],.agg #[u11]] _ Tryz.func35 rfl rfl rfl (Zqd (a0.getD i10 Zt0) (a1.getD i10 Zt0) h _ (Yh (hC.getP 1 rfl)) (Yh (hC.getP 0 rfl))) ?_))
   rintro _ w12 ⟨r10,rfl,h,hB10⟩
   refine rt ?_
   replace hC:=hC.grow hB10
   refine Y4 rfl (done (Z1 (Zd ?_)))
   refine Zq rfl (fun hb10=>?_) (fun hb10=>?_)
   ·replace h:=ift h (Yq (Y5 hb10))
    refine sr (Zc (v:=.bool false) rfl (dn ?_))
    refine ZFh (Zv (Ze (Ze (Zv (Ze ?_)))))
    exact Zk rfl (Zg rfl) ⟨false,rfl,h,hC.below⟩ (.inl rfl)
   ·replace h:=Zl h (not_not_intro ((Y6 hb10)))
    refine ZFc (Zt (Zd (Zn (Zb (v:=vI (i10:Int)) rfl (Zr rfl rfl (Zc (v:=vI (Zwe.wrap ((i10:Int)+1))) rfl (done ?_)))))))
    exact hK10 () _ _ ⟨(sl ⟨rfl,rfl,(tr rfl (congrArg _ (Z9 hi10 hN10))),trivial⟩),(hC.sP [2,3] rfl)⟩ h
  ·clear hC h
   rintro s10 e_ w13 K10 ⟨hS_,hC⟩ h
   rw [ue hS_]
   refine ZE9 (sr (Zb (v:=vI (a0.length:Int)) rfl (Zb (v:=u0_0) rfl (Zx hC 0 rfl ZFx rfl (Zo rfl rfl (dn (Ya rfl (decide_eq_false (by omega)) ?_)))))))
   refine ZFn (Zm (Zm (Z5 ?_)))
   refine Zd (sr (Zc (v:=.bool true) rfl (dn (ZFh ?_))))
   exact Zk rfl (Zg rfl) ⟨true,rfl,h,hC.below⟩ (.inl rfl)
  ·skip
   exact⟨(slq rfl),hC⟩
def Zfb (a0:List Term) (a1:Int) (K:Int→List Term→Prop):Prop :=
 Jc (fun (s10:(List Term)×Int×Int) nx10=>(if s10.2.2 < (s10.1.length:Int) then Yg (fun i10 (s11:(List Term)×Int) nx11=>((0≤s10.2.2∧s10.2.2 < (s11.1.length:Int))∧nx11 (s11.1.set s10.2.2.toNat (⟨((s11.1.getD s10.2.2.toNat Zt0).mono).set i10 (ZFl.wrap s11.2),(s11.1.getD s10.2.2.toNat Zt0).factor⟩:Term),Zwe.wrap (s11.2+1)))) (fun (s11:(List Term)×Int)=>((0≤s10.2.2∧s10.2.2 < (s11.1.length:Int))∧nx10 (s11.1.set s10.2.2.toNat (⟨(s11.1.getD s10.2.2.toNat Zt0).mono,s11.2⟩:Term),Zwe.wrap (s11.2+1),Zwe.wrap (s10.2.2+1)))) 8 0 (s10.1,s10.2.1) else K s10.2.1 s10.1)) (a0,a1,0)
theorem Zqe (a0:List Term) (a1:Int)  {K:Int→List Term→Prop} (h:Zfb a0 a1 K) (w0:World) (qw0:(own 90 9 u0_0 a0.length (ZFa.encs a0)).holds w0) :
  Calls ZFb 36 #[u0_0,vI a1] w0 fun e w'=>∃ (r0:Int) (mw:List Term),
   e=.returned (vI r0)∧K r0 mw∧(own 90 9 u0_0 mw.length (ZFa.encs mw)).holds w'∧BelO ((ZF6 (Zum u0_0))) w0 w':=by
 unfold Zfb at h
 refine cof Tryz.func36 rfl 35 Tryz.ntmps36 ?_
 have hC:=Ctx.startL w0 ((ZF6 (Zum u0_0))) [own 90 9 u0_0 a0.length (ZFa.encs a0)] [] (by simp only [Ztw,Zv2,or_false,forall_eq_or_imp,forall_eq]; exact qw0) (by simp) (by simp only [Ztw,Zv2,or_false,forall_eq_or_imp,forall_eq]; exact fun b hb=>hb) (List.pairwise_singleton _ _) (by simp)
 refine sr (Zc (v:=vI 0) rfl (dn (ZE9 (sr (Zc (v:=vI 0) rfl (dn (ZFf ?_)))))))
 refine Jk (S:=(List Term)×Int×Int) _ (fun s10 e_ w_=>Z2 e_ [(0,u0_0),(1,vI s10.2.1),(5,vI s10.2.2)]∧Ctx (fun c_=>c_∈(ZF6 (Zum u0_0))) w0 w_ [own 90 9 u0_0 s10.1.length (ZFa.encs s10.1)] []) ?_ (s0:=(a0,a1,0)) ?_ h
 ·clear hC h
  rintro s10 e_ w10 nx10 K11 ⟨hS_,hC⟩ h hK10
  rw [ue hS_]
  refine ZE9 (sr (Zb (v:=vI s10.2.2) rfl (Zb (v:=u0_0) rfl (Zem hC 0 rfl ZFj rfl (Zo rfl rfl (dn ?_))))))
  refine Zq rfl (fun hb10=>?_) (fun hb10=>?_)
  ·replace h:=ift h (ct hb10)
   refine ZFc (Zd (ZE9 (ZFf (ZE9 (sr (Zc (v:=vI 0) rfl (dn (ZFf ?_))))))))
   refine Yp (S:=(List Term)×Int) _ _ (fun i10 s11 e_ w_=>Z2 e_ [(0,u0_0),(1,vI s11.2),(5,vI s10.2.2),(6,vI (i10:Int))]∧Ctx (fun c_=>c_∈(ZF6 (Zum u0_0))) w0 w_ [own 90 9 u0_0 s11.1.length (ZFa.encs s11.1)] []) 8 ?_ ?_ (s0:=(s10.1,s10.2.1)) ?_ h
   ·clear hC h
    rintro i10 s11 e_ w11 nx11 K10 hi10 ⟨hS_,hC⟩ h hK11
    rw [ue hS_]
    refine ZE9 (sr (Zb (v:=vI (i10:Int)) rfl (Zo rfl rfl (dn (Z8 rfl (decide_eq_true (by omega)) (ZFc (Zd (ZE9 (ZFf (sr (Zb (v:=u0_0) rfl (Zb (v:=vI s10.2.2) rfl (Zb (v:=vI (i10:Int)) rfl (Zb (v:=vI s11.2) rfl (Zfz ZGh ZGb rfl ?_)))))))))))))))
    obtain ⟨⟨h10,h11⟩,h⟩:=h
    obtain ⟨Ad10,c10,hv10⟩:=Za4 (hC.getM 0 rfl) (ZH4 (Zut _) (show s10.2.2.toNat < s11.1.length by omega))
    refine Zbj (s10.2.2.toNat * 9) ZFj ag90.size (tr rfl hv10) rfl h10 h11 rfl (Zz (s10.2.2.toNat * 9+0) ZFp rfl ag88.size rfl rfl (Xc (s10.2.2.toNat * 9+0+i10) ZFr sc5.size rfl rfl (ZFq _) (by omega) (by omega) (Zcy (v:=.int .u8 (ZFl.wrap s11.2)) hC 0 [.int .u8 (ZFl.wrap s11.2)] (ZFa.encs (s11.1.set s10.2.2.toNat (⟨((s11.1.getD s10.2.2.toNat Zt0).mono).set i10 (ZFl.wrap s11.2),(s11.1.getD s10.2.2.toNat Zt0).factor⟩:Term))) rfl hv10 sc5.size rfl rfl rfl rfl rfl (by rw [ZH9]; have:=Zan (sz:=9) (show s10.2.2.toNat < s11.1.length by omega); have h9:i10+1≤9:=(show i10+1≤9 by omega); have e9:ZFa.sz=9:=rfl; rw [e9]; omega) (Zkv (E:=ETerm) (o:=i10) (show s10.2.2.toNat < s11.1.length by omega) (show i10+1≤9 by omega) (Zow hi10)) fun w12 hC=>?_)))
    replace hC:=J8 hC 0 ((s11.1.set s10.2.2.toNat (⟨((s11.1.getD s10.2.2.toNat Zt0).mono).set i10 (ZFl.wrap s11.2),(s11.1.getD s10.2.2.toNat Zt0).factor⟩:Term)).length) (ZFa.encs (s11.1.set s10.2.2.toNat (⟨((s11.1.getD s10.2.2.toNat Zt0).mono).set i10 (ZFl.wrap s11.2),(s11.1.getD s10.2.2.toNat Zt0).factor⟩:Term))) rfl (by simp) rfl
    refine dn (Zn (Zb (v:=vI s11.2) rfl (Zr rfl rfl (Zc (v:=vI (Zwe.wrap (s11.2+1))) rfl (done (Zt (Zd (Zn (Zb (v:=vI (i10:Int)) rfl (Zr rfl rfl (Zc (v:=vI (Zwe.wrap ((i10:Int)+1))) rfl (done ?_))))))))))))
    exact hK11 (s11.1.set s10.2.2.toNat (⟨((s11.1.getD s10.2.2.toNat Zt0).mono).set i10 (ZFl.wrap s11.2),(s11.1.getD s10.2.2.toNat Zt0).factor⟩:Term),Zwe.wrap (s11.2+1)) _ _ ⟨(sl ⟨rfl,rfl,rfl,(tr rfl (congrArg _ (Z9 hi10 (by decide)))),trivial⟩),hC⟩ h
   ·clear hC h
    rintro s11 e_ w13 K10 ⟨hS_,hC⟩ h
    rw [ue hS_]
    refine ZE9 (sr (Zb (v:=vI 8) rfl (Zo rfl rfl (dn (Ya rfl (decide_eq_false (by omega)) ?_)))))
    refine ZFn (Zm (Zm (Z5 ?_)))
    refine Zd (sr (Zb (v:=u0_0) rfl (Zb (v:=vI s10.2.2) rfl (Zb (v:=vI s11.2) rfl ?_))))
    obtain ⟨⟨h12,h13⟩,h⟩:=h
    obtain ⟨Ad11,c11,hv11⟩:=Za4 (hC.getM 0 rfl) (ZH4 (Zut _) (show s10.2.2.toNat < s11.1.length by omega))
    refine Zbj (s10.2.2.toNat * 9) ZFj ag90.size (tr rfl hv11) rfl h12 h13 rfl (Zz (s10.2.2.toNat * 9+8) ZFp rfl sc2.size rfl rfl (Zcy (v:=vI s11.2) hC 0 [vI s11.2] (ZFa.encs (s11.1.set s10.2.2.toNat (⟨(s11.1.getD s10.2.2.toNat Zt0).mono,s11.2⟩:Term))) rfl hv11 sc2.size rfl rfl rfl rfl rfl (by rw [ZH9]; have:=Zan (sz:=9) (show s10.2.2.toNat < s11.1.length by omega); have h9:8+1≤9:=(ZFi rfl); have e9:ZFa.sz=9:=rfl; rw [e9]; omega) (Zkv (E:=ETerm) (o:=8) (show s10.2.2.toNat < s11.1.length by omega) (ZFi rfl) rfl) fun w14 hC=>?_))
    replace hC:=J8 hC 0 ((s11.1.set s10.2.2.toNat (⟨(s11.1.getD s10.2.2.toNat Zt0).mono,s11.2⟩:Term)).length) (ZFa.encs (s11.1.set s10.2.2.toNat (⟨(s11.1.getD s10.2.2.toNat Zt0).mono,s11.2⟩:Term))) rfl (by simp) rfl
    refine dn (Zn (Zb (v:=vI s11.2) rfl (Zr rfl rfl (Zc (v:=vI (Zwe.wrap (s11.2+1))) rfl (done (Zt (Zd (Zn (Zb (v:=vI s10.2.2) rfl (Zr rfl rfl (Zc (v:=vI (Zwe.wrap (s10.2.2+1))) rfl (done ?_))))))))))))
    exact hK10 (s11.1.set s10.2.2.toNat (⟨(s11.1.getD s10.2.2.toNat Zt0).mono,s11.2⟩:Term),Zwe.wrap (s11.2+1),Zwe.wrap (s10.2.2+1)) _ _ ⟨(slq rfl),hC⟩ h
   ·skip
    exact⟨(slq rfl),hC⟩
  ·replace h:=Zl h (cf hb10)
   refine ZFn (Zm (Zm (Z5 ?_)))
   refine Zd (sr (Zb (v:=vI s10.2.1) rfl (Zc (v:=vI s10.2.1) rfl (dn (ZFh ?_)))))
   exact Zk rfl (Zg rfl) ⟨s10.2.1,s10.1,rfl,h,(hC.getM 0 rfl),hC.belO⟩ (.inl rfl)
 ·skip
  exact⟨(slq rfl),hC⟩
def Zfc (a0:List Term) (a1:Int) (K:Int→Prop):Prop :=
 Yg (fun i10 (s11:Int) nx10=>Yg (fun i11 (s10:Int) nx11=>(if((a0.getD i10 Zt0).mono).get i11≠ZFl.wrap s10 then K (-1) else nx11 (Zwe.wrap (s10+1)))) (fun (s10:Int)=>(if(a0.getD i10 Zt0).factor≠s10 then K (-1) else nx10 (Zwe.wrap (s10+1)))) 8 0 s11) (fun (s11:Int)=>K s11) a0.length 0 a1
theorem Zqf (a0:List Term) (a1:Int)  {K:Int→Prop} (h:Zfc a0 a1 K) (w0:World) (q0:ZFa.ty.sl.rep a0 [u0_0] fp0 w0) :
  Calls ZFb 37 #[u0_0,vI a1] w0 fun e w'=>∃ (r0:Int),
   e=.returned (vI r0)∧K r0∧Bel w0 w':=by
 unfold Zfc at h
 refine cof Tryz.func37 rfl 39 Tryz.ntmps37 ?_
 have hC:=ZFu (X:=Nox) w0 [ZBl ZFa.ty.sl a0 [u0_0] fp0] (al1 q0)
 refine sr (Zc (v:=vI 0) rfl (dn (ZE9 (sr (Zc (v:=vI 0) rfl (dn (ZFf ?_)))))))
 have hN10:a0.length≤9223372036854775807:=Y0 (hC.getP 0 rfl)
 refine Yp (S:=Int) _ _ (fun i10 s11 e_ w_=>Z2 e_ [(0,u0_0),(1,vI s11),(5,vI (i10:Int))]∧Ctx Nox w0 w_ [] [ZBl ZFa.ty.sl a0 [u0_0] fp0]) a0.length ?_ ?_ (s0:=a1) ?_ h
 ·clear hC h
  rintro i10 s11 e_ w10 nx10 K10 hi10 ⟨hS_,hC⟩ h hK10
  rw [ue hS_]
  refine ZE9 (sr (Zb (v:=vI (i10:Int)) rfl (Zb (v:=u0_0) rfl (Zx hC 0 rfl ZFj rfl (Zo rfl rfl (dn (Z8 rfl (decide_eq_true (by omega)) (ZFc (Zd (ZE9 (ZFf (ZE9 (sr (Zc (v:=vI 0) rfl (dn (ZFf ?_))))))))))))))))
  refine Yp (S:=Int) _ _ (fun i11 s10 e_ w_=>Z2 e_ [(0,u0_0),(1,vI s10),(5,vI (i10:Int)),(6,vI (i11:Int))]∧Ctx Nox w0 w_ [] [ZBl ZFa.ty.sl a0 [u0_0] fp0]) 8 ?_ ?_ (s0:=s11) ?_ h
  ·clear hC h
   rintro i11 s10 e_ w11 nx11 K11 hi11 ⟨hS_,hC⟩ h hK11
   rw [ue hS_]
   refine ZE9 (sr (Zb (v:=vI (i11:Int)) rfl (Zo rfl rfl (dn (Z8 rfl (decide_eq_true (by omega)) (ZFc (Zd (ZE9 (ZFf (ZE9 (sr (Zb (v:=u0_0) rfl (Zb (v:=vI (i10:Int)) rfl (Zb (v:=vI (i11:Int)) rfl ?_))))))))))))))
   obtain ⟨Ad10,c10,hv10⟩:=Z3 (hC.getP 0 rfl) i10 hi10
   refine Yu (len:=a0.length) ZFj ag90.size (tr rfl hv10) rfl (ZFq _) (ZF8.2 hi10) (Zal (i10 * 9+0) ZFp rfl ag88.size rfl rfl (Zkw (i10 * 9+0+i11) ZFr sc5.size rfl rfl (ZFq _) (by omega) (by omega) (Xz (.int .u8 (((a0.getD i10 Zt0).mono).get i11)) (Xo (o:=i11) (k:=1) (Yj (hC.getP 0 rfl) hv10 i10 hi10) (Zih (r:=_) hi11)) sc5 rfl (Zb (v:=vI s10) rfl (Zfz ZGh ZGb rfl (Y7 rfl rfl (dn ?_)))))))
   refine Zq rfl (fun hb10=>?_) (fun hb10=>?_)
   ·replace h:=ift h (ct hb10)
    refine sr (Zc (v:=vI (-1)) rfl (dn ?_))
    refine ZFh (Ze (Zv (Ze (Ze (Zv (Ze (Zv (Ze (Ze (Zv (Ze ?_)))))))))))
    exact Zk rfl (Zg rfl) ⟨(-1),rfl,h,hC.below⟩ (.inl rfl)
   ·replace h:=Zl h (cf hb10)
    refine ZFc (Zd (Zn (Zb (v:=vI s10) rfl (Zr rfl rfl (Zc (v:=vI (Zwe.wrap (s10+1))) rfl (done (Zt (Zd (Zn (Zb (v:=vI (i11:Int)) rfl (Zr rfl rfl (Zc (v:=vI (Zwe.wrap ((i11:Int)+1))) rfl (done ?_)))))))))))))
    exact hK11 (Zwe.wrap (s10+1)) _ _ ⟨(sl ⟨rfl,rfl,rfl,(tr rfl (congrArg _ (Z9 hi11 (by decide)))),trivial⟩),hC⟩ h
  ·clear hC h
   rintro s10 e_ w12 K11 ⟨hS_,hC⟩ h
   rw [ue hS_]
   refine ZE9 (sr (Zb (v:=vI 8) rfl (Zo rfl rfl (dn (Ya rfl (decide_eq_false (by omega)) ?_)))))
   refine ZFn (Zm (Zm (Z5 ?_)))
   refine Zd (ZE9 (sr (Zb (v:=u0_0) rfl (Zb (v:=vI (i10:Int)) rfl ?_))))
   obtain ⟨Ad11,c11,hv11⟩:=Z3 (hC.getP 0 rfl) i10 hi10
   refine Yu (len:=a0.length) ZFj ag90.size (tr rfl hv11) rfl (ZFq _) (ZF8.2 hi10) (Zal (i10 * 9+8) ZFp rfl sc2.size rfl rfl (Xz (vI ((a0.getD i10 Zt0).factor)) (Xo (o:=8) (k:=1) (Yj (hC.getP 0 rfl) hv11 i10 hi10) rfl) sc2 rfl (Zb (v:=vI s10) rfl (Y7 rfl rfl (dn ?_)))))
   refine Zq rfl (fun hb11=>?_) (fun hb11=>?_)
   ·replace h:=ift h (ct hb11)
    refine sr (Zc (v:=vI (-1)) rfl (dn ?_))
    refine ZFh (Ze (Zv (Ze (Ze (Zv (Ze ?_))))))
    exact Zk rfl (Zg rfl) ⟨(-1),rfl,h,hC.below⟩ (.inl rfl)
   ·replace h:=Zl h (cf hb11)
    refine ZFc (Zd (Zn (Zb (v:=vI s10) rfl (Zr rfl rfl (Zc (v:=vI (Zwe.wrap (s10+1))) rfl (done (Zt (Zd (Zn (Zb (v:=vI (i10:Int)) rfl (Zr rfl rfl (Zc (v:=vI (Zwe.wrap ((i10:Int)+1))) rfl (done ?_)))))))))))))
    exact hK10 (Zwe.wrap (s10+1)) _ _ ⟨(sl ⟨rfl,rfl,(tr rfl (congrArg _ (Z9 hi10 hN10))),trivial⟩),hC⟩ h
  ·skip
   exact⟨(slq rfl),hC⟩
 ·clear hC h
  rintro s11 e_ w13 K10 ⟨hS_,hC⟩ h
  rw [ue hS_]
  refine ZE9 (sr (Zb (v:=vI (a0.length:Int)) rfl (Zb (v:=u0_0) rfl (Zx hC 0 rfl ZFj rfl (Zo rfl rfl (dn (Ya rfl (decide_eq_false (by omega)) ?_)))))))
  refine ZFn (Zm (Zm (Z5 ?_)))
  refine Zd (sr (Zb (v:=vI s11) rfl (Zc (v:=vI s11) rfl (dn (ZFh ?_)))))
  exact Zk rfl (Zg rfl) ⟨s11,rfl,h,hC.below⟩ (.inl rfl)
 ·skip
  exact⟨(slq rfl),hC⟩
def Zfd (a0:Bool) (a1:Int) (K:Int→Prop):Prop :=
 (if a0=true then K a1 else K 0)
theorem Zqg (a0:Bool) (a1:Int)  {K:Int→Prop} (h:Zfd a0 a1 K) (w0:World)  :
  Calls ZFb 47 #[.bool a0,vI a1] w0 fun e w'=>∃ (r0:Int),
   e=.returned (vI r0)∧K r0∧Bel w0 w':=by
 unfold Zfd at h
 refine cof Tryz.func47 rfl 7 Tryz.ntmps47 ?_
 have hC:=ZFu (X:=Nox) w0 [] (by simp)
 refine sr (Zc (v:=vI 0) rfl (dn (ZE9 (sr (Zb (v:=.bool a0) rfl (dn ?_))))))
 refine Zq rfl (fun hb1=>?_) (fun hb1=>?_)
 ·replace h:=ift h (hb1)
  refine sr (Zb (v:=vI a1) rfl (Zc (v:=vI a1) rfl (dn ?_)))
  refine ZFh (Ze ?_)
  exact Zk rfl (Zg rfl) ⟨a1,rfl,h,hC.below⟩ (.inl rfl)
 ·replace h:=Zl h (Yq hb1)
  refine ZFc (Zd (sr (Zc (v:=vI 0) rfl (dn (ZFh ?_)))))
  exact Zk rfl (Zg rfl) ⟨0,rfl,h,hC.below⟩ (.inl rfl)
end Go.Proofs.YtheenipahifleaaGreat
namespace Go.Proofs.YtheenipahifleaaGreat
open Go Vc
theorem Zlc {a b c:Int} {K:Bool→Prop} (h:K (decide (b≤a∧a≤c))):Zde a b c K:=by
  unfold Zde
  split
  · rename_i h1; simpa [show b≤a from h1] using h
  · rename_i h1; simpa [show ¬ b≤a from h1] using h
theorem Zqh {ds:List Int} {K:Bool→Prop} (h:K (decide (OkDeg ds))):Zep ds K:=by
  unfold Zep
  refine Yr (fun i _=>∀ j,j < i→1≤ds.getD j Zt0∧ds.getD j Zt0≤12) ds.length ?_ ?_ _ _ _ (by omega) (by intro j hj; omega)
  · intro i s next hi hI hn
    refine Zlc ?_
    split
    · rename_i h1
      have:¬ OkDeg ds:=fun hd=>h1 (by simpa using hd.2 i hi)
      simpa [this] using h
    · rename_i h1
      refine hn _ fun j hj=>?_
      by_cases hji:j=i
      · subst hji; simpa using h1
      · exact hI j (by omega)
  · intro s hI
    have:(decide ((ds.length:Int)≤8))=decide (OkDeg ds):=by
      rw [decide_eq_decide]; unfold OkDeg
      constructor
      · intro h8; exact⟨by omega,hI⟩
      · intro h8; have:=h8.1; omega
    rw [this]; exact h
theorem Zqi {ds : List Int} {a : A8} {K : Bool → Prop} (ha : ∀ i, i < 8 → 0 ≤ a.get i) (hl : ds.length ≤ 8) (h : K (decide (OkMono ds a))) : Zeq ds a K := by
  unfold Zeq
  refine Yr (fun i _=>∀ j,j < i→(j < ds.length→a.get j≤20∧(Zul (ds.getD j Zt0) 2≠0→a.get j≤1))∧(ds.length≤j→a.get j=0)) 8 ?_ ?_ _ _ _ (by omega) (by intro j hj; omega)
  · intro i s next hi hI hn
    have no:¬ ((i < ds.length→a.get i≤20∧(Zul (ds.getD i Zt0) 2≠0→a.get i≤1))∧(ds.length≤i→a.get i=0))→K false:=by
      intro hno
      have:¬ OkMono ds a:=fun hm=>hno (hm i hi)
      simpa [this] using h
    have yes:((i < ds.length→a.get i≤20∧(Zul (ds.getD i Zt0) 2≠0→a.get i≤1))∧(ds.length≤i→a.get i=0))→next ():=by
      intro hy
      refine hn _ fun j hj=>?_
      by_cases hji:j=i
      · subst hji; exact hy
      · exact hI j (by omega)
    split
    · split
      · exact no (by intro q; have:=q.2 (by omega); contradiction)
      · rename_i q
        exact yes ⟨by omega,by intro _; simpa using q⟩
    · split
      · exact no (by intro q; have:=(q.1 (by omega)).1; omega)
      · refine⟨by omega,?_⟩
        split
        · split
          · exact no (by intro q; rename_i q1 q2; have:=(q.1 (by omega)).2 q1; omega)
          · exact yes ⟨fun _=>⟨by omega,fun _=>by omega⟩,by omega⟩
        · rename_i q1
          exact yes ⟨fun _=>⟨by omega,fun q2=>absurd q2 q1⟩,by omega⟩
  · intro s hI
    have:OkMono ds a:=fun i hi=>hI i hi
    simpa [this] using h
theorem Zqj {ds : List Int} {a : A8} {K : Bool → Prop} (hd : OkDeg ds) (ha : ∀ i, i < 8 → 0 ≤ a.get i) (h : K (decide (OkMono ds a))) : Zey ds a K := by
  unfold Zey
  refine Yr (fun i _=>∀ j,j < i→(j < ds.length→a.get j≤20∧(Zul (ds.getD j Zt0) 2≠0→a.get j≤1))∧(ds.length≤j→a.get j=0)) 8 ?_ ?_ _ _ _ (by omega) (by intro j hj; omega)
  · intro i s next hi hI hn
    have hai:=ha i hi
    have no:¬ ((i < ds.length→a.get i≤20∧(Zul (ds.getD i Zt0) 2≠0→a.get i≤1))∧(ds.length≤i→a.get i=0))→K false:=by
      intro hno
      have:¬ OkMono ds a:=fun hm=>hno (hm i hi)
      simpa [this] using h
    have yes:((i < ds.length→a.get i≤20∧(Zul (ds.getD i Zt0) 2≠0→a.get i≤1))∧(ds.length≤i→a.get i=0))→next ():=by
      intro hy
      refine hn _ fun j hj=>?_
      by_cases hji:j=i
      · subst hji; exact hy
      · exact hI j (by omega)
    split
    · refine⟨by omega,?_⟩
      rename_i hl
      have hod:=hd.odd (show i < ds.length by omega)
      split
      · rename_i h1
        split
        · exact no (by intro q; have:=(q.1 (by omega)).2 (by omega); omega)
        · exact yes ⟨fun _=>⟨by omega,fun _=>by omega⟩,by omega⟩
      · rename_i h1
        split
        · exact no (by intro q; have:=(q.1 (by omega)).1; omega)
        · exact yes ⟨fun _=>⟨by omega,fun q=>by omega⟩,by omega⟩
    · split
      · exact no (by intro q; have:=q.2 (by omega); omega)
      · exact yes ⟨by omega,fun _=>by omega⟩
  · intro s hI
    have:OkMono ds a:=fun i hi=>hI i hi
    simpa [this] using h
theorem Zld {a b c:Int} {K:Bool→Prop} (h:K (decide (b≤a∧a≤c))):Zdk a b c K:=by
  unfold Zdk
  split
  · rename_i h1; simpa [show b≤a from h1] using h
  · rename_i h1; simpa [show ¬ b≤a from h1] using h
theorem Zqk {ds : List Int} {K : Bool → Prop} (h : K (decide (OkDeg ds))) : Zex ds K := by
  unfold Zex
  split
  · rename_i h8
    unfold Zgt Zgs
    refine Yr (fun i _=>∀ j,j < i→1≤ds.getD j Zt0∧ds.getD j Zt0≤12) ds.length ?_ ?_ _ _ _ (by omega) (by intro j hj; omega)
    · intro i s next hi hI hn
      unfold Zew
      refine Zld ?_
      dsimp only
      split
      · rename_i h1
        have:¬ OkDeg ds:=fun hd=>by have:=hd.2 i hi; simp only [Bool.not_eq_true',decide_eq_false_iff_not] at h1; exact h1 this
        simpa [this,show (i:Int)≥0 by omega] using h
      · rename_i h1
        refine hn _ fun j hj=>?_
        by_cases hji:j=i
        · subst hji; simp only [Bool.not_eq_true',decide_eq_false_iff_not,ZI0] at h1; exact h1
        · exact hI j (by omega)
    · intro s hI
      have:OkDeg ds:=⟨by omega,hI⟩
      simpa [this] using h
  · have:¬ OkDeg ds:=fun hd=>by have:=hd.1; omega
    simpa [this] using h
theorem Zgw {a:A8} {K:A8→Prop} (ha:Jp .u8 a) (h:K a):Zbq a K:=by
  unfold Zbq
  refine Yr (fun i (s:A8)=>∀ j,j < 8→s.get j=if j < i then a.get j else 0) 8 ?_ ?_ _ _ _ (by omega) (by intro j hj; simp [ZIb])
  · intro i s next hi hI hn
    have:=Zic (Zid ha hi)
    rw [i64_in _ (by omega)]
    refine hn _ fun j hj=>?_
    rw [ZH2 hi]
    by_cases hji:j=i
    · subst hji; simp
    · rw [if_neg hji,hI j hj]
      by_cases hj2:j < i
      · rw [if_pos hj2,if_pos (by omega)]
      · rw [if_neg hj2,if_neg (by omega)]
  · intro s hI
    have:s=a:=ZH3 fun i hi=>by rw [hI i hi,if_pos hi]
    rw [this]; exact h
theorem Zql {a:A8} {K:A8→Prop} (h:K a):Ze2 a K:=by
  unfold Ze2
  refine Yr (fun i (s:A8)=>∀ j,j < 8→s.get j=if j < i then a.get j else 0) 8 ?_ ?_ _ _ _ (by omega) (by intro j hj; simp [ZIb])
  · intro i s next hi hI hn
    refine hn _ fun j hj=>?_
    rw [ZH2 hi]
    by_cases hji:j=i
    · subst hji; simp
    · rw [if_neg hji,hI j hj]
      by_cases hj2:j < i
      · rw [if_pos hj2,if_pos (by omega)]
      · rw [if_neg hj2,if_neg (by omega)]
  · intro s hI
    have:s=a:=ZH3 fun i hi=>by rw [hI i hi,if_pos hi]
    rw [this]; exact h
theorem Zqm {ds:List Int} {K:List Int→Prop} (hl:ds.length≤1048576) (h:K ds):Ze3 ds K:=by
  unfold Ze3
  refine⟨by omega,?_⟩
  refine Yr (fun i (s:List Int)=>s.length=ds.length∧∀ j,j < i→s.getD j Zt0=ds.getD j Zt0) ds.length ?_ ?_ _ _ _ (by omega) (by simp)
  · intro i s next hi hI hn
    refine⟨by omega,hn _ ⟨by simpa using hI.1,fun j hj=>?_⟩⟩
    by_cases hji:j=i
    · subst hji; simp [Zt7,hI.1,hi]
    · rw [← hI.2 j (by omega)]; simp [Zt7,List.getElem?_set_ne (fun e=>hji e.symm)]
  · intro s hI
    have:s=ds:=by
      apply List.ext_getElem hI.1
      intro i h1 h2
      have:=hI.2 i h2
      simpa [Zt7,h1,h2] using this
    rw [this]; exact h
theorem Zqn {a b:A8} {K:Bool→Prop} (h:K (decide (a=b))):Ze4 a b K:=by
  unfold Ze4
  refine Yr (fun i _=>∀ j,j < i→a.get j=b.get j) 8 ?_ ?_ _ _ _ (by omega) (by intro j hj; omega)
  · intro i s next hi hI hn
    split
    · rename_i h1
      have:¬ a=b:=fun e=>h1 (by rw [e])
      simpa [this] using h
    · rename_i h1
      refine hn _ fun j hj=>?_
      by_cases hji:j=i
      · subst hji; simpa using h1
      · exact hI j (by omega)
  · intro s hI
    have:a=b:=ZH3 hI
    simpa [this] using h
theorem Zqo {a b : List Int} {K : Bool → Prop} (h : K (decide (a = b))) : Ze5 a b K := by
  unfold Ze5
  split
  · rename_i h1
    have:¬ a=b:=fun e=>h1 (by rw [e])
    simpa [this] using h
  · rename_i h1
    have hl:a.length=b.length:=by omega
    refine Yr (fun i _=>∀ j,j < i→a.getD j Zt0=b.getD j Zt0) a.length ?_ ?_ _ _ _ (by omega) (by intro j hj; omega)
    · intro i s next hi hI hn
      refine⟨by omega,?_⟩
      split
      · rename_i h1
        have:¬ a=b:=fun e=>h1 (by rw [e])
        simpa [this] using h
      · rename_i h1
        refine hn _ fun j hj=>?_
        by_cases hji:j=i
        · subst hji; simpa using h1
        · exact hI j (by omega)
    · intro s hI
      have:a=b:=by
        apply List.ext_getElem hl
        intro i h1 h2
        have:=hI i h1
        simpa [Zt7,h1,h2] using this
      simpa [this] using h
end Go.Proofs.YtheenipahifleaaGreat
namespace Go.Proofs.YtheenipahifleaaGreat
open Go Vc
theorem Zgx {ds:List Int} {a:A8} (h:X0 ds a) (hl:ds.length≤8) {i:Nat} (hi:i < ds.length) (ho:Zul (ds.getD i Zt0) 2≠0):a.get i≤1:=((h i (by omega)).1 hi).2 ho
theorem Zqp {ds:List Int} {a b s:A8} (ha:X0 ds a) (hb:X0 ds b) (hl:ds.length≤8) (h:∀ j,j < 8→s.get j=if j < ds.length then a.get j+b.get j else 0):s=a.add b:=by
  refine ZH3 fun i hi=>?_
  rw [h i hi,A8.get_add]
  split
  · rfl
  · rw [(ha i hi).2 (by omega),(hb i hi).2 (by omega)]; rfl
theorem Zqq {ds : List Int} {a b : A8} {K : A8 → Int → Prop} (hd : OkDeg ds) (ha : X0 ds a) (hb : X0 ds b) (pa : ∀ i, i < 8 → 0 ≤ a.get i) (pb : ∀ i, i < 8 → 0 ≤ b.get i)
    (h:K (Ys ds a b).1 (Ys ds a b).2):Zes ds a b K:=by
  have h8:=hd.1
  unfold Zes
  refine Yr (fun i (s:A8×Int)=>(∀ j,j < i→j < ds.length→Zul (ds.getD j Zt0) 2≠0→¬ (0 < a.get j∧0 < b.get j))∧(∀ j,j < 8→s.1.get j=if j < i then a.get j+b.get j else 0)∧(s.2=1∨s.2=-1)∧s.2 * sg (Zat ds a b (ds.length - i) i)=sg (Zat ds a b ds.length 0)) ds.length ?_ ?_ _ _ _ (by omega) ⟨by intro j hj; omega,by intro j hj; simp [ZIb],by simp,by simp⟩
  · rintro i ⟨s1,s2⟩ next hi ⟨h1,h2,h3,h4⟩ hn
    have hi8:i < 8:=by omega
    have pai:=pa i hi8
    have pbi:=pb i hi8
    have a20:=((ha i hi8).1 hi).1
    have b20:=((hb i hi8).1 hi).1
    have hr:ds.length - i=(ds.length - (i+1))+1:=by omega
    rw [hr] at h4
    simp only [Zat] at h4
    dsimp only at h1 h2 h3 h4 ⊢
    have hw:ZFl.wrap (a.get i+b.get i)=a.get i+b.get i:=Zgh _ (by omega)
    rw [hw]
    have hset:∀ j,j < 8→(s1.set i (a.get i+b.get i)).get j=if j < i+1 then a.get j+b.get j else 0:=by
      intro j hj
      rw [ZH2 hi8]
      by_cases hji:j=i
      · subst hji; simp
      · rw [if_neg hji,h2 j hj]
        by_cases hj2:j < i
        · rw [if_pos hj2,if_pos (by omega)]
        · rw [if_neg hj2,if_neg (by omega)]
    refine⟨by omega,by omega,by omega,?_⟩
    split
    · rename_i he
      rw [if_pos (.inl he),ZH0] at h4
      refine hn _ ⟨fun j hj hjl ho=>?_,hset,h3,h4⟩
      by_cases hji:j=i
      · subst hji; exact absurd he ho
      · exact h1 j (by omega) hjl ho
    · rename_i he
      have a1:=Zgx ha h8 hi he
      have b1:=Zgx hb h8 hi he
      refine⟨by omega,?_⟩
      rw [ZH2 hi8,if_pos rfl]
      split
      · rename_i hc
        have:Clash ds a b:=⟨i,hi,he,by omega,by omega⟩
        simpa [Ys,this] using h
      · rename_i hc
        have hnc:∀ j,j < i+1→j < ds.length→Zul (ds.getD j Zt0) 2≠0→¬ (0 < a.get j∧0 < b.get j):=by
          intro j hj hjl ho
          by_cases hji:j=i
          · subst hji; omega
          · exact h1 j (by omega) hjl ho
        rw [i64_in _ (by omega)]
        refine Jd (fun (t:Int×Int)=>((i:Int)+1≤t.1∧t.1≤ds.length)∧(t.2=1∨t.2=-1)∧(b.get i=1→t.2 * sg (Zas ds a (ds.length - t.1.toNat) t.1.toNat)=s2 * sg (Zas ds a (ds.length - (i+1)) (i+1)))∧(b.get i≠1→t.2=s2)) (fun t=>ds.length - t.1.toNat) ?_ ⟨by omega,h3,fun _=>by rw [show ((i:Int)+1).toNat=i+1 by omega],fun _=>rfl⟩
        rintro ⟨j,c⟩ next' ⟨⟨q1,q2⟩,q3,q4,q5⟩ hn'
        dsimp only at q1 q2 q3 q4 q5 ⊢
        split
        · rename_i hj
          refine⟨by omega,?_⟩
          split
          · rename_i hb1
            have hjn:j.toNat < ds.length:=by omega
            refine⟨by omega,?_⟩
            have q4:=q4 hb1
            have hr2:ds.length - j.toNat=(ds.length - (j.toNat+1))+1:=by omega
            rw [hr2] at q4
            simp only [Zas] at q4
            have hj1:(j+1).toNat=j.toNat+1:=by omega
            rw [i64_in (j+1) (by omega)]
            have pj:=pa j.toNat (by omega)
            split
            · rename_i ho
              have aj:=Zgx ha h8 hjn ho
              have od:=hd.odd hjn
              have od1:Zul (ds.getD j.toNat Zt0) 2=1:=by omega
              rw [od1,Int.one_mul] at q4
              refine⟨by omega,?_⟩
              split
              · rename_i haj
                rw [haj,Int.add_comm,Zop] at q4
                rw [i64_in (0 - c) (by omega)]
                refine hn' _ ⟨⟨by dsimp only; omega,by dsimp only; omega⟩,by dsimp only; omega,fun _=>?_,fun hne=>absurd hb1 hne⟩ (by dsimp only; omega)
                dsimp only
                rw [hj1,Int.zero_sub,Int.neg_mul,← Int.mul_neg]; exact q4
              · rename_i haj
                rw [show a.get j.toNat=0 by omega,ZH0] at q4
                refine hn' _ ⟨⟨by dsimp only; omega,by dsimp only; omega⟩,q3,fun _=>?_,fun hne=>absurd hb1 hne⟩ (by dsimp only; omega)
                dsimp only
                rw [hj1]; exact q4
            · rename_i ho
              rw [show Zul (ds.getD j.toNat Zt0) 2=0 by simpa using ho,Int.zero_mul,ZH0] at q4
              refine hn' _ ⟨⟨by dsimp only; omega,by dsimp only; omega⟩,q3,fun _=>?_,fun hne=>absurd hb1 hne⟩ (by dsimp only; omega)
              dsimp only
              rw [hj1]; exact q4
          · rename_i hb1
            refine hn _ ⟨hnc,hset,q3,?_⟩
            rw [if_pos (.inr (by omega)),ZH0] at h4
            dsimp only
            rw [q5 hb1]; exact h4
        · rename_i hj
          refine hn _ ⟨hnc,hset,q3,?_⟩
          dsimp only
          by_cases hb1:b.get i=1
          · have q4:=q4 hb1
            rw [show ds.length - j.toNat=0 by omega] at q4
            simp only [Zas] at q4
            rw [show sg 0=1 from rfl,Int.mul_one] at q4
            rw [if_neg (by omega),Zgi,← Int.mul_assoc] at h4
            rw [q4]; exact h4
          · rw [if_pos (.inr (by omega)),ZH0] at h4
            rw [q5 hb1]; exact h4
  · rintro ⟨s1,s2⟩ ⟨h1,h2,h3,h4⟩
    have hnc:¬ Clash ds a b:=fun ⟨i,hi,ho,hp⟩=>h1 i hi hi ho hp
    rw [Nat.sub_self] at h4
    simp only [Zat] at h4
    rw [show sg 0=1 from rfl,Int.mul_one] at h4
    have hs:s1=a.add b:=Zqp ha hb h8 h2
    dsimp only at h4 ⊢
    rw [hs,h4]
    simpa [Ys,hnc] using h
theorem Zqr {ds : List Int} {a b : A8} {K : A8 → Int → Prop} (hd : OkDeg ds) (ha : X0 ds a) (hb : X0 ds b) (pa : ∀ i, i < 8 → 0 ≤ a.get i) (pb : ∀ i, i < 8 → 0 ≤ b.get i)
    (h:K (Ys ds a b).1 (Ys ds a b).2):Zeu a ds b K:=by
  have h8:=hd.1
  have bnd:∀ (x:A8),X0 ds x→∀ i,i < 8→x.get i≤100:=by
    intro x hx i hi
    by_cases hl:i < ds.length
    · exact((hx i hi).1 hl).1
    · rw [(hx i hi).2 (by omega)]; omega
  unfold Zeu
  refine Yr (fun i (c:Int)=>(∀ j,j < i→j < ds.length→Zul (ds.getD j Zt0) 2≠0→¬ (0 < a.get j∧0 < b.get j))∧(0≤c∧c≤8 * i)∧c+Zat ds a b (ds.length - i) i=Zat ds a b ds.length 0) ds.length ?_ ?_ _ _ _ (by omega) ⟨by intro j hj; omega,by omega,by simp⟩
  · rintro i c next hi ⟨h1,h2,h4⟩ hn
    have hi8:i < 8:=by omega
    have pai:=pa i hi8
    have pbi:=pb i hi8
    have hr:ds.length - i=(ds.length - (i+1))+1:=by omega
    rw [hr] at h4
    simp only [Zat] at h4
    split
    · rename_i he
      rw [if_pos (.inl he),ZH0] at h4
      refine hn _ ⟨fun j hj hjl ho=>?_,by omega,h4⟩
      by_cases hji:j=i
      · subst hji; exact absurd he ho
      · exact h1 j (by omega) hjl ho
    · rename_i he
      refine⟨by omega,?_⟩
      have hnc:¬ (0 < a.get i∧0 < b.get i)→∀ j,j < i+1→j < ds.length→Zul (ds.getD j Zt0) 2≠0→¬ (0 < a.get j∧0 < b.get j):=by
        intro hno j hj hjl ho
        by_cases hji:j=i
        · subst hji; exact hno
        · exact h1 j (by omega) hjl ho
      split
      · rename_i hap
        refine⟨by omega,?_⟩
        split
        · rename_i hbp
          have:Clash ds a b:=⟨i,hi,he,by omega,by omega⟩
          simpa [Ys,this] using h
        · rename_i hbp
          rw [if_pos (.inr (by omega)),ZH0] at h4
          exact⟨by omega,hn _ ⟨hnc (by omega),by omega,h4⟩⟩
      · rename_i hap
        refine⟨by omega,?_⟩
        split
        · rename_i hbp
          have he0:¬ (Zul (ds.getD i Zt0) 2=0∨b.get i≤0):=by rintro (q | q); exact he q; omega
          rw [if_neg he0] at h4
          rw [i64_in _ (by omega)]
          refine Jd (fun (t:Int×Int)=>((i:Int)+1≤t.1∧t.1≤ds.length)∧(0≤t.2∧t.2≤8 * i+(t.1 - (i+1)))∧t.2+Zas ds a (ds.length - t.1.toNat) t.1.toNat=c+Zas ds a (ds.length - (i+1)) (i+1)) (fun t=>ds.length - t.1.toNat) ?_ ⟨by omega,by omega,by rw [show ((i:Int)+1).toNat=i+1 by omega]⟩
          rintro ⟨j,d⟩ next' ⟨⟨q1,q2⟩,q3,q4⟩ hn'
          dsimp only at q1 q2 q3 q4 ⊢
          split
          · rename_i hj
            have hjn:j.toNat < ds.length:=by omega
            refine⟨by omega,by omega,?_⟩
            have hr2:ds.length - j.toNat=(ds.length - (j.toNat+1))+1:=by omega
            rw [hr2] at q4
            simp only [Zas] at q4
            have hj1:(j+1).toNat=j.toNat+1:=by omega
            have pj:=pa j.toNat (by omega)
            have hm:0≤Zul (ds.getD j.toNat Zt0) 2 * a.get j.toNat∧Zul (ds.getD j.toNat Zt0) 2 * a.get j.toNat≤1:=by
              rcases hd.odd hjn with od | od
              · rw [od]; omega
              · have:=Zgx ha h8 hjn (by omega)
                rw [od]; omega
            rw [i64_in (Zul (ds.getD j.toNat Zt0) 2 * a.get j.toNat) (by omega),i64_in (d+Zul (ds.getD j.toNat Zt0) 2 * a.get j.toNat) (by omega),i64_in (j+1) (by omega)]
            refine hn' _ ⟨⟨by dsimp only; omega,by dsimp only; omega⟩,by dsimp only; omega,?_⟩ (by dsimp only; omega)
            dsimp only
            rw [hj1]; omega
          · rename_i hj
            rw [show ds.length - j.toNat=0 by omega] at q4
            simp only [Zas] at q4
            refine hn _ ⟨hnc (by omega),by omega,by omega⟩
        · rename_i hbp
          rw [if_pos (.inr (by omega)),ZH0] at h4
          exact hn _ ⟨hnc (by omega),by omega,h4⟩
  · rintro c ⟨h1,h2,h4⟩
    have hnc:¬ Clash ds a b:=fun ⟨i,hi,ho,hp⟩=>h1 i hi hi ho hp
    rw [Nat.sub_self] at h4
    simp only [Zat,Int.add_zero] at h4
    refine Yr (fun i (s:A8)=>∀ j,j < 8→s.get j=if j < i then a.get j+b.get j else a.get j) 8 ?_ ?_ _ _ _ (by omega) (by intro j hj; simp)
    · intro i s next hi hI hn
      have e1:=hI i hi
      rw [if_neg (by omega)] at e1
      have:=bnd a ha i hi
      have:=bnd b hb i hi
      have:=pa i hi
      have:=pb i hi
      rw [e1,i64_in _ (by omega)]
      refine hn _ fun j hj=>?_
      rw [ZH2 hi]
      by_cases hji:j=i
      · subst hji; simp
      · rw [if_neg hji,hI j hj]
        by_cases hj2:j < i
        · rw [if_pos hj2,if_pos (by omega)]
        · rw [if_neg hj2,if_neg (by omega)]
    · intro s hI
      have hs:s=a.add b:=ZH3 fun i hi=>by rw [hI i hi,if_pos hi,A8.get_add]
      have hj:Ys ds a b=(a.add b,sg c):=by simp [Ys,hnc,h4]
      rw [hj] at h
      rw [hs]
      split
      · rename_i ho
        have:sg c=-1:=by unfold sg; rw [ZH5 (by omega)] at ho; rw [if_neg (by omega)]
        rw [this] at h; exact h
      · rename_i ho
        have:sg c=1:=by unfold sg; rw [ZH5 (by omega)] at ho; rw [if_pos (by omega)]
        rw [this] at h; exact h
end Go.Proofs.YtheenipahifleaaGreat
namespace Go.Proofs.YtheenipahifleaaGreat
open Go Vc
theorem Zqs {l:List (A8×Int)} {K:List A8→Prop} (hl:l.length≤100000) (hok:∀ p,p∈l→OkP p.1) (h:∀ xs:List A8,xs.Perm (l.map (·.1))→xs.Pairwise (fun a b=>¬ pcmp b a < 0)→K xs):Zev l K:=by
  unfold Zev
  refine Zc8 (fun l' (s:List A8)=>(s++l'.map (·.1)).Perm (l.map (·.1))∧s.length+l'.length=l.length) ?_ ?_ l [] ⟨by simp,by simp⟩
  · intro l' p l'' s next hp ⟨h1,h2⟩ hn
    have hpp:=Zc9 hp
    have hln:=Zc5 hp
    refine⟨by unfold X4; omega,hn _ ⟨?_,by simp; omega⟩⟩
    refine List.Perm.trans ?_ h1
    rw [List.append_assoc]
    refine List.Perm.append_left _ ?_
    exact(hpp.map (·.1)).symm
  · intro s ⟨h1,h2⟩
    rw [List.map_nil,List.append_nil] at h1
    refine⟨⟨fun x hx=>?_,by simp at h2; omega⟩,fun xs hp hw=>h xs (hp.trans h1) hw⟩
    obtain ⟨p,hp,rfl⟩:=Zvb.1 (h1.mem_iff.1 hx)
    exact hok p hp
theorem Zqt {l : List (A8 × Int)} {K : ZFd → Int → Prop} (hl : l.length ≤ 400) (hok : ∀ p, p ∈ l → OkP p.1) (h3 : (∃ p, p ∈ l ∧ ∃ i, i < 8 ∧ p.1.get i > 20) → K ⟨[]⟩ 3)
    (h0:(∀ p,p∈l→∀ i,i < 8→p.1.get i≤20)→∀ xs:List A8,xs.Perm (l.map (·.1))→xs.Pairwise (fun a b=>¬ pcmp b a < 0)→K ⟨xs.map fun x=>⟨x,(Yw l x).getD 0⟩⟩ 0):Zch l K:=by
  unfold Zch
  rw [if_neg (by omega)]
  refine Zqs (by omega) hok fun xs hp hw=>?_
  have hxl:xs.length=l.length:=by simpa using hp.length_eq
  have hxm:∀ i,i < xs.length→∃ p,p∈l∧p.1=xs.getD i Zt0:=by
    intro i hi
    have:xs.getD i Zt0∈xs:=by simp [Zt7,hi]
    obtain ⟨p,hpl,he⟩:=Zvb.1 (hp.mem_iff.1 this)
    exact⟨p,hpl,he⟩
  refine Yr (fun i (s:List Term)=>(∀ j,j < i→∀ q,q < 8→(xs.getD j Zt0).get q≤20)∧s=(xs.take i).map fun x=>⟨x,(Yw l x).getD 0⟩) xs.length ?_ ?_ _ _ _ (by omega) ⟨by intro j hj; omega,by simp⟩
  · intro i s next hi ⟨h1, h2⟩ hn
    obtain ⟨p,hpl,hpe⟩:=hxm i hi
    refine Yr (fun j (t:A8)=>(∀ q,q < j→(xs.getD i Zt0).get q≤20)∧∀ q,q < 8→t.get q=if q < j then(xs.getD i Zt0).get q else 0) 8 ?_ ?_ _ _ _ (by omega) ⟨by intro q hq; omega,by intro q hq; simp [ZIb]⟩
    · intro j t next' hj ⟨g1, g2⟩ hn'
      split
      · rename_i hgt
        exact h3 ⟨p,hpl,j,hj,by rw [hpe]; exact hgt⟩
      · rename_i hgt
        have hnn:=(hok p hpl _ (A8.mem_list.2 ⟨j,hj,rfl⟩)).1
        rw [hpe] at hnn
        rw [Zgh _ (by omega)]
        refine hn' _ ⟨fun q hq=>?_,fun q hq=>?_⟩
        · by_cases hqj:q=j
          · subst hqj; omega
          · exact g1 q (by omega)
        · rw [ZH2 hj]
          by_cases hqj:q=j
          · subst hqj; simp
          · rw [if_neg hqj,g2 q hq]
            by_cases hq2:q < j
            · rw [if_pos hq2,if_pos (by omega)]
            · rw [if_neg hq2,if_neg (by omega)]
    · intro t ⟨g1,g2⟩
      have ht:t=xs.getD i Zt0:=ZH3 fun q hq=>by rw [g2 q hq,if_pos hq]
      have hsl:s.length=i:=by rw [h2]; simp; omega
      refine⟨by unfold X4; omega,hn _ ⟨fun j hj q hq=>?_,?_⟩⟩
      · by_cases hji:j=i
        · subst hji; exact g1 q hq
        · exact h1 j (by omega) q hq
      · rw [List.take_add_one,List.map_append,← h2,ht]
        congr 1
        simp [Zt7,hi]
  · intro s ⟨h1,h2⟩
    rw [h2,List.take_length]
    refine h0 (fun p hpl i hi=>?_) xs hp hw
    have:p.1∈xs:=hp.mem_iff.2 (Zvb.2 ⟨p,hpl,rfl⟩)
    obtain ⟨j,hj,hje⟩:=List.getElem_of_mem this
    have:=h1 j hj i hi
    rwa [show xs.getD j Zt0=p.1 by simp [Zt7,hj,hje]] at this
end Go.Proofs.YtheenipahifleaaGreat
namespace Vc
open Go
theorem Zle:∀ (xs ys:List Int),xs.length=ys.length→Xs xs ys=0→xs=ys
  | [],[],_,_=>rfl
  | x :: xs, y :: ys, h, h0 => by
    simp only [Xs] at h0
    split at h0
    · omega
    · rename_i he
      have he:x=y:=ZI0.1 he
      rw [he,Zle xs ys (by simpa using h) h0]
  | [],_::_,h,_=>by simp at h
  | _::_,[],h,_=>by simp at h
theorem Zlf:∀ (xs ys:List Int),Xs xs ys=- Xs ys xs
  | [],[]=>rfl
  | x :: xs, y :: ys => by
    simp only [Xs]
    have:=Zlf xs ys
    split <;> split <;> omega
  | [],_::_=>rfl
  | _::_,[]=>rfl
theorem A8.list_inj {a b:A8} (h:a.list=b.list):a=b:=by
  cases a; cases b
  simpa [A8.list] using h
theorem Zlg (a:A8):pcmp a a=0:=Zkm _
theorem Zlh (a b:A8):pcmp a b=- pcmp b a:=Zlf _ _
theorem Zao {a b c:A8} (h1:pcmp a b < 0) (h2:pcmp b c < 0):pcmp a c < 0:=Zh7 a.list b.list c.list rfl rfl h1 h2
theorem Zgy {a b:A8} (h1:¬ pcmp a b < 0) (h2:¬ pcmp b a < 0):a=b :=
  A8.list_inj (Zle _ _ rfl (by have:=Zlh a b; unfold pcmp at *; omega))
theorem Zfe {a b:A8} (h:pcmp a b < 0):a≠b:=by rintro rfl; rw [Zlg] at h; omega
theorem Zff {a b:A8} (h:pcmp a b < 0):b≠a:=fun e=>Zfe h e.symm
theorem Zli {a b:A8} (h:pcmp a b < 0):¬ pcmp b a < 0:=by have:=Zlh a b; omega
def tot {α:Type} (f:α→Int):List α→Int
  | []=>0
  | a::l=>f a+tot f l
theorem Zdp {α:Type} (f:α→Int) (l k:List α):tot f (l++k)=tot f l+tot f k:=by
  induction l with
  | nil=>simp [tot]
  | cons a l ih=>simp only [List.cons_append,tot,ih]; omega
theorem Zci {α:Type} (f:α→Int) {l k:List α} (h:l.Perm k):tot f l=tot f k:=by
  induction h with
  | nil=>rfl
  | cons x _ ih=>simp only [tot,ih]
  | swap x y l=>simp only [tot]; omega
  | trans _ _ h1 h2=>exact h1.trans h2
theorem Zap {α β:Type} (f:β→Int) (g:α→β) (l:List α):tot f (l.map g)=tot (fun a=>f (g a)) l:=by
  induction l with
  | nil=>rfl
  | cons a l ih=>simp only [Zu1,tot,ih]
theorem Zaz {α:Type} {f g:α→Int} {l:List α} (h:∀ a,a∈l→f a=g a):tot f l=tot g l:=by
  induction l with
  | nil=>rfl
  | cons a l ih=>simp only [tot]; rw [h a (by simp),ih fun b hb=>h b (by simp [hb])]
theorem Zlj {α:Type} (k:Int) (f:α→Int) (l:List α):tot (fun a=>k * f a) l=k * tot f l:=by
  induction l with
  | nil=>simp [tot]
  | cons a l ih=>simp only [tot,ih,Int.mul_add]
theorem Zqu {α:Type} (f g:α→Int) (l:List α):tot (fun a=>f a+g a) l=tot f l+tot g l:=by
  induction l with
  | nil=>simp [tot]
  | cons a l ih=>simp only [tot,ih]; omega
theorem Zgz {α:Type} {f:α→Int} {l:List α} (h:∀ a,a∈l→f a=0):tot f l=0:=by
  induction l with
  | nil=>rfl
  | cons a l ih=>simp only [tot]; rw [h a (by simp),ih fun b hb=>h b (by simp [hb])]; rfl
theorem Zir {α:Type} {f g:α→Int} {l:List α} (h:∀ a,a∈l→f a % 10007=g a % 10007):tot f l % 10007=tot g l % 10007:=by
  induction l with
  | nil=>rfl
  | cons a l ih =>
    have h1:=h a (by simp)
    have h2:=ih fun b hb=>h b (by simp [hb])
    simp only [tot]; omega
def co (l:List (A8×Int)) (m:A8):Int:=tot (fun p=>if p.1=m then p.2 else 0) l
def coT (l:List Term) (m:A8):Int:=tot (fun t=>if t.mono=m then t.factor else 0) l
theorem J5 (p:A8×Int) (l:List (A8×Int)) (m:A8):co (p::l) m=(if p.1=m then p.2 else 0)+co l m:=rfl
theorem Za8 (t:Term) (l:List Term) (m:A8):coT (t::l) m=(if t.mono=m then t.factor else 0)+coT l m:=rfl
theorem Zbr (m:A8):coT [] m=0:=rfl
theorem Za9 (m:A8):co [] m=0:=rfl
theorem Zba (l:List Term) (t:Term) (m:A8):coT (l++[t]) m=coT l m+(if t.mono=m then t.factor else 0):=by
  rw [coT,Zdp]; simp [tot,coT]
theorem Zdq {l:List Term} {m:A8} (h:∀ t,t∈l→t.mono≠m):coT l m=0:=Zgz fun t ht=>if_neg (h t ht)
theorem Zbb {l:List (A8×Int)} {m:A8} (h:∀ t,t∈l→t.1≠m):co l m=0:=Zgz fun t ht=>if_neg (h t ht)
def Canon (l:List Term):Prop:=l.Pairwise (fun a b=>pcmp a.mono b.mono < 0)∧∀ t,t∈l→1≤t.factor∧t.factor≤10006
theorem Canon.nil:Canon []:=⟨ZI7,by simp⟩
theorem Canon.tail {t:Term} {l:List Term} (h:Canon (t::l)):Canon l:=⟨(Zuh.1 h.1).2,fun s hs=>h.2 s (by simp [hs])⟩
theorem Canon.head {t:Term} {l:List Term} (h:Canon (t::l)):∀ s,s∈l→pcmp t.mono s.mono < 0:=(Zuh.1 h.1).1
theorem Canon.snoc {l:List Term} {t:Term} (h:Canon l) (hl:∀ s,s∈l→pcmp s.mono t.mono < 0) (hf:1≤t.factor∧t.factor≤10006):Canon (l++[t]):=by
  refine⟨ZI8.2 ⟨h.1,by simp,fun a ha b hb=>?_⟩,fun s hs=>?_⟩
  · obtain rfl:b=t:=by simpa using hb
    exact hl a ha
  · rcases List.mem_append.1 hs with q | q
    · exact h.2 s q
    · obtain rfl:s=t:=by simpa using q
      exact hf
theorem Canon.at_head {t:Term} {l:List Term} (h:Canon (t::l)):coT (t::l) t.mono=t.factor:=by
  rw [Za8,if_pos rfl,Zdq fun s hs=>Zff (h.head s hs),Int.add_zero]
theorem Canon.range {l:List Term} (h:Canon l) (m:A8):0≤coT l m∧coT l m≤10006:=by
  induction l with
  | nil=>simp [Zbr]
  | cons t l ih =>
    by_cases hm:t.mono=m
    · subst hm
      rw [h.at_head]
      have:=h.2 t (by simp)
      omega
    · rw [Za8,if_neg hm,ZH0]
      exact ih h.tail
theorem Zlk : ∀ (A B : List Term), Canon A → Canon B → (∀ m, coT A m = coT B m) → A = B
  | [],[],_,_,_=>rfl
  | [], b :: B, _, hB, h => by
    have:=h b.mono
    rw [hB.at_head,Zbr] at this
    have:=hB.2 b (by simp)
    omega
  | a :: A, [], hA, _, h => by
    have:=h a.mono
    rw [hA.at_head,Zbr] at this
    have:=hA.2 a (by simp)
    omega
  | a :: A, b :: B, hA, hB, h => by
    have ha:=hA.2 a (by simp)
    have hb:=hB.2 b (by simp)
    by_cases h1:pcmp a.mono b.mono < 0
    · exfalso
      have:=h a.mono
      rw [hA.at_head,Zdq (l:=b::B)] at this
      · omega
      · intro t ht
        rcases Ztw.1 ht with rfl | ht
        · exact Zff h1
        · exact Zff (Zao h1 (hB.head t ht))
    · by_cases h2:pcmp b.mono a.mono < 0
      · exfalso
        have:=h b.mono
        rw [hB.at_head,Zdq (l:=a::A)] at this
        · omega
        · intro t ht
          rcases Ztw.1 ht with rfl | ht
          · exact Zff h2
          · exact Zff (Zao h2 (hA.head t ht))
      · have hm:a.mono=b.mono:=Zgy h1 h2
        have hf:a.factor=b.factor:=by
          have:=h a.mono
          rw [hA.at_head,hm,hB.at_head] at this; exact this
        have hab:a=b:=by cases a; cases b; simp only at hm hf; rw [hm,hf]
        subst hab
        rw [Zlk A B hA.tail hB.tail fun m=>?_]
        have:=h m
        rw [Za8,Za8] at this
        omega
theorem Zll {A B:List Term} (hA:Canon A) (hB:Canon B) (h:∀ m,coT A m % 10007=coT B m % 10007):A=B :=
  Zlk A B hA hB fun m=>by have:=h m; have:=hA.range m; have:=hB.range m; omega
theorem Zfg (x:Int):-10007 < Zul x 10007∧Zul x 10007 < 10007:=by
  rcases Int.le_total 0 x with h | h
  · rw [ZH5 h]; omega
  · have e:Zul x 10007=- Zul (-x) 10007:=by rw [Int.neg_tmod]; omega
    rw [e,ZH5 (by omega)]; omega
theorem Zlm (x:Int):Zul (Zul x 10007+10007) 10007=x % 10007:=by
  have h1:=Zfg x
  rw [ZH5 (by omega)]
  have h2:x=10007 * Int.tdiv x 10007+Zul x 10007:=(ZJa x 10007).symm
  omega
theorem Zln (x:Int):Zul x 10007 % 10007=x % 10007:=by
  have h2:x=10007 * Int.tdiv x 10007+Zul x 10007:=(ZJa x 10007).symm
  omega
theorem Zqv {d e:Nat} (h:d * e=10007):d=1∨e=1:=by
  have key:∀ k,k < 101→k ∣ 10007→k≤1:=by decide
  by_cases hd:d < 101
  · left
    have:=key d hd ⟨e,h.symm⟩
    rcases Nat.eq_zero_or_pos d with rfl | q
    · simp at h
    · omega
  · by_cases he:e < 101
    · right
      have:=key e he ⟨d,by rw [Nat.mul_comm]; exact h.symm⟩
      rcases Nat.eq_zero_or_pos e with rfl | q
      · simp at h
      · omega
    · exfalso
      have:101 * 101≤d * e:=Nat.mul_le_mul (by omega) (by omega)
      omega
theorem Zqw {a:Nat} (h1:1≤a) (h2:a≤10006):Nat.Coprime 10007 a:=by
  obtain ⟨e,he⟩:=Nat.gcd_dvd_left 10007 a
  rcases Zqv he.symm with q | q
  · exact q
  · exfalso
    rw [q,Nat.mul_one] at he
    have:=Nat.le_of_dvd (by omega) (Nat.gcd_dvd_right 10007 a)
    omega
theorem Zqx {a b:Int} (ha:1≤a∧a≤10006) (hb:1≤b∧b≤10006):(a * b) % 10007≠0:=by
  obtain ⟨x,rfl⟩:=ZJd (show 0≤a by omega)
  obtain ⟨y,rfl⟩:=ZJd (show 0≤b by omega)
  intro h
  have h:(x * y) % 10007=0:=by
    have e:((x:Int) * (y:Int))=((x * y:Nat):Int):=(Int.natCast_mul x y).symm
    rw [e] at h; omega
  have:=(Zqw (a:=x) (by omega) (by omega)).dvd_of_dvd_mul_left (Nat.dvd_of_mod_eq_zero h)
  have:=Nat.le_of_dvd (by omega) this
  omega
theorem Zqy {s a b:Int} (hs:s=1∨s=-1) (ha:1≤a∧a≤10006) (hb:1≤b∧b≤10006):1≤(s * (a * b)) % 10007∧(s * (a * b)) % 10007≤10006:=by
  have:=Zqx ha hb
  rcases hs with rfl | rfl <;> omega
theorem Zlo:∀ (a x y:List Int),a.length=x.length→x.length=y.length→Xs (List.zipWith (·+·) a x) (List.zipWith (·+·) a y)=Xs x y
  | [],[],[],_,_=>rfl
  | a :: ar, x :: xs, y :: ys, h1, h2 => by
    simp only [List.zipWith_cons_cons,Xs]
    have:=Zlo ar xs ys (by simpa using h1) (by simpa using h2)
    by_cases h:x=y
    · subst h; simpa using this
    · rw [if_pos (by omega),if_pos h]; omega
  | [],_::_,_,h,_=>by simp at h
  | _::_,[],_,h,_=>by simp at h
  | _::_,_::_,[],_,h=>by simp at h
  | [],[],_::_,_,h=>by simp at h
theorem Zqz (a x y:A8):pcmp (a.add x) (a.add y)=pcmp x y:=Zlo a.list x.list y.list rfl rfl
theorem Zaa {α:Type} [Inhabited α] {l:List α} {i:Nat} (h:i < l.length):l.take (i+1)=l.take i++[l.getD i Zt0]:=by
  rw [List.take_add_one]; simp [Zt7,h]
theorem Canon.at_lt {l:List Term} (h:Canon l) {i j:Nat} (hij:i < j) (hj:j < l.length):pcmp (l.getD i Zt0).mono (l.getD j Zt0).mono < 0:=by
  have:=(List.pairwise_iff_getElem.1 h.1) i j (by omega) hj hij
  simpa [Zt7,hj,show i < l.length by omega] using this
theorem Canon.at_range {l:List Term} (h:Canon l) {i:Nat} (hi:i < l.length):1≤(l.getD i Zt0).factor∧(l.getD i Zt0).factor≤10006:=h.2 _ (by simp [Zt7,hi])
theorem Xt {α:Type} [Inhabited α] {l:List α} {i:Nat} (h:i < l.length):l.getD i Zt0∈l:=by simp [Zt7,h]
structure AddI (f g:List Term) (k:Int) (out:List Term) (i j:Nat):Prop where
  hi:i≤f.length
  hj:j≤g.length
  can:Canon out
  cf:∀ m,coT out m % 10007=(coT (f.take i) m+k * coT (g.take j) m) % 10007
  bf:∀ x,x∈out→i < f.length→pcmp x.mono (f.getD i Zt0).mono < 0
  bg:∀ x,x∈out→j < g.length→pcmp x.mono (g.getD j Zt0).mono < 0
  mo:∀ x,x∈out→∃ y,(y∈f∨y∈g)∧y.mono=x.mono
  ln:out.length≤i+j
theorem AddI.zero (f g:List Term) (k:Int):AddI f g k [] 0 0 :=
  ⟨by omega,by omega,Canon.nil,by intro m; simp [Zbr],by simp,by simp,by simp,by simp⟩
theorem Za0 {α:Type} {l:List α} {t x:α} (h:x∈l++[t]):x∈l∨x=t:=by simpa using h
theorem AddI.stepF {f g:List Term} {k:Int} {out:List Term} {i j:Nat} (h:AddI f g k out i j) (cf:Canon f) (cg:Canon g) (hi:i < f.length) (hb:j < g.length→pcmp (f.getD i Zt0).mono (g.getD j Zt0).mono < 0) :
    AddI f g k (out++[f.getD i Zt0]) (i+1) j where
  hi:=hi
  hj:=h.hj
  can:=h.can.snoc (fun s hs=>h.bf s hs hi) (cf.at_range hi)
  cf m:=by
    have:=h.cf m
    rw [Zba,Zaa hi,Zba]
    omega
  bf x hx hl:=by
    rcases Za0 hx with q | rfl
    · exact Zao (h.bf x q hi) (cf.at_lt (by omega) hl)
    · exact cf.at_lt (by omega) hl
  bg x hx hl:=by
    rcases Za0 hx with q | rfl
    · exact h.bg x q hl
    · exact hb hl
  mo x hx:=by
    rcases Za0 hx with q | rfl
    · exact h.mo x q
    · exact⟨_,.inl (Xt hi),rfl⟩
  ln:=by have:=h.ln; simp; omega
theorem AddI.cfG {f g:List Term} {k:Int} {out:List Term} {i j:Nat} (h:AddI f g k out i j) (hj:j < g.length) (m:A8) :
    k * coT (g.take (j+1)) m=k * coT (g.take j) m+(if(g.getD j Zt0).mono=m then k * (g.getD j Zt0).factor else 0):=by
  rw [Zaa hj,Zba,Int.mul_add]
  split <;> simp
theorem AddI.stepG0 {f g:List Term} {k:Int} {out:List Term} {i j:Nat} (h:AddI f g k out i j) (cf:Canon f) (cg:Canon g) (hj:j < g.length)
    (hz:(k * (g.getD j Zt0).factor) % 10007=0):AddI f g k out i (j+1) where
  hi:=h.hi
  hj:=hj
  can:=h.can
  cf m:=by
    have:=h.cf m
    rw [h.cfG hj m]
    split <;> omega
  bf:=h.bf
  bg x hx hl:=Zao (h.bg x hx hj) (cg.at_lt (by omega) hl)
  mo:=h.mo
  ln:=by have:=h.ln; omega
theorem AddI.stepG1 {f g:List Term} {k:Int} {out:List Term} {i j:Nat} (h:AddI f g k out i j) (cf:Canon f) (cg:Canon g) (hj:j < g.length) (hb:i < f.length→pcmp (g.getD j Zt0).mono (f.getD i Zt0).mono < 0)
    {v:Int} (hv:v=(k * (g.getD j Zt0).factor) % 10007) (hz:v≠0):AddI f g k (out++[⟨(g.getD j Zt0).mono,v⟩]) i (j+1) where
  hi:=h.hi
  hj:=hj
  can:=h.can.snoc (fun s hs=>h.bg s hs hj) (by dsimp only; omega)
  cf m:=by
    have:=h.cf m
    rw [h.cfG hj m,Zba]
    dsimp only
    split <;> omega
  bf x hx hl:=by
    rcases Za0 hx with q | rfl
    · exact h.bf x q hl
    · exact hb hl
  bg x hx hl:=by
    rcases Za0 hx with q | rfl
    · exact Zao (h.bg x q hj) (cg.at_lt (by omega) hl)
    · exact cg.at_lt (by omega) hl
  mo x hx:=by
    rcases Za0 hx with q | rfl
    · exact h.mo x q
    · exact⟨_,.inr (Xt hj),rfl⟩
  ln:=by have:=h.ln; simp; omega
theorem AddI.stepB0 {f g:List Term} {k:Int} {out:List Term} {i j:Nat} (h:AddI f g k out i j) (cf:Canon f) (cg:Canon g) (hi:i < f.length) (hj:j < g.length) (he:(f.getD i Zt0).mono=(g.getD j Zt0).mono)
    (hz:((f.getD i Zt0).factor+k * (g.getD j Zt0).factor) % 10007=0):AddI f g k out (i+1) (j+1) where
  hi:=hi
  hj:=hj
  can:=h.can
  cf m:=by
    have:=h.cf m
    rw [h.cfG hj m,Zaa hi,Zba,he]
    split <;> omega
  bf x hx hl:=Zao (h.bf x hx hi) (cf.at_lt (by omega) hl)
  bg x hx hl:=Zao (h.bg x hx hj) (cg.at_lt (by omega) hl)
  mo:=h.mo
  ln:=by have:=h.ln; omega
theorem AddI.stepB1 {f g:List Term} {k:Int} {out:List Term} {i j:Nat} (h:AddI f g k out i j) (cf:Canon f) (cg:Canon g) (hi:i < f.length) (hj:j < g.length) (he:(f.getD i Zt0).mono=(g.getD j Zt0).mono)
    {v:Int} (hv:v=((f.getD i Zt0).factor+k * (g.getD j Zt0).factor) % 10007) (hz:v≠0):AddI f g k (out++[⟨(f.getD i Zt0).mono,v⟩]) (i+1) (j+1) where
  hi:=hi
  hj:=hj
  can:=h.can.snoc (fun s hs=>h.bf s hs hi) (by dsimp only; omega)
  cf m:=by
    have:=h.cf m
    rw [h.cfG hj m,Zaa hi,Zba,Zba,he]
    dsimp only
    split <;> omega
  bf x hx hl:=by
    rcases Za0 hx with q | rfl
    · exact Zao (h.bf x q hi) (cf.at_lt (by omega) hl)
    · exact cf.at_lt (by omega) hl
  bg x hx hl:=by
    rcases Za0 hx with q | rfl
    · exact Zao (h.bg x q hj) (cg.at_lt (by omega) hl)
    · dsimp only; rw [he]; exact cg.at_lt (by omega) hl
  mo x hx:=by
    rcases Za0 hx with q | rfl
    · exact h.mo x q
    · exact⟨_,.inl (Xt hi),rfl⟩
  ln:=by have:=h.ln; simp; omega
structure IsAdd (f g:List Term) (k:Int) (out:List Term):Prop where
  can:Canon out
  cf:∀ m,coT out m % 10007=(coT f m+k * coT g m) % 10007
  mo:∀ x,x∈out→∃ y,(y∈f∨y∈g)∧y.mono=x.mono
  ln:out.length≤f.length+g.length
theorem AddI.done {f g:List Term} {k:Int} {out:List Term} {i j:Nat} (h:AddI f g k out i j) (hi:¬ i < f.length) (hj:¬ j < g.length):IsAdd f g k out where
  can:=h.can
  cf m:=by have:=h.cf m; rwa [Zvl (by omega),Zvl (by omega)] at this
  mo:=h.mo
  ln:=by have:=h.ln; have:=h.hi; have:=h.hj; omega
def pr1 (ds:List Int) (a:A8) (n:Int) (b:A8) (m':Int) (m:A8):Int:=if(Ys ds a b).1=m then(Ys ds a b).2 * (n * m') else 0
def shC (ds:List Int) (t:Term) (g:List Term) (m:A8):Int:=tot (fun u=>pr1 ds t.mono t.factor u.mono u.factor m) g
def prC (ds:List Int) (f g:List Term) (m:A8):Int:=tot (fun t=>shC ds t g m) f
structure IsShift (ds:List Int) (t:Term) (g out:List Term):Prop where
  can:Canon out
  cf:∀ m,coT out m % 10007=shC ds t g m % 10007
  mo:∀ x,x∈out→∃ u,u∈g∧x.mono=t.mono.add u.mono∧¬ Clash ds t.mono u.mono
  ln:out.length≤g.length
theorem IsShift.nil (ds:List Int) (t:Term):IsShift ds t [] []:=⟨Canon.nil,by intro m; rfl,by simp,by simp⟩
theorem Zlp (ds:List Int) (t:Term) (g:List Term) (u:Term) (m:A8):shC ds t (g++[u]) m=shC ds t g m+pr1 ds t.mono t.factor u.mono u.factor m:=by
  rw [shC,Zdp]; simp [tot,shC]
theorem Canon.init {l:List Term} {u:Term} (h:Canon (l++[u])):Canon l∧∀ s,s∈l→pcmp s.mono u.mono < 0:=by
  have:=ZI8.1 h.1
  exact⟨⟨this.1,fun s hs=>h.2 s (by simp [hs])⟩,fun s hs=>this.2.2 s hs u (by simp)⟩
theorem IsShift.skip {ds:List Int} {t:Term} {g out:List Term} {u:Term} (h:IsShift ds t g out) (hs:(Ys ds t.mono u.mono).2=0):IsShift ds t (g++[u]) out where
  can:=h.can
  cf m:=by
    have:=h.cf m
    rw [Zlp,pr1,hs]
    split <;> simp [this]
  mo x hx:=by
    obtain ⟨u',hu,he⟩:=h.mo x hx
    exact⟨u',by simp [hu],he⟩
  ln:=by have:=h.ln; simp; omega
theorem Zfh {ds:List Int} {a b:A8} (h:(Ys ds a b).2≠0):¬ Clash ds a b∧(Ys ds a b).1=a.add b∧((Ys ds a b).2=1∨(Ys ds a b).2=-1):=by
  have hc:¬ Clash ds a b:=fun q=>h (by simp [Ys,q])
  refine⟨hc,by simp [Ys,hc],?_⟩
  simp only [Ys,hc,if_false]
  exact Zkr _
theorem IsShift.put {ds:List Int} {t:Term} {g out:List Term} {u:Term} (h:IsShift ds t g out) (cg:Canon (g++[u])) (ht:1≤t.factor∧t.factor≤10006) (hs:(Ys ds t.mono u.mono).2≠0) {v:Int} (hv:v=((Ys ds t.mono u.mono).2 * (t.factor * u.factor)) % 10007) :
    IsShift ds t (g++[u]) (out++[⟨(Ys ds t.mono u.mono).1,v⟩]):=by
  obtain ⟨hc,he,hsg⟩:=Zfh hs
  have hu:=cg.2 u (by simp)
  have hnz:=Zqy hsg ht hu
  refine⟨h.can.snoc (fun s hs'=>?_) (by dsimp only; omega),fun m=>?_,fun x hx=>?_,by have:=h.ln; simp; omega⟩
  · obtain ⟨u',hu',he',_⟩:=h.mo s hs'
    dsimp only
    rw [he,he',Zqz]
    exact cg.init.2 u' hu'
  · have:=h.cf m
    rw [Zba,Zlp,pr1]
    dsimp only
    split <;> omega
  · rcases Za0 hx with q | rfl
    · obtain ⟨u',hu',he'⟩:=h.mo x q
      exact⟨u',by simp [hu'],he'⟩
    · exact⟨u,by simp,he,hc⟩
structure IsProd (ds:List Int) (f g out:List Term):Prop where
  can:Canon out
  cf:∀ m,coT out m % 10007=prC ds f g m % 10007
  mo:∀ x,x∈out→∃ t u,t∈f∧u∈g∧x.mono=t.mono.add u.mono∧¬ Clash ds t.mono u.mono
  ln:out.length≤f.length * g.length
theorem IsProd.nil (ds:List Int) (g:List Term):IsProd ds [] g []:=⟨Canon.nil,by intro m; rfl,by simp,by simp⟩
theorem IsProd.step {ds:List Int} {f g out sh out':List Term} {t:Term} (h:IsProd ds f g out) (hs:IsShift ds t g sh) (ha:IsAdd out sh 1 out'):IsProd ds (f++[t]) g out' where
  can:=ha.can
  cf m:=by
    have h1:=h.cf m
    have h2:=hs.cf m
    have h3:=ha.cf m
    rw [prC,Zdp]
    simp only [tot]
    unfold prC at h1
    omega
  mo x hx:=by
    obtain ⟨y,hy | hy,he⟩:=ha.mo x hx
    · obtain ⟨a,u,h1,h2,h3,h4⟩:=h.mo y hy
      exact⟨a,u,by simp [h1],h2,he ▸ h3,h4⟩
    · obtain ⟨u,h2,h3,h4⟩:=hs.mo y hy
      exact⟨t,u,by simp,h2,he ▸ h3,h4⟩
  ln:=by
    have h1:=h.ln
    have h2:=hs.ln
    have h3:=ha.ln
    have:(f++[t]).length * g.length=f.length * g.length+g.length:=by simp [Nat.add_mul]
    omega
def MapOk (l:List (A8×Int)):Prop:=(l.map Zu2).Nodup∧∀ p,p∈l→1≤p.2∧p.2≤10006
theorem MapOk.nil:MapOk []:=⟨by simp,by simp⟩
theorem Zdr {l : List (A8 × Int)} (h : (l.map Zu2).Nodup) (m : A8) : (Yw l m).getD 0 = co l m := by
  induction l with
  | nil=>rfl
  | cons p l ih =>
    simp only [Zu1,ZH1] at h
    simp only [Yw,J5]
    by_cases hm:m=p.1
    · subst hm
      rw [if_pos rfl,if_pos rfl,Zbb]
      · simp
      · intro t ht e
        exact h.1 (Zvb.2 ⟨t,ht,e⟩)
    · rw [if_neg hm,if_neg (fun e=>hm e.symm),ih h.2,ZH0]
theorem Zlq {l : List (A8 × Int)} (h : (l.map Zu2).Nodup) (x : A8) (v : Int) (m : A8) : co (Yk l x v) m = if m = x then v else co l m := by
  induction l with
  | nil => simp only [Yk, J5, Za9]; by_cases hm : m = x
           · subst hm; simp
           · rw [if_neg (fun e=>hm e.symm),if_neg hm]; rfl
  | cons p l ih =>
    simp only [Zu1,ZH1] at h
    simp only [Yk]
    split
    · rename_i hx
      rw [J5,J5]
      dsimp only
      by_cases hm:m=x
      · subst hm
        rw [if_pos rfl,if_pos rfl,Zbb]
        · simp
        · intro t ht e
          exact h.1 (Zvb.2 ⟨t,ht,by rw [e,hx]⟩)
      · rw [if_neg (fun e=>hm e.symm),if_neg hm,if_neg (fun e=>hm (by rw [hx,e]))]
    · rename_i hx
      rw [J5,J5,ih h.2]
      by_cases hm:m=x
      · subst hm; rw [if_pos rfl,if_pos rfl,if_neg (fun e=>hx e.symm)]; simp
      · rw [if_neg hm,if_neg hm]
theorem Zq0 {l : List (A8 × Int)} (h : (l.map Zu2).Nodup) (x : A8) (m : A8) : co (Xr l x) m = if m = x then 0 else co l m := by
  induction l with
  | nil=>simp [Xr,Za9]
  | cons p l ih =>
    simp only [Zu1,ZH1] at h
    simp only [Xr]
    split
    · rename_i hx
      rw [J5]
      by_cases hm:m=x
      · subst hm
        rw [if_pos rfl,Zbb]
        intro t ht e
        exact h.1 (Zvb.2 ⟨t,ht,by rw [e,hx]⟩)
      · rw [if_neg hm,if_neg (fun e=>hm (by rw [hx,e]))]; simp
    · rename_i hx
      rw [J5,J5,ih h.2]
      by_cases hm:m=x
      · subst hm; rw [if_pos rfl,if_pos rfl,if_neg (fun e=>hx e.symm)]; rfl
      · rw [if_neg hm,if_neg hm]
theorem Zis {l:List (A8×Int)} {x:A8} {p:A8×Int} (h:p∈Xr l x):p∈l:=by
  induction l with
  | nil=>simp [Xr] at h
  | cons q l ih =>
    simp only [Xr] at h
    split at h
    · simp [h]
    · rcases Ztw.1 h with rfl | h
      · simp
      · simp [ih h]
theorem Zq1 {l:List (A8×Int)} (x:A8) (h:(l.map Zu2).Nodup):((Xr l x).map Zu2).Nodup:=by
  induction l with
  | nil=>simp [Xr]
  | cons q l ih =>
    simp only [Zu1,ZH1] at h
    simp only [Xr]
    split
    · exact h.2
    · simp only [Zu1,ZH1]
      refine⟨fun hq=>h.1 ?_,ih h.2⟩
      obtain ⟨p,hp,he⟩:=Zvb.1 hq
      exact Zvb.2 ⟨p,Zis hp,he⟩
theorem Zit {l : List (A8 × Int)} {x : A8} {v : Int} {p : A8 × Int} (h : p ∈ Yk l x v) : p = (x, v) ∨ p ∈ l := by
  induction l with
  | nil=>left; simpa [Yk] using h
  | cons q l ih =>
    simp only [Yk] at h
    split at h
    · rcases Ztw.1 h with rfl | h
      · exact .inl rfl
      · exact .inr (by simp [h])
    · rcases Ztw.1 h with rfl | h
      · exact .inr (by simp)
      · rcases ih h with e | e
        · exact .inl e
        · exact .inr (by simp [e])
theorem Zq2 (l:List (A8×Int)) (x:A8) (v:Int):(Yk l x v).length≤l.length+1:=by
  induction l with
  | nil=>simp [Yk]
  | cons q l ih=>simp only [Yk]; split <;> simp; omega
theorem Zq3 (l:List (A8×Int)) (x:A8):(Xr l x).length≤l.length:=by
  induction l with
  | nil=>simp [Xr]
  | cons q l ih=>simp only [Xr]; split <;> simp; omega
theorem MapOk.put {l:List (A8×Int)} (h:MapOk l) {x:A8} {v:Int} (hv:1≤v∧v≤10006):MapOk (Yk l x v) :=
  ⟨Zh5 h.1,fun p hp=>by rcases Zit hp with rfl | q; exact hv; exact h.2 p q⟩
theorem MapOk.del {l:List (A8×Int)} (h:MapOk l) (x:A8):MapOk (Xr l x):=⟨Zq1 x h.1,fun p hp=>h.2 p (Zis hp)⟩
theorem MapOk.range {l : List (A8 × Int)} (h : MapOk l) (m : A8) : 0 ≤ co l m ∧ co l m ≤ 10006 := by
  rw [← Zdr h.1]
  cases hg:Yw l m with
  | none=>simp
  | some v =>
    have:(m,v)∈l:=by
      clear h
      induction l with
      | nil=>simp [Yw] at hg
      | cons p l ih =>
        simp only [Yw] at hg
        split at hg
        · rename_i e; injection hg with e2; subst e2; subst e; simp
        · simp [ih hg]
    have:=h.2 _ this
    simp only [Option.getD_some]
    dsimp only at this
    omega
structure IsPut (l:List (A8×Int)) (x:A8) (c:Int) (l':List (A8×Int)):Prop where
  ok:MapOk l'
  cf:∀ m,co l' m % 10007=(co l m+if x=m then c else 0) % 10007
  ks:∀ p,p∈l'→p.1=x∨∃ q,q∈l∧q.1=p.1
  ln:l'.length≤l.length+1
theorem IsPut.put {l:List (A8×Int)} (h:MapOk l) {x:A8} {c v:Int} (hv:v=(co l x+c) % 10007) (hz:v≠0):IsPut l x c (Yk l x v) where
  ok:=h.put (by omega)
  cf m:=by
    rw [Zlq h.1]
    by_cases hm:m=x
    · subst hm; rw [if_pos rfl,if_pos rfl]; omega
    · rw [if_neg hm,if_neg (fun e=>hm e.symm)]; simp
  ks p hp:=by
    rcases Zit hp with rfl | q
    · exact .inl rfl
    · exact .inr ⟨p,q,rfl⟩
  ln:=Zq2 _ _ _
theorem IsPut.del {l:List (A8×Int)} (h:MapOk l) {x:A8} {c:Int} (hz:(co l x+c) % 10007=0):IsPut l x c (Xr l x) where
  ok:=h.del x
  cf m:=by
    rw [Zq0 h.1]
    by_cases hm:m=x
    · subst hm; rw [if_pos rfl,if_pos rfl]; omega
    · rw [if_neg hm,if_neg (fun e=>hm e.symm)]; simp
  ks p hp:=.inr ⟨p,Zis hp,rfl⟩
  ln:=by have:=Zq3 l x; omega
theorem Zg0 {l : List (A8 × Int)} (h : MapOk l) {xs : List A8} (hp : xs.Perm (l.map Zu2)) (hw : xs.Pairwise (fun a b => ¬ pcmp b a < 0)) : Canon (xs.map fun x => ⟨x, (Yw l x).getD 0⟩) ∧ ∀ m, coT (xs.map fun x => ⟨x, (Yw l x).getD 0⟩) m = co l m := by
  have hnd:xs.Nodup:=hp.nodup_iff.2 h.1
  have hmem:∀ x,x∈xs→∃ v,(x,v)∈l∧(Yw l x).getD 0=v:=by
    intro x hx
    obtain ⟨p,hpl,rfl⟩:=Zvb.1 (hp.mem_iff.1 hx)
    refine⟨p.2,hpl,?_⟩
    rw [Zdr h.1]
    have h1:=h.1
    clear hp hx h
    induction l with
    | nil=>simp at hpl
    | cons q l ih =>
      simp only [Zu1,ZH1] at h1
      rw [J5]
      rcases Ztw.1 hpl with rfl | hpl
      · rw [if_pos rfl,Zbb]
        · simp
        · intro t ht e; exact h1.1 (Zvb.2 ⟨t,ht,e⟩)
      · rw [if_neg (fun e=>h1.1 (Zvb.2 ⟨p,hpl,e.symm⟩)),ih hpl h1.2,ZH0]
  refine⟨⟨?_,fun t ht=>?_⟩,fun m=>?_⟩
  · rw [List.pairwise_map]
    have:xs.Pairwise (fun a b=>a≠b):=hnd
    refine(hw.and this).imp fun {a b} hab=>?_
    by_cases q:pcmp a b < 0
    · exact q
    · exact absurd (Zgy q hab.1) hab.2
  · obtain ⟨x,hx,rfl⟩:=Zvb.1 ht
    obtain ⟨v,hv,he⟩:=hmem x hx
    dsimp only
    rw [he]
    exact h.2 _ hv
  · rw [coT,Zap]
    dsimp only
    rw [Zci _ hp,Zap]
    refine Zaz fun p hpl=>?_
    obtain ⟨v,hv,he⟩:=hmem p.1 (hp.mem_iff.2 (Zvb.2 ⟨p,hpl,rfl⟩))
    have:v=p.2:=by
      rw [← he,Zdr h.1]
      have h1:=h.1
      clear hp h hmem he hv
      induction l with
      | nil=>simp at hpl
      | cons q l ih =>
        simp only [Zu1,ZH1] at h1
        rw [J5]
        rcases Ztw.1 hpl with rfl | hpl
        · rw [if_pos rfl,Zbb]
          · simp
          · intro t ht e; exact h1.1 (Zvb.2 ⟨t,ht,e⟩)
        · rw [if_neg (fun e=>h1.1 (Zvb.2 ⟨p,hpl,e.symm⟩)),ih hpl h1.2,ZH0]
    rw [he,this]
def Zcj (a:A8):List A8→List A8
  | []=>[a]
  | b::l=>if pcmp a b < 0 then a::b::l else b::Zcj a l
theorem Zlr (a:A8) (l:List A8):(Zcj a l).Perm (a::l):=by
  induction l with
  | nil=>exact ZIe _
  | cons b l ih =>
    simp only [Zcj]
    split
    · exact ZIe _
    · exact(ih.cons b).trans (List.Perm.swap _ _ _)
theorem Zq4 {a b c:A8} (h1:¬ pcmp b a < 0) (h2:¬ pcmp c b < 0):¬ pcmp c a < 0:=fun h=>by
  by_cases q:pcmp a b < 0
  · exact h2 (Zao h q)
  · have:=Zgy q h1
    subst this
    exact h2 h
theorem Zq5 {a:A8} {l:List A8} (h:l.Pairwise (fun a b=>¬ pcmp b a < 0)):(Zcj a l).Pairwise (fun a b=>¬ pcmp b a < 0):=by
  induction l with
  | nil=>simp [Zcj]
  | cons b l ih =>
    simp only [Zcj]
    have hb:=Zuh.1 h
    split
    · rename_i q
      refine Zuh.2 ⟨fun x hx=>?_,h⟩
      rcases Ztw.1 hx with rfl | hx
      · exact Zli q
      · exact Zq4 (Zli q) (hb.1 x hx)
    · rename_i q
      refine Zuh.2 ⟨fun x hx=>?_,ih hb.2⟩
      rcases Ztw.1 ((Zlr a l).mem_iff.1 hx) with rfl | hx
      · exact q
      · exact hb.1 x hx
theorem Zg1:∀ l:List A8,∃ xs:List A8,xs.Perm l∧xs.Pairwise (fun a b=>¬ pcmp b a < 0)
  | []=>⟨[],ZIe _,ZI7⟩
  | a :: l => by
    obtain ⟨xs,h1,h2⟩:=Zg1 l
    exact⟨Zcj a xs,(Zlr a xs).trans (h1.cons a),Zq5 h2⟩
end Vc
namespace Vc
open Go Go.RowKit Go.ChangeShapes Go.WideShapes Go.ChangeAt
section
variable {H:Type} {enc:TypeId×Value→H} {P:Program} {W:World}
end
end Vc
