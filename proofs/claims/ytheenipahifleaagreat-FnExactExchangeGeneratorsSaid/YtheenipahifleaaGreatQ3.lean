import Derived.Test.YtheenipahifleaaGreatQ2
set_option linter.unusedSectionVars false
set_option linter.unusedSimpArgs false
set_option linter.unusedVariables false
open Decidable renaming not_not→ZJw
open Go renaming wp_seq→ZF5,wp_skip→ZF8,wp_ret→ZGd,wp_block→ZGb,wp_exit→ZGj
open Go.IntKind renaming i64→Zxa,u8→ZGh
open Go.Proofs.Tryz renaming prog→ZF7,underlying22→ZGo,underlying99→ZG1,underlying53→ZGf,func87→ZIt,underlying90→ZGl,underlying55→ZGc,underlying28→ZGt,underlying110→ZGs,underlying88→ZGn,underlying32→ZGp,underlying49→ZI6,underlying3→ZHd,underlying5→ZG7
open Go.Value renaming map→ZIu,ownBlock→Zvi,int→ZI3
open Inhabited renaming default→Zuw
open Int renaming tmod→Zvh,natCast_nonneg→ZGm,ofNat_lt→ZG4,zero_add→ZIw,tmod_eq_emod_of_nonneg→ZI1,toNat_of_nonneg→ZI4,mul_tdiv_add_tmod→ZJ6,eq_ofNat_of_zero_le→ZJ9
open List renaming toArray→ZF4,replicate→Zur,mem_singleton→Zwj,mem_cons→Zus,mem_map→Zv7,getD→Zu3,map_cons→Zvx,nodup_cons→ZIx,pairwise_cons→Zvd,not_mem_nil→Zwy,length_eq_one_iff→ZG3,take_of_length_le→Zwh,pairwise_append→ZJ4
open List.Pairwise renaming nil→ZJ3
open List.Perm renaming refl→ZJa
open Nat renaming le_of_ble_eq_true→ZGe,le_trans→Zux,lt_of_le_of_lt→ZI0,zero_le→Zvp,le_refl→Zuv
open Option renaming toList→ZG2
open Prod renaming fst→Zvy
open Vc renaming ETerm→ZF6,Form→ZF9,TForm→ZGr,TInts→ZIv
open Vc.A8 renaming enc→ZF3,zero→ZGa,enc_get→ZGi,enc_set→ZGz,get_set→ZIy,ext_get→ZIz,get_zero→ZI7
open Vc.Ctx renaming start→ZGq
open Vc.Enc renaming encs_len→ZI5
open Vc.Term renaming enc→ZGg
open Vc.Tr renaming item→ZGk
open Vc.Ty renaming item→ZCh
set_option maxRecDepth 4000
set_option maxHeartbeats 4000000
namespace Go.Proofs.YtheenipahifleaaGreat
open Go Go.RowKit Vc
variable {b0 bp0 b1 bp1 b2 bp2 b3 bp3 b4 bp4 b5 bp5 b6 bp6 b7 bp7 mb0:Nat} {u0_0 u0_1 u0_2 u0_3 u0_4 u0_5 u1_0 u1_1 u1_2 u1_3 u1_4 u1_5 u2_0 u2_1 u2_2 u2_3 u2_4 u2_5 u3_0 u3_1 u3_2 u3_3 u3_4 u3_5 u4_0 u4_1 u4_2 u4_3 u4_4 u4_5 u5_0 u5_1 u5_2 u5_3 u5_4 u5_5 u6_0 u6_1 u6_2 u6_3 u6_4 u6_5 u7_0 u7_1 u7_2 u7_3 u7_4 u7_5:Value} {fp0 fp1 fp2 fp3 fp4 fp5 fp6 fp7 fp0_0 fp0_1 fp0_2 fp0_3 fp0_4 fp0_5 fp1_0 fp1_1 fp1_2 fp1_3 fp1_4 fp1_5 F0:List Nat}
def Zce (a0:List (A8×Int)) (K:ZF9→Int→Prop):Prop :=
 (if(a0.length:Int) > 400 then K (⟨[]⟩:ZF9) 3 else Zeo a0 (fun r10=>Yi (fun i10 (s11:(List Term)) nx10=>Yi (fun i11 (s10:A8) nx11=>(if(r10.getD i10 Zuw).get i11 > 20 then K (⟨[]⟩:ZF9) 3 else nx11 (s10.set i11 (ZGh.wrap ((r10.getD i10 Zuw).get i11))))) (fun (s10:A8)=>(Xd (s11.length+1) 16∧nx10 (s11++[(⟨s10,(Ym a0 (r10.getD i10 Zuw)).getD 0⟩:Term)]))) 8 0 ZGa) (fun (s11:(List Term))=>K (⟨s11⟩:ZF9) 0) r10.length 0 []))
theorem Zgt (a0:List (A8×Int))  {K:ZF9→Int→Prop} (h:Zce a0 K) (w0:World) (q0:(mapS b0 a0).holds w0) :
  Calls ZF7 66 #[.map (some b0)] w0 fun e w'=>∃ (r0:ZF9) (z0_0:Value) (fz0:List Nat) (r1:Int),
   e=.returned (.tuple #[.agg #[z0_0],vI r1])∧K r0 r1∧(ZGk (Zr 90) r0 [z0_0] fz0).holds w'∧(∀ b,b∈fz0→w0.heap.size≤b)∧Bel w0 w':=by
 unfold Zce at h
 refine cof Tryz.func66 rfl 48 Tryz.ntmps66 ?_
 have hC:=ZGq (X:=Nox) w0 [mapS b0 a0] (al1 q0)
 refine sr (Z1 hC [.slice none 0 0] z55 rfl fun b2 w4 hB_ hC=>Zc (v:=vI 0) rfl (dn (ZF5 (sr (Zb (v:=.map (some b0)) rfl (Zkk (hC.getP 0 rfl) ZG1 rfl rfl (Xy rfl rfl (dn ?_))))))))
 refine Zq rfl (fun hb5=>?_) (fun hb5=>?_)
 ·replace h:=ift h (ct hb5)
  refine sr (Y5 [] rfl (Za5   _) (Zo (v:=.agg #[.slice none 0 0]) hC 0 [.slice none 0 0] [.slice none 0 0] rfl ag55.size rfl rfl rfl rfl rfl (ZGe rfl) rfl fun w6 hC=>Zc (v:=vI 3) rfl (dn ?_)))
  refine ZGd (Ze ?_)
  exact Xi rfl (Y2 hC 0 rfl ag55 rfl rfl) (Zg rfl) ⟨(⟨[]⟩:ZF9),.slice none 0 0,[],3,rfl,h,(X5 (J7 _ _ _)),(fun b hb=>absurd hb (by simp)),hC.below⟩ (.inl rfl)
 ·replace h:=Zk h (cf hb5)
  refine ZF8 (Zd (sr (Y5 [] rfl (Za5   _) (Z1 hC [.slice none 0 0] z55 rfl fun b7 w9 hB_ hC=>Zo (v:=.agg #[.slice none 0 0]) hC 0 [.slice none 0 0] [.slice none 0 0] rfl ag55.size rfl rfl rfl rfl rfl (ZGe rfl) rfl fun w10 hC=>dn (ZF5 (sr (Zb (v:=.map (some b0)) rfl (Zf [.map (some b0)] _ Tryz.func90 rfl rfl rfl (Zpn a0 h _ (hC.getP 0 rfl)) ?_))))))))
  rintro _ w11 ⟨r10,u10,f10,rfl,h,hr10,hf10,hB10⟩
  refine rt ?_
  replace hC:=hC.push hB10 (ZGk (Tr.sl 110 ((EA .i64).tr)) r10 [u10] f10) hr10 hf10
  obtain ⟨ho10,hf11⟩:=Zat (hC.getM 0 rfl).1
  subst hf11
  replace hC:=hC.recast (c:=own 110 8 u10 r10.length ((EA .i64).encs r10)) (fun _ h_=>h_) (fun _=>ho10)
  refine Zgo hC 0 rfl Tryz.underlying128 rfl (Zb (v:=vI 0) rfl (dn (ZGb ?_)))
  have hN10:r10.length≤9223372036854775807:=Znh (hC.getM 0 rfl)
  refine Yn (S:=(List Term)) _ _ (fun i10 s11 e_ w_=>∃ (v10:Value),Zy e_ [(0,.map (some b0)),(2,vQ b2),(4,vQ b7),(16,u10),(17,vI (r10.length:Int)),(18,vI (i10:Int))]∧Ctx Nox w0 w_ [own 90 9 v10 s11.length (ZF6.encs s11),own 110 8 u10 r10.length ((EA .i64).encs r10),blk b7 55 [v10],blk b2 55 [.slice none 0 0]] [mapS b0 a0]) r10.length ?_ ?_ (s0:=[]) ?_ h
  ·clear hC h
   rintro i10 s11 e_ w12 nx10 K10 hi10 ⟨v10,hS_,hC⟩ h hK10
   rw [ue hS_]
   refine sr (Zn rfl rfl (dn (ZF5 (Z8 rfl (decide_eq_true (by omega)) (ZF8 (Zd (ZF5 (ZGb (sr ?_)))))))))
   obtain ⟨Ad10,c10,hv10⟩:=Za0 (hC.getM 1 rfl) (ZI0 (Zvp _) hi10)
   refine Zaq (i10 * 8) Tryz.underlying128 ag110.size (tr rfl hv10) rfl (ZGm _) (ZG4.2 hi10) rfl (Jv (ZF3 .i64 (r10.getD i10 Zuw)) (Zni (hC.getM 1 rfl) hv10 i10 hi10) ag110 rfl rfl (Z1 hC (ZF3 .i64 ZGa) Js rfl fun b10 w13 hB_ hC=>Zo (v:=.agg (ZF4 (ZF3 .i64 (r10.getD i10 Zuw)))) hC 0 (ZF3 .i64 (r10.getD i10 Zuw)) (ZF3 .i64 (r10.getD i10 Zuw)) rfl ag110.size rfl rfl rfl rfl rfl (ZGe rfl) rfl fun w14 hC=>dn (sr (Y5 [] rfl (Zdf   _) (Z1 hC (ZF3 .u8 ZGa) z88 rfl fun b11 w15 hB_ hC=>Zo (v:=.agg (ZF4 (ZF3 .u8 ZGa))) hC 0 (ZF3 .u8 ZGa) (ZF3 .u8 ZGa) rfl ag88.size rfl rfl rfl rfl rfl (ZGe rfl) rfl fun w16 hC=>dn (ZF5 (sr (Yb hC 1 (ZF3 .i64 (r10.getD i10 Zuw)) rfl ag110 rfl rfl rfl (Zb (v:=vI 0) rfl (dn (ZGb ?_)))))))))))
   refine Yn (S:=A8) _ _ (fun i11 s10 e_ w_=>Zy e_ [(0,.map (some b0)),(2,vQ b2),(4,vQ b7),(6,vQ b10),(7,vQ b11),(16,u10),(17,vI (r10.length:Int)),(18,vI (i10:Int)),(23,.agg (ZF4 (ZF3 .i64 (r10.getD i10 Zuw)))),(24,vI (i11:Int))]∧Ctx Nox w0 w_ [blk b11 88 (ZF3 .u8 s10),blk b10 110 (ZF3 .i64 (r10.getD i10 Zuw)),own 90 9 v10 s11.length (ZF6.encs s11),own 110 8 u10 r10.length ((EA .i64).encs r10),blk b7 55 [v10],blk b2 55 [.slice none 0 0]] [mapS b0 a0]) 8 ?_ ?_ (s0:=ZGa) ?_ h
   ·clear hC h
    rintro i11 s10 e_ w17 nx11 K11 hi11 ⟨hS_,hC⟩ h hK11
    rw [ue hS_]
    refine sr (Zn rfl rfl (dn (ZF5 (Z8 rfl (decide_eq_true (by omega)) (ZF8 (Zd (ZF5 (ZGb (sr (Zb (v:=vI (i11:Int)) rfl (Zf2 (vI ((r10.getD i10 Zuw).get i11)) ZGs rfl rfl (ZGm _) (by omega) sc3 (ZGi _ _ hi11) (Zc (v:=vI (i11:Int)) rfl (Zc (v:=vI ((r10.getD i10 Zuw).get i11)) rfl (dn (ZF5 (sr (Zb (v:=vI ((r10.getD i10 Zuw).get i11)) rfl (Xy rfl rfl (dn ?_)))))))))))))))))))
    refine Zq rfl (fun hb10=>?_) (fun hb10=>?_)
    ·replace h:=ift h (ct hb10)
     refine sr (Y5 [] rfl (Za5   _) (Zo (v:=.agg #[.slice none 0 0]) hC 5 [.slice none 0 0] [.slice none 0 0] rfl ag55.size rfl rfl rfl rfl rfl (ZGe rfl) rfl fun w18 hC=>Zc (v:=vI 3) rfl (dn ?_)))
     refine ZGd (Ze (Zw (Ze (Ze (Zw (Ze (Zw (Ze (Ze (Zw (Ze ?_)))))))))))
     exact Xi rfl (Y2 hC 5 rfl ag55 rfl rfl) (Zg rfl) ⟨(⟨[]⟩:ZF9),.slice none 0 0,[],3,rfl,h,(X5 (J7 _ _ _)),(fun b hb=>absurd hb (by simp)),hC.below⟩ (.inl rfl)
    ·replace h:=Zk h (cf hb10)
     refine ZF8 (Zd (Zm (Zb (v:=vI (i11:Int)) rfl (Zb (v:=vI ((r10.getD i10 Zuw).get i11)) rfl (Zf1 ZHd ZG7 rfl (Y6 i11 ZGn sc5.size rfl rfl (ZGm _) (by omega) (by omega) (Zo (v:=.int .u8 (ZGh.wrap ((r10.getD i10 Zuw).get i11))) hC 0 [.int .u8 (ZGh.wrap ((r10.getD i10 Zuw).get i11))] (ZF3 .u8 (s10.set i11 (ZGh.wrap ((r10.getD i10 Zuw).get i11)))) rfl sc5.size rfl rfl rfl rfl rfl hi11 (ZGz _ _ _ hi11) fun w19 hC=>done (Zs (Zd (Zm (Zp rfl rfl (Zb (v:=vI (Zxa.wrap ((i11:Int)+1))) rfl (done ?_)))))))))))))
     exact hK11 (s10.set i11 (ZGh.wrap ((r10.getD i10 Zuw).get i11))) _ _ ⟨(sl ⟨rfl,rfl,rfl,rfl,rfl,rfl,rfl,rfl,rfl,(tr rfl (congrArg _ (Z6 hi11 (by decide)))),trivial⟩),hC⟩ h
   ·clear hC h
    rintro s10 e_ w20 K11 ⟨hS_,hC⟩ h
    rw [ue hS_]
    refine sr (Zn rfl rfl (dn (ZF5 (Z9 rfl (decide_eq_false (by omega)) ?_))))
    refine ZGj (Zl (Zl (Z5 ?_)))
    refine Zd ?_
    refine cwd 8 mixed [0,1,0,0,0,24,60,124,255,511,1023] [1,2,4,5,6] [0,3] (fun hM10 hM11 w21 hB_=>?_)
    replace hC:=hC.grow hB_
    refine bF 0 (vQ b7) rfl rfl hM11 (fun _=>by exact Yh 0 ZGc rfl sc53.size rfl rfl) (Za 11 1) (bL 1 (v10) rfl rfl hM10 (fun _ hB_=>by exact Yd (hC.grow hB_) 4 (v10) rfl sc53 rfl rfl) (Za 11 3) (bL 2 (.agg (ZF4 (ZF3 .u8 s10))) rfl rfl hM10 (fun _ hB_=>by exact Y9 (hC.grow hB_) 0 (ZF3 .u8 s10) rfl ag88 rfl rfl rfl) (Za 11 7) (bM 3 (.map (some b0)) rfl hM11 (Za 11 15) (bL 4 (.agg (ZF4 (ZF3 .i64 (r10.getD i10 Zuw)))) rfl rfl hM10 (fun _ hB_=>by exact Y9 (hC.grow hB_) 1 (ZF3 .i64 (r10.getD i10 Zuw)) rfl ag110 rfl rfl rfl) (Za 11 31) (bL 5 (vI ((Ym a0 (r10.getD i10 Zuw)).getD 0)) rfl rfl hM10 (fun _ hB_=>by exact Zki (r10.getD i10 Zuw) 0 ((hC.grow hB_).getP 0 rfl) Xw ZG1 z2 rfl rfl) (Za 11 63) (bL 6 (.agg (ZF4 (ZGg (⟨s10,(Ym a0 (r10.getD i10 Zuw)).getD 0⟩:Term)))) rfl rfl hM10 (fun _ hB_=>by exact Zd1 [(0,.agg (ZF4 (ZF3 .u8 s10))),(1,vI ((Ym a0 (r10.getD i10 Zuw)).getD 0))] rfl (Zee s10 ((Ym a0 (r10.getD i10 Zuw)).getD 0)  _)) (Za 11 127) (aO 7 rfl (Jk (sz:=9) hC [(0,.agg (ZF4 (ZGg (⟨s10,(Ym a0 (r10.getD i10 Zuw)).getD 0⟩:Term))))] (ZF6.encs [(⟨s10,(Ym a0 (r10.getD i10 Zuw)).getD 0⟩:Term)]) rfl (fun _=>Zdd (⟨s10,(Ym a0 (r10.getD i10 Zuw)).getD 0⟩:Term) _) rfl (by decide) fun b12 w22 hB_ hC=>done (aK (by assumption) (Za 11 255) (Z2 8 (by decide) (by decide) (by kernel_rfl) (by kernel_rfl) rfl ?_))))))))))
    obtain ⟨hm10,h⟩:=h
    refine Zap hC 3 ZGf Zde rfl (by decide) (by decide) rfl (J5 (hC.getM 0 rfl)) (fun q hq=>Enc.encs_one' (E:=ETerm) _ q hq) rfl rfl hm10 fun v11 w23 hC=>?_
    replace hC:=Jm hC 3 ((s11++[(⟨s10,(Ym a0 (r10.getD i10 Zuw)).getD 0⟩:Term)]).length) (ZF6.encs (s11++[(⟨s10,(Ym a0 (r10.getD i10 Zuw)).getD 0⟩:Term)])) rfl (by simp) (by first | (simp [Enc.encs_append]; done) | simp [Enc.encs_append,Enc.encs])
    refine Zx 0 ZGc rfl sc53.size rfl rfl (Zo (v:=v11) hC 5 [v11] [v11] rfl sc53.size rfl rfl (Za2 (hC.getM 3 rfl)) rfl (Ye (Yr (hC.getM 3 rfl)) rfl) (ZGe rfl) rfl fun w24 hC=>done (Z3 (Zs (Zd (Zm (Zp rfl rfl (Zb (v:=vI (Zxa.wrap ((i10:Int)+1))) rfl (done ?_))))))))
    exact hK10 (s11++[(⟨s10,(Ym a0 (r10.getD i10 Zuw)).getD 0⟩:Term)]) _ _ ⟨v11,(sl ⟨rfl,rfl,rfl,rfl,rfl,(tr rfl (congrArg _ (Z6 hi10 hN10))),trivial⟩),(hC.xM [3,4,5,6] rfl)⟩ h
   ·skip
    exact⟨(slq rfl),hC⟩
  ·clear hC h
   rintro s11 e_ w25 K10 ⟨v10,hS_,hC⟩ h
   rw [ue hS_]
   refine sr (Zn rfl rfl (dn (ZF5 (Z9 rfl (decide_eq_false (by omega)) ?_))))
   refine ZGj (Zl (Zl (Z5 ?_)))
   refine Zd (sr (Yb hC 2 [v10] rfl ag55 rfl rfl rfl (Zo (v:=.agg #[v10]) hC 3 [v10] [v10] rfl ag55.size rfl rfl rfl rfl (Ye (Yr (hC.getM 0 rfl)) rfl) (ZGe rfl) rfl fun w26 hC=>Zc (v:=vI 0) rfl (dn (ZGd ?_)))))
   exact Xi rfl (Y2 hC 3 rfl ag55 rfl rfl) (Zg rfl) ⟨(⟨s11⟩:ZF9),v10,(ZG2 (Zvi v10)),0,rfl,h,(X5 (Jc (hC.getM 0 rfl))),(X3 hC 0 rfl),hC.below⟩ (.inl rfl)
  ·skip
   replace hC:=hC.pushNil 90 9
   exact⟨.slice none 0 0,(slq rfl),hC⟩
def Zbn (a0:List (A8×Int)) (a1:List (A8×Int)) (a2:Int) (K:List (A8×Int)→Prop):Prop :=
 Zab (fun (q10:A8×Int) (s10:(List (A8×Int))) nx10=>Zdh s10 q10.1 (Zvh (Zxa.wrap (q10.2 * a2)) 10007) (fun m10=>nx10 m10)) (fun (s10:(List (A8×Int)))=>K s10) a1.length a1 a0
theorem Zk7 (a0:List (A8×Int)) (a1:List (A8×Int)) (a2:Int)  {K:List (A8×Int)→Prop} (h:Zbn a0 a1 a2 K) (w0:World) (q0:(mapS b0 a0).holds w0) (d1:∀ c,c∈[b1]→c≠b0) (q1:(mapS b1 a1).holds w0) :
  Calls ZF7 89 #[.map (some b0),.map (some b1),vI a2] w0 fun e w'=>∃ (m0:List (A8×Int)),
   e=.returned (.tuple #[])∧K m0∧(mapS b0 m0).holds w'∧BelB b0 w0 w':=by
 unfold Zbn at h
 refine cof Tryz.func89 rfl 22 Tryz.ntmps89 ?_
 have hC:=Ctx.start1 w0 b0 (it:=mapS b0 a0) rfl [mapS b1 a1] q0 (by simp only [Zus,Zwy,or_false,forall_eq_or_imp,forall_eq]; exact q1) (by simp only [Zus,Zwy,or_false,forall_eq_or_imp,forall_eq]; exact d1)
 refine sr (Zb (v:=.map (some b1)) rfl (Zc3 hC 0 rfl ZG1 rfl fun r3 es4 ck5 w10 hB_ hn6 hbn7 hC=>dn (ZGb ?_)))
 refine Zc7 (S:=(List (A8×Int))) _ _ (fun l10 s10 e_ w_=>∃ (la10:Option MapEntry),Zy e_ [(0,.map (some b0)),(2,vI a2),(9,vQ r3)]∧Ctx (fun c_=>c_=b0) w0 w_ [itI (kvA .i64) (vvI .i64) r3 b1 es4 ck5 la10 l10,mapS b0 s10] [Jx b1 es4 ck5,mapS b1 a1]) ?_ (l0:=a1) (s0:=a0) ?_ h
 ·clear hC h
  rintro l10 s10 e_ w11 nx10 K10 ⟨la10,hS_,hC⟩ h hK10
  rw [ue hS_]
  refine sr ?_
  refine Zc4 hC 0 0 rfl rfl hn6 hbn7 rfl (fun hr10=>?_) (fun q10 l11 ent10 w12 hp10 hk10 hv10 hC=>?_)
  ·replace h:=h.1 hr10
   refine Yu (v:=.bool false) rfl rfl (dn (ZF5 (Z9 rfl rfl ?_)))
   refine ZGj (Zl (Zl (Z5 ?_)))
   exact Zh7 rfl  ⟨s10,rfl,h,(hC.getM 1 rfl),hC.belB⟩ (.inr rfl)
  ·replace h:=h.2 q10 l11 hp10
   refine Yu (v:=.bool true) rfl rfl (dn (ZF5 (Z8 rfl rfl (ZF8 (Zd (ZGb (sr (Zc5 hC 0 0 q10 rfl rfl hn6 rfl hk10 hv10 (Yu (v:=.agg (ZF4 (ZF3 .i64 q10.1))) rfl rfl (Yu (v:=vI q10.2) rfl rfl (Z1 hC (ZF3 .i64 ZGa) Js rfl fun b10 w13 hB_ hC=>Zo (v:=.agg (ZF4 (ZF3 .i64 q10.1))) hC 0 (ZF3 .i64 q10.1) (ZF3 .i64 q10.1) rfl ag110.size rfl rfl rfl rfl rfl (ZGe rfl) rfl fun w14 hC=>Zc (v:=vI q10.2) rfl (dn (Zm (Zb (v:=.map (some b0)) rfl (Yb hC 0 (ZF3 .i64 q10.1) rfl ag110 rfl rfl rfl (Zb (v:=vI q10.2) rfl (Zb (v:=vI a2) rfl (Zbe rfl rfl (Jp rfl rfl (by decide) (Zf [.map (some b0),.agg (ZF4 (ZF3 .i64 q10.1)),vI (Zvh (Zxa.wrap (q10.2 * a2)) 10007)] _ Tryz.func103 rfl rfl rfl (Zk5 s10 q10.1 (Zvh (Zxa.wrap (q10.2 * a2)) 10007) h _ (hC.getM 2 rfl)) ?_))))))))))))))))))))
   rintro _ w15 ⟨m10,rfl,h,hm10,hB10⟩
   refine rt ?_
   replace hC:=hC.turnB 2 rfl hB10 rfl rfl hm10
   refine done (Zs ?_)
   exact hK10 q10 l11 m10 _ _ hp10 ⟨(some ent10),(slq rfl),(hC.xM [1,2] rfl)⟩ h
 ·skip
  exact⟨none,(slq rfl),hC⟩
def J3 (a0:List (A8×Int)) (a1:List Int) (a2:List (A8×Int)) (K:List (A8×Int)→Prop):Prop :=
 Zab (fun (q10:A8×Int) (s11:(List (A8×Int))) nx11=>Zab (fun (q11:A8×Int) (s10:(List (A8×Int))) nx10=>Zen q10.1 a1 q11.1 (fun r10 r11=>(if r11≠0 then Zdh s10 r10 (Zvh (Zxa.wrap ((Zxa.wrap (r11 * q10.2)) * q11.2)) 10007) (fun m10=>nx10 m10) else nx10 s10))) (fun (s10:(List (A8×Int)))=>nx11 s10) a2.length a2 s11) (fun (s11:(List (A8×Int)))=>K s11) a0.length a0 ([]:List (A8×Int))
theorem X0 (a0:List (A8×Int)) (a1:List Int) (a2:List (A8×Int))  {K:List (A8×Int)→Prop} (h:J3 a0 a1 a2 K) (w0:World) (q0:(mapS b0 a0).holds w0) (q1:ZIv.rep a1 [u1_0] fp1 w0) (q2:(mapS b2 a2).holds w0) :
  Calls ZF7 87 #[.map (some b0),u1_0,.map (some b2)] w0 fun e w'=>∃ (r0:List (A8×Int)) (zb0:Nat),
   e=.returned (.map (some zb0))∧K r0∧(mapS zb0 r0).holds w'∧w0.heap.size≤zb0∧Bel w0 w':=by
 unfold J3 at h
 refine cof ZIt rfl 48 Tryz.ntmps87 ?_
 have hC:=ZGq (X:=Nox) w0 [ZCh TInts a1 [u1_0] fp1,mapS b0 a0,mapS b2 a2] (alc q1 (alc q0 (al1 q2)))
 refine sr (Zc (v:=.map none) rfl (dn (sr (Za3 hC (kvA .i64) (vvI .i64) fun b4 w6 hB_ hC=>Zc (v:=.map (some b4)) rfl (dn (ZF5 (sr (Zb (v:=.map (some b0)) rfl (Zc3 hC 1 rfl ZG1 rfl fun r7 es8 ck9 w10 hB_ hn10 hbn10 hC=>dn (ZGb ?_))))))))))
 refine Zc7 (S:=(List (A8×Int))) _ _ (fun l12 s11 e_ w_=>∃ (la10:Option MapEntry),Zy e_ [(1,u1_0),(2,.map (some b2)),(7,.map (some b4)),(16,vQ r7)]∧Ctx Nox w0 w_ [itI (kvA .i64) (vvI .i64) r7 b0 es8 ck9 la10 l12,mapS b4 s11] [Jx b0 es8 ck9,ZCh TInts a1 [u1_0] fp1,mapS b0 a0,mapS b2 a2]) ?_ (l0:=a0) (s0:=([]:List (A8×Int))) ?_ h
 ·clear hC h
  rintro l12 s11 e_ w11 nx11 K10 ⟨la10,hS_,hC⟩ h hK11
  rw [ue hS_]
  refine sr ?_
  refine Zc4 hC 0 0 rfl rfl hn10 hbn10 rfl (fun hr10=>?_) (fun q10 l10 ent10 w12 hp11 hk10 hv10 hC=>?_)
  ·replace h:=h.1 hr10
   refine Yu (v:=.bool false) rfl rfl (dn (ZF5 (Z9 rfl rfl ?_)))
   refine ZGj (Zl (Zl (Z5 ?_)))
   refine Zd (sr (Zb (v:=.map (some b4)) rfl (Zc (v:=.map (some b4)) rfl (dn (ZGd ?_)))))
   exact Zj rfl (Zg rfl) ⟨s11,b4,rfl,h,(hC.getM 1 rfl),(Zc1 hC 1 rfl),hC.below⟩ (.inl rfl)
  ·replace h:=h.2 q10 l10 hp11
   refine Yu (v:=.bool true) rfl rfl (dn (ZF5 (Z8 rfl rfl (ZF8 (Zd (ZGb (sr (Zc5 hC 0 0 q10 rfl rfl hn10 rfl hk10 hv10 (Yu (v:=.agg (ZF4 (ZF3 .i64 q10.1))) rfl rfl (Yu (v:=vI q10.2) rfl rfl (Z1 hC (ZF3 .i64 ZGa) Js rfl fun b10 w13 hB_ hC=>Zo (v:=.agg (ZF4 (ZF3 .i64 q10.1))) hC 0 (ZF3 .i64 q10.1) (ZF3 .i64 q10.1) rfl ag110.size rfl rfl rfl rfl rfl (ZGe rfl) rfl fun w14 hC=>Zc (v:=vI q10.2) rfl (dn (sr (Zb (v:=.map (some b2)) rfl (Zc3 hC 3 rfl ZG1 rfl fun r12 es10 ck10 w15 hB_ hn11 hbn11 hC=>dn (ZGb ?_))))))))))))))))
   refine Zc7 (S:=(List (A8×Int))) _ _ (fun l13 s10 e_ w_=>∃ (la11:Option MapEntry),Zy e_ [(1,u1_0),(2,.map (some b2)),(7,.map (some b4)),(8,vQ b10),(9,vI q10.2),(16,vQ r7),(23,vQ r12)]∧Ctx Nox w0 w_ [itI (kvA .i64) (vvI .i64) r12 b2 es10 ck10 la11 l13,blk b10 110 (ZF3 .i64 q10.1),itI (kvA .i64) (vvI .i64) r7 b0 es8 ck9 (some ent10) l10,mapS b4 s10] [Jx b2 es10 ck10,Jx b0 es8 ck9,ZCh TInts a1 [u1_0] fp1,mapS b0 a0,mapS b2 a2]) ?_ (l0:=a2) (s0:=s11) ?_ h
   ·clear hC h
    rintro l13 s10 e_ w16 nx10 K11 ⟨la11,hS_,hC⟩ h hK10
    rw [ue hS_]
    refine sr ?_
    refine Zc4 hC 0 0 rfl rfl hn11 hbn11 rfl (fun hr11=>?_) (fun q11 l11 ent11 w17 hp10 hk11 hv11 hC=>?_)
    ·replace h:=h.1 hr11
     refine Yu (v:=.bool false) rfl rfl (dn (ZF5 (Z9 rfl rfl ?_)))
     refine ZGj (Zl (Zl (Z5 ?_)))
     refine Zs ?_
     exact hK11 q10 l10 s10 _ _ hp11 ⟨(some ent10),(slq rfl),((hC.xM [2,3] rfl).sP [1,2,3,4] rfl)⟩ h
    ·replace h:=h.2 q11 l11 hp10
     refine Yu (v:=.bool true) rfl rfl (dn (ZF5 (Z8 rfl rfl (ZF8 (Zd (ZGb (sr (Zc5 hC 0 0 q11 rfl rfl hn11 rfl hk11 hv11 (Yu (v:=.agg (ZF4 (ZF3 .i64 q11.1))) rfl rfl (Yu (v:=vI q11.2) rfl rfl (Z1 hC (ZF3 .i64 ZGa) Js rfl fun b11 w18 hB_ hC=>Zo (v:=.agg (ZF4 (ZF3 .i64 q11.1))) hC 0 (ZF3 .i64 q11.1) (ZF3 .i64 q11.1) rfl ag110.size rfl rfl rfl rfl rfl (ZGe rfl) rfl fun w19 hC=>Zc (v:=vI q11.2) rfl (dn (sr (Yb hC 2 (ZF3 .i64 q10.1) rfl ag110 rfl rfl rfl (Zb (v:=u1_0) rfl (Yb hC 0 (ZF3 .i64 q11.1) rfl ag110 rfl rfl rfl (Zf [.agg (ZF4 (ZF3 .i64 q10.1)),u1_0,.agg (ZF4 (ZF3 .i64 q11.1))] _ Tryz.func102 rfl rfl rfl (Zpl q10.1 a1 q11.1 h _ (hC.getP 2 rfl)) ?_)))))))))))))))))
     rintro _ w20 ⟨r10,r11,rfl,h,hB10⟩
     refine rt ?_
     replace hC:=hC.grow hB10
     refine Zb (v:=.tuple #[.agg (ZF4 (ZF3 .i64 r10)),vI r11]) rfl (Yu (v:=.agg (ZF4 (ZF3 .i64 r10))) rfl rfl (Yu (v:=vI r11) rfl rfl (Z1 hC (ZF3 .i64 ZGa) Js rfl fun b12 w21 hB_ hC=>Zo (v:=.agg (ZF4 (ZF3 .i64 r10))) hC 0 (ZF3 .i64 r10) (ZF3 .i64 r10) rfl ag110.size rfl rfl rfl rfl rfl (ZGe rfl) rfl fun w22 hC=>Zc (v:=vI r11) rfl (dn (sr (Zb (v:=vI r11) rfl (Y4 rfl rfl (dn ?_))))))))
     refine Zq rfl (fun hb10=>?_) (fun hb10=>?_)
     ·replace h:=ift h (ct hb10)
      refine Zm (Zb (v:=.map (some b4)) rfl (Yb hC 0 (ZF3 .i64 r10) rfl ag110 rfl rfl rfl (Zb (v:=vI r11) rfl (Zb (v:=vI q10.2) rfl (Zbe rfl rfl (Zb (v:=vI q11.2) rfl (Zbe rfl rfl (Jp rfl rfl (by decide) (Zf [.map (some b4),.agg (ZF4 (ZF3 .i64 r10)),vI (Zvh (Zxa.wrap ((Zxa.wrap (r11 * q10.2)) * q11.2)) 10007)] _ Tryz.func103 rfl rfl rfl (Zk5 s10 r10 (Zvh (Zxa.wrap ((Zxa.wrap (r11 * q10.2)) * q11.2)) 10007) h _ (hC.getM 5 rfl)) ?_)))))))))
      rintro _ w23 ⟨m10,rfl,h,hm10,hB11⟩
      refine rt ?_
      replace hC:=hC.turnB 5 rfl hB11 rfl rfl hm10
      refine done (Zs ?_)
      exact hK10 q11 l11 m10 _ _ hp10 ⟨(some ent11),(slq rfl),(hC.xM [2,3,4,5] rfl)⟩ h
     ·replace h:=Zk h (cf hb10)
      refine ZF8 (Zs ?_)
      exact hK10 q11 l11 s10 _ _ hp10 ⟨(some ent11),(slq rfl),(hC.xM [2,3,4,5] rfl)⟩ h
   ·skip
    exact⟨none,(slq rfl),hC⟩
 ·skip
  exact⟨none,(slq rfl),hC⟩
def Zcf (a0:Int) (a1:Int) (a2:Int) (K:Bool→Prop):Prop :=
 (if a0≥a1 then K (decide (a0≤a2)) else K false)
theorem Ziz (a0:Int) (a1:Int) (a2:Int)  {K:Bool→Prop} (h:Zcf a0 a1 a2 K) (w0:World)  :
  Calls ZF7 45 #[vI a0,vI a1,vI a2] w0 fun e w'=>∃ (r0:Bool),
   e=.returned (.bool r0)∧K r0∧Bel w0 w':=by
 unfold Zcf at h
 refine cof Tryz.func45 rfl 15 Tryz.ntmps45 ?_
 have hC:=ZGq (X:=Nox) w0 [] (by simp)
 refine sr (Zc (v:=.bool false) rfl (dn (sr (Zb (v:=vI a0) rfl (Zb (v:=vI a1) rfl (Zbf rfl rfl (Zb (v:=.bool (decide (a0≥a1))) rfl ?_)))))))
 refine Y1 (decide (a0≥a1)) (fun hb1=>?_) (fun hb1=>?_)
 ·replace h:=ift h (ct hb1)
  refine Zi 3 10 rfl rfl hb1 (Zb (v:=vI a0) rfl (Zi 3 10 rfl rfl hb1 (Zb (v:=vI a2) rfl (Zi 3 10 rfl rfl hb1 (Zbz rfl rfl (Z0 (v:=.bool (decide (a0≤a2))) (b:=true) (tr rfl (congrArg _ hb1)) rfl (Zc (v:=.bool (decide (a0≤a2))) rfl (dn (ZGd ?_)))))))))
  exact Zj rfl (Zg rfl) ⟨decide (a0≤a2),rfl,h,hC.below⟩ (.inl rfl)
 ·replace h:=Zk h (cf hb1)
  refine Zh (b:=false) 3 10 rfl (tr rfl (congrArg _ hb1)) (by decide) (Zh (b:=false) 3 10 rfl (tr rfl (congrArg _ hb1)) (by decide) (Zh (b:=false) 3 10 rfl (tr rfl (congrArg _ hb1)) (by decide) (Z0 (v:=.bool false) (b:=false) (tr rfl (congrArg _ hb1)) rfl (Zc (v:=.bool false) rfl (dn (ZGd ?_))))))
  exact Zj rfl (Zg rfl) ⟨false,rfl,h,hC.below⟩ (.inl rfl)
def Zgu (a0:List Int) (p1:Int→(Bool→Prop)→Prop) (K:Int→Prop):Prop :=
 Yi (fun i10 (s10:Unit) nx10=>p1 (a0.getD i10 Zuw) (fun r10=>(if r10=true then K (i10:Int) else nx10 ()))) (fun (s10:Unit)=>K (-1)) a0.length 0 ()
theorem Zpo (a0:List Int) (p1:Int→(Bool→Prop)→Prop)  {K:Int→Prop} (h:Zgu a0 p1 K) (w0:World) (q0:ZIv.rep a0 [u0_0] fp0 w0) {g1:Nat} {cp1:List Value} {fn1:Func} (hf1:ZF7.funcs[g1]? = some fn1) (hb1:fn1.body.isNone=false) (hn1:(fn1.name == "runtime.NumGoroutine")=false) (hp1:∀ (y0:Int) (K_:Bool→Prop) (w_:World),Bel w0 w_→p1 y0 K_→Calls ZF7 g1 (ZF4 ([vI y0]++cp1)) w_ fun e w'=>∃ (z0:Bool),e=.returned (.bool z0)∧K_ z0∧Bel w_ w') :
  Calls ZF7 70 #[u0_0,.func (.func g1) #[] (ZF4 cp1)] w0 fun e w'=>∃ (r0:Int),
   e=.returned (vI r0)∧K r0∧Bel w0 w':=by
 unfold Zgu at h
 refine cof Tryz.func70 rfl 19 Tryz.ntmps70 ?_
 have hC:=ZGq (X:=Nox) w0 [ZCh TInts a0 [u0_0] fp0] (al1 q0)
 refine sr (Zc (v:=vI 0) rfl (dn (ZF5 (sr (Zb (v:=u0_0) rfl (Zv hC 0 rfl ZGo rfl (Zb (v:=vI 0) rfl (dn (ZGb ?_)))))))))
 have hN10:a0.length≤9223372036854775807:=Y3 (hC.getP 0 rfl)
 refine Yn (S:=Unit) _ _ (fun i10 s10 e_ w_=>Zy e_ [(0,u0_0),(1,.func (.func g1) #[] (ZF4 cp1)),(7,vI (a0.length:Int)),(8,vI (i10:Int))]∧Ctx Nox w0 w_ [] [ZCh TInts a0 [u0_0] fp0]) a0.length ?_ ?_ (s0:=()) ?_ h
 ·clear hC h
  rintro i10 s10 e_ w10 nx10 K10 hi10 ⟨hS_,hC⟩ h hK10
  rw [ue hS_]
  refine sr (Zn rfl rfl (dn (ZF5 (Z8 rfl (decide_eq_true (by omega)) (ZF8 (Zd (ZF5 (ZGb (sr (Zb (v:=vI (i10:Int)) rfl (Zc (v:=vI (i10:Int)) rfl (dn (sr (Zb (v:=.func (.func g1) #[] (ZF4 cp1)) rfl (Zb (v:=u0_0) rfl (Zb (v:=vI (i10:Int)) rfl ?_))))))))))))))))
  obtain ⟨Ad10,c10,hv10⟩:=Zz (hC.getP 0 rfl) i10 hi10
  refine Yq (len:=a0.length) ZGo sc2.size (tr rfl hv10) rfl (ZGm _) (ZG4.2 hi10) (Xb (vI (a0.getD i10 Zuw)) (Yf (hC.getP 0 rfl) hv10 i10 hi10) sc2 rfl ?_)
  refine Zkb [vI (a0.getD i10 Zuw)] _ rfl hf1 hb1 hn1 rfl (hp1 _ _ _ hC.below  h) (fun ret10 w11 hR10=>?_)
  obtain ⟨r10,rfl,h,hB10⟩:=hR10
  refine⟨_,rfl,?_⟩
  replace hC:=hC.grow hB10
  refine dn ?_
  refine Zq rfl (fun hb10=>?_) (fun hb10=>?_)
  ·replace h:=ift h (hb10)
   refine sr (Zb (v:=vI (i10:Int)) rfl (Zc (v:=vI (i10:Int)) rfl (dn ?_)))
   refine ZGd (Zw (Ze (Ze (Zw (Ze ?_)))))
   exact Zj rfl (Zg rfl) ⟨(i10:Int),rfl,h,hC.below⟩ (.inl rfl)
  ·replace h:=Zk h (Y0 hb10)
   refine ZF8 (Zs (Zd (Zm (Zp rfl rfl (Zb (v:=vI (Zxa.wrap ((i10:Int)+1))) rfl (done ?_))))))
   exact hK10 () _ _ ⟨(sl ⟨rfl,rfl,rfl,(tr rfl (congrArg _ (Z6 hi10 hN10))),trivial⟩),hC⟩ h
 ·clear hC h
  rintro s10 e_ w12 K10 ⟨hS_,hC⟩ h
  rw [ue hS_]
  refine sr (Zn rfl rfl (dn (ZF5 (Z9 rfl (decide_eq_false (by omega)) ?_))))
  refine ZGj (Zl (Zl (Z5 ?_)))
  refine Zd (sr (Zc (v:=vI (-1)) rfl (dn (ZGd ?_))))
  exact Zj rfl (Zg rfl) ⟨(-1),rfl,h,hC.below⟩ (.inl rfl)
 ·skip
  exact⟨(slq rfl),hC⟩
def Zgv (a0:List Int) (p1:Int→(Bool→Prop)→Prop) (K:Bool→Prop):Prop :=
 Zgu a0 p1 (fun r5=>K (decide (r5≥0)))
theorem Zpp (a0:List Int) (p1:Int→(Bool→Prop)→Prop)  {K:Bool→Prop} (h:Zgv a0 p1 K) (w0:World) (q0:ZIv.rep a0 [u0_0] fp0 w0) {g1:Nat} {cp1:List Value} {fn1:Func} (hf1:ZF7.funcs[g1]? = some fn1) (hb1:fn1.body.isNone=false) (hn1:(fn1.name == "runtime.NumGoroutine")=false) (hp1:∀ (y0:Int) (K_:Bool→Prop) (w_:World),Bel w0 w_→p1 y0 K_→Calls ZF7 g1 (ZF4 ([vI y0]++cp1)) w_ fun e w'=>∃ (z0:Bool),e=.returned (.bool z0)∧K_ z0∧Bel w_ w') :
  Calls ZF7 43 #[u0_0,.func (.func g1) #[] (ZF4 cp1)] w0 fun e w'=>∃ (r0:Bool),
   e=.returned (.bool r0)∧K r0∧Bel w0 w':=by
 unfold Zgv at h
 refine cof Tryz.func43 rfl 9 Tryz.ntmps43 ?_
 have hC:=ZGq (X:=Nox) w0 [ZCh TInts a0 [u0_0] fp0] (al1 q0)
 refine sr (Zc (v:=.bool false) rfl (dn (sr (Zb (v:=u0_0) rfl (Zb (v:=.func (.func g1) #[] (ZF4 cp1)) rfl (Zf [u0_0,.func (.func g1) #[] (ZF4 cp1)] _ Tryz.func70 rfl rfl rfl (Zpo a0 p1 h _ (hC.getP 0 rfl) hf1 hb1 hn1 (fun x0_ K_ w_ hb_=>hp1 x0_ K_ w_ (Zke hC.below hb_))) ?_))))))
 rintro _ w4 ⟨r5,rfl,h,hB6⟩
 refine rt ?_
 replace hC:=hC.grow hB6
 refine Zbf rfl rfl (Zc (v:=.bool (decide (r5≥0))) rfl (dn (ZGd ?_)))
 exact Zj rfl (Zg rfl) ⟨decide (r5≥0),rfl,h,hC.below⟩ (.inl rfl)
def Zep (a0:Int) (K:Bool→Prop):Prop :=
 Zcf a0 1 12 (fun r4=>K (!r4))
theorem Zpq (a0:Int)  {K:Bool→Prop} (h:Zep a0 K) (w0:World)  :
  Calls ZF7 106 #[vI a0] w0 fun e w'=>∃ (r0:Bool),
   e=.returned (.bool r0)∧K r0∧Bel w0 w':=by
 unfold Zep at h
 refine cof Tryz.func106 rfl 6 Tryz.ntmps106 ?_
 have hC:=ZGq (X:=Nox) w0 [] (by simp)
 refine sr (Zc (v:=.bool false) rfl (dn (sr (Zb (v:=vI a0) rfl (Zf [vI a0,vI 1,vI 12] _ Tryz.func45 rfl rfl rfl (Ziz a0 1 12 h _) ?_)))))
 rintro _ w3 ⟨r4,rfl,h,hB5⟩
 refine rt ?_
 replace hC:=hC.grow hB5
 refine Xa rfl (Zc (v:=.bool (!r4)) rfl (dn (ZGd ?_)))
 exact Zj rfl (Zg rfl) ⟨!r4,rfl,h,hC.below⟩ (.inl rfl)
def Zeq (a0:List Int) (K:Bool→Prop):Prop :=
 (if(a0.length:Int)≤8 then Zgv a0 Zep (fun r9=>K (!r9)) else K false)
theorem Zpr (a0:List Int)  {K:Bool→Prop} (h:Zeq a0 K) (w0:World) (q0:ZIv.rep a0 [u0_0] fp0 w0) :
  Calls ZF7 92 #[u0_0] w0 fun e w'=>∃ (r0:Bool),
   e=.returned (.bool r0)∧K r0∧Bel w0 w':=by
 unfold Zeq at h
 refine cof Tryz.func92 rfl 11 Tryz.ntmps92 ?_
 have hC:=ZGq (X:=Nox) w0 [ZCh TInts a0 [u0_0] fp0] (al1 q0)
 refine sr (Zc (v:=.bool false) rfl (dn (sr (Zb (v:=u0_0) rfl (Zv hC 0 rfl ZGo rfl (Zbz rfl rfl (Zb (v:=.bool (decide ((a0.length:Int)≤8))) rfl ?_)))))))
 refine Y1 (decide ((a0.length:Int)≤8)) (fun hb5=>?_) (fun hb5=>?_)
 ·replace h:=ift h (ct hb5)
  refine Zi 3 6 rfl rfl hb5 (Zb (v:=u0_0) rfl (Zi 3 6 rfl rfl hb5 (Zf [u0_0,.func (.func 106) #[] (ZF4 [])] _ Tryz.func43 rfl rfl rfl (Zpp a0 Zep h _ (hC.getP 0 rfl) Tryz.func106 rfl rfl (fun x0_ K_ w_ _ hq_=>Zpq x0_ hq_ w_)) ?_)))
  rintro _ w8 ⟨r9,rfl,h,hB10⟩
  refine rt ?_
  replace hC:=hC.grow hB10
  refine Zi 3 6 rfl rfl hb5 (Xa rfl (Z0 (v:=.bool (!r9)) (b:=true) (tr rfl (congrArg _ hb5)) rfl (Zc (v:=.bool (!r9)) rfl (dn (ZGd ?_)))))
  exact Zj rfl (Zg rfl) ⟨!r9,rfl,h,hC.below⟩ (.inl rfl)
 ·replace h:=Zk h (cf hb5)
  refine Zh (b:=false) 3 6 rfl (tr rfl (congrArg _ hb5)) (by decide) (Zh (b:=false) 3 6 rfl (tr rfl (congrArg _ hb5)) (by decide) (Zh (b:=false) 3 6 rfl (tr rfl (congrArg _ hb5)) (by decide) (Z0 (v:=.bool false) (b:=false) (tr rfl (congrArg _ hb5)) rfl (Zc (v:=.bool false) rfl (dn (ZGd ?_))))))
  exact Zj rfl (Zg rfl) ⟨false,rfl,h,hC.below⟩ (.inl rfl)
def Zer (a0:List Int) (a1:A8) (K:Bool→Prop):Prop :=
 Yi (fun i10 (s10:Unit) nx10=>(if(i10:Int) < (a0.length:Int) then((0≤(i10:Int)∧(i10:Int) < (a0.length:Int))∧(if Zvh (a0.getD i10 Zuw) 2=1 then(if a1.get i10 > 1 then K false else nx10 ()) else(if a1.get i10 > 20 then K false else nx10 ()))) else(if a1.get i10 > 0 then K false else nx10 ()))) (fun (s10:Unit)=>K true) 8 0 ()
theorem Zps (a0:List Int) (a1:A8)  {K:Bool→Prop} (h:Zer a0 a1 K) (w0:World) (q0:ZIv.rep a0 [u0_0] fp0 w0) :
  Calls ZF7 97 #[u0_0,.agg (ZF4 (ZF3 .u8 a1))] w0 fun e w'=>∃ (r0:Bool),
   e=.returned (.bool r0)∧K r0∧Bel w0 w':=by
 unfold Zer at h
 refine cof Tryz.func97 rfl 27 Tryz.ntmps97 ?_
 have hC:=ZGq (X:=Nox) w0 [ZCh TInts a0 [u0_0] fp0] (al1 q0)
 refine sr (Yj (v:=.agg (ZF4 (ZF3 .u8 a1))) hC (ZF3 .u8 a1) rfl rfl fun b2 w4 hB_ hC=>Zc (v:=.bool false) rfl (dn (ZF5 (sr (Yb hC 0 (ZF3 .u8 a1) rfl ag88 rfl rfl rfl (Zb (v:=vI 0) rfl (dn (ZGb ?_))))))))
 refine Yn (S:=Unit) _ _ (fun i10 s10 e_ w_=>Zy e_ [(0,u0_0),(8,.agg (ZF4 (ZF3 .u8 a1))),(9,vI (i10:Int))]∧Ctx Nox w0 w_ [] [ZCh TInts a0 [u0_0] fp0]) 8 ?_ ?_ (s0:=()) ?_ h
 ·clear hC h
  rintro i10 s10 e_ w10 nx10 K10 hi10 ⟨hS_,hC⟩ h hK10
  rw [ue hS_]
  refine sr (Zn rfl rfl (dn (ZF5 (Z8 rfl (decide_eq_true (by omega)) (ZF8 (Zd (ZF5 (ZGb (sr (Zb (v:=vI (i10:Int)) rfl (Zf2 (.int .u8 (a1.get i10)) ZGn rfl rfl (ZGm _) (by omega) sc5 (ZGi _ _ hi10) (Zc (v:=vI (i10:Int)) rfl (Zc (v:=.int .u8 (a1.get i10)) rfl (dn (sr (Zc (v:=.int .u8 0) rfl (dn (ZF5 (sr (Zb (v:=vI (i10:Int)) rfl (Zb (v:=u0_0) rfl (Zv hC 0 rfl ZGo rfl (Zn rfl rfl (dn ?_))))))))))))))))))))))))
  refine Zq rfl (fun hb10=>?_) (fun hb10=>?_)
  ·replace h:=ift h (ct hb10)
   refine sr (Zc (v:=.int .u8 20) rfl (dn (sr (Zb (v:=u0_0) rfl (Zb (v:=vI (i10:Int)) rfl ?_)))))
   obtain ⟨⟨h10,h11⟩,h⟩:=h
   obtain ⟨Ad10,c10,hv10⟩:=Zz (hC.getP 0 rfl) i10 (show i10 < a0.length by omega)
   refine Yq (len:=a0.length) ZGo sc2.size (tr rfl hv10) rfl h10 h11 (Xb (vI (a0.getD i10 Zuw)) (Yf (hC.getP 0 rfl) hv10 i10 (show i10 < a0.length by omega)) sc2 rfl (Jp rfl rfl (by decide) (Je rfl rfl (dn ?_))))
   refine Zq rfl (fun hb11=>?_) (fun hb11=>?_)
   ·replace h:=ift h (ct hb11)
    refine Zm (Zc (v:=.int .u8 1) rfl (dn (sr (Zb (v:=.int .u8 (a1.get i10)) rfl (Zb (v:=.int .u8 1) rfl (Xy rfl rfl (dn ?_)))))))
    refine Zq rfl (fun hb12=>?_) (fun hb12=>?_)
    ·replace h:=ift h (ct hb12)
     refine sr (Zc (v:=.bool false) rfl (dn ?_))
     refine ZGd (Zw (Ze (Ze (Zw (Ze ?_)))))
     exact Zj rfl (Zg rfl) ⟨false,rfl,h,hC.below⟩ (.inl rfl)
    ·replace h:=Zk h (cf hb12)
     refine ZF8 (Zs (Zd (Zm (Zp rfl rfl (Zb (v:=vI (Zxa.wrap ((i10:Int)+1))) rfl (done ?_))))))
     exact hK10 () _ _ ⟨(sl ⟨rfl,rfl,(tr rfl (congrArg _ (Z6 hi10 (by decide)))),trivial⟩),hC⟩ h
   ·replace h:=Zk h (cf hb11)
    refine ZF8 (Zd (sr (Zb (v:=.int .u8 (a1.get i10)) rfl (Zb (v:=.int .u8 20) rfl (Xy rfl rfl (dn ?_))))))
    refine Zq rfl (fun hb13=>?_) (fun hb13=>?_)
    ·replace h:=ift h (ct hb13)
     refine sr (Zc (v:=.bool false) rfl (dn ?_))
     refine ZGd (Zw (Ze (Ze (Zw (Ze ?_)))))
     exact Zj rfl (Zg rfl) ⟨false,rfl,h,hC.below⟩ (.inl rfl)
    ·replace h:=Zk h (cf hb13)
     refine ZF8 (Zs (Zd (Zm (Zp rfl rfl (Zb (v:=vI (Zxa.wrap ((i10:Int)+1))) rfl (done ?_))))))
     exact hK10 () _ _ ⟨(sl ⟨rfl,rfl,(tr rfl (congrArg _ (Z6 hi10 (by decide)))),trivial⟩),hC⟩ h
  ·replace h:=Zk h (cf hb10)
   refine ZF8 (Zd (sr (Zb (v:=.int .u8 (a1.get i10)) rfl (Zb (v:=.int .u8 0) rfl (Xy rfl rfl (dn ?_))))))
   refine Zq rfl (fun hb14=>?_) (fun hb14=>?_)
   ·replace h:=ift h (ct hb14)
    refine sr (Zc (v:=.bool false) rfl (dn ?_))
    refine ZGd (Zw (Ze (Ze (Zw (Ze ?_)))))
    exact Zj rfl (Zg rfl) ⟨false,rfl,h,hC.below⟩ (.inl rfl)
   ·replace h:=Zk h (cf hb14)
    refine ZF8 (Zs (Zd (Zm (Zp rfl rfl (Zb (v:=vI (Zxa.wrap ((i10:Int)+1))) rfl (done ?_))))))
    exact hK10 () _ _ ⟨(sl ⟨rfl,rfl,(tr rfl (congrArg _ (Z6 hi10 (by decide)))),trivial⟩),hC⟩ h
 ·clear hC h
  rintro s10 e_ w11 K10 ⟨hS_,hC⟩ h
  rw [ue hS_]
  refine sr (Zn rfl rfl (dn (ZF5 (Z9 rfl (decide_eq_false (by omega)) ?_))))
  refine ZGj (Zl (Zl (Z5 ?_)))
  refine Zd (sr (Zc (v:=.bool true) rfl (dn (ZGd ?_))))
  exact Zj rfl (Zg rfl) ⟨true,rfl,h,hC.below⟩ (.inl rfl)
 ·skip
  exact⟨(slq rfl),(hC.xM [] rfl)⟩
def Zgw (a0:Int) (K:Bool→Prop):Prop :=
 Zcf a0 1 10006 (fun r4=>K r4)
theorem Zpt (a0:Int)  {K:Bool→Prop} (h:Zgw a0 K) (w0:World)  :
  Calls ZF7 48 #[vI a0] w0 fun e w'=>∃ (r0:Bool),
   e=.returned (.bool r0)∧K r0∧Bel w0 w':=by
 unfold Zgw at h
 refine cof Tryz.func48 rfl 5 Tryz.ntmps48 ?_
 have hC:=ZGq (X:=Nox) w0 [] (by simp)
 refine sr (Zc (v:=.bool false) rfl (dn (sr (Zb (v:=vI a0) rfl (Zf [vI a0,vI 1,vI 10006] _ Tryz.func45 rfl rfl rfl (Ziz a0 1 10006 h _) ?_)))))
 rintro _ w3 ⟨r4,rfl,h,hB5⟩
 refine rt ?_
 replace hC:=hC.grow hB5
 refine Zc (v:=.bool r4) rfl (dn (ZGd ?_))
 exact Zj rfl (Zg rfl) ⟨r4,rfl,h,hC.below⟩ (.inl rfl)
def Zdi (a0:List Int) (a1:ZF9) (K:Bool→Prop):Prop :=
 (if(a1.terms.length:Int) > 400 then K false else Yi (fun i10 (s10:Unit) nx10=>Zer a0 ((a1.terms.getD i10 Zuw).mono) (fun r10=>(if¬ (r10=true) then K false else Zgw ((a1.terms.getD i10 Zuw).factor) (fun r13=>(if¬ (r13=true) then K false else(if(i10:Int) > 0 then((0≤Zxa.wrap ((i10:Int) - 1)∧Zxa.wrap ((i10:Int) - 1) < (a1.terms.length:Int))∧Zbm ((a1.terms.getD ((Zxa.wrap ((i10:Int) - 1)).toNat) Zuw).mono) (fun r11=>Zbm ((a1.terms.getD i10 Zuw).mono) (fun r12=>Zgs r11 r12 (fun r14=>(if r14≥0 then K false else nx10 ()))))) else nx10 ())))))) (fun (s10:Unit)=>K true) a1.terms.length 0 ())
theorem Zk8 (a0:List Int) (a1:ZF9)  {K:Bool→Prop} (h:Zdi a0 a1 K) (w0:World) (q0:ZIv.rep a0 [u0_0] fp0 w0) (q1:ZGr.rep a1 [u1_0] fp1 w0) :
  Calls ZF7 74 #[u0_0,.agg #[u1_0]] w0 fun e w'=>∃ (r0:Bool),
   e=.returned (.bool r0)∧K r0∧Bel w0 w':=by
 unfold Zdi at h
 refine cof Tryz.func74 rfl 48 Tryz.ntmps74 ?_
 have hC:=ZGq (X:=Nox) w0 [ZCh TInts a0 [u0_0] fp0,ZCh TForm a1 [u1_0] fp1] (alc q0 (al1 q1))
 have hp3:=(hC.getP 1 rfl)
 replace hC:=hC.derive 1 rfl (ZCh ZF6.ty.sl a1.terms [u1_0] fp1) (fun _=>(Yx hp3)) (fun _ hb_=>hb_)
 refine sr (Yj (v:=.agg #[u1_0]) hC [u1_0] rfl rfl fun b5 w7 hB_ hC=>Zc (v:=.bool false) rfl (dn (ZF5 (sr (Zx 0 ZGc rfl sc53.size rfl rfl (Z4 hC 0 (u1_0) rfl sc53 rfl rfl (Zv hC 0 rfl ZGf rfl (Xy rfl rfl (dn ?_)))))))))
 refine Zq rfl (fun hb12=>?_) (fun hb12=>?_)
 ·replace h:=ift h (ct hb12)
  refine sr (Zc (v:=.bool false) rfl (dn ?_))
  refine ZGd (Ze ?_)
  exact Zj rfl (Zg rfl) ⟨false,rfl,h,hC.below⟩ (.inl rfl)
 ·replace h:=Zk h (cf hb12)
  refine ZF8 (Zd (ZF5 (sr (Zx 0 ZGc rfl sc53.size rfl rfl (Z4 hC 0 (u1_0) rfl sc53 rfl rfl (Zv hC 0 rfl ZGf rfl (Zb (v:=vI 0) rfl (dn (ZGb ?_)))))))))
  have hN10:a1.terms.length≤9223372036854775807:=Y3 (hC.getP 0 rfl)
  refine Yn (S:=Unit) _ _ (fun i10 s10 e_ w_=>Zy e_ [(0,u0_0),(3,vQ b5),(12,u1_0),(13,vI (a1.terms.length:Int)),(14,vI (i10:Int))]∧Ctx Nox w0 w_ [blk b5 55 [u1_0]] [ZCh ZF6.ty.sl a1.terms [u1_0] fp1,ZCh TInts a0 [u0_0] fp0,ZCh TForm a1 [u1_0] fp1]) a1.terms.length ?_ ?_ (s0:=()) ?_ h
  ·clear hC h
   rintro i10 s10 e_ w10 nx10 K10 hi10 ⟨hS_,hC⟩ h hK10
   rw [ue hS_]
   refine sr (Zn rfl rfl (dn (ZF5 (Z8 rfl (decide_eq_true (by omega)) (ZF8 (Zd (ZF5 (ZGb (sr (Zb (v:=vI (i10:Int)) rfl ?_))))))))))
   obtain ⟨Ad11,c10,hv10⟩:=Zz (hC.getP 0 rfl) i10 hi10
   refine Yq (len:=a1.terms.length) ZGf ag90.size (tr rfl hv10) rfl (ZGm _) (ZG4.2 hi10) (Jv (ZGg (a1.terms.getD i10 Zuw)) (Yf (hC.getP 0 rfl) hv10 i10 hi10) ag90 rfl rfl (Z1 hC (ZGg (⟨ZGa,0⟩:Term)) z90 rfl fun b10 w11 hB_ hC=>Zc (v:=vI (i10:Int)) rfl (Zo (v:=.agg (ZF4 (ZGg (a1.terms.getD i10 Zuw)))) hC 0 (ZGg (a1.terms.getD i10 Zuw)) (ZGg (a1.terms.getD i10 Zuw)) rfl ag90.size rfl rfl rfl rfl rfl (ZGe rfl) rfl fun w12 hC=>dn (ZF5 (sr (Zb (v:=u0_0) rfl (Zx 0 ZGl rfl ag88.size rfl rfl (Yb hC 0 (ZF3 .u8 ((a1.terms.getD i10 Zuw).mono)) rfl ag88 rfl rfl rfl (Zf [u0_0,.agg (ZF4 (ZF3 .u8 ((a1.terms.getD i10 Zuw).mono)))] _ Tryz.func97 rfl rfl rfl (Zps a0 ((a1.terms.getD i10 Zuw).mono) h _ (hC.getP 1 rfl)) ?_)))))))))
   rintro _ w13 ⟨r10,rfl,h,hB10⟩
   refine rt ?_
   replace hC:=hC.grow hB10
   refine Xa rfl (Zb (v:=.bool (!r10)) rfl ?_)
   refine Y1 (!r10) (fun hb11=>?_) (fun hb11=>?_)
   ·replace h:=ift h (Y0 (Xf hb11))
    refine Zh (b:=true) 5 24 rfl (tr rfl (congrArg _ hb11)) (by decide) (Zh (b:=true) 5 24 rfl (tr rfl (congrArg _ hb11)) (by decide) (Zh (b:=true) 5 24 rfl (tr rfl (congrArg _ hb11)) (by decide) (Zh (b:=true) 5 24 rfl (tr rfl (congrArg _ hb11)) (by decide) (Z0 (v:=.bool true) (b:=true) (tr rfl (congrArg _ hb11)) rfl (dn (Z8 rfl rfl (sr (Zc (v:=.bool false) rfl (dn ?_)))))))))
    refine ZGd (Ze (Zw (Ze (Ze (Zw (Ze ?_))))))
    exact Zj rfl (Zg rfl) ⟨false,rfl,h,hC.below⟩ (.inl rfl)
   ·replace h:=Zk h (not_not_intro ((Xg hb11)))
    refine Zi 5 24 rfl rfl hb11 (Zx 8 ZGl rfl sc2.size rfl rfl (Zi 5 24 rfl rfl hb11 (Z4 hC 0 (vI ((a1.terms.getD i10 Zuw).factor)) rfl sc2 rfl rfl (Zi 5 24 rfl rfl hb11 (Zf [vI ((a1.terms.getD i10 Zuw).factor)] _ Tryz.func48 rfl rfl rfl (Zpt ((a1.terms.getD i10 Zuw).factor) h _) ?_)))))
    rintro _ w14 ⟨r13,rfl,h,hB11⟩
    refine rt ?_
    replace hC:=hC.grow hB11
    refine Zi 5 24 rfl rfl hb11 (Xa rfl (Z0 (v:=.bool (!r13)) (b:=false) (tr rfl (congrArg _ hb11)) rfl (dn ?_)))
    refine Zq rfl (fun hb13=>?_) (fun hb13=>?_)
    ·replace h:=ift h (Y0 (Xf hb13))
     refine sr (Zc (v:=.bool false) rfl (dn ?_))
     refine ZGd (Ze (Zw (Ze (Ze (Zw (Ze ?_))))))
     exact Zj rfl (Zg rfl) ⟨false,rfl,h,hC.below⟩ (.inl rfl)
    ·replace h:=Zk h (not_not_intro ((Xg hb13)))
     refine ZF8 (Zd (ZF5 ?_))
     refine cwd 13 mixed [0,1,3,7,15,7,39,127,255,511,1023,7,2055,8191,16383,32767,65535] [4,7,9,12] [0,1,2,3,4,5,6,7,8,9,10,11,12] (fun hM11 hM10 w15 hB_=>?_)
     replace hC:=hC.grow hB_
     refine bM 0 (vI (i10:Int)) rfl hM10 (Za 17 1) (bF 1 (.bool (decide ((i10:Int) > 0))) rfl rfl hM10 (fun _=>by exact Zjv rfl rfl) (Za 17 3) (bM 2 (.bool (decide ((i10:Int) > 0))) rfl hM10 (Za 17 7) ?_))
     refine Y1 (decide ((i10:Int) > 0)) (fun hb10=>?_) (fun hb10=>?_)
     ·replace h:=ift h (ct hb10)
      refine aF 3 (vQ b5) rfl rfl (hM10 3 rfl) (Yg 2 32 rfl rfl hb10) (fun _=>by exact Yh 0 ZGc rfl sc53.size rfl rfl) (Za 17 15) (aL 4 (u1_0) rfl rfl (hM11 4 rfl) (Yg 2 32 rfl rfl hb10) (fun _ hB_=>by exact Yd (hC.grow hB_) 1 (u1_0) rfl sc53 rfl rfl) (Za 17 31) (aF 5 (vI (i10:Int)) rfl rfl (hM10 5 rfl) (Yg 2 32 rfl rfl hb10) (fun _=>by exact Jo (v:=vI (i10:Int)) rfl) (Za 17 63) (aF 6 (vI (Zxa.wrap ((i10:Int) - 1))) rfl rfl (hM10 6 rfl) (Yg 2 32 rfl rfl hb10) (fun _=>by exact Zh4 rfl rfl) (Za 17 127) ?_)))
      obtain ⟨⟨h10,h11⟩,h⟩:=h
      obtain ⟨Ad10,c11,hv11⟩:=Zz (hC.getP 0 rfl) ((Zxa.wrap ((i10:Int) - 1)).toNat) (show (Zxa.wrap ((i10:Int) - 1)).toNat < a1.terms.length by omega)
      refine aL 7 (.pointer (some (Ad10.add ((Zxa.wrap ((i10:Int) - 1)).toNat * 9)))) rfl rfl (hM11 7 rfl) (Yg 2 32 rfl rfl hb10) (fun _ hB_=>by exact Yw (len:=a1.terms.length) ZGf ag90.size (by exact tr rfl hv11) rfl h10 h11) (Za 17 255) (aF 8 (.pointer (some (Ad10.add ((Zxa.wrap ((i10:Int) - 1)).toNat * 9+0)))) rfl rfl (hM10 8 rfl) (Yg 2 32 rfl rfl hb10) (fun _=>by exact Jz ((Zxa.wrap ((i10:Int) - 1)).toNat * 9+0) ZGl rfl ag88.size rfl rfl) (Za 17 511) (aL 9 (.agg (ZF4 (ZF3 .u8 ((a1.terms.getD ((Zxa.wrap ((i10:Int) - 1)).toNat) Zuw).mono)))) rfl rfl (hM11 9 rfl) (Yg 2 32 rfl rfl hb10) (fun _ hB_=>by exact Xn (ZF3 .u8 ((a1.terms.getD ((Zxa.wrap ((i10:Int) - 1)).toNat) Zuw).mono)) (Xp (o:=0) (k:=8) (Yf ((hC.grow hB_).getP 0 rfl) hv11 ((Zxa.wrap ((i10:Int) - 1)).toNat) (show (Zxa.wrap ((i10:Int) - 1)).toNat < a1.terms.length by omega)) rfl) ag88 rfl rfl) (Za 17 1023) (aF 11 (vQ b10) rfl rfl (hM10 11 rfl) (Yg 2 32 rfl rfl hb10) (fun _=>by exact Yh 0 ZGl rfl ag88.size rfl rfl) (Za 17 3071) (aL 12 (.agg (ZF4 (ZF3 .u8 ((a1.terms.getD i10 Zuw).mono)))) rfl rfl (hM11 12 rfl) (Yg 2 32 rfl rfl hb10) (fun _ hB_=>by exact Y9 (hC.grow hB_) 0 (ZF3 .u8 ((a1.terms.getD i10 Zuw).mono)) rfl ag88 rfl rfl rfl) (Za 17 7167) (aO 10 rfl (Zi 2 32 rfl rfl hb10 (Zf [.agg (ZF4 (ZF3 .u8 ((a1.terms.getD ((Zxa.wrap ((i10:Int) - 1)).toNat) Zuw).mono)))] _ Tryz.func85 rfl rfl rfl (Zgq ((a1.terms.getD ((Zxa.wrap ((i10:Int) - 1)).toNat) Zuw).mono) h _) ?_)))))))
      rintro _ w16 ⟨r11,rfl,h,hB12⟩
      refine rt ?_
      replace hC:=hC.grow hB12
      refine done (aK (by assumption) (Za 17 8191) (Z2 13 (by decide) (by decide) (by kernel_rfl) (by kernel_rfl) rfl (Zi 2 32 rfl rfl hb10 (Zf [.agg (ZF4 (ZF3 .u8 ((a1.terms.getD i10 Zuw).mono)))] _ Tryz.func85 rfl rfl rfl (Zgq ((a1.terms.getD i10 Zuw).mono) h _) ?_))))
      rintro _ w17 ⟨r12,rfl,h,hB13⟩
      refine rt ?_
      replace hC:=hC.grow hB13
      refine Zi 2 32 rfl rfl hb10 (Zf [.agg (ZF4 (ZF3 .i64 r11)),.agg (ZF4 (ZF3 .i64 r12))] _ Tryz.func98 rfl rfl rfl (Zk6 r11 r12 h _) ?_)
      rintro _ w18 ⟨r14,rfl,h,hB14⟩
      refine rt ?_
      replace hC:=hC.grow hB14
      refine Zi 2 32 rfl rfl hb10 (Zbf rfl rfl (Z0 (v:=.bool (decide (r14≥0))) (b:=true) (tr rfl (congrArg _ hb10)) rfl (done (Z3 (Zd ?_)))))
      refine Zq rfl (fun hb14=>?_) (fun hb14=>?_)
      ·replace h:=ift h (ct hb14)
       refine sr (Zc (v:=.bool false) rfl (dn ?_))
       refine ZGd (Zw (Ze (Ze (Zw (Ze ?_)))))
       exact Zj rfl (Zg rfl) ⟨false,rfl,h,hC.below⟩ (.inl rfl)
      ·replace h:=Zk h (cf hb14)
       refine ZF8 (Zs (Zd (Zm (Zp rfl rfl (Zb (v:=vI (Zxa.wrap ((i10:Int)+1))) rfl (done ?_))))))
       exact hK10 () _ _ ⟨(sl ⟨rfl,rfl,rfl,rfl,(tr rfl (congrArg _ (Z6 hi10 hN10))),trivial⟩),(hC.xM [1] rfl)⟩ h
     ·replace h:=Zk h (cf hb10)
      refine Zt Zu 3 undef rfl rfl (by kernel_rfl) (hM10 3 rfl) (fun w_=>.inr ⟨Ya (b:=false) 2 32 rfl (tr rfl (congrArg _ hb10)) (by decide),rfl⟩) (l9:=(Za 17 15)) (by kernel_rfl) (Zt Zu 4 undef rfl rfl (by kernel_rfl) (hM10 4 rfl) (fun w_=>.inr ⟨Ya (b:=false) 2 32 rfl (tr rfl (congrArg _ hb10)) (by decide),rfl⟩) (l9:=(Za 17 31)) (by kernel_rfl) (Zt Zu 5 undef rfl rfl (by kernel_rfl) (hM10 5 rfl) (fun w_=>.inr ⟨Ya (b:=false) 2 32 rfl (tr rfl (congrArg _ hb10)) (by decide),rfl⟩) (l9:=(Za 17 63)) (by kernel_rfl) (Zt Zu 6 undef rfl rfl (by kernel_rfl) (hM10 6 rfl) (fun w_=>.inr ⟨Ya (b:=false) 2 32 rfl (tr rfl (congrArg _ hb10)) (by decide),rfl⟩) (l9:=(Za 17 127)) (by kernel_rfl) (Zt Zu 7 undef rfl rfl (by kernel_rfl) (hM10 7 rfl) (fun w_=>.inr ⟨Ya (b:=false) 2 32 rfl (tr rfl (congrArg _ hb10)) (by decide),rfl⟩) (l9:=(Za 17 255)) (by kernel_rfl) (Zt Zu 8 undef rfl rfl (by kernel_rfl) (hM10 8 rfl) (fun w_=>.inr ⟨Ya (b:=false) 2 32 rfl (tr rfl (congrArg _ hb10)) (by decide),rfl⟩) (l9:=(Za 17 511)) (by kernel_rfl) (Zt Zu 9 undef rfl rfl (by kernel_rfl) (hM10 9 rfl) (fun w_=>.inr ⟨Ya (b:=false) 2 32 rfl (tr rfl (congrArg _ hb10)) (by decide),rfl⟩) (l9:=(Za 17 1023)) (by kernel_rfl) (Zt Zu 10 undef rfl rfl (by kernel_rfl) (hM10 10 rfl) (fun w_=>.inr ⟨Ya (b:=false) 2 32 rfl (tr rfl (congrArg _ hb10)) (by decide),rfl⟩) (l9:=(Za 17 2047)) (by kernel_rfl) (Zt Zu 11 undef rfl rfl (by kernel_rfl) (hM10 11 rfl) (fun w_=>.inr ⟨Ya (b:=false) 2 32 rfl (tr rfl (congrArg _ hb10)) (by decide),rfl⟩) (l9:=(Za 17 4095)) (by kernel_rfl) (Zt Zu 12 undef rfl rfl (by kernel_rfl) (hM10 12 rfl) (fun w_=>.inr ⟨Ya (b:=false) 2 32 rfl (tr rfl (congrArg _ hb10)) (by decide),rfl⟩) (l9:=(Za 17 8191)) (by kernel_rfl) (Z2 13 (by decide) (by decide) (by kernel_rfl) (by kernel_rfl) rfl (Zh (b:=false) 2 32 rfl (tr rfl (congrArg _ hb10)) (by decide) (Zh (b:=false) 2 32 rfl (tr rfl (congrArg _ hb10)) (by decide) (Zh (b:=false) 2 32 rfl (tr rfl (congrArg _ hb10)) (by decide) (Z0 (v:=.bool false) (b:=false) (tr rfl (congrArg _ hb10)) rfl (done (Z3 (Zd (Z9 rfl rfl (ZF8 (Zs (Zd (Zm (Zp rfl rfl (Zb (v:=vI (Zxa.wrap ((i10:Int)+1))) rfl (done ?_)))))))))))))))))))))))))
      exact hK10 () _ _ ⟨(sl ⟨rfl,rfl,rfl,rfl,(tr rfl (congrArg _ (Z6 hi10 hN10))),trivial⟩),(hC.xM [1] rfl)⟩ h
  ·clear hC h
   rintro s10 e_ w19 K10 ⟨hS_,hC⟩ h
   rw [ue hS_]
   refine sr (Zn rfl rfl (dn (ZF5 (Z9 rfl (decide_eq_false (by omega)) ?_))))
   refine ZGj (Zl (Zl (Z5 ?_)))
   refine Zd (sr (Zc (v:=.bool true) rfl (dn (ZGd ?_))))
   exact Zj rfl (Zg rfl) ⟨true,rfl,h,hC.below⟩ (.inl rfl)
  ·skip
   exact⟨(slq rfl),hC⟩
def Zes (a0:A8) (a1:List Int) (K:Int→Prop):Prop :=
 Yi (fun i10 (s10:Int) nx10=>((0≤(i10:Int)∧(i10:Int) < 8)∧nx10 (Zxa.wrap (s10+(Zxa.wrap ((a1.getD i10 Zuw) * (a0.get i10))))))) (fun (s10:Int)=>K s10) a1.length 0 0
theorem Zpu (a0:A8) (a1:List Int)  {K:Int→Prop} (h:Zes a0 a1 K) (w0:World) (q1:ZIv.rep a1 [u1_0] fp1 w0) :
  Calls ZF7 112 #[.agg (ZF4 (ZF3 .i64 a0)),u1_0] w0 fun e w'=>∃ (r0:Int),
   e=.returned (vI r0)∧K r0∧Bel w0 w':=by
 unfold Zes at h
 refine cof Tryz.func112 rfl 24 Tryz.ntmps112 ?_
 have hC:=ZGq (X:=Nox) w0 [ZCh TInts a1 [u1_0] fp1] (al1 q1)
 refine sr (Yj (v:=.agg (ZF4 (ZF3 .i64 a0))) hC (ZF3 .i64 a0) rfl rfl fun b2 w4 hB_ hC=>Zc (v:=vI 0) rfl (dn (sr (Zc (v:=vI 0) rfl (dn (ZF5 (sr (Zb (v:=u1_0) rfl (Zv hC 0 rfl ZGo rfl (Zb (v:=vI 0) rfl (dn (ZGb ?_))))))))))))
 have hN10:a1.length≤9223372036854775807:=Y3 (hC.getP 0 rfl)
 refine Yn (S:=Int) _ _ (fun i10 s10 e_ w_=>Zy e_ [(2,vQ b2),(5,vI s10),(8,u1_0),(9,vI (a1.length:Int)),(10,vI (i10:Int))]∧Ctx Nox w0 w_ [blk b2 110 (ZF3 .i64 a0)] [ZCh TInts a1 [u1_0] fp1]) a1.length ?_ ?_ (s0:=0) ?_ h
 ·clear hC h
  rintro i10 s10 e_ w10 nx10 K10 hi10 ⟨hS_,hC⟩ h hK10
  rw [ue hS_]
  refine sr (Zn rfl rfl (dn (ZF5 (Z8 rfl (decide_eq_true (by omega)) (ZF8 (Zd (ZF5 (ZGb (sr (Zb (v:=vI (i10:Int)) rfl ?_))))))))))
  obtain ⟨Ad10,c10,hv10⟩:=Zz (hC.getP 0 rfl) i10 hi10
  refine Yq (len:=a1.length) ZGo sc2.size (tr rfl hv10) rfl (ZGm _) (ZG4.2 hi10) (Xb (vI (a1.getD i10 Zuw)) (Yf (hC.getP 0 rfl) hv10 i10 hi10) sc2 rfl (Zc (v:=vI (i10:Int)) rfl (Zc (v:=vI (a1.getD i10 Zuw)) rfl (dn (Zm (Zb (v:=vI s10) rfl (Zb (v:=vI (a1.getD i10 Zuw)) rfl (Zb (v:=vI (i10:Int)) rfl ?_))))))))
  obtain ⟨⟨h10,h11⟩,h⟩:=h
  refine Y6 i10 ZGs sc3.size rfl rfl h10 h11 (by omega) (Z4 hC 0 (vI (a0.get i10)) rfl sc3 rfl (ZGi _ _ (show i10 < 8 by omega)) (Zbe rfl rfl (Zp rfl rfl (Zc (v:=vI (Zxa.wrap (s10+(Zxa.wrap ((a1.getD i10 Zuw) * (a0.get i10)))))) rfl (done (Zs (Zd (Zm (Zp rfl rfl (Zb (v:=vI (Zxa.wrap ((i10:Int)+1))) rfl (done ?_)))))))))))
  exact hK10 (Zxa.wrap (s10+(Zxa.wrap ((a1.getD i10 Zuw) * (a0.get i10))))) _ _ ⟨(sl ⟨rfl,rfl,rfl,rfl,(tr rfl (congrArg _ (Z6 hi10 hN10))),trivial⟩),hC⟩ h
 ·clear hC h
  rintro s10 e_ w11 K10 ⟨hS_,hC⟩ h
  rw [ue hS_]
  refine sr (Zn rfl rfl (dn (ZF5 (Z9 rfl (decide_eq_false (by omega)) ?_))))
  refine ZGj (Zl (Zl (Z5 ?_)))
  refine Zd (sr (Zb (v:=vI s10) rfl (Zc (v:=vI s10) rfl (dn (ZGd ?_)))))
  exact Zj rfl (Zg rfl) ⟨s10,rfl,h,hC.below⟩ (.inl rfl)
 ·skip
  exact⟨(slq rfl),hC⟩
def Zet (a0:List Int) (a1:ZF9) (K:Int→Bool→Prop):Prop :=
 Yi (fun i10 (s10:Int) nx10=>Zbm ((a1.terms.getD i10 Zuw).mono) (fun r11=>Zes r11 a0 (fun r10=>(if s10≥0 then(if r10≠s10 then K 0 false else nx10 r10) else nx10 r10)))) (fun (s10:Int)=>K s10 true) a1.terms.length 0 (-1)
theorem Zpv (a0:List Int) (a1:ZF9)  {K:Int→Bool→Prop} (h:Zet a0 a1 K) (w0:World) (q0:ZIv.rep a0 [u0_0] fp0 w0) (q1:ZGr.rep a1 [u1_0] fp1 w0) :
  Calls ZF7 107 #[u0_0,.agg #[u1_0]] w0 fun e w'=>∃ (r0:Int) (r1:Bool),
   e=.returned (.tuple #[vI r0,.bool r1])∧K r0 r1∧Bel w0 w':=by
 unfold Zet at h
 refine cof Tryz.func107 rfl 32 Tryz.ntmps107 ?_
 have hC:=ZGq (X:=Nox) w0 [ZCh TInts a0 [u0_0] fp0,ZCh TForm a1 [u1_0] fp1] (alc q0 (al1 q1))
 have hp3:=(hC.getP 1 rfl)
 replace hC:=hC.derive 1 rfl (ZCh ZF6.ty.sl a1.terms [u1_0] fp1) (fun _=>(Yx hp3)) (fun _ hb_=>hb_)
 refine sr (Yj (v:=.agg #[u1_0]) hC [u1_0] rfl rfl fun b5 w7 hB_ hC=>Zc (v:=vI 0) rfl (Zc (v:=.bool false) rfl (dn (sr (Zc (v:=vI (-1)) rfl (dn (ZF5 (sr (Zx 0 ZGc rfl sc53.size rfl rfl (Z4 hC 0 (u1_0) rfl sc53 rfl rfl (Zv hC 0 rfl ZGf rfl (Zb (v:=vI 0) rfl (dn (ZGb ?_))))))))))))))
 have hN10:a1.terms.length≤9223372036854775807:=Y3 (hC.getP 0 rfl)
 refine Yn (S:=Int) _ _ (fun i10 s10 e_ w_=>Zy e_ [(0,u0_0),(6,vI s10),(11,u1_0),(12,vI (a1.terms.length:Int)),(13,vI (i10:Int))]∧Ctx Nox w0 w_ [] [ZCh ZF6.ty.sl a1.terms [u1_0] fp1,ZCh TInts a0 [u0_0] fp0,ZCh TForm a1 [u1_0] fp1]) a1.terms.length ?_ ?_ (s0:=(-1)) ?_ h
 ·clear hC h
  rintro i10 s10 e_ w10 nx10 K10 hi10 ⟨hS_,hC⟩ h hK10
  rw [ue hS_]
  refine sr (Zn rfl rfl (dn (ZF5 (Z8 rfl (decide_eq_true (by omega)) (ZF8 (Zd (ZF5 (ZGb (sr ?_)))))))))
  obtain ⟨Ad10,c10,hv10⟩:=Zz (hC.getP 0 rfl) i10 hi10
  refine Yq (len:=a1.terms.length) ZGf ag90.size (tr rfl hv10) rfl (ZGm _) (ZG4.2 hi10) (Jv (ZGg (a1.terms.getD i10 Zuw)) (Yf (hC.getP 0 rfl) hv10 i10 hi10) ag90 rfl rfl (Z1 hC (ZGg (⟨ZGa,0⟩:Term)) z90 rfl fun b10 w11 hB_ hC=>Zo (v:=.agg (ZF4 (ZGg (a1.terms.getD i10 Zuw)))) hC 0 (ZGg (a1.terms.getD i10 Zuw)) (ZGg (a1.terms.getD i10 Zuw)) rfl ag90.size rfl rfl rfl rfl rfl (ZGe rfl) rfl fun w12 hC=>dn (sr (Zx 0 ZGl rfl ag88.size rfl rfl (Yb hC 0 (ZF3 .u8 ((a1.terms.getD i10 Zuw).mono)) rfl ag88 rfl rfl rfl (Zf [.agg (ZF4 (ZF3 .u8 ((a1.terms.getD i10 Zuw).mono)))] _ Tryz.func85 rfl rfl rfl (Zgq ((a1.terms.getD i10 Zuw).mono) h _) ?_))))))
  rintro _ w13 ⟨r11,rfl,h,hB10⟩
  refine rt ?_
  replace hC:=hC.grow hB10
  refine Zb (v:=u0_0) rfl (Zf [.agg (ZF4 (ZF3 .i64 r11)),u0_0] _ Tryz.func112 rfl rfl rfl (Zpu r11 a0 h _ (hC.getP 1 rfl)) ?_)
  rintro _ w14 ⟨r10,rfl,h,hB11⟩
  refine rt ?_
  replace hC:=hC.grow hB11
  refine Zc (v:=vI r10) rfl (dn (ZF5 (sr (Zb (v:=vI s10) rfl (Zbf rfl rfl (Zb (v:=.bool (decide (s10≥0))) rfl ?_))))))
  refine Y1 (decide (s10≥0)) (fun hb10=>?_) (fun hb10=>?_)
  ·replace h:=ift h (ct hb10)
   refine Zi 2 24 rfl rfl hb10 (Zb (v:=vI r10) rfl (Zi 2 24 rfl rfl hb10 (Zb (v:=vI s10) rfl (Zi 2 24 rfl rfl hb10 (Y4 rfl rfl (Z0 (v:=.bool (decide (r10≠s10))) (b:=true) (tr rfl (congrArg _ hb10)) rfl (dn ?_)))))))
   refine Zq rfl (fun hb11=>?_) (fun hb11=>?_)
   ·replace h:=ift h (ct hb11)
    refine sr (Zc (v:=vI 0) rfl (Zc (v:=.bool false) rfl (dn ?_)))
    refine ZGd (Ze (Zw (Ze (Ze (Zw (Ze ?_))))))
    exact Xi rfl (Zg rfl) (Zg rfl) ⟨0,false,rfl,h,hC.below⟩ (.inl rfl)
   ·replace h:=Zk h (cf hb11)
    refine ZF8 (Zd (Zm (Zb (v:=vI r10) rfl (Zc (v:=vI r10) rfl (done (Zs (Zd (Zm (Zp rfl rfl (Zb (v:=vI (Zxa.wrap ((i10:Int)+1))) rfl (done ?_)))))))))))
    exact hK10 r10 _ _ ⟨(sl ⟨rfl,rfl,rfl,rfl,(tr rfl (congrArg _ (Z6 hi10 hN10))),trivial⟩),(hC.xM [] rfl)⟩ h
  ·replace h:=Zk h (cf hb10)
   refine Zh (b:=false) 2 24 rfl (tr rfl (congrArg _ hb10)) (by decide) (Zh (b:=false) 2 24 rfl (tr rfl (congrArg _ hb10)) (by decide) (Zh (b:=false) 2 24 rfl (tr rfl (congrArg _ hb10)) (by decide) (Z0 (v:=.bool false) (b:=false) (tr rfl (congrArg _ hb10)) rfl (dn (Z9 rfl rfl (ZF8 (Zd (Zm (Zb (v:=vI r10) rfl (Zc (v:=vI r10) rfl (done (Zs (Zd (Zm (Zp rfl rfl (Zb (v:=vI (Zxa.wrap ((i10:Int)+1))) rfl (done ?_)))))))))))))))))
   exact hK10 r10 _ _ ⟨(sl ⟨rfl,rfl,rfl,rfl,(tr rfl (congrArg _ (Z6 hi10 hN10))),trivial⟩),(hC.xM [] rfl)⟩ h
 ·clear hC h
  rintro s10 e_ w15 K10 ⟨hS_,hC⟩ h
  rw [ue hS_]
  refine sr (Zn rfl rfl (dn (ZF5 (Z9 rfl (decide_eq_false (by omega)) ?_))))
  refine ZGj (Zl (Zl (Z5 ?_)))
  refine Zd (sr (Zb (v:=vI s10) rfl (Zc (v:=vI s10) rfl (Zc (v:=.bool true) rfl (dn (ZGd ?_))))))
  exact Xi rfl (Zg rfl) (Zg rfl) ⟨s10,true,rfl,h,hC.below⟩ (.inl rfl)
 ·skip
  exact⟨(slq rfl),(hC.xM [] rfl)⟩
def Zeu (a0:List Int) (a1:ZF9) (a2:Int) (K:Bool→Prop):Prop :=
 Zet a0 a1 (fun r10 r11=>(if r11=true then(if r10=(-1) then K true else K (decide (r10=a2))) else K false))
theorem Zpw (a0:List Int) (a1:ZF9) (a2:Int)  {K:Bool→Prop} (h:Zeu a0 a1 a2 K) (w0:World) (q0:ZIv.rep a0 [u0_0] fp0 w0) (q1:ZGr.rep a1 [u1_0] fp1 w0) :
  Calls ZF7 93 #[u0_0,.agg #[u1_0],vI a2] w0 fun e w'=>∃ (r0:Bool),
   e=.returned (.bool r0)∧K r0∧Bel w0 w':=by
 unfold Zeu at h
 refine cof Tryz.func93 rfl 25 Tryz.ntmps93 ?_
 have hC:=ZGq (X:=Nox) w0 [ZCh TInts a0 [u0_0] fp0,ZCh TForm a1 [u1_0] fp1] (alc q0 (al1 q1))
 have hp3:=(hC.getP 1 rfl)
 replace hC:=hC.derive 1 rfl (ZCh ZF6.ty.sl a1.terms [u1_0] fp1) (fun _=>(Yx hp3)) (fun _ hb_=>hb_)
 refine sr (Yj (v:=.agg #[u1_0]) hC [u1_0] rfl rfl fun b5 w7 hB_ hC=>Zc (v:=.bool false) rfl (dn (sr (Zb (v:=u0_0) rfl (Yb hC 0 [u1_0] rfl ag55 rfl rfl rfl (Zf [u0_0,.agg #[u1_0]] _ Tryz.func107 rfl rfl rfl (Zpv a0 a1 h _ (hC.getP 1 rfl) (Yl (hC.getP 0 rfl))) ?_))))))
 rintro _ w10 ⟨r10,r11,rfl,h,hB10⟩
 refine rt ?_
 replace hC:=hC.grow hB10
 refine Zb (v:=.tuple #[vI r10,.bool r11]) rfl (Yu (v:=vI r10) rfl rfl (Yu (v:=.bool r11) rfl rfl (Zc (v:=vI r10) rfl (Zc (v:=.bool r11) rfl (dn (sr (Zb (v:=.bool r11) rfl (Zb (v:=.bool r11) rfl ?_))))))))
 refine Y1 r11 (fun hb10=>?_) (fun hb10=>?_)
 ·replace h:=ift h (hb10)
  refine Zi 1 16 rfl rfl hb10 (Zb (v:=vI r10) rfl (Zi 1 16 rfl rfl hb10 (Je rfl rfl (Zi 1 16 rfl rfl hb10 (Zb (v:=.bool (decide (r10=(-1)))) rfl ?_)))))
  refine Y1 (decide (r10=(-1))) (fun hb11=>?_) (fun hb11=>?_)
  ·replace h:=ift h (ct hb11)
   refine Zh (b:=true) 4 19 rfl (tr rfl (congrArg _ hb11)) (by decide) (Zh (b:=true) 4 19 rfl (tr rfl (congrArg _ hb11)) (by decide) (Zh (b:=true) 4 19 rfl (tr rfl (congrArg _ hb11)) (by decide) (Zi 1 16 rfl rfl hb10 (Z0 (v:=.bool true) (b:=true) (tr rfl (congrArg _ hb11)) rfl (Z0 (v:=.bool true) (b:=true) (tr rfl (congrArg _ hb10)) rfl (Zc (v:=.bool true) rfl (dn (ZGd ?_))))))))
   exact Zj rfl (Zg rfl) ⟨true,rfl,h,hC.below⟩ (.inl rfl)
  ·replace h:=Zk h (cf hb11)
   refine Zi 4 19 rfl rfl hb11 (Zb (v:=vI r10) rfl (Zi 4 19 rfl rfl hb11 (Zb (v:=vI a2) rfl (Zi 4 19 rfl rfl hb11 (Je rfl rfl (Zi 1 16 rfl rfl hb10 (Z0 (v:=.bool (decide (r10=a2))) (b:=false) (tr rfl (congrArg _ hb11)) rfl (Z0 (v:=.bool (decide (r10=a2))) (b:=true) (tr rfl (congrArg _ hb10)) rfl (Zc (v:=.bool (decide (r10=a2))) rfl (dn (ZGd ?_)))))))))))
   exact Zj rfl (Zg rfl) ⟨decide (r10=a2),rfl,h,hC.below⟩ (.inl rfl)
 ·replace h:=Zk h (Y0 hb10)
  refine Zh (b:=false) 1 16 rfl (tr rfl (congrArg _ hb10)) (by decide) (Zh (b:=false) 1 16 rfl (tr rfl (congrArg _ hb10)) (by decide) (Zh (b:=false) 1 16 rfl (tr rfl (congrArg _ hb10)) (by decide) (X7 4 19 rfl rfl (X7 4 19 rfl rfl (X7 4 19 rfl rfl (Zh (b:=false) 1 16 rfl (tr rfl (congrArg _ hb10)) (by decide) (Z0 (v:=.bool false) (b:=false) (tr rfl (congrArg _ hb10)) rfl (Zc (v:=.bool false) rfl (dn (ZGd ?_))))))))))
  exact Zj rfl (Zg rfl) ⟨false,rfl,h,hC.below⟩ (.inl rfl)
def Zev (a0:Alg) (K:List (Option (List (A8×Int)))→Prop):Prop :=
 Yi (fun i10 (s10:(List (Option (List (A8×Int))))) nx10=>Zcd (a0.images.getD i10 Zuw) (fun r10=>((0≤(i10:Int)∧(i10:Int) < 8)∧nx10 (s10.set i10 (some r10))))) (fun (s10:(List (Option (List (A8×Int)))))=>K s10) a0.images.length 0 (Zur 8 none:List (Option (List (A8×Int))))
theorem Zpx (a0:Alg)  {K:List (Option (List (A8×Int)))→Prop} (h:Zev a0 K) (w0:World) (q0:TAlg.rep a0 [u0_0,u0_1] fp0 w0) (qb0:(blk b0 32 [u0_0,u0_1]).holds w0) :
  Calls ZF7 108 #[vQ b0] w0 fun e w'=>∃ (r0:List (Option (List (A8×Int)))) (zc0:List Value) (fz0:List Nat),
   e=.returned (.agg (ZF4 zc0))∧K r0∧(Jh (kvA .i64) (vvI .i64) 8).rep r0 zc0 fz0 w'∧(∀ b,b∈fz0→w0.heap.size≤b)∧Bel w0 w':=by
 unfold Zev at h
 refine cof Tryz.func108 rfl 23 Tryz.ntmps108 ?_
 have hC:=ZGq (X:=Nox) w0 [ZCh TAlg a0 [u0_0,u0_1] fp0,blk b0 32 [u0_0,u0_1]] (alc q0 (al1 qb0))
 replace hC:=hC.dAlg 0 rfl
 refine sr (Z1 hC (Zur 8 (ZIu none)) Ziv rfl fun b5 w7 hB_ hC=>dn (sr (Y5 (v:=.agg (ZF4 (Zur 8 (ZIu none)))) [] rfl (Zpe _) (Z1 hC (Zur 8 (ZIu none)) Ziv rfl fun b8 w10 hB_ hC=>?_))))
 replace hC:=hC.pushE (ZCh (Jh (kvA .i64) (vvI .i64) 8) (Zur 8 none:List (Option (List (A8×Int)))) (Zur 8 (ZIu none)) []) (Zgm (kvA .i64) (vvI .i64) 8 _) rfl
 replace hC:=hC.pushE (ZCh (Jh (kvA .i64) (vvI .i64) 8) (Zur 8 none:List (Option (List (A8×Int)))) (Zur 8 (ZIu none)) []) (Zgm (kvA .i64) (vvI .i64) 8 _) rfl
 have hl10:=Za4 (hC.getP 1 rfl)
 have hl11:=Za4 (hC.getP 0 rfl)
 refine Zo (v:=.agg (ZF4 (Zur 8 (ZIu none)))) hC 0 (Zur 8 (ZIu none)) (Zur 8 (ZIu none)) rfl ag145.size rfl rfl rfl hl11 (Zir (hC.getP 0 rfl)) (by rw [hl10]; exact Zuv _) (Zis (hl11.trans hl10.symm)) fun w11 hC=>dn (ZF5 (sr (Zb (v:=vQ b0) rfl (Zan rfl (Zx 1 ZGp rfl sc28.size rfl rfl (Za1 (u0_1) (hC.getP 5 rfl) sc28 rfl rfl (Zv hC 2 rfl ZGt rfl (Zb (v:=vI 0) rfl (dn (ZGb ?_))))))))))
 have hN10:a0.images.length≤9223372036854775807:=Y3 (hC.getP 2 rfl)
 refine Yn (S:=(List (Option (List (A8×Int))))) _ _ (fun i10 s10 e_ w_=>∃ (v10:List Value),∃ (f10:List Nat),Zy e_ [(2,vQ b5),(3,vQ b8),(10,u0_1),(11,vI (a0.images.length:Int)),(12,vI (i10:Int))]∧(∀ b,b∈f10→w0.heap.size≤b)∧Ctx Nox w0 w_ [blk b8 145 v10,blk b5 145 (Zur 8 (ZIu none))] [ZCh (Jh (kvA .i64) (vvI .i64) 8) s10 v10 f10,ZCh ZGr.sl a0.images [u0_1] fp0,ZCh TInts a0.degrees [u0_0] fp0,ZCh TAlg a0 [u0_0,u0_1] fp0,blk b0 32 [u0_0,u0_1]]) a0.images.length ?_ ?_ (s0:=(Zur 8 none:List (Option (List (A8×Int))))) ?_ h
 ·clear hC h
  rintro i10 s10 e_ w12 nx10 K10 hi10 ⟨v10,f10,hS_,hq10,hC⟩ h hK10
  rw [ue hS_]
  refine sr (Zn rfl rfl (dn (ZF5 (Z8 rfl (decide_eq_true (by omega)) (ZF8 (Zd (ZF5 (ZGb (sr (Zb (v:=vI (i10:Int)) rfl ?_))))))))))
  obtain ⟨Ad10,c10,hv10⟩:=Zz (hC.getP 1 rfl) i10 hi10
  refine Yq (len:=a0.images.length) ZGt ag55.size (tr rfl hv10) rfl (ZGm _) (ZG4.2 hi10) ?_
  obtain ⟨cs_,hl12,hc10,hr10⟩:=Jg (hC.getP 1 rfl) hv10 i10 hi10
  obtain ⟨u10,rfl⟩:=ZG3.1 hl12
  clear hl12
  rw [Jb _ _ hi10] at hr10
  have hp10:=hr10
  replace hC:=hC.derive 1 rfl (ZCh ZF6.ty.sl ((a0.images.getD i10 Zuw).terms) [u10] fp0) (fun _=>(Yx hp10)) (fun _ hb_=>hb_)
  refine Jv [u10] hc10 ag55 rfl rfl (Z1 hC [.slice none 0 0] z55 rfl fun b11 w13 hB_ hC=>Zc (v:=vI (i10:Int)) rfl (Zo (v:=.agg #[u10]) hC 0 [u10] [u10] rfl ag55.size rfl rfl rfl rfl (Ye (Ja (hC.getP 0 rfl)) rfl) (ZGe rfl) rfl fun w14 hC=>dn (Zm (Zb (v:=vI (i10:Int)) rfl (Yb hC 0 [u10] rfl ag55 rfl rfl rfl (Zf [.agg #[u10]] _ Tryz.func64 rfl rfl rfl (Zgr (a0.images.getD i10 Zuw) h _ (Yl (hC.getP 0 rfl))) ?_))))))
  rintro _ w15 ⟨r10,b10,rfl,h,hr11,hf10,hB10⟩
  refine rt ?_
  replace hC:=hC.push hB10 (mapS b10 r10) hr11 (fun b_ hb_=>by obtain rfl:=Zwj.1 hb_; exact hf10)
  obtain ⟨⟨h10,h11⟩,h⟩:=h
  refine Y6 i10 Tryz.underlying145 sc99.size rfl rfl h10 h11 (by omega) ?_
  have hf11:=Zc1 hC 0 rfl
  replace hC:=hC.thaw 0 rfl (mapS b10 r10) id (fun _ hb_=>hb_)
  replace hC:=hC.joinP 0 2 rfl rfl (ZCh (Jh (kvA .i64) (vvI .i64) 8) (s10.set i10 (some r10)) (v10.set i10 (ZIu (some b10))) (b10::f10)) (fun a_ b_=>Zo0 b_ a_) (fun c_ hc_=>(Zus.1 hc_).elim (fun h_=>.inl (by rw [h_]; exact Zwj.2 rfl)) .inr)
  have hs10:∀ b,b∈(b10::f10)→w0.heap.size≤b:=(fun b hb=>(Zus.1 hb).elim (fun h_=>by rw [h_]; exact hf11) (fun hb=>hq10 b hb))
  have hl13:=Za4 (hC.getP 3 rfl)
  refine Zo (v:=.map (some b10)) hC 1 [.map (some b10)] (v10.set i10 (ZIu (some b10))) rfl sc99.size rfl rfl rfl rfl rfl (by rw [hl13]; omega) (Zo4 (by rw [hl13]; omega) (by omega)) fun w16 hC=>done (Zs (Zd (Zm (Zp rfl rfl (Zb (v:=vI (Zxa.wrap ((i10:Int)+1))) rfl (done ?_))))))
  exact hK10 (s10.set i10 (some r10)) _ _ ⟨v10.set i10 (ZIu (some b10)),(b10::f10),(sl ⟨rfl,rfl,rfl,rfl,(tr rfl (congrArg _ (Z6 hi10 hN10))),trivial⟩),hs10,((hC.xM [1,2] rfl).sP [0,4,5,6,7] rfl)⟩ h
 ·clear hC h
  rintro s10 e_ w17 K10 ⟨v10,f10,hS_,hq10,hC⟩ h
  rw [ue hS_]
  refine sr (Zn rfl rfl (dn (ZF5 (Z9 rfl (decide_eq_false (by omega)) ?_))))
  refine ZGj (Zl (Zl (Z5 ?_)))
  refine Zd (sr ?_)
  have hl14:=Za4 (hC.getP 0 rfl)
  refine Yb hC 0 v10 rfl ag145 rfl (Zo2 hl14) hl14 ?_
  replace hC:=hC.pushE (ZCh (Jh (kvA .i64) (vvI .i64) 8) (Zur 8 none:List (Option (List (A8×Int)))) (Zur 8 (ZIu none)) []) (Zgm (kvA .i64) (vvI .i64) 8 _) rfl
  have hl15:=Za4 (hC.getP 0 rfl)
  have hl16:=Za4 (hC.getP 1 rfl)
  refine Zo (v:=.agg (ZF4 v10)) hC 1 v10 v10 rfl ag145.size rfl rfl rfl hl16 (Zir (hC.getP 1 rfl)) (by rw [hl15]; exact Zuv _) (Zis (hl16.trans hl15.symm)) fun w18 hC=>dn (ZGd ?_)
  exact Zj rfl (Y2 hC 1 rfl ag145 rfl (Za4 (hC.getP 1 rfl))) ⟨s10,v10,f10,rfl,h,(hC.getP 1 rfl),(fun b hb=>hq10 b hb),hC.below⟩ (.inl rfl)
 ·skip
  exact⟨Zur 8 (ZIu none),[],(slq rfl),(fun b hb=>absurd hb (by simp)),(hC.sP [0,2,3,4,5] rfl)⟩
def Zew (a0:Alg) (a1:List (A8×Int)) (K:List (A8×Int)→Prop):Prop :=
 Zev a0 (fun r11=>Zab (fun (q10:A8×Int) (s12:(List (A8×Int))) nx11=>Yi (fun i10 (s10:A8×(List (A8×Int))×Int) nx10=>(if q10.1.get i10 > 0 then X8 (fun (s11:A8×Int) nx12=>(if s11.2 < Zxa.wrap ((i10:Int)+1) then((0≤s11.2∧s11.2 < 8)∧nx12 (s11.1.set s11.2.toNat 0,Zxa.wrap (s11.2+1))) else(∃ ml10,r11[i10]? = some (some ml10)∧J3 (Yc ([]:List (A8×Int)) (s10.1.set i10 (Zxa.wrap ((q10.1.get i10) - 1))) 1) a0.degrees ml10 (fun r13=>J3 r13 a0.degrees (Yc ([]:List (A8×Int)) s11.1 1) (fun r14=>Zbl (Zxa.wrap ((Zxa.wrap (s10.2.2 * q10.2)) * (q10.1.get i10))) (fun r12=>Zbn s10.2.1 r14 r12 (fun m10=>(if(i10:Int) < (a0.degrees.length:Int) then((0≤(i10:Int)∧(i10:Int) < (a0.degrees.length:Int))∧(if Zvh (a0.degrees.getD i10 Zuw) 2=1 then(if Zvh (q10.1.get i10) 2=1 then nx10 (s10.1.set i10 (q10.1.get i10),m10,Zxa.wrap (0 - s10.2.2)) else nx10 (s10.1.set i10 (q10.1.get i10),m10,s10.2.2)) else nx10 (s10.1.set i10 (q10.1.get i10),m10,s10.2.2))) else nx10 (s10.1.set i10 (q10.1.get i10),m10,s10.2.2))))))))) (q10.1,0) else(if(i10:Int) < (a0.degrees.length:Int) then((0≤(i10:Int)∧(i10:Int) < (a0.degrees.length:Int))∧(if Zvh (a0.degrees.getD i10 Zuw) 2=1 then(if Zvh (q10.1.get i10) 2=1 then nx10 (s10.1.set i10 (q10.1.get i10),s10.2.1,Zxa.wrap (0 - s10.2.2)) else nx10 (s10.1.set i10 (q10.1.get i10),s10.2.1,s10.2.2)) else nx10 (s10.1.set i10 (q10.1.get i10),s10.2.1,s10.2.2))) else nx10 (s10.1.set i10 (q10.1.get i10),s10.2.1,s10.2.2)))) (fun (s10:A8×(List (A8×Int))×Int)=>nx11 s10.2.1) 8 0 (ZGa,s12,1)) (fun (s12:(List (A8×Int)))=>K s12) a1.length a1 ([]:List (A8×Int)))
theorem Zpy (a0 : Alg) (a1 : List (A8 × Int))  {K : List (A8 × Int) → Prop} (h : Zew a0 a1 K) (w0 : World) (q0 : TAlg.rep a0 [u0_0, u0_1] fp0 w0) (qb0 : (blk b0 32 [u0_0, u0_1]).holds w0) (q1 : (mapS b1 a1).holds w0) :
  Calls ZF7 95 #[vQ b0,.map (some b1)] w0 fun e w'=>∃ (r0:List (A8×Int)) (zb0:Nat),
   e=.returned (.map (some zb0))∧K r0∧(mapS zb0 r0).holds w'∧w0.heap.size≤zb0∧Bel w0 w':=by
 unfold Zew at h
 refine cof Tryz.func95 rfl 107 Tryz.ntmps95 ?_
 have hC:=ZGq (X:=Nox) w0 [ZCh TAlg a0 [u0_0,u0_1] fp0,blk b0 32 [u0_0,u0_1],mapS b1 a1] (alc q0 (alc qb0 (al1 q1)))
 replace hC:=hC.dAlg 0 rfl
 refine sr (Zc (v:=.map none) rfl (dn (sr (Za3 hC (kvA .i64) (vvI .i64) fun b6 w8 hB_ hC=>Zb (v:=vQ b0) rfl (Zf [vQ b0] _ Tryz.func108 rfl rfl rfl (Zpx a0 h _ (Yy (hC.getP 1 rfl) (hC.getP 0 rfl)) (hC.getP 3 rfl)) ?_)))))
 rintro _ w11 ⟨r11,cs10,f10,rfl,h,hr10,hf10,hB10⟩
 refine rt ?_
 have hs10:=Znw hC.size hf10
 replace hC:=hC.pushR hB10 (ZCh (Jh (kvA .i64) (vvI .i64) 8) r11 cs10 f10) hr10 (fun b hb=>.inl (hf10 b hb))
 refine Z1 hC (Zur 8 (ZIu none)) Ziv rfl fun b11 w12 hB_ hC=>Zc (v:=.map (some b6)) rfl ?_
 replace hC:=hC.pushE (ZCh (Jh (kvA .i64) (vvI .i64) 8) (Zur 8 none:List (Option (List (A8×Int)))) (Zur 8 (ZIu none)) []) (Zgm (kvA .i64) (vvI .i64) 8 _) rfl
 have hl10:=Za4 (hC.getP 0 rfl)
 have hl11:=Za4 (hC.getP 1 rfl)
 refine Zo (v:=.agg (ZF4 cs10)) hC 0 cs10 cs10 rfl ag145.size rfl rfl rfl hl11 (Zir (hC.getP 1 rfl)) (by rw [hl10]; exact Zuv _) (Zis (hl11.trans hl10.symm)) fun w13 hC=>dn (ZF5 (sr (Zb (v:=.map (some b1)) rfl (Zc3 hC 6 rfl ZG1 rfl fun r10 es10 ck10 w14 hB_ hn10 hbn10 hC=>dn (ZGb ?_)))))
 refine Zc7 (S:=(List (A8×Int))) _ _ (fun l11 s12 e_ w_=>∃ (la10:Option MapEntry),Zy e_ [(0,vQ b0),(5,.map (some b6)),(6,vQ b11),(21,vQ r10)]∧Ctx Nox w0 w_ [itI (kvA .i64) (vvI .i64) r10 b1 es10 ck10 la10 l11,blk b11 145 cs10,mapS b6 s12] [Jx b1 es10 ck10,ZCh (Jh (kvA .i64) (vvI .i64) 8) r11 cs10 f10,ZCh ZGr.sl a0.images [u0_1] fp0,ZCh TInts a0.degrees [u0_0] fp0,ZCh TAlg a0 [u0_0,u0_1] fp0,blk b0 32 [u0_0,u0_1],mapS b1 a1]) ?_ (l0:=a1) (s0:=([]:List (A8×Int))) ?_ h
 ·clear hC h
  rintro l11 s12 e_ w15 nx11 K11 ⟨la10,hS_,hC⟩ h hK11
  rw [ue hS_]
  refine sr ?_
  refine Zc4 hC 0 0 rfl rfl hn10 hbn10 rfl (fun hr11=>?_) (fun q10 l10 ent10 w16 hp10 hk10 hv12 hC=>?_)
  ·replace h:=h.1 hr11
   refine Yu (v:=.bool false) rfl rfl (dn (ZF5 (Z9 rfl rfl ?_)))
   refine ZGj (Zl (Zl (Z5 ?_)))
   refine Zd (sr (Zb (v:=.map (some b6)) rfl (Zc (v:=.map (some b6)) rfl (dn (ZGd ?_)))))
   exact Zj rfl (Zg rfl) ⟨s12,b6,rfl,h,(hC.getM 2 rfl),(Zc1 hC 2 rfl),hC.below⟩ (.inl rfl)
  ·replace h := h.2 q10 l10 hp10
   refine Yu (v:=.bool true) rfl rfl (dn (ZF5 (Z8 rfl rfl (ZF8 (Zd (ZGb (sr (Zc5 hC 0 0 q10 rfl rfl hn10 rfl hk10 hv12 (Yu (v:=.agg (ZF4 (ZF3 .i64 q10.1))) rfl rfl (Yu (v:=vI q10.2) rfl rfl (Z1 hC (ZF3 .i64 ZGa) Js rfl fun b14 w17 hB_ hC=>Zo (v:=.agg (ZF4 (ZF3 .i64 q10.1))) hC 0 (ZF3 .i64 q10.1) (ZF3 .i64 q10.1) rfl ag110.size rfl rfl rfl rfl rfl (ZGe rfl) rfl fun w18 hC=>Zc (v:=vI q10.2) rfl (dn (sr (Y5 [] rfl (Zef   _) (Z1 hC (ZF3 .i64 ZGa) Js rfl fun b15 w19 hB_ hC=>Zo (v:=.agg (ZF4 (ZF3 .i64 ZGa))) hC 0 (ZF3 .i64 ZGa) (ZF3 .i64 ZGa) rfl ag110.size rfl rfl rfl rfl rfl (ZGe rfl) rfl fun w20 hC=>Zc (v:=vI 1) rfl (dn (sr (Yb hC 1 (ZF3 .i64 q10.1) rfl ag110 rfl rfl rfl (Zb (v:=vI 0) rfl (dn (ZGb ?_)))))))))))))))))))))
   refine Yn (S:=A8×(List (A8×Int))×Int) _ _ (fun i10 s10 e_ w_=>Zy e_ [(0,vQ b0),(5,.map (some b6)),(6,vQ b11),(7,vQ b14),(8,vI q10.2),(9,vQ b15),(10,vI s10.2.2),(21,vQ r10),(28,.agg (ZF4 (ZF3 .i64 q10.1))),(29,vI (i10:Int))]∧Ctx Nox w0 w_ [blk b15 110 (ZF3 .i64 s10.1),blk b14 110 (ZF3 .i64 q10.1),itI (kvA .i64) (vvI .i64) r10 b1 es10 ck10 (some ent10) l10,blk b11 145 cs10,mapS b6 s10.2.1] [Jx b1 es10 ck10,ZCh (Jh (kvA .i64) (vvI .i64) 8) r11 cs10 f10,ZCh ZGr.sl a0.images [u0_1] fp0,ZCh TInts a0.degrees [u0_0] fp0,ZCh TAlg a0 [u0_0,u0_1] fp0,blk b0 32 [u0_0,u0_1],mapS b1 a1]) 8 ?_ ?_ (s0:=(ZGa,s12,1)) ?_ h
   ·clear hC h
    rintro i10 s10 e_ w21 nx10 K10 hi10 ⟨hS_,hC⟩ h hK10
    rw [ue hS_]
    refine sr (Zn rfl rfl (dn (ZF5 (Z8 rfl (decide_eq_true (by omega)) (ZF8 (Zd (ZF5 (ZGb (sr (Zb (v:=vI (i10:Int)) rfl (Zf2 (vI (q10.1.get i10)) ZGs rfl rfl (ZGm _) (by omega) sc3 (ZGi _ _ hi10) (Zc (v:=vI (i10:Int)) rfl (Zc (v:=vI (q10.1.get i10)) rfl (dn (ZF5 (sr (Zb (v:=vI (q10.1.get i10)) rfl (Xy rfl rfl (dn ?_)))))))))))))))))))
    refine Zq rfl (fun hb14=>?_) (fun hb14=>?_)
    ·replace h:=ift h (ct hb14)
     refine sr (Yb hC 1 (ZF3 .i64 q10.1) rfl ag110 rfl rfl rfl (Z1 hC (ZF3 .i64 ZGa) Js rfl fun b30 w22 hB_ hC=>Zo (v:=.agg (ZF4 (ZF3 .i64 q10.1))) hC 0 (ZF3 .i64 q10.1) (ZF3 .i64 q10.1) rfl ag110.size rfl rfl rfl rfl rfl (ZGe rfl) rfl fun w23 hC=>dn (ZF5 (sr (Zb (v:=vI (i10:Int)) rfl (Zp rfl rfl (Zb (v:=vI 0) rfl (dn (ZGb ?_)))))))))
     refine Jj (S:=A8×Int) _ (fun s11 e_ w_=>Zy e_ [(0,vQ b0),(5,.map (some b6)),(6,vQ b11),(7,vQ b14),(8,vI q10.2),(9,vQ b15),(10,vI s10.2.2),(11,vI (i10:Int)),(12,vI (q10.1.get i10)),(13,vQ b30),(21,vQ r10),(28,.agg (ZF4 (ZF3 .i64 q10.1))),(29,vI (i10:Int)),(37,vI (Zxa.wrap ((i10:Int)+1))),(38,vI s11.2)]∧Ctx Nox w0 w_ [blk b30 110 (ZF3 .i64 s11.1),blk b15 110 (ZF3 .i64 s10.1),blk b14 110 (ZF3 .i64 q10.1),itI (kvA .i64) (vvI .i64) r10 b1 es10 ck10 (some ent10) l10,blk b11 145 cs10,mapS b6 s10.2.1] [Jx b1 es10 ck10,ZCh (Jh (kvA .i64) (vvI .i64) 8) r11 cs10 f10,ZCh ZGr.sl a0.images [u0_1] fp0,ZCh TInts a0.degrees [u0_0] fp0,ZCh TAlg a0 [u0_0,u0_1] fp0,blk b0 32 [u0_0,u0_1],mapS b1 a1]) ?_ (s0:=(q10.1,0)) ?_ h
     ·clear hC h
      rintro s11 e_ w24 nx12 K12 ⟨hS_,hC⟩ h hK12
      rw [ue hS_]
      refine sr (Zn rfl rfl (dn (ZF5 ?_)))
      refine Zq rfl (fun hb15=>?_) (fun hb15=>?_)
      ·replace h:=ift h (ct hb15)
       refine ZF8 (Zd (ZF5 (ZGb (sr (Zb (v:=vI s11.2) rfl (Zc (v:=vI s11.2) rfl (dn (Zm (Zb (v:=vI s11.2) rfl ?_)))))))))
       obtain ⟨⟨h10,h11⟩,h⟩:=h
       refine Y6 s11.2.toNat ZGs sc3.size rfl rfl h10 h11 (by omega) (Zo (v:=vI 0) hC 0 [vI 0] (ZF3 .i64 (s11.1.set s11.2.toNat 0)) rfl sc3.size rfl rfl rfl rfl rfl (show s11.2.toNat < 8 by omega) (ZGz _ _ _ (show s11.2.toNat < 8 by omega)) fun w25 hC=>done (Zs (Zd (Zm (Zp rfl rfl (Zb (v:=vI (Zxa.wrap (s11.2+1))) rfl (done ?_)))))))
       exact hK12 (s11.1.set s11.2.toNat 0,Zxa.wrap (s11.2+1)) _ _ ⟨(slq rfl),hC⟩ h
      ·replace h:=Zk h (cf hb15)
       refine ZGj (Zl (Zl (Z5 ?_)))
       refine Zd (sr (Yb hC 1 (ZF3 .i64 s10.1) rfl ag110 rfl rfl rfl (Z1 hC (ZF3 .i64 ZGa) Js rfl fun b43 w26 hB_ hC=>Zo (v:=.agg (ZF4 (ZF3 .i64 s10.1))) hC 0 (ZF3 .i64 s10.1) (ZF3 .i64 s10.1) rfl ag110.size rfl rfl rfl rfl rfl (ZGe rfl) rfl fun w27 hC=>dn (sr (Zb (v:=vI (i10:Int)) rfl (Zb (v:=vI (q10.1.get i10)) rfl (Zaz rfl rfl (Y6 i10 ZGs sc3.size rfl rfl (ZGm _) (by omega) (by omega) (Zo (v:=vI (Zxa.wrap ((q10.1.get i10) - 1))) hC 0 [vI (Zxa.wrap ((q10.1.get i10) - 1))] (ZF3 .i64 (s10.1.set i10 (Zxa.wrap ((q10.1.get i10) - 1)))) rfl sc3.size rfl rfl rfl rfl rfl hi10 (ZGz _ _ _ hi10) fun w28 hC=>dn (ZF5 ?_))))))))))
       refine Ziu 20 mixed [0,0,3,7,0,16,48,112,0,256,768,2047,0,4096,12288,28672,0,0,196608,458752,1048575,2097151] [1,7,9,10,15,17] [3,4,5,6,8,12,13,14,19] (fun hM11 hM10 w10 hB_=>?_)
       replace hC:=hC.grow hB_
       have hN_:w10.heap.size≤w10.heap.size:=Zuv _
       refine Jl (Y7 _) 1 (.agg (ZF4 (ZF3 .i64 (s10.1.set i10 (Zxa.wrap ((q10.1.get i10) - 1)))))) rfl rfl (by kernel_rfl) (hM11 1 rfl) (fun w_ hB_=>.inl ⟨rfl,by exact Y9 (hC.grow (Zbi hB_)) 0 (ZF3 .i64 (s10.1.set i10 (Zxa.wrap ((q10.1.get i10) - 1)))) rfl ag110 rfl rfl rfl⟩) (l9:=(Za 22 2)) (by kernel_rfl) (bMR (Y7 _) 4 (vQ b0) rfl hM10 (Za 22 18) (Zt (Y7 _) 5 (vQ b0) rfl rfl (by kernel_rfl) (hM10 5 rfl) (fun w_=>.inl ⟨rfl,by exact Zam rfl⟩) (l9:=(Za 22 50)) (by kernel_rfl) (Zt (Y7 _) 6 (vQ b0) rfl rfl (by kernel_rfl) (hM10 6 rfl) (fun w_=>.inl ⟨rfl,by exact Yh 0 ZGp rfl sc22.size rfl rfl⟩) (l9:=(Za 22 114)) (by kernel_rfl) (Jl (Y7 _) 7 (u0_0) rfl rfl (by kernel_rfl) (hM11 7 rfl) (fun w_ hB_=>.inl ⟨rfl,by exact Zaa (u0_0) ((hC.grow (Zbi hB_)).getP 5 rfl) sc22 rfl rfl⟩) (l9:=(Za 22 242)) (by kernel_rfl) (bMR (Y7 _) 8 (vI (i10:Int)) rfl hM10 (Za 22 498) (Jl (Y7 _) 9 (.pointer (some ⟨b11,i10,none⟩)) rfl rfl (by kernel_rfl) (hM11 9 rfl) (fun w_ hB_=>.inl ⟨rfl,by exact Jf i10 Tryz.underlying145 sc99.size rfl rfl (ZGm _) (by omega) (by omega)⟩) (l9:=(Za 22 1010)) (by kernel_rfl) ?_))))))
       obtain ⟨ml10,hl12,h⟩:=h
       obtain ⟨b10,hb18,hbf10,hm10⟩:=Zo1 (hC.getP 1 rfl) hl12
       replace hC:=hC.derive 1 rfl (mapS b10 ml10) (fun _=>hm10) (fun c_ hc_=>by obtain rfl:=Zwj.1 hc_; exact hbf10)
       refine Jl (Y7 _) 10 (.map (some b10)) rfl rfl (by kernel_rfl) (hM11 10 rfl) (fun w_ hB_=>.inl ⟨rfl,by exact Yd (hC.grow (Zbi hB_)) 5 (.map (some b10)) rfl sc99 rfl (Zo3 hb18 (by omega))⟩) (l9:=(Za 22 2034)) (by kernel_rfl) (bMR (Y7 _) 12 (vQ b0) rfl hM10 (Za 22 6130) (Zt (Y7 _) 13 (vQ b0) rfl rfl (by kernel_rfl) (hM10 13 rfl) (fun w_=>.inl ⟨rfl,by exact Zam rfl⟩) (l9:=(Za 22 14322)) (by kernel_rfl) (Zt (Y7 _) 14 (vQ b0) rfl rfl (by kernel_rfl) (hM10 14 rfl) (fun w_=>.inl ⟨rfl,by exact Yh 0 ZGp rfl sc22.size rfl rfl⟩) (l9:=(Za 22 30706)) (by kernel_rfl) (Jl (Y7 _) 15 (u0_0) rfl rfl (by kernel_rfl) (hM11 15 rfl) (fun w_ hB_=>.inl ⟨rfl,by exact Zaa (u0_0) ((hC.grow (Zbi hB_)).getP 6 rfl) sc22 rfl rfl⟩) (l9:=(Za 22 63474)) (by kernel_rfl) (Jl (Y7 _) 17 (.agg (ZF4 (ZF3 .i64 s11.1))) rfl rfl (by kernel_rfl) (hM11 17 rfl) (fun w_ hB_=>.inl ⟨rfl,by exact Y9 (hC.grow (Zbi hB_)) 1 (ZF3 .i64 s11.1) rfl ag110 rfl rfl rfl⟩) (l9:=(Za 22 194546)) (by kernel_rfl) ?_)))))
       refine Zb3 (fun e_ w_=>∃ (b17:Nat),∃ (r15:List (A8×Int)),Zy e_ [(0,vQ b0),(5,.map (some b6)),(6,vQ b11),(7,vQ b14),(8,vI q10.2),(9,vQ b15),(10,vI s10.2.2),(11,vI (i10:Int)),(12,vI (q10.1.get i10)),(16,.map (some b17)),(21,vQ r10),(28,.agg (ZF4 (ZF3 .i64 q10.1))),(29,vI (i10:Int))]∧Ctx Nox w0 w_ [mapS b17 r15,blk b15 110 (ZF3 .i64 s10.1),blk b14 110 (ZF3 .i64 q10.1),itI (kvA .i64) (vvI .i64) r10 b1 es10 ck10 (some ent10) l10,blk b11 145 cs10,mapS b6 s10.2.1] [Jx b1 es10 ck10,ZCh (Jh (kvA .i64) (vvI .i64) 8) r11 cs10 f10,ZCh ZGr.sl a0.images [u0_1] fp0,ZCh TInts a0.degrees [u0_0] fp0,ZCh TAlg a0 [u0_0,u0_1] fp0,blk b0 32 [u0_0,u0_1],mapS b1 a1]∧(Zbl (Zxa.wrap ((Zxa.wrap (s10.2.2 * q10.2)) * (q10.1.get i10))) (fun r12=>Zbn s10.2.1 r15 r12 (fun m10=>(if(i10:Int) < (a0.degrees.length:Int) then((0≤(i10:Int)∧(i10:Int) < (a0.degrees.length:Int))∧(if Zvh (a0.degrees.getD i10 Zuw) 2=1 then(if Zvh (q10.1.get i10) 2=1 then nx10 (s10.1.set i10 (q10.1.get i10),m10,Zxa.wrap (0 - s10.2.2)) else nx10 (s10.1.set i10 (q10.1.get i10),m10,s10.2.2)) else nx10 (s10.1.set i10 (q10.1.get i10),m10,s10.2.2))) else nx10 (s10.1.set i10 (q10.1.get i10),m10,s10.2.2)))))) ?_ ?_
       ·clear hC h
        rintro e_ w29 ⟨b17,r15,hS_,hC,h⟩
        rw [ue hS_]
        refine Zd (Zm (Zb (v:=.map (some b6)) rfl (Zb (v:=.map (some b17)) rfl (Zb (v:=vI s10.2.2) rfl (Zb (v:=vI q10.2) rfl (Zbe rfl rfl (Zb (v:=vI (q10.1.get i10)) rfl (Zbe rfl rfl (Zf [vI (Zxa.wrap ((Zxa.wrap (s10.2.2 * q10.2)) * (q10.1.get i10)))] _ Tryz.func109 rfl rfl rfl (Zk4 (Zxa.wrap ((Zxa.wrap (s10.2.2 * q10.2)) * (q10.1.get i10))) h _) ?_)))))))))
        rintro _ w30 ⟨r12,rfl,h,hB11⟩
        refine rt ?_
        replace hC:=hC.grow hB11
        refine Zf [.map (some b6),.map (some b17),vI r12] _ Tryz.func89 rfl rfl rfl (Zk7 s10.2.1 r15 r12 h _ (hC.getM 5 rfl) (fun c_ hc_ e_=>hC.mm 0 5 rfl rfl (by decide) c_ hc_ (Zwj.2 e_)) (hC.getM 0 rfl)) ?_
        rintro _ w31 ⟨m10,rfl,h,hm11,hB12⟩
        refine rt ?_
        replace hC:=hC.turnB 5 rfl hB12 rfl rfl hm11
        refine dn (sr (Zb (v:=vI (i10:Int)) rfl (Zb (v:=vI (q10.1.get i10)) rfl (Y6 i10 ZGs sc3.size rfl rfl (ZGm _) (by omega) (by omega) (Zo (v:=vI (q10.1.get i10)) hC 1 [vI (q10.1.get i10)] (ZF3 .i64 (s10.1.set i10 (q10.1.get i10))) rfl sc3.size rfl rfl rfl rfl rfl hi10 (ZGz _ _ _ hi10) fun w32 hC=>dn (sr (Zb (v:=vI (i10:Int)) rfl (Zb (v:=vQ b0) rfl (Zan rfl (Zx 0 ZGp rfl sc22.size rfl rfl (Za1 (u0_0) (hC.getP 5 rfl) sc22 rfl rfl (Zv hC 3 rfl ZGo rfl (Zn rfl rfl (Zb (v:=.bool (decide ((i10:Int) < (a0.degrees.length:Int)))) rfl ?_))))))))))))))
        refine Y1 (decide ((i10:Int) < (a0.degrees.length:Int))) (fun hb10=>?_) (fun hb10=>?_)
        ·replace h:=ift h (ct hb10)
         refine Zi 7 87 rfl rfl hb10 (Zb (v:=vQ b0) rfl (Zi 7 87 rfl rfl hb10 (Zan rfl (Zi 7 87 rfl rfl hb10 (Zx 0 ZGp rfl sc22.size rfl rfl (Zi 7 87 rfl rfl hb10 (Za1 (u0_0) (hC.getP 5 rfl) sc22 rfl rfl (Zi 7 87 rfl rfl hb10 (Zb (v:=vI (i10:Int)) rfl (Zi 7 87 rfl rfl hb10 ?_))))))))))
         obtain ⟨⟨h12,h13⟩,h⟩:=h
         obtain ⟨Ad10,c10,hv10⟩:=Zz (hC.getP 3 rfl) i10 (show i10 < a0.degrees.length by omega)
         refine Yq (len:=a0.degrees.length) ZGo sc2.size (tr rfl hv10) rfl h12 h13 (Zi 7 87 rfl rfl hb10 (Xb (vI (a0.degrees.getD i10 Zuw)) (Yf (hC.getP 3 rfl) hv10 i10 (show i10 < a0.degrees.length by omega)) sc2 rfl (Zi 7 87 rfl rfl hb10 (Jp rfl rfl (by decide) (Zi 7 87 rfl rfl hb10 (Je rfl rfl (Z0 (v:=.bool (decide (Zvh (a0.degrees.getD i10 Zuw) 2=1))) (b:=true) (tr rfl (congrArg _ hb10)) rfl (Zb (v:=.bool (decide (Zvh (a0.degrees.getD i10 Zuw) 2=1))) rfl ?_))))))))
         refine Y1 (decide (Zvh (a0.degrees.getD i10 Zuw) 2=1)) (fun hb12=>?_) (fun hb12=>?_)
         ·replace h:=ift h (ct hb12)
          refine Zi 18 98 rfl rfl hb12 (Zb (v:=vI (q10.1.get i10)) rfl (Zi 18 98 rfl rfl hb12 (Jp rfl rfl (by decide) (Zi 18 98 rfl rfl hb12 (Je rfl rfl (Z0 (v:=.bool (decide (Zvh (q10.1.get i10) 2=1))) (b:=true) (tr rfl (congrArg _ hb12)) rfl (dn ?_)))))))
          refine Zq rfl (fun hb16=>?_) (fun hb16=>?_)
          ·replace h:=ift h (ct hb16)
           refine Zm (Zb (v:=vI s10.2.2) rfl (Zf0 rfl (Zc (v:=vI (Zxa.wrap (0 - s10.2.2))) rfl (done (Zs (Zd (Zm (Zp rfl rfl (Zb (v:=vI (Zxa.wrap ((i10:Int)+1))) rfl (done ?_))))))))))
           exact hK10 (s10.1.set i10 (q10.1.get i10),m10,Zxa.wrap (0 - s10.2.2)) _ _ ⟨(sl ⟨rfl,rfl,rfl,rfl,rfl,rfl,rfl,rfl,rfl,(tr rfl (congrArg _ (Z6 hi10 (by decide)))),trivial⟩),(hC.xM [1,2,3,4,5] rfl)⟩ h
          ·replace h:=Zk h (cf hb16)
           refine ZF8 (Zs (Zd (Zm (Zp rfl rfl (Zb (v:=vI (Zxa.wrap ((i10:Int)+1))) rfl (done ?_))))))
           exact hK10 (s10.1.set i10 (q10.1.get i10),m10,s10.2.2) _ _ ⟨(sl ⟨rfl,rfl,rfl,rfl,rfl,rfl,rfl,rfl,rfl,(tr rfl (congrArg _ (Z6 hi10 (by decide)))),trivial⟩),(hC.xM [1,2,3,4,5] rfl)⟩ h
         ·replace h:=Zk h (cf hb12)
          refine Zh (b:=false) 18 98 rfl (tr rfl (congrArg _ hb12)) (by decide) (Zh (b:=false) 18 98 rfl (tr rfl (congrArg _ hb12)) (by decide) (Zh (b:=false) 18 98 rfl (tr rfl (congrArg _ hb12)) (by decide) (Z0 (v:=.bool false) (b:=false) (tr rfl (congrArg _ hb12)) rfl (dn (Z9 rfl rfl (ZF8 (Zs (Zd (Zm (Zp rfl rfl (Zb (v:=vI (Zxa.wrap ((i10:Int)+1))) rfl (done ?_))))))))))))
          exact hK10 (s10.1.set i10 (q10.1.get i10),m10,s10.2.2) _ _ ⟨(sl ⟨rfl,rfl,rfl,rfl,rfl,rfl,rfl,rfl,rfl,(tr rfl (congrArg _ (Z6 hi10 (by decide)))),trivial⟩),(hC.xM [1,2,3,4,5] rfl)⟩ h
        ·replace h:=Zk h (cf hb10)
         refine Zh (b:=false) 7 87 rfl (tr rfl (congrArg _ hb10)) (by decide) (Zh (b:=false) 7 87 rfl (tr rfl (congrArg _ hb10)) (by decide) (Zh (b:=false) 7 87 rfl (tr rfl (congrArg _ hb10)) (by decide) (Zh (b:=false) 7 87 rfl (tr rfl (congrArg _ hb10)) (by decide) (Zh (b:=false) 7 87 rfl (tr rfl (congrArg _ hb10)) (by decide) (Zh (b:=false) 7 87 rfl (tr rfl (congrArg _ hb10)) (by decide) (Zh (b:=false) 7 87 rfl (tr rfl (congrArg _ hb10)) (by decide) (Zh (b:=false) 7 87 rfl (tr rfl (congrArg _ hb10)) (by decide) (Zh (b:=false) 7 87 rfl (tr rfl (congrArg _ hb10)) (by decide) (Z0 (v:=.bool false) (b:=false) (tr rfl (congrArg _ hb10)) rfl (Zb (v:=.bool false) rfl (Zh (b:=false) 18 98 rfl (tr rfl (congrArg _ rfl)) (by decide) (Zh (b:=false) 18 98 rfl (tr rfl (congrArg _ rfl)) (by decide) (Zh (b:=false) 18 98 rfl (tr rfl (congrArg _ rfl)) (by decide) (Z0 (v:=.bool false) (b:=false) rfl rfl (dn (Z9 rfl rfl (ZF8 (Zs (Zd (Zm (Zp rfl rfl (Zb (v:=vI (Zxa.wrap ((i10:Int)+1))) rfl (done ?_)))))))))))))))))))))))
         exact hK10 (s10.1.set i10 (q10.1.get i10),m10,s10.2.2) _ _ ⟨(sl ⟨rfl,rfl,rfl,rfl,rfl,rfl,rfl,rfl,rfl,(tr rfl (congrArg _ (Z6 hi10 (by decide)))),trivial⟩),(hC.xM [1,2,3,4,5] rfl)⟩ h
       refine X9 0 16 rfl rfl (by kernel_rfl) ?_ ?_
       ·skip
        refine Zca hC (kvA .i64) (vvI .i64) fun b12 w33 hn_ hB_ hC=>?_
        have hnb_b12975:=Zux hN_ hn_
        refine done ?_
        refine Yo (Xm hN_ (by assumption)) hN_ (l9:=(Za 22 194547)) (by kernel_rfl) (fun hN_=>?_)
        refine X9 2 16 rfl rfl (by kernel_rfl) ?_ ?_
        ·skip
         refine Jr hC 0 (s10.1.set i10 (Zxa.wrap ((q10.1.get i10) - 1))) 1 rfl Xw ZG1 rfl rfl rfl (fun w34 hBB_ hC=>?_) (.inr rfl)
         refine done ?_
         refine Yo (X6 hN_ hnb_b12975 hBB_) hN_ (l9:=(Za 22 194551)) (by kernel_rfl) (fun hN_=>?_)
         refine bMR (Y7 _) 3 (.map (some b12)) rfl hM10 (Za 22 194559) ?_
         refine X9 11 16 rfl rfl (by kernel_rfl) ?_ ?_
         ·skip
          refine Zf [.map (some b12),u0_0,.map (some b10)] _ ZIt rfl rfl rfl (X0 (Yc ([]:List (A8×Int)) (s10.1.set i10 (Zxa.wrap ((q10.1.get i10) - 1))) 1) a0.degrees ml10 h _ (hC.getM 0 rfl) (hC.getP 4 rfl) (hC.getP 0 rfl)) ?_
          rintro _ w35 ⟨r13,b31,rfl,h,hr12,hf11,hB13⟩
          refine rt ?_
          replace hC:=hC.push hB13 (mapS b31 r13) hr12 (fun b_ hb_=>by obtain rfl:=Zwj.1 hb_; exact hf11)
          refine done ?_
          refine Yo (Xm hN_ (by assumption)) hN_ (l9:=(Za 22 196607)) (by kernel_rfl) (fun hN_=>?_)
          refine aO 16 rfl (Zca hC (kvA .i64) (vvI .i64) fun b32 w36 hn_ hB_ hC=>?_)
          have hnb_b12988:=Zux hN_ hn_
          refine done ?_
          refine Yo (Xm hN_ (by assumption)) hN_ (l9:=(Za 22 262143)) (by kernel_rfl) (fun hN_=>?_)
          refine aO 18 rfl ?_
          refine Jr hC 0 s11.1 1 rfl Xw ZG1 rfl rfl rfl (fun w37 hBB_ hC=>?_) (.inr rfl)
          refine done ?_
          refine Yo (X6 hN_ hnb_b12988 hBB_) hN_ (l9:=(Za 22 524287)) (by kernel_rfl) (fun hN_=>?_)
          refine bMR (Y7 _) 19 (.map (some b32)) rfl hM10 (Za 22 1048575) (Z2 20 (by decide) (by decide) (by kernel_rfl) (by kernel_rfl) rfl (Zf [.map (some b31),u0_0,.map (some b32)] _ ZIt rfl rfl rfl (X0 r13 a0.degrees (Yc ([]:List (A8×Int)) s11.1 1) h _ (hC.getM 1 rfl) (hC.getP 4 rfl) (hC.getM 0 rfl)) ?_))
          rintro _ w38 ⟨r14,b20,rfl,h,hr13,hf12,hB14⟩
          refine rt ?_
          replace hC:=hC.push hB14 (mapS b20 r14) hr13 (fun b_ hb_=>by obtain rfl:=Zwj.1 hb_; exact hf12)
          refine Zc (v:=.map (some b20)) rfl (done (Z3 ?_))
          exact⟨rfl,_,rfl,⟨b20,r14,(slq rfl),((hC.xM [0,6,7,8,9,10] rfl).sP [1,2,3,4,5,6,7] rfl),h⟩⟩
         ·skip
          refine Zca hC (kvA .i64) (vvI .i64) fun b19 w39 hn_ hB_ hC=>?_
          have hnb_b13001:=Zux hN_ hn_
          refine done ?_
          refine Yo (Xm hN_ (by assumption)) hN_ (l9:=(Za 22 260095)) (by kernel_rfl) (fun hN_=>?_)
          refine X9 11 18 rfl rfl (by kernel_rfl) ?_ ?_
          ·skip
           refine Zf [.map (some b12),u0_0,.map (some b10)] _ ZIt rfl rfl rfl (X0 (Yc ([]:List (A8×Int)) (s10.1.set i10 (Zxa.wrap ((q10.1.get i10) - 1))) 1) a0.degrees ml10 h _ (hC.getM 1 rfl) (hC.getP 4 rfl) (hC.getP 0 rfl)) ?_
           rintro _ w40 ⟨r16,b33,rfl,h,hr14,hf13,hB15⟩
           refine rt ?_
           replace hC:=hC.push hB15 (mapS b33 r16) hr14 (fun b_ hb_=>by obtain rfl:=Zwj.1 hb_; exact hf13)
           refine done ?_
           refine Yo (Xm hN_ (by assumption)) hN_ (l9:=(Za 22 262143)) (by kernel_rfl) (fun hN_=>?_)
           refine aO 18 rfl ?_
           refine Jr hC 1 s11.1 1 rfl Xw ZG1 rfl rfl rfl (fun w41 hBB_ hC=>?_) (.inr rfl)
           refine done ?_
           refine Yo (X6 hN_ hnb_b13001 hBB_) hN_ (l9:=(Za 22 524287)) (by kernel_rfl) (fun hN_=>?_)
           refine bMR (Y7 _) 19 (.map (some b19)) rfl hM10 (Za 22 1048575) (Z2 20 (by decide) (by decide) (by kernel_rfl) (by kernel_rfl) rfl (Zf [.map (some b33),u0_0,.map (some b19)] _ ZIt rfl rfl rfl (X0 r16 a0.degrees (Yc ([]:List (A8×Int)) s11.1 1) h _ (hC.getM 0 rfl) (hC.getP 4 rfl) (hC.getM 1 rfl)) ?_))
           rintro _ w42 ⟨r17,b21,rfl,h,hr15,hf14,hB16⟩
           refine rt ?_
           replace hC:=hC.push hB16 (mapS b21 r17) hr15 (fun b_ hb_=>by obtain rfl:=Zwj.1 hb_; exact hf14)
           refine Zc (v:=.map (some b21)) rfl (done (Z3 ?_))
           exact⟨rfl,_,rfl,⟨b21,r17,(slq rfl),((hC.xM [0,6,7,8,9,10] rfl).sP [1,2,3,4,5,6,7] rfl),h⟩⟩
          ·skip
           refine Jr hC 0 s11.1 1 rfl Xw ZG1 rfl rfl rfl (fun w43 hBB_ hC=>?_) (.inr rfl)
           refine done ?_
           refine Yo (X6 hN_ hnb_b13001 hBB_) hN_ (l9:=(Za 22 522239)) (by kernel_rfl) (fun hN_=>?_)
           refine bMR (Y7 _) 19 (.map (some b19)) rfl hM10 (Za 22 1046527) (aO 11 rfl (Zf [.map (some b12),u0_0,.map (some b10)] _ ZIt rfl rfl rfl (X0 (Yc ([]:List (A8×Int)) (s10.1.set i10 (Zxa.wrap ((q10.1.get i10) - 1))) 1) a0.degrees ml10 h _ (hC.getM 1 rfl) (hC.getP 4 rfl) (hC.getP 0 rfl)) ?_))
           rintro _ w44 ⟨r18,b34,rfl,h,hr16,hf15,hB17⟩
           refine rt ?_
           replace hC:=hC.push hB17 (mapS b34 r18) hr16 (fun b_ hb_=>by obtain rfl:=Zwj.1 hb_; exact hf15)
           refine done ?_
           refine Yo (Xm hN_ (by assumption)) hN_ (l9:=(Za 22 1048575)) (by kernel_rfl) (fun hN_=>?_)
           refine Z2 20 (by decide) (by decide) (by kernel_rfl) (by kernel_rfl) rfl (Zf [.map (some b34),u0_0,.map (some b19)] _ ZIt rfl rfl rfl (X0 r18 a0.degrees (Yc ([]:List (A8×Int)) s11.1 1) h _ (hC.getM 0 rfl) (hC.getP 4 rfl) (hC.getM 1 rfl)) ?_)
           rintro _ w45 ⟨r19,b22,rfl,h,hr17,hf16,hB18⟩
           refine rt ?_
           replace hC:=hC.push hB18 (mapS b22 r19) hr17 (fun b_ hb_=>by obtain rfl:=Zwj.1 hb_; exact hf16)
           refine Zc (v:=.map (some b22)) rfl (done (Z3 ?_))
           exact⟨rfl,_,rfl,⟨b22,r19,(slq rfl),((hC.xM [0,6,7,8,9,10] rfl).sP [1,2,3,4,5,6,7] rfl),h⟩⟩
        ·skip
         refine Zca hC (kvA .i64) (vvI .i64) fun b16 w46 hn_ hB_ hC=>?_
         have hnb_b13042:=Zux hN_ hn_
         refine done ?_
         refine Yo (Xm hN_ (by assumption)) hN_ (l9:=(Za 22 260083)) (by kernel_rfl) (fun hN_=>?_)
         refine X9 2 18 rfl rfl (by kernel_rfl) ?_ ?_
         ·skip
          refine Jr hC 1 (s10.1.set i10 (Zxa.wrap ((q10.1.get i10) - 1))) 1 rfl Xw ZG1 rfl rfl rfl (fun w47 hBB_ hC=>?_) (.inr rfl)
          refine done ?_
          refine Yo (X6 hN_ hnb_b12975 hBB_) hN_ (l9:=(Za 22 260087)) (by kernel_rfl) (fun hN_=>?_)
          refine bMR (Y7 _) 3 (.map (some b12)) rfl hM10 (Za 22 260095) ?_
          refine X9 11 18 rfl rfl (by kernel_rfl) ?_ ?_
          ·skip
           refine Zf [.map (some b12),u0_0,.map (some b10)] _ ZIt rfl rfl rfl (X0 (Yc ([]:List (A8×Int)) (s10.1.set i10 (Zxa.wrap ((q10.1.get i10) - 1))) 1) a0.degrees ml10 h _ (hC.getM 1 rfl) (hC.getP 4 rfl) (hC.getP 0 rfl)) ?_
           rintro _ w48 ⟨r20,b35,rfl,h,hr18,hf17,hB19⟩
           refine rt ?_
           replace hC:=hC.push hB19 (mapS b35 r20) hr18 (fun b_ hb_=>by obtain rfl:=Zwj.1 hb_; exact hf17)
           refine done ?_
           refine Yo (Xm hN_ (by assumption)) hN_ (l9:=(Za 22 262143)) (by kernel_rfl) (fun hN_=>?_)
           refine aO 18 rfl ?_
           refine Jr hC 1 s11.1 1 rfl Xw ZG1 rfl rfl rfl (fun w49 hBB_ hC=>?_) (.inr rfl)
           refine done ?_
           refine Yo (X6 hN_ hnb_b13042 hBB_) hN_ (l9:=(Za 22 524287)) (by kernel_rfl) (fun hN_=>?_)
           refine bMR (Y7 _) 19 (.map (some b16)) rfl hM10 (Za 22 1048575) (Z2 20 (by decide) (by decide) (by kernel_rfl) (by kernel_rfl) rfl (Zf [.map (some b35),u0_0,.map (some b16)] _ ZIt rfl rfl rfl (X0 r20 a0.degrees (Yc ([]:List (A8×Int)) s11.1 1) h _ (hC.getM 0 rfl) (hC.getP 4 rfl) (hC.getM 1 rfl)) ?_))
           rintro _ w50 ⟨r21,b23,rfl,h,hr19,hf18,hB20⟩
           refine rt ?_
           replace hC:=hC.push hB20 (mapS b23 r21) hr19 (fun b_ hb_=>by obtain rfl:=Zwj.1 hb_; exact hf18)
           refine Zc (v:=.map (some b23)) rfl (done (Z3 ?_))
           exact⟨rfl,_,rfl,⟨b23,r21,(slq rfl),((hC.xM [0,6,7,8,9,10] rfl).sP [1,2,3,4,5,6,7] rfl),h⟩⟩
          ·skip
           refine Jr hC 0 s11.1 1 rfl Xw ZG1 rfl rfl rfl (fun w51 hBB_ hC=>?_) (.inr rfl)
           refine done ?_
           refine Yo (X6 hN_ hnb_b13042 hBB_) hN_ (l9:=(Za 22 522239)) (by kernel_rfl) (fun hN_=>?_)
           refine bMR (Y7 _) 19 (.map (some b16)) rfl hM10 (Za 22 1046527) (aO 11 rfl (Zf [.map (some b12),u0_0,.map (some b10)] _ ZIt rfl rfl rfl (X0 (Yc ([]:List (A8×Int)) (s10.1.set i10 (Zxa.wrap ((q10.1.get i10) - 1))) 1) a0.degrees ml10 h _ (hC.getM 1 rfl) (hC.getP 4 rfl) (hC.getP 0 rfl)) ?_))
           rintro _ w52 ⟨r22,b36,rfl,h,hr20,hf19,hB21⟩
           refine rt ?_
           replace hC:=hC.push hB21 (mapS b36 r22) hr20 (fun b_ hb_=>by obtain rfl:=Zwj.1 hb_; exact hf19)
           refine done ?_
           refine Yo (Xm hN_ (by assumption)) hN_ (l9:=(Za 22 1048575)) (by kernel_rfl) (fun hN_=>?_)
           refine Z2 20 (by decide) (by decide) (by kernel_rfl) (by kernel_rfl) rfl (Zf [.map (some b36),u0_0,.map (some b16)] _ ZIt rfl rfl rfl (X0 r22 a0.degrees (Yc ([]:List (A8×Int)) s11.1 1) h _ (hC.getM 0 rfl) (hC.getP 4 rfl) (hC.getM 1 rfl)) ?_)
           rintro _ w53 ⟨r23,b24,rfl,h,hr21,hf20,hB22⟩
           refine rt ?_
           replace hC:=hC.push hB22 (mapS b24 r23) hr21 (fun b_ hb_=>by obtain rfl:=Zwj.1 hb_; exact hf20)
           refine Zc (v:=.map (some b24)) rfl (done (Z3 ?_))
           exact⟨rfl,_,rfl,⟨b24,r23,(slq rfl),((hC.xM [0,6,7,8,9,10] rfl).sP [1,2,3,4,5,6,7] rfl),h⟩⟩
         ·skip
          refine Jr hC 0 s11.1 1 rfl Xw ZG1 rfl rfl rfl (fun w54 hBB_ hC=>?_) (.inr rfl)
          refine done ?_
          refine Yo (X6 hN_ hnb_b13042 hBB_) hN_ (l9:=(Za 22 522227)) (by kernel_rfl) (fun hN_=>?_)
          refine bMR (Y7 _) 19 (.map (some b16)) rfl hM10 (Za 22 1046515) (aO 2 rfl ?_)
          refine Jr hC 1 (s10.1.set i10 (Zxa.wrap ((q10.1.get i10) - 1))) 1 rfl Xw ZG1 rfl rfl rfl (fun w55 hBB_ hC=>?_) (.inr rfl)
          refine done ?_
          refine Yo (X6 hN_ hnb_b12975 hBB_) hN_ (l9:=(Za 22 1046519)) (by kernel_rfl) (fun hN_=>?_)
          refine bMR (Y7 _) 3 (.map (some b12)) rfl hM10 (Za 22 1046527) (aO 11 rfl (Zf [.map (some b12),u0_0,.map (some b10)] _ ZIt rfl rfl rfl (X0 (Yc ([]:List (A8×Int)) (s10.1.set i10 (Zxa.wrap ((q10.1.get i10) - 1))) 1) a0.degrees ml10 h _ (hC.getM 1 rfl) (hC.getP 4 rfl) (hC.getP 0 rfl)) ?_))
          rintro _ w56 ⟨r24,b37,rfl,h,hr22,hf21,hB23⟩
          refine rt ?_
          replace hC:=hC.push hB23 (mapS b37 r24) hr22 (fun b_ hb_=>by obtain rfl:=Zwj.1 hb_; exact hf21)
          refine done ?_
          refine Yo (Xm hN_ (by assumption)) hN_ (l9:=(Za 22 1048575)) (by kernel_rfl) (fun hN_=>?_)
          refine Z2 20 (by decide) (by decide) (by kernel_rfl) (by kernel_rfl) rfl (Zf [.map (some b37),u0_0,.map (some b16)] _ ZIt rfl rfl rfl (X0 r24 a0.degrees (Yc ([]:List (A8×Int)) s11.1 1) h _ (hC.getM 0 rfl) (hC.getP 4 rfl) (hC.getM 1 rfl)) ?_)
          rintro _ w57 ⟨r25,b25,rfl,h,hr23,hf22,hB24⟩
          refine rt ?_
          replace hC:=hC.push hB24 (mapS b25 r25) hr23 (fun b_ hb_=>by obtain rfl:=Zwj.1 hb_; exact hf22)
          refine Zc (v:=.map (some b25)) rfl (done (Z3 ?_))
          exact⟨rfl,_,rfl,⟨b25,r25,(slq rfl),((hC.xM [0,6,7,8,9,10] rfl).sP [1,2,3,4,5,6,7] rfl),h⟩⟩
       ·skip
        refine Zca hC (kvA .i64) (vvI .i64) fun b13 w58 hn_ hB_ hC=>?_
        have hnb_b13104:=Zux hN_ hn_
        refine done ?_
        refine Yo (Xm hN_ (by assumption)) hN_ (l9:=(Za 22 260082)) (by kernel_rfl) (fun hN_=>?_)
        refine X9 0 18 rfl rfl (by kernel_rfl) ?_ ?_
        ·skip
         refine Zca hC (kvA .i64) (vvI .i64) fun b18 w59 hn_ hB_ hC=>?_
         have hnb_b13107:=Zux hN_ hn_
         refine done ?_
         refine Yo (Xm hN_ (by assumption)) hN_ (l9:=(Za 22 260083)) (by kernel_rfl) (fun hN_=>?_)
         refine X9 2 18 rfl rfl (by kernel_rfl) ?_ ?_
         ·skip
          refine Jr hC 0 (s10.1.set i10 (Zxa.wrap ((q10.1.get i10) - 1))) 1 rfl Xw ZG1 rfl rfl rfl (fun w60 hBB_ hC=>?_) (.inr rfl)
          refine done ?_
          refine Yo (X6 hN_ hnb_b13107 hBB_) hN_ (l9:=(Za 22 260087)) (by kernel_rfl) (fun hN_=>?_)
          refine bMR (Y7 _) 3 (.map (some b18)) rfl hM10 (Za 22 260095) ?_
          refine X9 11 18 rfl rfl (by kernel_rfl) ?_ ?_
          ·skip
           refine Zf [.map (some b18),u0_0,.map (some b10)] _ ZIt rfl rfl rfl (X0 (Yc ([]:List (A8×Int)) (s10.1.set i10 (Zxa.wrap ((q10.1.get i10) - 1))) 1) a0.degrees ml10 h _ (hC.getM 0 rfl) (hC.getP 4 rfl) (hC.getP 0 rfl)) ?_
           rintro _ w61 ⟨r26,b38,rfl,h,hr24,hf23,hB25⟩
           refine rt ?_
           replace hC:=hC.push hB25 (mapS b38 r26) hr24 (fun b_ hb_=>by obtain rfl:=Zwj.1 hb_; exact hf23)
           refine done ?_
           refine Yo (Xm hN_ (by assumption)) hN_ (l9:=(Za 22 262143)) (by kernel_rfl) (fun hN_=>?_)
           refine aO 18 rfl ?_
           refine Jr hC 2 s11.1 1 rfl Xw ZG1 rfl rfl rfl (fun w62 hBB_ hC=>?_) (.inr rfl)
           refine done ?_
           refine Yo (X6 hN_ hnb_b13104 hBB_) hN_ (l9:=(Za 22 524287)) (by kernel_rfl) (fun hN_=>?_)
           refine bMR (Y7 _) 19 (.map (some b13)) rfl hM10 (Za 22 1048575) (Z2 20 (by decide) (by decide) (by kernel_rfl) (by kernel_rfl) rfl (Zf [.map (some b38),u0_0,.map (some b13)] _ ZIt rfl rfl rfl (X0 r26 a0.degrees (Yc ([]:List (A8×Int)) s11.1 1) h _ (hC.getM 0 rfl) (hC.getP 4 rfl) (hC.getM 2 rfl)) ?_))
           rintro _ w63 ⟨r27,b26,rfl,h,hr25,hf24,hB26⟩
           refine rt ?_
           replace hC:=hC.push hB26 (mapS b26 r27) hr25 (fun b_ hb_=>by obtain rfl:=Zwj.1 hb_; exact hf24)
           refine Zc (v:=.map (some b26)) rfl (done (Z3 ?_))
           exact⟨rfl,_,rfl,⟨b26,r27,(slq rfl),((hC.xM [0,6,7,8,9,10] rfl).sP [1,2,3,4,5,6,7] rfl),h⟩⟩
          ·skip
           refine Jr hC 1 s11.1 1 rfl Xw ZG1 rfl rfl rfl (fun w64 hBB_ hC=>?_) (.inr rfl)
           refine done ?_
           refine Yo (X6 hN_ hnb_b13104 hBB_) hN_ (l9:=(Za 22 522239)) (by kernel_rfl) (fun hN_=>?_)
           refine bMR (Y7 _) 19 (.map (some b13)) rfl hM10 (Za 22 1046527) (aO 11 rfl (Zf [.map (some b18),u0_0,.map (some b10)] _ ZIt rfl rfl rfl (X0 (Yc ([]:List (A8×Int)) (s10.1.set i10 (Zxa.wrap ((q10.1.get i10) - 1))) 1) a0.degrees ml10 h _ (hC.getM 0 rfl) (hC.getP 4 rfl) (hC.getP 0 rfl)) ?_))
           rintro _ w65 ⟨r28,b39,rfl,h,hr26,hf25,hB27⟩
           refine rt ?_
           replace hC:=hC.push hB27 (mapS b39 r28) hr26 (fun b_ hb_=>by obtain rfl:=Zwj.1 hb_; exact hf25)
           refine done ?_
           refine Yo (Xm hN_ (by assumption)) hN_ (l9:=(Za 22 1048575)) (by kernel_rfl) (fun hN_=>?_)
           refine Z2 20 (by decide) (by decide) (by kernel_rfl) (by kernel_rfl) rfl (Zf [.map (some b39),u0_0,.map (some b13)] _ ZIt rfl rfl rfl (X0 r28 a0.degrees (Yc ([]:List (A8×Int)) s11.1 1) h _ (hC.getM 0 rfl) (hC.getP 4 rfl) (hC.getM 2 rfl)) ?_)
           rintro _ w66 ⟨r29,b27,rfl,h,hr27,hf26,hB28⟩
           refine rt ?_
           replace hC:=hC.push hB28 (mapS b27 r29) hr27 (fun b_ hb_=>by obtain rfl:=Zwj.1 hb_; exact hf26)
           refine Zc (v:=.map (some b27)) rfl (done (Z3 ?_))
           exact⟨rfl,_,rfl,⟨b27,r29,(slq rfl),((hC.xM [0,6,7,8,9,10] rfl).sP [1,2,3,4,5,6,7] rfl),h⟩⟩
         ·skip
          refine Jr hC 1 s11.1 1 rfl Xw ZG1 rfl rfl rfl (fun w67 hBB_ hC=>?_) (.inr rfl)
          refine done ?_
          refine Yo (X6 hN_ hnb_b13104 hBB_) hN_ (l9:=(Za 22 522227)) (by kernel_rfl) (fun hN_=>?_)
          refine bMR (Y7 _) 19 (.map (some b13)) rfl hM10 (Za 22 1046515) (aO 2 rfl ?_)
          refine Jr hC 0 (s10.1.set i10 (Zxa.wrap ((q10.1.get i10) - 1))) 1 rfl Xw ZG1 rfl rfl rfl (fun w68 hBB_ hC=>?_) (.inr rfl)
          refine done ?_
          refine Yo (X6 hN_ hnb_b13107 hBB_) hN_ (l9:=(Za 22 1046519)) (by kernel_rfl) (fun hN_=>?_)
          refine bMR (Y7 _) 3 (.map (some b18)) rfl hM10 (Za 22 1046527) (aO 11 rfl (Zf [.map (some b18),u0_0,.map (some b10)] _ ZIt rfl rfl rfl (X0 (Yc ([]:List (A8×Int)) (s10.1.set i10 (Zxa.wrap ((q10.1.get i10) - 1))) 1) a0.degrees ml10 h _ (hC.getM 0 rfl) (hC.getP 4 rfl) (hC.getP 0 rfl)) ?_))
          rintro _ w69 ⟨r30,b40,rfl,h,hr28,hf27,hB29⟩
          refine rt ?_
          replace hC:=hC.push hB29 (mapS b40 r30) hr28 (fun b_ hb_=>by obtain rfl:=Zwj.1 hb_; exact hf27)
          refine done ?_
          refine Yo (Xm hN_ (by assumption)) hN_ (l9:=(Za 22 1048575)) (by kernel_rfl) (fun hN_=>?_)
          refine Z2 20 (by decide) (by decide) (by kernel_rfl) (by kernel_rfl) rfl (Zf [.map (some b40),u0_0,.map (some b13)] _ ZIt rfl rfl rfl (X0 r30 a0.degrees (Yc ([]:List (A8×Int)) s11.1 1) h _ (hC.getM 0 rfl) (hC.getP 4 rfl) (hC.getM 2 rfl)) ?_)
          rintro _ w70 ⟨r31,b28,rfl,h,hr29,hf28,hB30⟩
          refine rt ?_
          replace hC:=hC.push hB30 (mapS b28 r31) hr29 (fun b_ hb_=>by obtain rfl:=Zwj.1 hb_; exact hf28)
          refine Zc (v:=.map (some b28)) rfl (done (Z3 ?_))
          exact⟨rfl,_,rfl,⟨b28,r31,(slq rfl),((hC.xM [0,6,7,8,9,10] rfl).sP [1,2,3,4,5,6,7] rfl),h⟩⟩
        ·skip
         refine Jr hC 0 s11.1 1 rfl Xw ZG1 rfl rfl rfl (fun w71 hBB_ hC=>?_) (.inr rfl)
         refine done ?_
         refine Yo (X6 hN_ hnb_b13104 hBB_) hN_ (l9:=(Za 22 522226)) (by kernel_rfl) (fun hN_=>?_)
         refine bMR (Y7 _) 19 (.map (some b13)) rfl hM10 (Za 22 1046514) (aO 0 rfl (Zca hC (kvA .i64) (vvI .i64) fun b41 w72 hn_ hB_ hC=>?_))
         have hnb_b13170:=Zux hN_ hn_
         refine done ?_
         refine Yo (Xm hN_ (by assumption)) hN_ (l9:=(Za 22 1046515)) (by kernel_rfl) (fun hN_=>?_)
         refine aO 2 rfl ?_
         refine Jr hC 0 (s10.1.set i10 (Zxa.wrap ((q10.1.get i10) - 1))) 1 rfl Xw ZG1 rfl rfl rfl (fun w73 hBB_ hC=>?_) (.inr rfl)
         refine done ?_
         refine Yo (X6 hN_ hnb_b13170 hBB_) hN_ (l9:=(Za 22 1046519)) (by kernel_rfl) (fun hN_=>?_)
         refine bMR (Y7 _) 3 (.map (some b41)) rfl hM10 (Za 22 1046527) (aO 11 rfl (Zf [.map (some b41),u0_0,.map (some b10)] _ ZIt rfl rfl rfl (X0 (Yc ([]:List (A8×Int)) (s10.1.set i10 (Zxa.wrap ((q10.1.get i10) - 1))) 1) a0.degrees ml10 h _ (hC.getM 0 rfl) (hC.getP 4 rfl) (hC.getP 0 rfl)) ?_))
         rintro _ w74 ⟨r32,b42,rfl,h,hr30,hf29,hB31⟩
         refine rt ?_
         replace hC:=hC.push hB31 (mapS b42 r32) hr30 (fun b_ hb_=>by obtain rfl:=Zwj.1 hb_; exact hf29)
         refine done ?_
         refine Yo (Xm hN_ (by assumption)) hN_ (l9:=(Za 22 1048575)) (by kernel_rfl) (fun hN_=>?_)
         refine Z2 20 (by decide) (by decide) (by kernel_rfl) (by kernel_rfl) rfl (Zf [.map (some b42),u0_0,.map (some b13)] _ ZIt rfl rfl rfl (X0 r32 a0.degrees (Yc ([]:List (A8×Int)) s11.1 1) h _ (hC.getM 0 rfl) (hC.getP 4 rfl) (hC.getM 2 rfl)) ?_)
         rintro _ w75 ⟨r33,b29,rfl,h,hr31,hf30,hB32⟩
         refine rt ?_
         replace hC:=hC.push hB32 (mapS b29 r33) hr31 (fun b_ hb_=>by obtain rfl:=Zwj.1 hb_; exact hf30)
         refine Zc (v:=.map (some b29)) rfl (done (Z3 ?_))
         exact⟨rfl,_,rfl,⟨b29,r33,(slq rfl),((hC.xM [0,6,7,8,9,10] rfl).sP [1,2,3,4,5,6,7] rfl),h⟩⟩
     ·skip
      exact⟨(slq rfl),hC⟩
    ·replace h:=Zk h (cf hb14)
     refine ZF8 (Zd (sr (Zb (v:=vI (i10:Int)) rfl (Zb (v:=vI (q10.1.get i10)) rfl (Y6 i10 ZGs sc3.size rfl rfl (ZGm _) (by omega) (by omega) (Zo (v:=vI (q10.1.get i10)) hC 0 [vI (q10.1.get i10)] (ZF3 .i64 (s10.1.set i10 (q10.1.get i10))) rfl sc3.size rfl rfl rfl rfl rfl hi10 (ZGz _ _ _ hi10) fun w76 hC=>dn (sr (Zb (v:=vI (i10:Int)) rfl (Zb (v:=vQ b0) rfl (Zan rfl (Zx 0 ZGp rfl sc22.size rfl rfl (Za1 (u0_0) (hC.getP 5 rfl) sc22 rfl rfl (Zv hC 3 rfl ZGo rfl (Zn rfl rfl (Zb (v:=.bool (decide ((i10:Int) < (a0.degrees.length:Int)))) rfl ?_)))))))))))))))
     refine Y1 (decide ((i10:Int) < (a0.degrees.length:Int))) (fun hb11=>?_) (fun hb11=>?_)
     ·replace h:=ift h (ct hb11)
      refine Zi 7 87 rfl rfl hb11 (Zb (v:=vQ b0) rfl (Zi 7 87 rfl rfl hb11 (Zan rfl (Zi 7 87 rfl rfl hb11 (Zx 0 ZGp rfl sc22.size rfl rfl (Zi 7 87 rfl rfl hb11 (Za1 (u0_0) (hC.getP 5 rfl) sc22 rfl rfl (Zi 7 87 rfl rfl hb11 (Zb (v:=vI (i10:Int)) rfl (Zi 7 87 rfl rfl hb11 ?_))))))))))
      obtain ⟨⟨h14,h15⟩,h⟩:=h
      obtain ⟨Ad11,c11,hv11⟩:=Zz (hC.getP 3 rfl) i10 (show i10 < a0.degrees.length by omega)
      refine Yq (len:=a0.degrees.length) ZGo sc2.size (tr rfl hv11) rfl h14 h15 (Zi 7 87 rfl rfl hb11 (Xb (vI (a0.degrees.getD i10 Zuw)) (Yf (hC.getP 3 rfl) hv11 i10 (show i10 < a0.degrees.length by omega)) sc2 rfl (Zi 7 87 rfl rfl hb11 (Jp rfl rfl (by decide) (Zi 7 87 rfl rfl hb11 (Je rfl rfl (Z0 (v:=.bool (decide (Zvh (a0.degrees.getD i10 Zuw) 2=1))) (b:=true) (tr rfl (congrArg _ hb11)) rfl (Zb (v:=.bool (decide (Zvh (a0.degrees.getD i10 Zuw) 2=1))) rfl ?_))))))))
      refine Y1 (decide (Zvh (a0.degrees.getD i10 Zuw) 2=1)) (fun hb13=>?_) (fun hb13=>?_)
      ·replace h:=ift h (ct hb13)
       refine Zi 18 98 rfl rfl hb13 (Zb (v:=vI (q10.1.get i10)) rfl (Zi 18 98 rfl rfl hb13 (Jp rfl rfl (by decide) (Zi 18 98 rfl rfl hb13 (Je rfl rfl (Z0 (v:=.bool (decide (Zvh (q10.1.get i10) 2=1))) (b:=true) (tr rfl (congrArg _ hb13)) rfl (dn ?_)))))))
       refine Zq rfl (fun hb17=>?_) (fun hb17=>?_)
       ·replace h:=ift h (ct hb17)
        refine Zm (Zb (v:=vI s10.2.2) rfl (Zf0 rfl (Zc (v:=vI (Zxa.wrap (0 - s10.2.2))) rfl (done (Zs (Zd (Zm (Zp rfl rfl (Zb (v:=vI (Zxa.wrap ((i10:Int)+1))) rfl (done ?_))))))))))
        exact hK10 (s10.1.set i10 (q10.1.get i10),s10.2.1,Zxa.wrap (0 - s10.2.2)) _ _ ⟨(sl ⟨rfl,rfl,rfl,rfl,rfl,rfl,rfl,rfl,rfl,(tr rfl (congrArg _ (Z6 hi10 (by decide)))),trivial⟩),hC⟩ h
       ·replace h:=Zk h (cf hb17)
        refine ZF8 (Zs (Zd (Zm (Zp rfl rfl (Zb (v:=vI (Zxa.wrap ((i10:Int)+1))) rfl (done ?_))))))
        exact hK10 (s10.1.set i10 (q10.1.get i10),s10.2.1,s10.2.2) _ _ ⟨(sl ⟨rfl,rfl,rfl,rfl,rfl,rfl,rfl,rfl,rfl,(tr rfl (congrArg _ (Z6 hi10 (by decide)))),trivial⟩),hC⟩ h
      ·replace h:=Zk h (cf hb13)
       refine Zh (b:=false) 18 98 rfl (tr rfl (congrArg _ hb13)) (by decide) (Zh (b:=false) 18 98 rfl (tr rfl (congrArg _ hb13)) (by decide) (Zh (b:=false) 18 98 rfl (tr rfl (congrArg _ hb13)) (by decide) (Z0 (v:=.bool false) (b:=false) (tr rfl (congrArg _ hb13)) rfl (dn (Z9 rfl rfl (ZF8 (Zs (Zd (Zm (Zp rfl rfl (Zb (v:=vI (Zxa.wrap ((i10:Int)+1))) rfl (done ?_))))))))))))
       exact hK10 (s10.1.set i10 (q10.1.get i10),s10.2.1,s10.2.2) _ _ ⟨(sl ⟨rfl,rfl,rfl,rfl,rfl,rfl,rfl,rfl,rfl,(tr rfl (congrArg _ (Z6 hi10 (by decide)))),trivial⟩),hC⟩ h
     ·replace h:=Zk h (cf hb11)
      refine Zh (b:=false) 7 87 rfl (tr rfl (congrArg _ hb11)) (by decide) (Zh (b:=false) 7 87 rfl (tr rfl (congrArg _ hb11)) (by decide) (Zh (b:=false) 7 87 rfl (tr rfl (congrArg _ hb11)) (by decide) (Zh (b:=false) 7 87 rfl (tr rfl (congrArg _ hb11)) (by decide) (Zh (b:=false) 7 87 rfl (tr rfl (congrArg _ hb11)) (by decide) (Zh (b:=false) 7 87 rfl (tr rfl (congrArg _ hb11)) (by decide) (Zh (b:=false) 7 87 rfl (tr rfl (congrArg _ hb11)) (by decide) (Zh (b:=false) 7 87 rfl (tr rfl (congrArg _ hb11)) (by decide) (Zh (b:=false) 7 87 rfl (tr rfl (congrArg _ hb11)) (by decide) (Z0 (v:=.bool false) (b:=false) (tr rfl (congrArg _ hb11)) rfl (Zb (v:=.bool false) rfl (Zh (b:=false) 18 98 rfl (tr rfl (congrArg _ rfl)) (by decide) (Zh (b:=false) 18 98 rfl (tr rfl (congrArg _ rfl)) (by decide) (Zh (b:=false) 18 98 rfl (tr rfl (congrArg _ rfl)) (by decide) (Z0 (v:=.bool false) (b:=false) rfl rfl (dn (Z9 rfl rfl (ZF8 (Zs (Zd (Zm (Zp rfl rfl (Zb (v:=vI (Zxa.wrap ((i10:Int)+1))) rfl (done ?_)))))))))))))))))))))))
      exact hK10 (s10.1.set i10 (q10.1.get i10),s10.2.1,s10.2.2) _ _ ⟨(sl ⟨rfl,rfl,rfl,rfl,rfl,rfl,rfl,rfl,rfl,(tr rfl (congrArg _ (Z6 hi10 (by decide)))),trivial⟩),hC⟩ h
   ·clear hC h
    rintro s10 e_ w77 K10 ⟨hS_,hC⟩ h
    rw [ue hS_]
    refine sr (Zn rfl rfl (dn (ZF5 (Z9 rfl (decide_eq_false (by omega)) ?_))))
    refine ZGj (Zl (Zl (Z5 ?_)))
    refine Zs ?_
    exact hK11 q10 l10 s10.2.1 _ _ hp10 ⟨(some ent10),(slq rfl),(hC.xM [2,3,4] rfl)⟩ h
   ·skip
    exact⟨(slq rfl),hC⟩
 ·skip
  exact⟨none,(slq rfl),(hC.sP [0,2,3,4,5,6,7] rfl)⟩
def Zex (a0:A8) (K:A8→Prop):Prop :=
 Yi (fun i10 (s10:A8) nx10=>nx10 (s10.set i10 (a0.get i10))) (fun (s10:A8)=>K s10) 8 0 ZGa
theorem Zpz (a0:A8)  {K:A8→Prop} (h:Zex a0 K) (w0:World)  :
  Calls ZF7 101 #[.agg (ZF4 (ZF3 .u8 a0))] w0 fun e w'=>∃ (r0:A8),
   e=.returned (.agg (ZF4 (ZF3 .u8 r0)))∧K r0∧Bel w0 w':=by
 unfold Zex at h
 refine cof Tryz.func101 rfl 15 Tryz.ntmps101 ?_
 have hC:=ZGq (X:=Nox) w0 [] (by simp)
 refine sr (Yj (v:=.agg (ZF4 (ZF3 .u8 a0))) hC (ZF3 .u8 a0) rfl rfl fun b1 w3 hB_ hC=>Z1 hC (ZF3 .u8 ZGa) z88 rfl fun b4 w6 hB_ hC=>dn (sr (Z1 hC (ZF3 .u8 ZGa) z88 rfl fun b7 w9 hB_ hC=>dn (ZF5 (sr (Zc (v:=vI 0) rfl (dn (ZGb ?_))))))))
 refine Yn (S:=A8) _ _ (fun i10 s10 e_ w_=>Zy e_ [(1,vQ b1),(2,vQ b4),(3,vQ b7),(4,vI (i10:Int))]∧Ctx Nox w0 w_ [blk b7 88 (ZF3 .u8 s10),blk b4 88 (ZF3 .u8 ZGa),blk b1 87 (ZF3 .u8 a0)] []) 8 ?_ ?_ (s0:=ZGa) ?_ h
 ·clear hC h
  rintro i10 s10 e_ w10 nx10 K10 hi10 ⟨hS_,hC⟩ h hK10
  rw [ue hS_]
  refine ZF5 (sr (Zb (v:=vI (i10:Int)) rfl (Zn rfl rfl (dn (Z8 rfl (decide_eq_true (by omega)) (ZF8 (Zd (ZF5 (ZGb (Zm (Zb (v:=vI (i10:Int)) rfl (Zb (v:=vI (i10:Int)) rfl (Y6 i10 Tryz.underlying87 sc5.size rfl rfl (ZGm _) (by omega) (by omega) (Z4 hC 2 (.int .u8 (a0.get i10)) rfl sc5 rfl (ZGi _ _ hi10) (Y6 i10 ZGn sc5.size rfl rfl (ZGm _) (by omega) (by omega) (Zo (v:=.int .u8 (a0.get i10)) hC 0 [.int .u8 (a0.get i10)] (ZF3 .u8 (s10.set i10 (a0.get i10))) rfl sc5.size rfl rfl rfl rfl rfl hi10 (ZGz _ _ _ hi10) fun w11 hC=>done (Zs (Zd (Zm (Zb (v:=vI (i10:Int)) rfl (Zp rfl rfl (Zc (v:=vI (Zxa.wrap ((i10:Int)+1))) rfl (done ?_)))))))))))))))))))))))
  exact hK10 (s10.set i10 (a0.get i10)) _ _ ⟨(sl ⟨rfl,rfl,rfl,(tr rfl (congrArg _ (Z6 hi10 (by decide)))),trivial⟩),hC⟩ h
 ·clear hC h
  rintro s10 e_ w12 K10 ⟨hS_,hC⟩ h
  rw [ue hS_]
  refine ZF5 (sr (Zb (v:=vI 8) rfl (Zn rfl rfl (dn (Z9 rfl (decide_eq_false (by omega)) ?_)))))
  refine ZGj (Zl (Zl (Z5 ?_)))
  refine Zd (sr (Yb hC 0 (ZF3 .u8 s10) rfl ag88 rfl rfl rfl (Zo (v:=.agg (ZF4 (ZF3 .u8 s10))) hC 1 (ZF3 .u8 s10) (ZF3 .u8 s10) rfl ag88.size rfl rfl rfl rfl rfl (ZGe rfl) rfl fun w13 hC=>dn (ZGd ?_))))
  exact Zj rfl (Y2 hC 1 rfl ag88 rfl rfl) ⟨s10,rfl,h,hC.below⟩ (.inl rfl)
 ·skip
  exact⟨(slq rfl),hC⟩
def Za7 (a0:List Int) (K:List Int→Prop):Prop :=
 ((0≤(a0.length:Int)∧(a0.length:Int) * 8≤281474976710656)∧Yi (fun i10 (s10:(List Int)) nx10=>((0≤(i10:Int)∧(i10:Int) < (s10.length:Int))∧nx10 (s10.set i10 (a0.getD i10 Zuw)))) (fun (s10:(List Int))=>K s10) a0.length 0 (Zur ((a0.length:Int).toNat) (0:Int)))
theorem Zey (a0:List Int)  {K:List Int→Prop} (h:Za7 a0 K) (w0:World) (q0:ZIv.rep a0 [u0_0] fp0 w0) :
  Calls ZF7 18 #[u0_0] w0 fun e w'=>∃ (r0:List Int) (z0_0:Value) (fz0:List Nat),
   e=.returned (z0_0)∧K r0∧(ZGk (Tr.sl 2 (eI.tr)) r0 [z0_0] fz0).holds w'∧(∀ b,b∈fz0→w0.heap.size≤b)∧Bel w0 w':=by
 unfold Za7 at h
 refine cof Tryz.func18 rfl 22 Tryz.ntmps18 ?_
 have hC:=ZGq (X:=Nox) w0 [ZCh TInts a0 [u0_0] fp0] (al1 q0)
 refine sr (Zc (v:=.slice none 0 0) rfl (dn (sr (Zb (v:=u0_0) rfl (Zv hC 0 rfl ZGo rfl ?_)))))
 obtain ⟨hm7,h⟩:=h
 refine Zb0 (sz:=1) hC (eI.encs (Zur ((a0.length:Int).toNat) (0:Int))) ZGo el2 (tr rfl (congrArg (ZI3 .i64) (ZI4 hm7.1).symm)) (tr rfl (congrArg (ZI3 .i64) (ZI4 hm7.1).symm)) (by omega) (by omega) (Zd6 (E:=eI) _ _) fun v5 w6 hB_ hC=>?_
 replace hC:=Jm hC 0 ((Zur ((a0.length:Int).toNat) (0:Int)).length) (eI.encs (Zur ((a0.length:Int).toNat) (0:Int))) rfl (by simp) rfl
 refine Zc (v:=v5) rfl (dn (ZF5 (sr (Zc (v:=vI 0) rfl (dn (ZGb ?_))))))
 have hN10:a0.length≤9223372036854775807:=Y3 (hC.getP 0 rfl)
 refine Yn (S:=(List Int)) _ _ (fun i10 s10 e_ w_=>∃ (v10:Value),Zy e_ [(0,u0_0),(3,v10),(4,vI (i10:Int))]∧Ctx Nox w0 w_ [own 2 1 v10 s10.length (eI.encs s10)] [ZCh TInts a0 [u0_0] fp0]) a0.length ?_ ?_ (s0:=(Zur ((a0.length:Int).toNat) (0:Int))) ?_ h
 ·clear hC h
  rintro i10 s10 e_ w10 nx10 K10 hi10 ⟨v10,hS_,hC⟩ h hK10
  rw [ue hS_]
  refine ZF5 (sr (Zb (v:=vI (i10:Int)) rfl (Zb (v:=u0_0) rfl (Zv hC 0 rfl ZGo rfl (Zn rfl rfl (dn (Z8 rfl (decide_eq_true (by omega)) (ZF8 (Zd (ZF5 (ZGb (Zm (Zb (v:=v10) rfl (Zb (v:=vI (i10:Int)) rfl (Zb (v:=u0_0) rfl (Zb (v:=vI (i10:Int)) rfl ?_))))))))))))))))
  obtain ⟨Ad10,c10,hv10⟩:=Zz (hC.getP 0 rfl) i10 hi10
  refine Yq (len:=a0.length) ZGo sc2.size (tr rfl hv10) rfl (ZGm _) (ZG4.2 hi10) (Xb (vI (a0.getD i10 Zuw)) (Yf (hC.getP 0 rfl) hv10 i10 hi10) sc2 rfl ?_)
  obtain ⟨⟨h10,h11⟩,h⟩:=h
  obtain ⟨Ad11,c11,hv11⟩:=Za0 (hC.getM 0 rfl) (ZI0 (Zvp _) (show i10 < s10.length by omega))
  refine Zaq (i10 * 1) ZGo sc2.size (tr rfl hv11) rfl h10 h11 rfl (Zb1 (v:=vI (a0.getD i10 Zuw)) hC 0 [vI (a0.getD i10 Zuw)] (eI.encs (s10.set i10 (a0.getD i10 Zuw))) rfl hv11 sc2.size rfl rfl rfl rfl rfl (by rw [ZI5]; exact J6 (sz:=1) (show i10 < s10.length by omega)) (Zd5 _ _ _ (show i10 < s10.length by omega)) fun w11 hC=>?_)
  replace hC:=Jm hC 0 ((s10.set i10 (a0.getD i10 Zuw)).length) (eI.encs (s10.set i10 (a0.getD i10 Zuw))) rfl (by simp) rfl
  refine done (Zs (Zd (Zm (Zb (v:=vI (i10:Int)) rfl (Zp rfl rfl (Zc (v:=vI (Zxa.wrap ((i10:Int)+1))) rfl (done ?_)))))))
  exact hK10 (s10.set i10 (a0.getD i10 Zuw)) _ _ ⟨v10,(sl ⟨rfl,rfl,(tr rfl (congrArg _ (Z6 hi10 hN10))),trivial⟩),hC⟩ h
 ·clear hC h
  rintro s10 e_ w12 K10 ⟨v10,hS_,hC⟩ h
  rw [ue hS_]
  refine ZF5 (sr (Zb (v:=vI (a0.length:Int)) rfl (Zb (v:=u0_0) rfl (Zv hC 0 rfl ZGo rfl (Zn rfl rfl (dn (Z9 rfl (decide_eq_false (by omega)) ?_)))))))
  refine ZGj (Zl (Zl (Z5 ?_)))
  refine Zd (sr (Zb (v:=v10) rfl (Zc (v:=v10) rfl (dn (ZGd ?_)))))
  exact Zj rfl (Zg rfl) ⟨s10,v10,(ZG2 (Zvi v10)),rfl,h,(Jc (hC.getM 0 rfl)),(X3 hC 0 rfl),hC.below⟩ (.inl rfl)
 ·skip
  exact⟨v5,(slq rfl),hC⟩
def Zez (a0:A8) (a1:A8) (K:Bool→Prop):Prop :=
 Yi (fun i10 (s10:Unit) nx10=>(if a0.get i10≠a1.get i10 then K false else nx10 ())) (fun (s10:Unit)=>K true) 8 0 ()
theorem Zp0 (a0:A8) (a1:A8)  {K:Bool→Prop} (h:Zez a0 a1 K) (w0:World)  :
  Calls ZF7 105 #[.agg (ZF4 (ZF3 .u8 a0)),.agg (ZF4 (ZF3 .u8 a1))] w0 fun e w'=>∃ (r0:Bool),
   e=.returned (.bool r0)∧K r0∧Bel w0 w':=by
 unfold Zez at h
 refine cof Tryz.func105 rfl 17 Tryz.ntmps105 ?_
 have hC:=ZGq (X:=Nox) w0 [] (by simp)
 refine sr (Yj (v:=.agg (ZF4 (ZF3 .u8 a0))) hC (ZF3 .u8 a0) rfl rfl fun b1 w3 hB_ hC=>Yj (v:=.agg (ZF4 (ZF3 .u8 a1))) hC (ZF3 .u8 a1) rfl rfl fun b4 w6 hB_ hC=>Zc (v:=.bool false) rfl (dn (ZF5 (sr (Zc (v:=vI 0) rfl (dn (ZGb ?_)))))))
 refine Yn (S:=Unit) _ _ (fun i10 s10 e_ w_=>Zy e_ [(2,vQ b1),(3,vQ b4),(5,vI (i10:Int))]∧Ctx Nox w0 w_ [blk b4 88 (ZF3 .u8 a1),blk b1 88 (ZF3 .u8 a0)] []) 8 ?_ ?_ (s0:=()) ?_ h
 ·clear hC h
  rintro i10 s10 e_ w10 nx10 K10 hi10 ⟨hS_,hC⟩ h hK10
  rw [ue hS_]
  refine ZF5 (sr (Zb (v:=vI (i10:Int)) rfl (Zn rfl rfl (dn (Z8 rfl (decide_eq_true (by omega)) (ZF8 (Zd (ZF5 (ZGb (ZF5 ?_))))))))))
  refine cwd 6 mixed [0,1,3,0,8,24,63] [1,2,4,5] [0,3] (fun hM10 hM11 w11 hB_=>?_)
  replace hC:=hC.grow hB_
  refine bM 0 (vI (i10:Int)) rfl hM11 (Za 7 1) (bL 1 (.pointer (some ⟨b1,i10,none⟩)) rfl rfl hM10 (fun _ hB_=>by exact Jf i10 ZGn sc5.size rfl rfl (ZGm _) (by omega) (by omega)) (Za 7 3) (bL 2 (.int .u8 (a0.get i10)) rfl rfl hM10 (fun _ hB_=>by exact Yd (hC.grow hB_) 1 (.int .u8 (a0.get i10)) rfl sc5 rfl (ZGi _ _ hi10)) (Za 7 7) (bM 3 (vI (i10:Int)) rfl hM11 (Za 7 15) (bL 4 (.pointer (some ⟨b4,i10,none⟩)) rfl rfl hM10 (fun _ hB_=>by exact Jf i10 ZGn sc5.size rfl rfl (ZGm _) (by omega) (by omega)) (Za 7 31) (bL 5 (.int .u8 (a1.get i10)) rfl rfl hM10 (fun _ hB_=>by exact Yd (hC.grow hB_) 0 (.int .u8 (a1.get i10)) rfl sc5 rfl (ZGi _ _ hi10)) (Za 7 63) (Z2 6 (by decide) (by decide) (by kernel_rfl) (by kernel_rfl) rfl (Y4 rfl rfl (done (Z3 (Zd ?_))))))))))
  refine Zq rfl (fun hb10=>?_) (fun hb10=>?_)
  ·replace h:=ift h (ct hb10)
   refine sr (Zc (v:=.bool false) rfl (dn ?_))
   refine ZGd (Zw (Ze (Ze (Zw (Ze ?_)))))
   exact Zj rfl (Zg rfl) ⟨false,rfl,h,hC.below⟩ (.inl rfl)
  ·replace h:=Zk h (cf hb10)
   refine ZF8 (Zs (Zd (Zm (Zb (v:=vI (i10:Int)) rfl (Zp rfl rfl (Zc (v:=vI (Zxa.wrap ((i10:Int)+1))) rfl (done ?_)))))))
   exact hK10 () _ _ ⟨(sl ⟨rfl,rfl,(tr rfl (congrArg _ (Z6 hi10 (by decide)))),trivial⟩),hC⟩ h
 ·clear hC h
  rintro s10 e_ w12 K10 ⟨hS_,hC⟩ h
  rw [ue hS_]
  refine ZF5 (sr (Zb (v:=vI 8) rfl (Zn rfl rfl (dn (Z9 rfl (decide_eq_false (by omega)) ?_)))))
  refine ZGj (Zl (Zl (Z5 ?_)))
  refine Zd (sr (Zc (v:=.bool true) rfl (dn (ZGd ?_))))
  exact Zj rfl (Zg rfl) ⟨true,rfl,h,hC.below⟩ (.inl rfl)
 ·skip
  exact⟨(slq rfl),hC⟩
def Zcg (a0:List Int) (a1:List Int) (K:Bool→Prop):Prop :=
 (if(a0.length:Int)≠(a1.length:Int) then K false else Yi (fun i10 (s10:Unit) nx10=>((0≤(i10:Int)∧(i10:Int) < (a1.length:Int))∧(if a0.getD i10 Zuw≠a1.getD i10 Zuw then K false else nx10 ()))) (fun (s10:Unit)=>K true) a0.length 0 ())
theorem Zk9 (a0:List Int) (a1:List Int)  {K:Bool→Prop} (h:Zcg a0 a1 K) (w0:World) (q0:ZIv.rep a0 [u0_0] fp0 w0) (q1:ZIv.rep a1 [u1_0] fp1 w0) :
  Calls ZF7 20 #[u0_0,u1_0] w0 fun e w'=>∃ (r0:Bool),
   e=.returned (.bool r0)∧K r0∧Bel w0 w':=by
 unfold Zcg at h
 refine cof Tryz.func20 rfl 26 Tryz.ntmps20 ?_
 have hC:=ZGq (X:=Nox) w0 [ZCh TInts a0 [u0_0] fp0,ZCh TInts a1 [u1_0] fp1] (alc q0 (al1 q1))
 refine sr (Zc (v:=.bool false) rfl (dn (ZF5 (sr (Zb (v:=u0_0) rfl (Zv hC 0 rfl ZGo rfl (Zb (v:=u1_0) rfl (Zv hC 1 rfl ZGo rfl (Y4 rfl rfl (dn ?_))))))))))
 refine Zq rfl (fun hb9=>?_) (fun hb9=>?_)
 ·replace h:=ift h (ct hb9)
  refine sr (Zc (v:=.bool false) rfl (dn ?_))
  refine ZGd (Ze ?_)
  exact Zj rfl (Zg rfl) ⟨false,rfl,h,hC.below⟩ (.inl rfl)
 ·replace h:=Zk h (cf hb9)
  refine ZF8 (Zd (ZF5 (sr (Zc (v:=vI 0) rfl (dn (ZGb ?_))))))
  have hN10:a0.length≤9223372036854775807:=Y3 (hC.getP 0 rfl)
  refine Yn (S:=Unit) _ _ (fun i10 s10 e_ w_=>Zy e_ [(0,u0_0),(1,u1_0),(5,vI (i10:Int))]∧Ctx Nox w0 w_ [] [ZCh TInts a0 [u0_0] fp0,ZCh TInts a1 [u1_0] fp1]) a0.length ?_ ?_ (s0:=()) ?_ h
  ·clear hC h
   rintro i10 s10 e_ w10 nx10 K10 hi10 ⟨hS_,hC⟩ h hK10
   rw [ue hS_]
   refine ZF5 (sr (Zb (v:=vI (i10:Int)) rfl (Zb (v:=u0_0) rfl (Zv hC 0 rfl ZGo rfl (Zn rfl rfl (dn (Z8 rfl (decide_eq_true (by omega)) (ZF8 (Zd (ZF5 (ZGb (ZF5 ?_))))))))))))
   refine cwd 8 mixed [0,0,3,7,0,0,48,112,255] [2,3,6,7] [0,1,4,5] (fun hM10 hM11 w11 hB_=>?_)
   replace hC:=hC.grow hB_
   refine bM 0 (u0_0) rfl hM11 (Za 9 1) (bM 1 (vI (i10:Int)) rfl hM11 (Za 9 3) ?_)
   obtain ⟨Ad10,c10,hv10⟩:=Zz (hC.getP 0 rfl) i10 hi10
   refine bL 2 (.pointer (some (Ad10.add (i10 * 1)))) rfl rfl hM10 (fun _ hB_=>by exact Yw (len:=a0.length) ZGo sc2.size (by exact tr rfl hv10) rfl (ZGm _) (ZG4.2 hi10)) (Za 9 7) (bL 3 (vI (a0.getD i10 Zuw)) rfl rfl hM10 (fun _ hB_=>by exact Jw (vI (a0.getD i10 Zuw)) (Yf ((hC.grow hB_).getP 0 rfl) hv10 i10 hi10) sc2 rfl) (Za 9 15) (bM 4 (u1_0) rfl hM11 (Za 9 31) (bM 5 (vI (i10:Int)) rfl hM11 (Za 9 63) ?_)))
   obtain ⟨⟨h10,h11⟩,h⟩:=h
   obtain ⟨Ad11,c11,hv11⟩:=Zz (hC.getP 1 rfl) i10 (show i10 < a1.length by omega)
   refine bL 6 (.pointer (some (Ad11.add (i10 * 1)))) rfl rfl hM10 (fun _ hB_=>by exact Yw (len:=a1.length) ZGo sc2.size (by exact tr rfl hv11) rfl h10 h11) (Za 9 127) (bL 7 (vI (a1.getD i10 Zuw)) rfl rfl hM10 (fun _ hB_=>by exact Jw (vI (a1.getD i10 Zuw)) (Yf ((hC.grow hB_).getP 1 rfl) hv11 i10 (show i10 < a1.length by omega)) sc2 rfl) (Za 9 255) (Z2 8 (by decide) (by decide) (by kernel_rfl) (by kernel_rfl) rfl (Y4 rfl rfl (done (Z3 (Zd ?_))))))
   refine Zq rfl (fun hb10=>?_) (fun hb10=>?_)
   ·replace h:=ift h (ct hb10)
    refine sr (Zc (v:=.bool false) rfl (dn ?_))
    refine ZGd (Zw (Ze (Ze (Zw (Ze ?_)))))
    exact Zj rfl (Zg rfl) ⟨false,rfl,h,hC.below⟩ (.inl rfl)
   ·replace h:=Zk h (cf hb10)
    refine ZF8 (Zs (Zd (Zm (Zb (v:=vI (i10:Int)) rfl (Zp rfl rfl (Zc (v:=vI (Zxa.wrap ((i10:Int)+1))) rfl (done ?_)))))))
    exact hK10 () _ _ ⟨(sl ⟨rfl,rfl,(tr rfl (congrArg _ (Z6 hi10 hN10))),trivial⟩),hC⟩ h
  ·clear hC h
   rintro s10 e_ w12 K10 ⟨hS_,hC⟩ h
   rw [ue hS_]
   refine ZF5 (sr (Zb (v:=vI (a0.length:Int)) rfl (Zb (v:=u0_0) rfl (Zv hC 0 rfl ZGo rfl (Zn rfl rfl (dn (Z9 rfl (decide_eq_false (by omega)) ?_)))))))
   refine ZGj (Zl (Zl (Z5 ?_)))
   refine Zd (sr (Zc (v:=.bool true) rfl (dn (ZGd ?_))))
   exact Zj rfl (Zg rfl) ⟨true,rfl,h,hC.below⟩ (.inl rfl)
  ·skip
   exact⟨(slq rfl),hC⟩
def Ze0 (a0:Term) (K:Term→Prop):Prop :=
 Zex a0.mono (fun r10=>K (⟨r10,a0.factor⟩:Term))
theorem Zp1 (a0:Term)  {K:Term→Prop} (h:Ze0 a0 K) (w0:World)  :
  Calls ZF7 84 #[.agg (ZF4 (ZGg a0))] w0 fun e w'=>∃ (r0:Term),
   e=.returned (.agg (ZF4 (ZGg r0)))∧K r0∧Bel w0 w':=by
 unfold Ze0 at h
 refine cof Tryz.func84 rfl 12 Tryz.ntmps84 ?_
 have hC:=ZGq (X:=Nox) w0 [] (by simp)
 refine sr (Yj (v:=.agg (ZF4 (ZGg a0))) hC (ZGg a0) rfl rfl fun b1 w3 hB_ hC=>Z1 hC (ZGg (⟨ZGa,0⟩:Term)) z90 rfl fun b4 w6 hB_ hC=>dn (sr (Z1 hC (ZGg (⟨ZGa,0⟩:Term)) z90 rfl fun b7 w9 hB_ hC=>dn (sr (Zx 0 Tryz.underlying122 rfl ag87.size rfl rfl (Yb hC 2 (ZF3 .u8 a0.mono) rfl ag87 rfl rfl rfl (Zf [.agg (ZF4 (ZF3 .u8 a0.mono))] _ Tryz.func101 rfl rfl rfl (Zpz a0.mono h _) ?_)))))))
 rintro _ w10 ⟨r10,rfl,h,hB10⟩
 refine rt ?_
 replace hC:=hC.grow hB10
 refine Zx 0 ZGl rfl ag88.size rfl rfl (Zo (v:=.agg (ZF4 (ZF3 .u8 r10))) hC 0 (ZF3 .u8 r10) (ZGg (⟨r10,0⟩:Term)) rfl ag88.size rfl rfl rfl rfl rfl (ZGe rfl) rfl fun w11 hC=>dn (sr (Zx 8 Tryz.underlying122 rfl sc2.size rfl rfl (Z4 hC 2 (vI a0.factor) rfl sc2 rfl rfl (Zx 8 ZGl rfl sc2.size rfl rfl (Zo (v:=vI a0.factor) hC 0 [vI a0.factor] (ZGg (⟨r10,a0.factor⟩:Term)) rfl sc2.size rfl rfl rfl rfl rfl (ZGe rfl) rfl fun w12 hC=>dn (sr (Yb hC 0 (ZGg (⟨r10,a0.factor⟩:Term)) rfl ag90 rfl rfl rfl (Zo (v:=.agg (ZF4 (ZGg (⟨r10,a0.factor⟩:Term)))) hC 1 (ZGg (⟨r10,a0.factor⟩:Term)) (ZGg (⟨r10,a0.factor⟩:Term)) rfl ag90.size rfl rfl rfl rfl rfl (ZGe rfl) rfl fun w13 hC=>dn (ZGd ?_))))))))))
 exact Zj rfl (Y2 hC 1 rfl ag90 rfl rfl) ⟨(⟨r10,a0.factor⟩:Term),rfl,h,hC.below⟩ (.inl rfl)
def Ze1 (a0:List Term) (K:List Term→Prop):Prop :=
 ((0≤(a0.length:Int)∧(a0.length:Int) * 16≤281474976710656)∧Yi (fun i10 (s10:(List Term)) nx10=>Ze0 (a0.getD i10 Zuw) (fun r10=>((0≤(i10:Int)∧(i10:Int) < (s10.length:Int))∧nx10 (s10.set i10 r10)))) (fun (s10:(List Term))=>K s10) a0.length 0 (Zur ((a0.length:Int).toNat) ((⟨ZGa,0⟩:Term):Term)))
theorem Zp2 (a0:List Term)  {K:List Term→Prop} (h:Ze1 a0 K) (w0:World) (q0:ZF6.ty.sl.rep a0 [u0_0] fp0 w0) :
  Calls ZF7 62 #[u0_0] w0 fun e w'=>∃ (r0:List Term) (z0_0:Value) (fz0:List Nat),
   e=.returned (z0_0)∧K r0∧(ZGk (Tr.sl 90 ZF6.tr) r0 [z0_0] fz0).holds w'∧(∀ b,b∈fz0→w0.heap.size≤b)∧Bel w0 w':=by
 unfold Ze1 at h
 refine cof Tryz.func62 rfl 23 Tryz.ntmps62 ?_
 have hC:=ZGq (X:=Nox) w0 [ZCh ZF6.ty.sl a0 [u0_0] fp0] (al1 q0)
 refine sr (Zc (v:=.slice none 0 0) rfl (dn (sr (Zb (v:=u0_0) rfl (Zv hC 0 rfl ZI6 rfl ?_)))))
 obtain ⟨hm7,h⟩:=h
 refine Zb0 (sz:=9) hC (ZF6.encs (Zur ((a0.length:Int).toNat) ((⟨ZGa,0⟩:Term):Term))) ZGf Zde (tr rfl (congrArg (ZI3 .i64) (ZI4 hm7.1).symm)) (tr rfl (congrArg (ZI3 .i64) (ZI4 hm7.1).symm)) (by omega) (by omega) (Zd6 (E:=ETerm) _ _) fun v5 w6 hB_ hC=>?_
 replace hC:=Jm hC 0 ((Zur ((a0.length:Int).toNat) ((⟨ZGa,0⟩:Term):Term)).length) (ZF6.encs (Zur ((a0.length:Int).toNat) ((⟨ZGa,0⟩:Term):Term))) rfl (by simp) rfl
 refine Zc (v:=v5) rfl (dn (ZF5 (sr (Zc (v:=vI 0) rfl (dn (ZGb ?_))))))
 have hN10:a0.length≤9223372036854775807:=Y3 (hC.getP 0 rfl)
 refine Yn (S:=(List Term)) _ _ (fun i10 s10 e_ w_=>∃ (v10:Value),Zy e_ [(0,u0_0),(3,v10),(4,vI (i10:Int))]∧Ctx Nox w0 w_ [own 90 9 v10 s10.length (ZF6.encs s10)] [ZCh ZF6.ty.sl a0 [u0_0] fp0]) a0.length ?_ ?_ (s0:=(Zur ((a0.length:Int).toNat) ((⟨ZGa,0⟩:Term):Term))) ?_ h
 ·clear hC h
  rintro i10 s10 e_ w10 nx10 K10 hi10 ⟨v10,hS_,hC⟩ h hK10
  rw [ue hS_]
  refine ZF5 (sr (Zb (v:=vI (i10:Int)) rfl (Zb (v:=u0_0) rfl (Zv hC 0 rfl ZI6 rfl (Zn rfl rfl (dn (Z8 rfl (decide_eq_true (by omega)) (ZF8 (Zd (ZF5 (ZGb (Zm (Zb (v:=v10) rfl (Zb (v:=vI (i10:Int)) rfl (Zb (v:=u0_0) rfl (Zb (v:=vI (i10:Int)) rfl ?_))))))))))))))))
  obtain ⟨Ad10,c10,hv10⟩:=Zz (hC.getP 0 rfl) i10 hi10
  refine Yq (len:=a0.length) ZI6 ag122.size (tr rfl hv10) rfl (ZGm _) (ZG4.2 hi10) (Jv (ZGg (a0.getD i10 Zuw)) (Yf (hC.getP 0 rfl) hv10 i10 hi10) ag122 rfl rfl (Zf [.agg (ZF4 (ZGg (a0.getD i10 Zuw)))] _ Tryz.func84 rfl rfl rfl (Zp1 (a0.getD i10 Zuw) h _) ?_))
  rintro _ w11 ⟨r10,rfl,h,hB10⟩
  refine rt ?_
  replace hC:=hC.grow hB10
  obtain ⟨⟨h10,h11⟩,h⟩:=h
  obtain ⟨Ad11,c11,hv11⟩:=Za0 (hC.getM 0 rfl) (ZI0 (Zvp _) (show i10 < s10.length by omega))
  refine Zaq (i10 * 9) ZGf ag90.size (tr rfl hv11) rfl h10 h11 rfl (Zb1 (v:=.agg (ZF4 (ZGg r10))) hC 0 (ZGg r10) (ZF6.encs (s10.set i10 r10)) rfl hv11 ag90.size rfl rfl rfl rfl rfl (by rw [ZI5]; exact J6 (sz:=9) (show i10 < s10.length by omega)) (Zd5 _ _ _ (show i10 < s10.length by omega)) fun w12 hC=>?_)
  replace hC:=Jm hC 0 ((s10.set i10 r10).length) (ZF6.encs (s10.set i10 r10)) rfl (by simp) rfl
  refine done (Zs (Zd (Zm (Zb (v:=vI (i10:Int)) rfl (Zp rfl rfl (Zc (v:=vI (Zxa.wrap ((i10:Int)+1))) rfl (done ?_)))))))
  exact hK10 (s10.set i10 r10) _ _ ⟨v10,(sl ⟨rfl,rfl,(tr rfl (congrArg _ (Z6 hi10 hN10))),trivial⟩),hC⟩ h
 ·clear hC h
  rintro s10 e_ w13 K10 ⟨v10,hS_,hC⟩ h
  rw [ue hS_]
  refine ZF5 (sr (Zb (v:=vI (a0.length:Int)) rfl (Zb (v:=u0_0) rfl (Zv hC 0 rfl ZI6 rfl (Zn rfl rfl (dn (Z9 rfl (decide_eq_false (by omega)) ?_)))))))
  refine ZGj (Zl (Zl (Z5 ?_)))
  refine Zd (sr (Zb (v:=v10) rfl (Zc (v:=v10) rfl (dn (ZGd ?_)))))
  exact Zj rfl (Zg rfl) ⟨s10,v10,(ZG2 (Zvi v10)),rfl,h,(Jc (hC.getM 0 rfl)),(X3 hC 0 rfl),hC.below⟩ (.inl rfl)
 ·skip
  exact⟨v5,(slq rfl),hC⟩
def Ze2 (a0:ZF9) (K:ZF9→Prop):Prop :=
 Ze1 a0.terms (fun r10=>K (⟨r10⟩:ZF9))
theorem Zp3 (a0:ZF9)  {K:ZF9→Prop} (h:Ze2 a0 K) (w0:World) (q0:ZGr.rep a0 [u0_0] fp0 w0) :
  Calls ZF7 30 #[.agg #[u0_0]] w0 fun e w'=>∃ (r0:ZF9) (z0_0:Value) (fz0:List Nat),
   e=.returned (.agg #[z0_0])∧K r0∧(ZGk (Zr 90) r0 [z0_0] fz0).holds w'∧(∀ b,b∈fz0→w0.heap.size≤b)∧Bel w0 w':=by
 unfold Ze2 at h
 refine cof Tryz.func30 rfl 9 Tryz.ntmps30 ?_
 have hC:=ZGq (X:=Nox) w0 [ZCh TForm a0 [u0_0] fp0] (al1 q0)
 have hp2:=(hC.getP 0 rfl)
 replace hC:=hC.derive 0 rfl (ZCh ZF6.ty.sl a0.terms [u0_0] fp0) (fun _=>(Yx hp2)) (fun _ hb_=>hb_)
 refine sr (Yj (v:=.agg #[u0_0]) hC [u0_0] rfl rfl fun b4 w6 hB_ hC=>Z1 hC [.slice none 0 0] z55 rfl fun b7 w9 hB_ hC=>dn (sr (Z1 hC [.slice none 0 0] z55 rfl fun b10 w10 hB_ hC=>dn (sr (Zx 0 Tryz.underlying51 rfl sc49.size rfl rfl (Z4 hC 2 (u0_0) rfl sc49 rfl rfl (Zf [u0_0] _ Tryz.func62 rfl rfl rfl (Zp2 a0.terms h _ (hC.getP 0 rfl)) ?_)))))))
 rintro _ w11 ⟨r10,u10,f10,rfl,h,hr10,hf10,hB10⟩
 refine rt ?_
 replace hC:=hC.push hB10 (ZGk (Tr.sl 90 ZF6.tr) r10 [u10] f10) hr10 hf10
 obtain ⟨ho10,hf11⟩:=Zat (hC.getM 0 rfl).1
 subst hf11
 replace hC:=hC.recast (c:=own 90 9 u10 r10.length (ZF6.encs r10)) (fun _ h_=>h_) (fun _=>ho10)
 refine Zx 0 ZGc rfl sc53.size rfl rfl (Zo (v:=u10) hC 1 [u10] [u10] rfl sc53.size rfl rfl (Za2 (hC.getM 0 rfl)) rfl (Ye (Yr (hC.getM 0 rfl)) rfl) (ZGe rfl) rfl fun w12 hC=>dn (sr (Yb hC 1 [u10] rfl ag55 rfl rfl rfl (Zo (v:=.agg #[u10]) hC 2 [u10] [u10] rfl ag55.size rfl rfl rfl rfl (Ye (Yr (hC.getM 0 rfl)) rfl) (ZGe rfl) rfl fun w13 hC=>dn (ZGd ?_)))))
 exact Zj rfl (Y2 hC 2 rfl ag55 rfl rfl) ⟨(⟨r10⟩:ZF9),u10,(ZG2 (Zvi u10)),rfl,h,(X5 (Jc (hC.getM 0 rfl))),(X3 hC 0 rfl),hC.below⟩ (.inl rfl)
def Ze3 (a0:Term) (a1:Term) (K:Bool→Prop):Prop :=
 Zez a0.mono a1.mono (fun r10=>(if¬ (r10=true) then K false else(if a0.factor≠a1.factor then K false else K true)))
theorem Zp4 (a0:Term) (a1:Term)  {K:Bool→Prop} (h:Ze3 a0 a1 K) (w0:World)  :
  Calls ZF7 91 #[.agg (ZF4 (ZGg a0)),.agg (ZF4 (ZGg a1))] w0 fun e w'=>∃ (r0:Bool),
   e=.returned (.bool r0)∧K r0∧Bel w0 w':=by
 unfold Ze3 at h
 refine cof Tryz.func91 rfl 16 Tryz.ntmps91 ?_
 have hC:=ZGq (X:=Nox) w0 [] (by simp)
 refine sr (Yj (v:=.agg (ZF4 (ZGg a0))) hC (ZGg a0) rfl rfl fun b1 w3 hB_ hC=>Yj (v:=.agg (ZF4 (ZGg a1))) hC (ZGg a1) rfl rfl fun b4 w6 hB_ hC=>Zc (v:=.bool false) rfl (dn (ZF5 (sr (Zx 0 ZGl rfl ag88.size rfl rfl (Yb hC 1 (ZF3 .u8 a0.mono) rfl ag88 rfl rfl rfl (Zx 0 ZGl rfl ag88.size rfl rfl (Yb hC 0 (ZF3 .u8 a1.mono) rfl ag88 rfl rfl rfl (Zf [.agg (ZF4 (ZF3 .u8 a0.mono)),.agg (ZF4 (ZF3 .u8 a1.mono))] _ Tryz.func105 rfl rfl rfl (Zp0 a0.mono a1.mono h _) ?_)))))))))
 rintro _ w9 ⟨r10,rfl,h,hB10⟩
 refine rt ?_
 replace hC:=hC.grow hB10
 refine Xa rfl (dn ?_)
 refine Zq rfl (fun hb10=>?_) (fun hb10=>?_)
 ·replace h:=ift h (Y0 (Xf hb10))
  refine sr (Zc (v:=.bool false) rfl (dn ?_))
  refine ZGd (Ze ?_)
  exact Zj rfl (Zg rfl) ⟨false,rfl,h,hC.below⟩ (.inl rfl)
 ·replace h:=Zk h (not_not_intro ((Xg hb10)))
  refine ZF8 (Zd (ZF5 (sr (Zx 8 ZGl rfl sc2.size rfl rfl (Z4 hC 1 (vI a0.factor) rfl sc2 rfl rfl (Zx 8 ZGl rfl sc2.size rfl rfl (Z4 hC 0 (vI a1.factor) rfl sc2 rfl rfl (Y4 rfl rfl (dn ?_)))))))))
  refine Zq rfl (fun hb11=>?_) (fun hb11=>?_)
  ·replace h:=ift h (ct hb11)
   refine sr (Zc (v:=.bool false) rfl (dn ?_))
   refine ZGd (Ze ?_)
   exact Zj rfl (Zg rfl) ⟨false,rfl,h,hC.below⟩ (.inl rfl)
  ·replace h:=Zk h (cf hb11)
   refine ZF8 (Zd (sr (Zc (v:=.bool true) rfl (dn (ZGd ?_)))))
   exact Zj rfl (Zg rfl) ⟨true,rfl,h,hC.below⟩ (.inl rfl)
def Zgx (a0:List Term) (a1:List Term) (K:Bool→Prop):Prop :=
 (if(a0.length:Int)≠(a1.length:Int) then K false else Yi (fun i10 (s10:Unit) nx10=>((0≤(i10:Int)∧(i10:Int) < (a1.length:Int))∧Ze3 (a0.getD i10 Zuw) (a1.getD i10 Zuw) (fun r10=>(if¬ (r10=true) then K false else nx10 ())))) (fun (s10:Unit)=>K true) a0.length 0 ())
theorem Zp5 (a0:List Term) (a1:List Term)  {K:Bool→Prop} (h:Zgx a0 a1 K) (w0:World) (q0:ZF6.ty.sl.rep a0 [u0_0] fp0 w0) (q1:ZF6.ty.sl.rep a1 [u1_0] fp1 w0) :
  Calls ZF7 67 #[u0_0,u1_0] w0 fun e w'=>∃ (r0:Bool),
   e=.returned (.bool r0)∧K r0∧Bel w0 w':=by
 unfold Zgx at h
 refine cof Tryz.func67 rfl 27 Tryz.ntmps67 ?_
 have hC:=ZGq (X:=Nox) w0 [ZCh ZF6.ty.sl a0 [u0_0] fp0,ZCh ZF6.ty.sl a1 [u1_0] fp1] (alc q0 (al1 q1))
 refine sr (Zc (v:=.bool false) rfl (dn (ZF5 (sr (Zb (v:=u0_0) rfl (Zv hC 0 rfl ZGf rfl (Zb (v:=u1_0) rfl (Zv hC 1 rfl ZGf rfl (Y4 rfl rfl (dn ?_))))))))))
 refine Zq rfl (fun hb9=>?_) (fun hb9=>?_)
 ·replace h:=ift h (ct hb9)
  refine sr (Zc (v:=.bool false) rfl (dn ?_))
  refine ZGd (Ze ?_)
  exact Zj rfl (Zg rfl) ⟨false,rfl,h,hC.below⟩ (.inl rfl)
 ·replace h:=Zk h (cf hb9)
  refine ZF8 (Zd (ZF5 (sr (Zc (v:=vI 0) rfl (dn (ZGb ?_))))))
  have hN10:a0.length≤9223372036854775807:=Y3 (hC.getP 0 rfl)
  refine Yn (S:=Unit) _ _ (fun i10 s10 e_ w_=>Zy e_ [(0,u0_0),(1,u1_0),(5,vI (i10:Int))]∧Ctx Nox w0 w_ [] [ZCh ZF6.ty.sl a0 [u0_0] fp0,ZCh ZF6.ty.sl a1 [u1_0] fp1]) a0.length ?_ ?_ (s0:=()) ?_ h
  ·clear hC h
   rintro i10 s10 e_ w10 nx10 K10 hi10 ⟨hS_,hC⟩ h hK10
   rw [ue hS_]
   refine ZF5 (sr (Zb (v:=vI (i10:Int)) rfl (Zb (v:=u0_0) rfl (Zv hC 0 rfl ZGf rfl (Zn rfl rfl (dn (Z8 rfl (decide_eq_true (by omega)) (ZF8 (Zd (ZF5 (ZGb (ZF5 ?_))))))))))))
   refine cwd 8 mixed [0,0,3,7,0,0,48,112,255,511] [2,3,6,7] [0,1,4,5] (fun hM10 hM11 w11 hB_=>?_)
   replace hC:=hC.grow hB_
   refine bM 0 (u0_0) rfl hM11 (Za 10 1) (bM 1 (vI (i10:Int)) rfl hM11 (Za 10 3) ?_)
   obtain ⟨Ad10,c10,hv10⟩:=Zz (hC.getP 0 rfl) i10 hi10
   refine bL 2 (.pointer (some (Ad10.add (i10 * 9)))) rfl rfl hM10 (fun _ hB_=>by exact Yw (len:=a0.length) ZGf ag90.size (by exact tr rfl hv10) rfl (ZGm _) (ZG4.2 hi10)) (Za 10 7) (bL 3 (.agg (ZF4 (ZGg (a0.getD i10 Zuw)))) rfl rfl hM10 (fun _ hB_=>by exact Xn (ZGg (a0.getD i10 Zuw)) (Yf ((hC.grow hB_).getP 0 rfl) hv10 i10 hi10) ag90 rfl rfl) (Za 10 15) (bM 4 (u1_0) rfl hM11 (Za 10 31) (bM 5 (vI (i10:Int)) rfl hM11 (Za 10 63) ?_)))
   obtain ⟨⟨h10,h11⟩,h⟩:=h
   obtain ⟨Ad11,c11,hv11⟩:=Zz (hC.getP 1 rfl) i10 (show i10 < a1.length by omega)
   refine bL 6 (.pointer (some (Ad11.add (i10 * 9)))) rfl rfl hM10 (fun _ hB_=>by exact Yw (len:=a1.length) ZGf ag90.size (by exact tr rfl hv11) rfl h10 h11) (Za 10 127) (bL 7 (.agg (ZF4 (ZGg (a1.getD i10 Zuw)))) rfl rfl hM10 (fun _ hB_=>by exact Xn (ZGg (a1.getD i10 Zuw)) (Yf ((hC.grow hB_).getP 1 rfl) hv11 i10 (show i10 < a1.length by omega)) ag90 rfl rfl) (Za 10 255) (Z2 8 (by decide) (by decide) (by kernel_rfl) (by kernel_rfl) rfl (Zf [.agg (ZF4 (ZGg (a0.getD i10 Zuw))),.agg (ZF4 (ZGg (a1.getD i10 Zuw)))] _ Tryz.func91 rfl rfl rfl (Zp4 (a0.getD i10 Zuw) (a1.getD i10 Zuw) h _) ?_)))
   rintro _ w12 ⟨r10,rfl,h,hB10⟩
   refine rt ?_
   replace hC:=hC.grow hB10
   refine Xa rfl (done (Z3 (Zd ?_)))
   refine Zq rfl (fun hb10=>?_) (fun hb10=>?_)
   ·replace h:=ift h (Y0 (Xf hb10))
    refine sr (Zc (v:=.bool false) rfl (dn ?_))
    refine ZGd (Zw (Ze (Ze (Zw (Ze ?_)))))
    exact Zj rfl (Zg rfl) ⟨false,rfl,h,hC.below⟩ (.inl rfl)
   ·replace h:=Zk h (not_not_intro ((Xg hb10)))
    refine ZF8 (Zs (Zd (Zm (Zb (v:=vI (i10:Int)) rfl (Zp rfl rfl (Zc (v:=vI (Zxa.wrap ((i10:Int)+1))) rfl (done ?_)))))))
    exact hK10 () _ _ ⟨(sl ⟨rfl,rfl,(tr rfl (congrArg _ (Z6 hi10 hN10))),trivial⟩),hC⟩ h
  ·clear hC h
   rintro s10 e_ w13 K10 ⟨hS_,hC⟩ h
   rw [ue hS_]
   refine ZF5 (sr (Zb (v:=vI (a0.length:Int)) rfl (Zb (v:=u0_0) rfl (Zv hC 0 rfl ZGf rfl (Zn rfl rfl (dn (Z9 rfl (decide_eq_false (by omega)) ?_)))))))
   refine ZGj (Zl (Zl (Z5 ?_)))
   refine Zd (sr (Zc (v:=.bool true) rfl (dn (ZGd ?_))))
   exact Zj rfl (Zg rfl) ⟨true,rfl,h,hC.below⟩ (.inl rfl)
  ·skip
   exact⟨(slq rfl),hC⟩
def Ze4 (a0:ZF9) (a1:ZF9) (K:Bool→Prop):Prop :=
 Zgx a0.terms a1.terms (fun r10=>(if¬ (r10=true) then K false else K true))
theorem Zp6 (a0:ZF9) (a1:ZF9)  {K:Bool→Prop} (h:Ze4 a0 a1 K) (w0:World) (q0:ZGr.rep a0 [u0_0] fp0 w0) (q1:ZGr.rep a1 [u1_0] fp1 w0) :
  Calls ZF7 35 #[.agg #[u0_0],.agg #[u1_0]] w0 fun e w'=>∃ (r0:Bool),
   e=.returned (.bool r0)∧K r0∧Bel w0 w':=by
 unfold Ze4 at h
 refine cof Tryz.func35 rfl 11 Tryz.ntmps35 ?_
 have hC:=ZGq (X:=Nox) w0 [ZCh TForm a0 [u0_0] fp0,ZCh TForm a1 [u1_0] fp1] (alc q0 (al1 q1))
 have hp3:=(hC.getP 0 rfl)
 replace hC:=hC.derive 0 rfl (ZCh ZF6.ty.sl a0.terms [u0_0] fp0) (fun _=>(Yx hp3)) (fun _ hb_=>hb_)
 have hp5:=(hC.getP 2 rfl)
 replace hC:=hC.derive 2 rfl (ZCh ZF6.ty.sl a1.terms [u1_0] fp1) (fun _=>(Yx hp5)) (fun _ hb_=>hb_)
 refine sr (Yj (v:=.agg #[u0_0]) hC [u0_0] rfl rfl fun b7 w9 hB_ hC=>Yj (v:=.agg #[u1_0]) hC [u1_0] rfl rfl fun b10 w10 hB_ hC=>Zc (v:=.bool false) rfl (dn (ZF5 (sr (Zx 0 ZGc rfl sc53.size rfl rfl (Z4 hC 1 (u0_0) rfl sc53 rfl rfl (Zx 0 ZGc rfl sc53.size rfl rfl (Z4 hC 0 (u1_0) rfl sc53 rfl rfl (Zf [u0_0,u1_0] _ Tryz.func67 rfl rfl rfl (Zp5 a0.terms a1.terms h _ (hC.getP 1 rfl) (hC.getP 0 rfl)) ?_)))))))))
 rintro _ w11 ⟨r10,rfl,h,hB10⟩
 refine rt ?_
 replace hC:=hC.grow hB10
 refine Xa rfl (dn ?_)
 refine Zq rfl (fun hb10=>?_) (fun hb10=>?_)
 ·replace h:=ift h (Y0 (Xf hb10))
  refine sr (Zc (v:=.bool false) rfl (dn ?_))
  refine ZGd (Ze ?_)
  exact Zj rfl (Zg rfl) ⟨false,rfl,h,hC.below⟩ (.inl rfl)
 ·replace h:=Zk h (not_not_intro ((Xg hb10)))
  refine ZF8 (Zd (sr (Zc (v:=.bool true) rfl (dn (ZGd ?_)))))
  exact Zj rfl (Zg rfl) ⟨true,rfl,h,hC.below⟩ (.inl rfl)
def Zgy (a0:List ZF9) (a1:List ZF9) (K:Bool→Prop):Prop :=
 (if(a0.length:Int)≠(a1.length:Int) then K false else Yi (fun i10 (s10:Unit) nx10=>((0≤(i10:Int)∧(i10:Int) < (a1.length:Int))∧Ze4 (a0.getD i10 Zuw) (a1.getD i10 Zuw) (fun r10=>(if¬ (r10=true) then K false else nx10 ())))) (fun (s10:Unit)=>K true) a0.length 0 ())
theorem Zp7 (a0:List ZF9) (a1:List ZF9)  {K:Bool→Prop} (h:Zgy a0 a1 K) (w0:World) (q0:ZGr.sl.rep a0 [u0_0] fp0 w0) (q1:ZGr.sl.rep a1 [u1_0] fp1 w0) :
  Calls ZF7 12 #[u0_0,u1_0] w0 fun e w'=>∃ (r0:Bool),
   e=.returned (.bool r0)∧K r0∧Bel w0 w':=by
 unfold Zgy at h
 refine cof Tryz.func12 rfl 27 Tryz.ntmps12 ?_
 have hC:=ZGq (X:=Nox) w0 [ZCh ZGr.sl a0 [u0_0] fp0,ZCh ZGr.sl a1 [u1_0] fp1] (alc q0 (al1 q1))
 refine sr (Zc (v:=.bool false) rfl (dn (ZF5 (sr (Zb (v:=u0_0) rfl (Zv hC 0 rfl ZGt rfl (Zb (v:=u1_0) rfl (Zv hC 1 rfl ZGt rfl (Y4 rfl rfl (dn ?_))))))))))
 refine Zq rfl (fun hb9=>?_) (fun hb9=>?_)
 ·replace h:=ift h (ct hb9)
  refine sr (Zc (v:=.bool false) rfl (dn ?_))
  refine ZGd (Ze ?_)
  exact Zj rfl (Zg rfl) ⟨false,rfl,h,hC.below⟩ (.inl rfl)
 ·replace h:=Zk h (cf hb9)
  refine ZF8 (Zd (ZF5 (sr (Zc (v:=vI 0) rfl (dn (ZGb ?_))))))
  have hN10:a0.length≤9223372036854775807:=Y3 (hC.getP 0 rfl)
  refine Yn (S:=Unit) _ _ (fun i10 s10 e_ w_=>Zy e_ [(0,u0_0),(1,u1_0),(5,vI (i10:Int))]∧Ctx Nox w0 w_ [] [ZCh ZGr.sl a0 [u0_0] fp0,ZCh ZGr.sl a1 [u1_0] fp1]) a0.length ?_ ?_ (s0:=()) ?_ h
  ·clear hC h
   rintro i10 s10 e_ w10 nx10 K10 hi10 ⟨hS_,hC⟩ h hK10
   rw [ue hS_]
   refine ZF5 (sr (Zb (v:=vI (i10:Int)) rfl (Zb (v:=u0_0) rfl (Zv hC 0 rfl ZGt rfl (Zn rfl rfl (dn (Z8 rfl (decide_eq_true (by omega)) (ZF8 (Zd (ZF5 (ZGb (ZF5 ?_))))))))))))
   refine cwd 8 mixed [0,0,3,7,0,0,48,112,255,511] [2,3,6,7] [0,1,4,5] (fun hM10 hM11 w11 hB_=>?_)
   replace hC:=hC.grow hB_
   refine bM 0 (u0_0) rfl hM11 (Za 10 1) (bM 1 (vI (i10:Int)) rfl hM11 (Za 10 3) ?_)
   obtain ⟨Ad10,c10,hv10⟩:=Zz (hC.getP 0 rfl) i10 hi10
   refine bL 2 (.pointer (some (Ad10.add (i10 * 1)))) rfl rfl hM10 (fun _ hB_=>by exact Yw (len:=a0.length) ZGt ag55.size (by exact tr rfl hv10) rfl (ZGm _) (ZG4.2 hi10)) (Za 10 7) ?_
   obtain ⟨cs_,hl10,hc10,hr10⟩:=Jg (hC.getP 0 rfl) hv10 i10 hi10
   obtain ⟨u10,rfl⟩:=ZG3.1 hl10
   clear hl10
   rw [Jb _ _ hi10] at hr10
   have hp10:=hr10
   replace hC:=hC.derive 0 rfl (ZCh ZF6.ty.sl ((a0.getD i10 Zuw).terms) [u10] fp0) (fun _=>(Yx hp10)) (fun _ hb_=>hb_)
   refine bL 3 (.agg #[u10]) rfl rfl hM10 (fun _ hB_=>by exact Xn [u10] (Zaf hB_ hc10) ag55 rfl rfl) (Za 10 15) (bM 4 (u1_0) rfl hM11 (Za 10 31) (bM 5 (vI (i10:Int)) rfl hM11 (Za 10 63) ?_))
   obtain ⟨⟨h10,h11⟩,h⟩:=h
   obtain ⟨Ad11,c11,hv11⟩:=Zz (hC.getP 2 rfl) i10 (show i10 < a1.length by omega)
   refine bL 6 (.pointer (some (Ad11.add (i10 * 1)))) rfl rfl hM10 (fun _ hB_=>by exact Yw (len:=a1.length) ZGt ag55.size (by exact tr rfl hv11) rfl h10 h11) (Za 10 127) ?_
   obtain ⟨cs_,hl11,hc11,hr11⟩:=Jg (hC.getP 2 rfl) hv11 i10 (show i10 < a1.length by omega)
   obtain ⟨u11,rfl⟩:=ZG3.1 hl11
   clear hl11
   rw [Jb _ _ (show i10 < a1.length by omega)] at hr11
   have hp11:=hr11
   replace hC:=hC.derive 2 rfl (ZCh ZF6.ty.sl ((a1.getD i10 Zuw).terms) [u11] fp1) (fun _=>(Yx hp11)) (fun _ hb_=>hb_)
   refine bL 7 (.agg #[u11]) rfl rfl hM10 (fun _ hB_=>by exact Xn [u11] (Zaf hB_ hc11) ag55 rfl rfl) (Za 10 255) (Z2 8 (by decide) (by decide) (by kernel_rfl) (by kernel_rfl) rfl (Zf [.agg #[u10],.agg #[u11]] _ Tryz.func35 rfl rfl rfl (Zp6 (a0.getD i10 Zuw) (a1.getD i10 Zuw) h _ (Yl (hC.getP 1 rfl)) (Yl (hC.getP 0 rfl))) ?_))
   rintro _ w12 ⟨r10,rfl,h,hB10⟩
   refine rt ?_
   replace hC:=hC.grow hB10
   refine Xa rfl (done (Z3 (Zd ?_)))
   refine Zq rfl (fun hb10=>?_) (fun hb10=>?_)
   ·replace h:=ift h (Y0 (Xf hb10))
    refine sr (Zc (v:=.bool false) rfl (dn ?_))
    refine ZGd (Zw (Ze (Ze (Zw (Ze ?_)))))
    exact Zj rfl (Zg rfl) ⟨false,rfl,h,hC.below⟩ (.inl rfl)
   ·replace h:=Zk h (not_not_intro ((Xg hb10)))
    refine ZF8 (Zs (Zd (Zm (Zb (v:=vI (i10:Int)) rfl (Zp rfl rfl (Zc (v:=vI (Zxa.wrap ((i10:Int)+1))) rfl (done ?_)))))))
    exact hK10 () _ _ ⟨(sl ⟨rfl,rfl,(tr rfl (congrArg _ (Z6 hi10 hN10))),trivial⟩),(hC.sP [2,3] rfl)⟩ h
  ·clear hC h
   rintro s10 e_ w13 K10 ⟨hS_,hC⟩ h
   rw [ue hS_]
   refine ZF5 (sr (Zb (v:=vI (a0.length:Int)) rfl (Zb (v:=u0_0) rfl (Zv hC 0 rfl ZGt rfl (Zn rfl rfl (dn (Z9 rfl (decide_eq_false (by omega)) ?_)))))))
   refine ZGj (Zl (Zl (Z5 ?_)))
   refine Zd (sr (Zc (v:=.bool true) rfl (dn (ZGd ?_))))
   exact Zj rfl (Zg rfl) ⟨true,rfl,h,hC.below⟩ (.inl rfl)
  ·skip
   exact⟨(slq rfl),hC⟩
def Ze5 (a0:List Term) (a1:Int) (K:Int→List Term→Prop):Prop :=
 X8 (fun (s10:(List Term)×Int×Int) nx10=>(if s10.2.2 < (s10.1.length:Int) then Yi (fun i10 (s11:(List Term)×Int) nx11=>((0≤s10.2.2∧s10.2.2 < (s11.1.length:Int))∧nx11 (s11.1.set s10.2.2.toNat (⟨((s11.1.getD s10.2.2.toNat Zuw).mono).set i10 (ZGh.wrap s11.2),(s11.1.getD s10.2.2.toNat Zuw).factor⟩:Term),Zxa.wrap (s11.2+1)))) (fun (s11:(List Term)×Int)=>((0≤s10.2.2∧s10.2.2 < (s11.1.length:Int))∧nx10 (s11.1.set s10.2.2.toNat (⟨(s11.1.getD s10.2.2.toNat Zuw).mono,s11.2⟩:Term),Zxa.wrap (s11.2+1),Zxa.wrap (s10.2.2+1)))) 8 0 (s10.1,s10.2.1) else K s10.2.1 s10.1)) (a0,a1,0)
theorem Zp8 (a0:List Term) (a1:Int)  {K:Int→List Term→Prop} (h:Ze5 a0 a1 K) (w0:World) (qw0:(own 90 9 u0_0 a0.length (ZF6.encs a0)).holds w0) :
  Calls ZF7 36 #[u0_0,vI a1] w0 fun e w'=>∃ (r0:Int) (mw:List Term),
   e=.returned (vI r0)∧K r0 mw∧(own 90 9 u0_0 mw.length (ZF6.encs mw)).holds w'∧BelO ((ZG2 (Zvi u0_0))) w0 w':=by
 unfold Ze5 at h
 refine cof Tryz.func36 rfl 35 Tryz.ntmps36 ?_
 have hC:=Ctx.startL w0 ((ZG2 (Zvi u0_0))) [own 90 9 u0_0 a0.length (ZF6.encs a0)] [] (by simp only [Zus,Zwy,or_false,forall_eq_or_imp,forall_eq]; exact qw0) (by simp) (by simp only [Zus,Zwy,or_false,forall_eq_or_imp,forall_eq]; exact fun b hb=>hb) (List.pairwise_singleton _ _) (by simp)
 refine sr (Zc (v:=vI 0) rfl (dn (ZF5 (sr (Zc (v:=vI 0) rfl (dn (ZGb ?_)))))))
 refine Jj (S:=(List Term)×Int×Int) _ (fun s10 e_ w_=>Zy e_ [(0,u0_0),(1,vI s10.2.1),(5,vI s10.2.2)]∧Ctx (fun c_=>c_∈(ZG2 (Zvi u0_0))) w0 w_ [own 90 9 u0_0 s10.1.length (ZF6.encs s10.1)] []) ?_ (s0:=(a0,a1,0)) ?_ h
 ·clear hC h
  rintro s10 e_ w10 nx10 K11 ⟨hS_,hC⟩ h hK10
  rw [ue hS_]
  refine ZF5 (sr (Zb (v:=vI s10.2.2) rfl (Zb (v:=u0_0) rfl (Zgo hC 0 rfl ZGf rfl (Zn rfl rfl (dn ?_))))))
  refine Zq rfl (fun hb10=>?_) (fun hb10=>?_)
  ·replace h:=ift h (ct hb10)
   refine ZF8 (Zd (ZF5 (ZGb (ZF5 (sr (Zc (v:=vI 0) rfl (dn (ZGb ?_))))))))
   refine Yn (S:=(List Term)×Int) _ _ (fun i10 s11 e_ w_=>Zy e_ [(0,u0_0),(1,vI s11.2),(5,vI s10.2.2),(6,vI (i10:Int))]∧Ctx (fun c_=>c_∈(ZG2 (Zvi u0_0))) w0 w_ [own 90 9 u0_0 s11.1.length (ZF6.encs s11.1)] []) 8 ?_ ?_ (s0:=(s10.1,s10.2.1)) ?_ h
   ·clear hC h
    rintro i10 s11 e_ w11 nx11 K10 hi10 ⟨hS_,hC⟩ h hK11
    rw [ue hS_]
    refine ZF5 (sr (Zb (v:=vI (i10:Int)) rfl (Zn rfl rfl (dn (Z8 rfl (decide_eq_true (by omega)) (ZF8 (Zd (ZF5 (ZGb (sr (Zb (v:=u0_0) rfl (Zb (v:=vI s10.2.2) rfl (Zb (v:=vI (i10:Int)) rfl (Zb (v:=vI s11.2) rfl (Zf1 ZHd ZG7 rfl ?_)))))))))))))))
    obtain ⟨⟨h10,h11⟩,h⟩:=h
    obtain ⟨Ad10,c10,hv10⟩:=Za0 (hC.getM 0 rfl) (ZI0 (Zvp _) (show s10.2.2.toNat < s11.1.length by omega))
    refine Zaq (s10.2.2.toNat * 9) ZGf ag90.size (tr rfl hv10) rfl h10 h11 rfl (Zx (s10.2.2.toNat * 9+0) ZGl rfl ag88.size rfl rfl (Y6 (s10.2.2.toNat * 9+0+i10) ZGn sc5.size rfl rfl (ZGm _) (by omega) (by omega) (Zb1 (v:=.int .u8 (ZGh.wrap s11.2)) hC 0 [.int .u8 (ZGh.wrap s11.2)] (ZF6.encs (s11.1.set s10.2.2.toNat (⟨((s11.1.getD s10.2.2.toNat Zuw).mono).set i10 (ZGh.wrap s11.2),(s11.1.getD s10.2.2.toNat Zuw).factor⟩:Term))) rfl hv10 sc5.size rfl rfl rfl rfl rfl (by rw [ZI5]; have:=J6 (sz:=9) (show s10.2.2.toNat < s11.1.length by omega); have h9:i10+1≤9:=(show i10+1≤9 by omega); have e9:ZF6.sz=9:=rfl; rw [e9]; omega) (Zky (E:=ETerm) (o:=i10) (show s10.2.2.toNat < s11.1.length by omega) (show i10+1≤9 by omega) (Zor hi10)) fun w12 hC=>?_)))
    replace hC:=Jm hC 0 ((s11.1.set s10.2.2.toNat (⟨((s11.1.getD s10.2.2.toNat Zuw).mono).set i10 (ZGh.wrap s11.2),(s11.1.getD s10.2.2.toNat Zuw).factor⟩:Term)).length) (ZF6.encs (s11.1.set s10.2.2.toNat (⟨((s11.1.getD s10.2.2.toNat Zuw).mono).set i10 (ZGh.wrap s11.2),(s11.1.getD s10.2.2.toNat Zuw).factor⟩:Term))) rfl (by simp) rfl
    refine dn (Zm (Zb (v:=vI s11.2) rfl (Zp rfl rfl (Zc (v:=vI (Zxa.wrap (s11.2+1))) rfl (done (Zs (Zd (Zm (Zb (v:=vI (i10:Int)) rfl (Zp rfl rfl (Zc (v:=vI (Zxa.wrap ((i10:Int)+1))) rfl (done ?_))))))))))))
    exact hK11 (s11.1.set s10.2.2.toNat (⟨((s11.1.getD s10.2.2.toNat Zuw).mono).set i10 (ZGh.wrap s11.2),(s11.1.getD s10.2.2.toNat Zuw).factor⟩:Term),Zxa.wrap (s11.2+1)) _ _ ⟨(sl ⟨rfl,rfl,rfl,(tr rfl (congrArg _ (Z6 hi10 (by decide)))),trivial⟩),hC⟩ h
   ·clear hC h
    rintro s11 e_ w13 K10 ⟨hS_,hC⟩ h
    rw [ue hS_]
    refine ZF5 (sr (Zb (v:=vI 8) rfl (Zn rfl rfl (dn (Z9 rfl (decide_eq_false (by omega)) ?_)))))
    refine ZGj (Zl (Zl (Z5 ?_)))
    refine Zd (sr (Zb (v:=u0_0) rfl (Zb (v:=vI s10.2.2) rfl (Zb (v:=vI s11.2) rfl ?_))))
    obtain ⟨⟨h12,h13⟩,h⟩:=h
    obtain ⟨Ad11,c11,hv11⟩:=Za0 (hC.getM 0 rfl) (ZI0 (Zvp _) (show s10.2.2.toNat < s11.1.length by omega))
    refine Zaq (s10.2.2.toNat * 9) ZGf ag90.size (tr rfl hv11) rfl h12 h13 rfl (Zx (s10.2.2.toNat * 9+8) ZGl rfl sc2.size rfl rfl (Zb1 (v:=vI s11.2) hC 0 [vI s11.2] (ZF6.encs (s11.1.set s10.2.2.toNat (⟨(s11.1.getD s10.2.2.toNat Zuw).mono,s11.2⟩:Term))) rfl hv11 sc2.size rfl rfl rfl rfl rfl (by rw [ZI5]; have:=J6 (sz:=9) (show s10.2.2.toNat < s11.1.length by omega); have h9:8+1≤9:=(ZGe rfl); have e9:ZF6.sz=9:=rfl; rw [e9]; omega) (Zky (E:=ETerm) (o:=8) (show s10.2.2.toNat < s11.1.length by omega) (ZGe rfl) rfl) fun w14 hC=>?_))
    replace hC:=Jm hC 0 ((s11.1.set s10.2.2.toNat (⟨(s11.1.getD s10.2.2.toNat Zuw).mono,s11.2⟩:Term)).length) (ZF6.encs (s11.1.set s10.2.2.toNat (⟨(s11.1.getD s10.2.2.toNat Zuw).mono,s11.2⟩:Term))) rfl (by simp) rfl
    refine dn (Zm (Zb (v:=vI s11.2) rfl (Zp rfl rfl (Zc (v:=vI (Zxa.wrap (s11.2+1))) rfl (done (Zs (Zd (Zm (Zb (v:=vI s10.2.2) rfl (Zp rfl rfl (Zc (v:=vI (Zxa.wrap (s10.2.2+1))) rfl (done ?_))))))))))))
    exact hK10 (s11.1.set s10.2.2.toNat (⟨(s11.1.getD s10.2.2.toNat Zuw).mono,s11.2⟩:Term),Zxa.wrap (s11.2+1),Zxa.wrap (s10.2.2+1)) _ _ ⟨(slq rfl),hC⟩ h
   ·skip
    exact⟨(slq rfl),hC⟩
  ·replace h:=Zk h (cf hb10)
   refine ZGj (Zl (Zl (Z5 ?_)))
   refine Zd (sr (Zb (v:=vI s10.2.1) rfl (Zc (v:=vI s10.2.1) rfl (dn (ZGd ?_)))))
   exact Zj rfl (Zg rfl) ⟨s10.2.1,s10.1,rfl,h,(hC.getM 0 rfl),hC.belO⟩ (.inl rfl)
 ·skip
  exact⟨(slq rfl),hC⟩
def Ze6 (a0:List Term) (a1:Int) (K:Int→Prop):Prop :=
 Yi (fun i10 (s11:Int) nx10=>Yi (fun i11 (s10:Int) nx11=>(if((a0.getD i10 Zuw).mono).get i11≠ZGh.wrap s10 then K (-1) else nx11 (Zxa.wrap (s10+1)))) (fun (s10:Int)=>(if(a0.getD i10 Zuw).factor≠s10 then K (-1) else nx10 (Zxa.wrap (s10+1)))) 8 0 s11) (fun (s11:Int)=>K s11) a0.length 0 a1
theorem Zp9 (a0:List Term) (a1:Int)  {K:Int→Prop} (h:Ze6 a0 a1 K) (w0:World) (q0:ZF6.ty.sl.rep a0 [u0_0] fp0 w0) :
  Calls ZF7 37 #[u0_0,vI a1] w0 fun e w'=>∃ (r0:Int),
   e=.returned (vI r0)∧K r0∧Bel w0 w':=by
 unfold Ze6 at h
 refine cof Tryz.func37 rfl 39 Tryz.ntmps37 ?_
 have hC:=ZGq (X:=Nox) w0 [ZCh ZF6.ty.sl a0 [u0_0] fp0] (al1 q0)
 refine sr (Zc (v:=vI 0) rfl (dn (ZF5 (sr (Zc (v:=vI 0) rfl (dn (ZGb ?_)))))))
 have hN10:a0.length≤9223372036854775807:=Y3 (hC.getP 0 rfl)
 refine Yn (S:=Int) _ _ (fun i10 s11 e_ w_=>Zy e_ [(0,u0_0),(1,vI s11),(5,vI (i10:Int))]∧Ctx Nox w0 w_ [] [ZCh ZF6.ty.sl a0 [u0_0] fp0]) a0.length ?_ ?_ (s0:=a1) ?_ h
 ·clear hC h
  rintro i10 s11 e_ w10 nx10 K10 hi10 ⟨hS_,hC⟩ h hK10
  rw [ue hS_]
  refine ZF5 (sr (Zb (v:=vI (i10:Int)) rfl (Zb (v:=u0_0) rfl (Zv hC 0 rfl ZGf rfl (Zn rfl rfl (dn (Z8 rfl (decide_eq_true (by omega)) (ZF8 (Zd (ZF5 (ZGb (ZF5 (sr (Zc (v:=vI 0) rfl (dn (ZGb ?_))))))))))))))))
  refine Yn (S:=Int) _ _ (fun i11 s10 e_ w_=>Zy e_ [(0,u0_0),(1,vI s10),(5,vI (i10:Int)),(6,vI (i11:Int))]∧Ctx Nox w0 w_ [] [ZCh ZF6.ty.sl a0 [u0_0] fp0]) 8 ?_ ?_ (s0:=s11) ?_ h
  ·clear hC h
   rintro i11 s10 e_ w11 nx11 K11 hi11 ⟨hS_,hC⟩ h hK11
   rw [ue hS_]
   refine ZF5 (sr (Zb (v:=vI (i11:Int)) rfl (Zn rfl rfl (dn (Z8 rfl (decide_eq_true (by omega)) (ZF8 (Zd (ZF5 (ZGb (ZF5 (sr (Zb (v:=u0_0) rfl (Zb (v:=vI (i10:Int)) rfl (Zb (v:=vI (i11:Int)) rfl ?_))))))))))))))
   obtain ⟨Ad10,c10,hv10⟩:=Zz (hC.getP 0 rfl) i10 hi10
   refine Yq (len:=a0.length) ZGf ag90.size (tr rfl hv10) rfl (ZGm _) (ZG4.2 hi10) (Zao (i10 * 9+0) ZGl rfl ag88.size rfl rfl (Zkz (i10 * 9+0+i11) ZGn sc5.size rfl rfl (ZGm _) (by omega) (by omega) (Xb (.int .u8 (((a0.getD i10 Zuw).mono).get i11)) (Xp (o:=i11) (k:=1) (Yf (hC.getP 0 rfl) hv10 i10 hi10) (Ziq (r:=_) hi11)) sc5 rfl (Zb (v:=vI s10) rfl (Zf1 ZHd ZG7 rfl (Y4 rfl rfl (dn ?_)))))))
   refine Zq rfl (fun hb10=>?_) (fun hb10=>?_)
   ·replace h:=ift h (ct hb10)
    refine sr (Zc (v:=vI (-1)) rfl (dn ?_))
    refine ZGd (Ze (Zw (Ze (Ze (Zw (Ze (Zw (Ze (Ze (Zw (Ze ?_)))))))))))
    exact Zj rfl (Zg rfl) ⟨(-1),rfl,h,hC.below⟩ (.inl rfl)
   ·replace h:=Zk h (cf hb10)
    refine ZF8 (Zd (Zm (Zb (v:=vI s10) rfl (Zp rfl rfl (Zc (v:=vI (Zxa.wrap (s10+1))) rfl (done (Zs (Zd (Zm (Zb (v:=vI (i11:Int)) rfl (Zp rfl rfl (Zc (v:=vI (Zxa.wrap ((i11:Int)+1))) rfl (done ?_)))))))))))))
    exact hK11 (Zxa.wrap (s10+1)) _ _ ⟨(sl ⟨rfl,rfl,rfl,(tr rfl (congrArg _ (Z6 hi11 (by decide)))),trivial⟩),hC⟩ h
  ·clear hC h
   rintro s10 e_ w12 K11 ⟨hS_,hC⟩ h
   rw [ue hS_]
   refine ZF5 (sr (Zb (v:=vI 8) rfl (Zn rfl rfl (dn (Z9 rfl (decide_eq_false (by omega)) ?_)))))
   refine ZGj (Zl (Zl (Z5 ?_)))
   refine Zd (ZF5 (sr (Zb (v:=u0_0) rfl (Zb (v:=vI (i10:Int)) rfl ?_))))
   obtain ⟨Ad11,c11,hv11⟩:=Zz (hC.getP 0 rfl) i10 hi10
   refine Yq (len:=a0.length) ZGf ag90.size (tr rfl hv11) rfl (ZGm _) (ZG4.2 hi10) (Zao (i10 * 9+8) ZGl rfl sc2.size rfl rfl (Xb (vI ((a0.getD i10 Zuw).factor)) (Xp (o:=8) (k:=1) (Yf (hC.getP 0 rfl) hv11 i10 hi10) rfl) sc2 rfl (Zb (v:=vI s10) rfl (Y4 rfl rfl (dn ?_)))))
   refine Zq rfl (fun hb11=>?_) (fun hb11=>?_)
   ·replace h:=ift h (ct hb11)
    refine sr (Zc (v:=vI (-1)) rfl (dn ?_))
    refine ZGd (Ze (Zw (Ze (Ze (Zw (Ze ?_))))))
    exact Zj rfl (Zg rfl) ⟨(-1),rfl,h,hC.below⟩ (.inl rfl)
   ·replace h:=Zk h (cf hb11)
    refine ZF8 (Zd (Zm (Zb (v:=vI s10) rfl (Zp rfl rfl (Zc (v:=vI (Zxa.wrap (s10+1))) rfl (done (Zs (Zd (Zm (Zb (v:=vI (i10:Int)) rfl (Zp rfl rfl (Zc (v:=vI (Zxa.wrap ((i10:Int)+1))) rfl (done ?_)))))))))))))
    exact hK10 (Zxa.wrap (s10+1)) _ _ ⟨(sl ⟨rfl,rfl,(tr rfl (congrArg _ (Z6 hi10 hN10))),trivial⟩),hC⟩ h
  ·skip
   exact⟨(slq rfl),hC⟩
 ·clear hC h
  rintro s11 e_ w13 K10 ⟨hS_,hC⟩ h
  rw [ue hS_]
  refine ZF5 (sr (Zb (v:=vI (a0.length:Int)) rfl (Zb (v:=u0_0) rfl (Zv hC 0 rfl ZGf rfl (Zn rfl rfl (dn (Z9 rfl (decide_eq_false (by omega)) ?_)))))))
  refine ZGj (Zl (Zl (Z5 ?_)))
  refine Zd (sr (Zb (v:=vI s11) rfl (Zc (v:=vI s11) rfl (dn (ZGd ?_)))))
  exact Zj rfl (Zg rfl) ⟨s11,rfl,h,hC.below⟩ (.inl rfl)
 ·skip
  exact⟨(slq rfl),hC⟩
def Zch (a0:Bool) (a1:Int) (K:Int→Prop):Prop :=
 (if a0=true then K a1 else K 0)
theorem Zi0 (a0:Bool) (a1:Int)  {K:Int→Prop} (h:Zch a0 a1 K) (w0:World)  :
  Calls ZF7 47 #[.bool a0,vI a1] w0 fun e w'=>∃ (r0:Int),
   e=.returned (vI r0)∧K r0∧Bel w0 w':=by
 unfold Zch at h
 refine cof Tryz.func47 rfl 7 Tryz.ntmps47 ?_
 have hC:=ZGq (X:=Nox) w0 [] (by simp)
 refine sr (Zc (v:=vI 0) rfl (dn (ZF5 (sr (Zb (v:=.bool a0) rfl (dn ?_))))))
 refine Zq rfl (fun hb1=>?_) (fun hb1=>?_)
 ·replace h:=ift h (hb1)
  refine sr (Zb (v:=vI a1) rfl (Zc (v:=vI a1) rfl (dn ?_)))
  refine ZGd (Ze ?_)
  exact Zj rfl (Zg rfl) ⟨a1,rfl,h,hC.below⟩ (.inl rfl)
 ·replace h:=Zk h (Y0 hb1)
  refine ZF8 (Zd (sr (Zc (v:=vI 0) rfl (dn (ZGd ?_)))))
  exact Zj rfl (Zg rfl) ⟨0,rfl,h,hC.below⟩ (.inl rfl)
end Go.Proofs.YtheenipahifleaaGreat
namespace Go.Proofs.YtheenipahifleaaGreat
open Go Vc
theorem Zi1 {a b c:Int} {K:Bool→Prop} (h:K (decide (b≤a∧a≤c))):Zcb a b c K:=by
  unfold Zcb
  split
  · rename_i h1; simpa [show b≤a from h1] using h
  · rename_i h1; simpa [show ¬ b≤a from h1] using h
theorem Zqa {ds:List Int} {K:Bool→Prop} (h:K (decide (OkDeg ds))):Zeg ds K:=by
  unfold Zeg
  refine Ys (fun i _=>∀ j,j < i→1≤ds.getD j Zuw∧ds.getD j Zuw≤12) ds.length ?_ ?_ _ _ _ (by omega) (by intro j hj; omega)
  · intro i s next hi hI hn
    refine Zi1 ?_
    split
    · rename_i h1
      have:¬ OkDeg ds:=fun hd=>h1 (by simpa using hd.2 i hi)
      simpa [this] using h
    · rename_i h1
      refine hn _ fun j hj=>?_
      by_cases hji:j=i
      · subst hji; simpa using h1
      · exact hI j (by omega)
  · intro s hI
    have:(decide ((ds.length:Int)≤8))=decide (OkDeg ds):=by
      rw [decide_eq_decide]; unfold OkDeg
      constructor
      · intro h8; exact⟨by omega,hI⟩
      · intro h8; have:=h8.1; omega
    rw [this]; exact h
theorem Zqb {ds : List Int} {a : A8} {K : Bool → Prop} (ha : ∀ i, i < 8 → 0 ≤ a.get i) (hl : ds.length ≤ 8) (h : K (decide (OkMono ds a))) : Zeh ds a K := by
  unfold Zeh
  refine Ys (fun i _=>∀ j,j < i→(j < ds.length→a.get j≤20∧(Zvh (ds.getD j Zuw) 2≠0→a.get j≤1))∧(ds.length≤j→a.get j=0)) 8 ?_ ?_ _ _ _ (by omega) (by intro j hj; omega)
  · intro i s next hi hI hn
    have no:¬ ((i < ds.length→a.get i≤20∧(Zvh (ds.getD i Zuw) 2≠0→a.get i≤1))∧(ds.length≤i→a.get i=0))→K false:=by
      intro hno
      have:¬ OkMono ds a:=fun hm=>hno (hm i hi)
      simpa [this] using h
    have yes:((i < ds.length→a.get i≤20∧(Zvh (ds.getD i Zuw) 2≠0→a.get i≤1))∧(ds.length≤i→a.get i=0))→next ():=by
      intro hy
      refine hn _ fun j hj=>?_
      by_cases hji:j=i
      · subst hji; exact hy
      · exact hI j (by omega)
    split
    · split
      · exact no (by intro q; have:=q.2 (by omega); contradiction)
      · rename_i q
        exact yes ⟨by omega,by intro _; simpa using q⟩
    · split
      · exact no (by intro q; have:=(q.1 (by omega)).1; omega)
      · refine⟨by omega,?_⟩
        split
        · split
          · exact no (by intro q; rename_i q1 q2; have:=(q.1 (by omega)).2 q1; omega)
          · exact yes ⟨fun _=>⟨by omega,fun _=>by omega⟩,by omega⟩
        · rename_i q1
          exact yes ⟨fun _=>⟨by omega,fun q2=>absurd q2 q1⟩,by omega⟩
  · intro s hI
    have:OkMono ds a:=fun i hi=>hI i hi
    simpa [this] using h
theorem Zqc {ds : List Int} {a : A8} {K : Bool → Prop} (hd : OkDeg ds) (ha : ∀ i, i < 8 → 0 ≤ a.get i) (h : K (decide (OkMono ds a))) : Zer ds a K := by
  unfold Zer
  refine Ys (fun i _=>∀ j,j < i→(j < ds.length→a.get j≤20∧(Zvh (ds.getD j Zuw) 2≠0→a.get j≤1))∧(ds.length≤j→a.get j=0)) 8 ?_ ?_ _ _ _ (by omega) (by intro j hj; omega)
  · intro i s next hi hI hn
    have hai:=ha i hi
    have no:¬ ((i < ds.length→a.get i≤20∧(Zvh (ds.getD i Zuw) 2≠0→a.get i≤1))∧(ds.length≤i→a.get i=0))→K false:=by
      intro hno
      have:¬ OkMono ds a:=fun hm=>hno (hm i hi)
      simpa [this] using h
    have yes:((i < ds.length→a.get i≤20∧(Zvh (ds.getD i Zuw) 2≠0→a.get i≤1))∧(ds.length≤i→a.get i=0))→next ():=by
      intro hy
      refine hn _ fun j hj=>?_
      by_cases hji:j=i
      · subst hji; exact hy
      · exact hI j (by omega)
    split
    · refine⟨by omega,?_⟩
      rename_i hl
      have hod:=hd.odd (show i < ds.length by omega)
      split
      · rename_i h1
        split
        · exact no (by intro q; have:=(q.1 (by omega)).2 (by omega); omega)
        · exact yes ⟨fun _=>⟨by omega,fun _=>by omega⟩,by omega⟩
      · rename_i h1
        split
        · exact no (by intro q; have:=(q.1 (by omega)).1; omega)
        · exact yes ⟨fun _=>⟨by omega,fun q=>by omega⟩,by omega⟩
    · split
      · exact no (by intro q; have:=q.2 (by omega); omega)
      · exact yes ⟨by omega,fun _=>by omega⟩
  · intro s hI
    have:OkMono ds a:=fun i hi=>hI i hi
    simpa [this] using h
theorem Zi2 {a b c:Int} {K:Bool→Prop} (h:K (decide (b≤a∧a≤c))):Zcf a b c K:=by
  unfold Zcf
  split
  · rename_i h1; simpa [show b≤a from h1] using h
  · rename_i h1; simpa [show ¬ b≤a from h1] using h
theorem Zqd {ds : List Int} {K : Bool → Prop} (h : K (decide (OkDeg ds))) : Zeq ds K := by
  unfold Zeq
  split
  · rename_i h8
    unfold Zgv Zgu
    refine Ys (fun i _=>∀ j,j < i→1≤ds.getD j Zuw∧ds.getD j Zuw≤12) ds.length ?_ ?_ _ _ _ (by omega) (by intro j hj; omega)
    · intro i s next hi hI hn
      unfold Zep
      refine Zi2 ?_
      dsimp only
      split
      · rename_i h1
        have:¬ OkDeg ds:=fun hd=>by have:=hd.2 i hi; simp only [Bool.not_eq_true',decide_eq_false_iff_not] at h1; exact h1 this
        simpa [this,show (i:Int)≥0 by omega] using h
      · rename_i h1
        refine hn _ fun j hj=>?_
        by_cases hji:j=i
        · subst hji; simp only [Bool.not_eq_true',decide_eq_false_iff_not,ZJw] at h1; exact h1
        · exact hI j (by omega)
    · intro s hI
      have:OkDeg ds:=⟨by omega,hI⟩
      simpa [this] using h
  · have:¬ OkDeg ds:=fun hd=>by have:=hd.1; omega
    simpa [this] using h
theorem Zgz {a:A8} {K:A8→Prop} (ha:J1 .u8 a) (h:K a):Zbm a K:=by
  unfold Zbm
  refine Ys (fun i (s:A8)=>∀ j,j < 8→s.get j=if j < i then a.get j else 0) 8 ?_ ?_ _ _ _ (by omega) (by intro j hj; simp [ZI7])
  · intro i s next hi hI hn
    have:=Zim (Zin ha hi)
    rw [i64_in _ (by omega)]
    refine hn _ fun j hj=>?_
    rw [ZIy hi]
    by_cases hji:j=i
    · subst hji; simp
    · rw [if_neg hji,hI j hj]
      by_cases hj2:j < i
      · rw [if_pos hj2,if_pos (by omega)]
      · rw [if_neg hj2,if_neg (by omega)]
  · intro s hI
    have:s=a:=ZIz fun i hi=>by rw [hI i hi,if_pos hi]
    rw [this]; exact h
theorem Zqe {a:A8} {K:A8→Prop} (h:K a):Zex a K:=by
  unfold Zex
  refine Ys (fun i (s:A8)=>∀ j,j < 8→s.get j=if j < i then a.get j else 0) 8 ?_ ?_ _ _ _ (by omega) (by intro j hj; simp [ZI7])
  · intro i s next hi hI hn
    refine hn _ fun j hj=>?_
    rw [ZIy hi]
    by_cases hji:j=i
    · subst hji; simp
    · rw [if_neg hji,hI j hj]
      by_cases hj2:j < i
      · rw [if_pos hj2,if_pos (by omega)]
      · rw [if_neg hj2,if_neg (by omega)]
  · intro s hI
    have:s=a:=ZIz fun i hi=>by rw [hI i hi,if_pos hi]
    rw [this]; exact h
theorem Ze7 {ds:List Int} {K:List Int→Prop} (hl:ds.length≤1048576) (h:K ds):Za7 ds K:=by
  unfold Za7
  refine⟨by omega,?_⟩
  refine Ys (fun i (s:List Int)=>s.length=ds.length∧∀ j,j < i→s.getD j Zuw=ds.getD j Zuw) ds.length ?_ ?_ _ _ _ (by omega) (by simp)
  · intro i s next hi hI hn
    refine⟨by omega,hn _ ⟨by simpa using hI.1,fun j hj=>?_⟩⟩
    by_cases hji:j=i
    · subst hji; simp [Zu3,hI.1,hi]
    · rw [← hI.2 j (by omega)]; simp [Zu3,List.getElem?_set_ne (fun e=>hji e.symm)]
  · intro s hI
    have:s=ds:=by
      apply List.ext_getElem hI.1
      intro i h1 h2
      have:=hI.2 i h2
      simpa [Zu3,h1,h2] using this
    rw [this]; exact h
theorem Zqf {a b:A8} {K:Bool→Prop} (h:K (decide (a=b))):Zez a b K:=by
  unfold Zez
  refine Ys (fun i _=>∀ j,j < i→a.get j=b.get j) 8 ?_ ?_ _ _ _ (by omega) (by intro j hj; omega)
  · intro i s next hi hI hn
    split
    · rename_i h1
      have:¬ a=b:=fun e=>h1 (by rw [e])
      simpa [this] using h
    · rename_i h1
      refine hn _ fun j hj=>?_
      by_cases hji:j=i
      · subst hji; simpa using h1
      · exact hI j (by omega)
  · intro s hI
    have:a=b:=ZIz hI
    simpa [this] using h
theorem Zla {a b : List Int} {K : Bool → Prop} (h : K (decide (a = b))) : Zcg a b K := by
  unfold Zcg
  split
  · rename_i h1
    have:¬ a=b:=fun e=>h1 (by rw [e])
    simpa [this] using h
  · rename_i h1
    have hl:a.length=b.length:=by omega
    refine Ys (fun i _=>∀ j,j < i→a.getD j Zuw=b.getD j Zuw) a.length ?_ ?_ _ _ _ (by omega) (by intro j hj; omega)
    · intro i s next hi hI hn
      refine⟨by omega,?_⟩
      split
      · rename_i h1
        have:¬ a=b:=fun e=>h1 (by rw [e])
        simpa [this] using h
      · rename_i h1
        refine hn _ fun j hj=>?_
        by_cases hji:j=i
        · subst hji; simpa using h1
        · exact hI j (by omega)
    · intro s hI
      have:a=b:=by
        apply List.ext_getElem hl
        intro i h1 h2
        have:=hI i h1
        simpa [Zu3,h1,h2] using this
      simpa [this] using h
end Go.Proofs.YtheenipahifleaaGreat
namespace Go.Proofs.YtheenipahifleaaGreat
open Go Vc
theorem Zg0 {ds:List Int} {a:A8} (h:Xv ds a) (hl:ds.length≤8) {i:Nat} (hi:i < ds.length) (ho:Zvh (ds.getD i Zuw) 2≠0):a.get i≤1:=((h i (by omega)).1 hi).2 ho
theorem Zqg {ds:List Int} {a b s:A8} (ha:Xv ds a) (hb:Xv ds b) (hl:ds.length≤8) (h:∀ j,j < 8→s.get j=if j < ds.length then a.get j+b.get j else 0):s=a.add b:=by
  refine ZIz fun i hi=>?_
  rw [h i hi,A8.get_add]
  split
  · rfl
  · rw [(ha i hi).2 (by omega),(hb i hi).2 (by omega)]; rfl
theorem Zqh {ds : List Int} {a b : A8} {K : A8 → Int → Prop} (hd : OkDeg ds) (ha : Xv ds a) (hb : Xv ds b) (pa : ∀ i, i < 8 → 0 ≤ a.get i) (pb : ∀ i, i < 8 → 0 ≤ b.get i)
    (h:K (Yt ds a b).1 (Yt ds a b).2):Zei ds a b K:=by
  have h8:=hd.1
  unfold Zei
  refine Ys (fun i (s:A8×Int)=>(∀ j,j < i→j < ds.length→Zvh (ds.getD j Zuw) 2≠0→¬ (0 < a.get j∧0 < b.get j))∧(∀ j,j < 8→s.1.get j=if j < i then a.get j+b.get j else 0)∧(s.2=1∨s.2=-1)∧s.2 * sg (Zas ds a b (ds.length - i) i)=sg (Zas ds a b ds.length 0)) ds.length ?_ ?_ _ _ _ (by omega) ⟨by intro j hj; omega,by intro j hj; simp [ZI7],by simp,by simp⟩
  · rintro i ⟨s1,s2⟩ next hi ⟨h1,h2,h3,h4⟩ hn
    have hi8:i < 8:=by omega
    have pai:=pa i hi8
    have pbi:=pb i hi8
    have a20:=((ha i hi8).1 hi).1
    have b20:=((hb i hi8).1 hi).1
    have hr:ds.length - i=(ds.length - (i+1))+1:=by omega
    rw [hr] at h4
    simp only [Zas] at h4
    dsimp only at h1 h2 h3 h4 ⊢
    have hw:ZGh.wrap (a.get i+b.get i)=a.get i+b.get i:=Zgd _ (by omega)
    rw [hw]
    have hset:∀ j,j < 8→(s1.set i (a.get i+b.get i)).get j=if j < i+1 then a.get j+b.get j else 0:=by
      intro j hj
      rw [ZIy hi8]
      by_cases hji:j=i
      · subst hji; simp
      · rw [if_neg hji,h2 j hj]
        by_cases hj2:j < i
        · rw [if_pos hj2,if_pos (by omega)]
        · rw [if_neg hj2,if_neg (by omega)]
    refine⟨by omega,by omega,by omega,?_⟩
    split
    · rename_i he
      rw [if_pos (.inl he),ZIw] at h4
      refine hn _ ⟨fun j hj hjl ho=>?_,hset,h3,h4⟩
      by_cases hji:j=i
      · subst hji; exact absurd he ho
      · exact h1 j (by omega) hjl ho
    · rename_i he
      have a1:=Zg0 ha h8 hi he
      have b1:=Zg0 hb h8 hi he
      refine⟨by omega,?_⟩
      rw [ZIy hi8,if_pos rfl]
      split
      · rename_i hc
        have:Clash ds a b:=⟨i,hi,he,by omega,by omega⟩
        simpa [Yt,this] using h
      · rename_i hc
        have hnc:∀ j,j < i+1→j < ds.length→Zvh (ds.getD j Zuw) 2≠0→¬ (0 < a.get j∧0 < b.get j):=by
          intro j hj hjl ho
          by_cases hji:j=i
          · subst hji; omega
          · exact h1 j (by omega) hjl ho
        rw [i64_in _ (by omega)]
        refine X4 (fun (t:Int×Int)=>((i:Int)+1≤t.1∧t.1≤ds.length)∧(t.2=1∨t.2=-1)∧(b.get i=1→t.2 * sg (Zar ds a (ds.length - t.1.toNat) t.1.toNat)=s2 * sg (Zar ds a (ds.length - (i+1)) (i+1)))∧(b.get i≠1→t.2=s2)) (fun t=>ds.length - t.1.toNat) ?_ ⟨by omega,h3,fun _=>by rw [show ((i:Int)+1).toNat=i+1 by omega],fun _=>rfl⟩
        rintro ⟨j,c⟩ next' ⟨⟨q1,q2⟩,q3,q4,q5⟩ hn'
        dsimp only at q1 q2 q3 q4 q5 ⊢
        split
        · rename_i hj
          refine⟨by omega,?_⟩
          split
          · rename_i hb1
            have hjn:j.toNat < ds.length:=by omega
            refine⟨by omega,?_⟩
            have q4:=q4 hb1
            have hr2:ds.length - j.toNat=(ds.length - (j.toNat+1))+1:=by omega
            rw [hr2] at q4
            simp only [Zar] at q4
            have hj1:(j+1).toNat=j.toNat+1:=by omega
            rw [i64_in (j+1) (by omega)]
            have pj:=pa j.toNat (by omega)
            split
            · rename_i ho
              have aj:=Zg0 ha h8 hjn ho
              have od:=hd.odd hjn
              have od1:Zvh (ds.getD j.toNat Zuw) 2=1:=by omega
              rw [od1,Int.one_mul] at q4
              refine⟨by omega,?_⟩
              split
              · rename_i haj
                rw [haj,Int.add_comm,Zol] at q4
                rw [i64_in (0 - c) (by omega)]
                refine hn' _ ⟨⟨by dsimp only; omega,by dsimp only; omega⟩,by dsimp only; omega,fun _=>?_,fun hne=>absurd hb1 hne⟩ (by dsimp only; omega)
                dsimp only
                rw [hj1,Int.zero_sub,Int.neg_mul,← Int.mul_neg]; exact q4
              · rename_i haj
                rw [show a.get j.toNat=0 by omega,ZIw] at q4
                refine hn' _ ⟨⟨by dsimp only; omega,by dsimp only; omega⟩,q3,fun _=>?_,fun hne=>absurd hb1 hne⟩ (by dsimp only; omega)
                dsimp only
                rw [hj1]; exact q4
            · rename_i ho
              rw [show Zvh (ds.getD j.toNat Zuw) 2=0 by simpa using ho,Int.zero_mul,ZIw] at q4
              refine hn' _ ⟨⟨by dsimp only; omega,by dsimp only; omega⟩,q3,fun _=>?_,fun hne=>absurd hb1 hne⟩ (by dsimp only; omega)
              dsimp only
              rw [hj1]; exact q4
          · rename_i hb1
            refine hn _ ⟨hnc,hset,q3,?_⟩
            rw [if_pos (.inr (by omega)),ZIw] at h4
            dsimp only
            rw [q5 hb1]; exact h4
        · rename_i hj
          refine hn _ ⟨hnc,hset,q3,?_⟩
          dsimp only
          by_cases hb1:b.get i=1
          · have q4:=q4 hb1
            rw [show ds.length - j.toNat=0 by omega] at q4
            simp only [Zar] at q4
            rw [show sg 0=1 from rfl,Int.mul_one] at q4
            rw [if_neg (by omega),Zge,← Int.mul_assoc] at h4
            rw [q4]; exact h4
          · rw [if_pos (.inr (by omega)),ZIw] at h4
            rw [q5 hb1]; exact h4
  · rintro ⟨s1,s2⟩ ⟨h1,h2,h3,h4⟩
    have hnc:¬ Clash ds a b:=fun ⟨i,hi,ho,hp⟩=>h1 i hi hi ho hp
    rw [Nat.sub_self] at h4
    simp only [Zas] at h4
    rw [show sg 0=1 from rfl,Int.mul_one] at h4
    have hs:s1=a.add b:=Zqg ha hb h8 h2
    dsimp only at h4 ⊢
    rw [hs,h4]
    simpa [Yt,hnc] using h
theorem Zqi {ds : List Int} {a b : A8} {K : A8 → Int → Prop} (hd : OkDeg ds) (ha : Xv ds a) (hb : Xv ds b) (pa : ∀ i, i < 8 → 0 ≤ a.get i) (pb : ∀ i, i < 8 → 0 ≤ b.get i)
    (h:K (Yt ds a b).1 (Yt ds a b).2):Zen a ds b K:=by
  have h8:=hd.1
  have bnd:∀ (x:A8),Xv ds x→∀ i,i < 8→x.get i≤100:=by
    intro x hx i hi
    by_cases hl:i < ds.length
    · exact((hx i hi).1 hl).1
    · rw [(hx i hi).2 (by omega)]; omega
  unfold Zen
  refine Ys (fun i (c:Int)=>(∀ j,j < i→j < ds.length→Zvh (ds.getD j Zuw) 2≠0→¬ (0 < a.get j∧0 < b.get j))∧(0≤c∧c≤8 * i)∧c+Zas ds a b (ds.length - i) i=Zas ds a b ds.length 0) ds.length ?_ ?_ _ _ _ (by omega) ⟨by intro j hj; omega,by omega,by simp⟩
  · rintro i c next hi ⟨h1,h2,h4⟩ hn
    have hi8:i < 8:=by omega
    have pai:=pa i hi8
    have pbi:=pb i hi8
    have hr:ds.length - i=(ds.length - (i+1))+1:=by omega
    rw [hr] at h4
    simp only [Zas] at h4
    split
    · rename_i he
      rw [if_pos (.inl he),ZIw] at h4
      refine hn _ ⟨fun j hj hjl ho=>?_,by omega,h4⟩
      by_cases hji:j=i
      · subst hji; exact absurd he ho
      · exact h1 j (by omega) hjl ho
    · rename_i he
      refine⟨by omega,?_⟩
      have hnc:¬ (0 < a.get i∧0 < b.get i)→∀ j,j < i+1→j < ds.length→Zvh (ds.getD j Zuw) 2≠0→¬ (0 < a.get j∧0 < b.get j):=by
        intro hno j hj hjl ho
        by_cases hji:j=i
        · subst hji; exact hno
        · exact h1 j (by omega) hjl ho
      split
      · rename_i hap
        refine⟨by omega,?_⟩
        split
        · rename_i hbp
          have:Clash ds a b:=⟨i,hi,he,by omega,by omega⟩
          simpa [Yt,this] using h
        · rename_i hbp
          rw [if_pos (.inr (by omega)),ZIw] at h4
          exact⟨by omega,hn _ ⟨hnc (by omega),by omega,h4⟩⟩
      · rename_i hap
        refine⟨by omega,?_⟩
        split
        · rename_i hbp
          have he0:¬ (Zvh (ds.getD i Zuw) 2=0∨b.get i≤0):=by rintro (q | q); exact he q; omega
          rw [if_neg he0] at h4
          rw [i64_in _ (by omega)]
          refine X4 (fun (t:Int×Int)=>((i:Int)+1≤t.1∧t.1≤ds.length)∧(0≤t.2∧t.2≤8 * i+(t.1 - (i+1)))∧t.2+Zar ds a (ds.length - t.1.toNat) t.1.toNat=c+Zar ds a (ds.length - (i+1)) (i+1)) (fun t=>ds.length - t.1.toNat) ?_ ⟨by omega,by omega,by rw [show ((i:Int)+1).toNat=i+1 by omega]⟩
          rintro ⟨j,d⟩ next' ⟨⟨q1,q2⟩,q3,q4⟩ hn'
          dsimp only at q1 q2 q3 q4 ⊢
          split
          · rename_i hj
            have hjn:j.toNat < ds.length:=by omega
            refine⟨by omega,by omega,?_⟩
            have hr2:ds.length - j.toNat=(ds.length - (j.toNat+1))+1:=by omega
            rw [hr2] at q4
            simp only [Zar] at q4
            have hj1:(j+1).toNat=j.toNat+1:=by omega
            have pj:=pa j.toNat (by omega)
            have hm:0≤Zvh (ds.getD j.toNat Zuw) 2 * a.get j.toNat∧Zvh (ds.getD j.toNat Zuw) 2 * a.get j.toNat≤1:=by
              rcases hd.odd hjn with od | od
              · rw [od]; omega
              · have:=Zg0 ha h8 hjn (by omega)
                rw [od]; omega
            rw [i64_in (Zvh (ds.getD j.toNat Zuw) 2 * a.get j.toNat) (by omega),i64_in (d+Zvh (ds.getD j.toNat Zuw) 2 * a.get j.toNat) (by omega),i64_in (j+1) (by omega)]
            refine hn' _ ⟨⟨by dsimp only; omega,by dsimp only; omega⟩,by dsimp only; omega,?_⟩ (by dsimp only; omega)
            dsimp only
            rw [hj1]; omega
          · rename_i hj
            rw [show ds.length - j.toNat=0 by omega] at q4
            simp only [Zar] at q4
            refine hn _ ⟨hnc (by omega),by omega,by omega⟩
        · rename_i hbp
          rw [if_pos (.inr (by omega)),ZIw] at h4
          exact hn _ ⟨hnc (by omega),by omega,h4⟩
  · rintro c ⟨h1,h2,h4⟩
    have hnc:¬ Clash ds a b:=fun ⟨i,hi,ho,hp⟩=>h1 i hi hi ho hp
    rw [Nat.sub_self] at h4
    simp only [Zas,Int.add_zero] at h4
    refine Ys (fun i (s:A8)=>∀ j,j < 8→s.get j=if j < i then a.get j+b.get j else a.get j) 8 ?_ ?_ _ _ _ (by omega) (by intro j hj; simp)
    · intro i s next hi hI hn
      have e1:=hI i hi
      rw [if_neg (by omega)] at e1
      have:=bnd a ha i hi
      have:=bnd b hb i hi
      have:=pa i hi
      have:=pb i hi
      rw [e1,i64_in _ (by omega)]
      refine hn _ fun j hj=>?_
      rw [ZIy hi]
      by_cases hji:j=i
      · subst hji; simp
      · rw [if_neg hji,hI j hj]
        by_cases hj2:j < i
        · rw [if_pos hj2,if_pos (by omega)]
        · rw [if_neg hj2,if_neg (by omega)]
    · intro s hI
      have hs:s=a.add b:=ZIz fun i hi=>by rw [hI i hi,if_pos hi,A8.get_add]
      have hj:Yt ds a b=(a.add b,sg c):=by simp [Yt,hnc,h4]
      rw [hj] at h
      rw [hs]
      split
      · rename_i ho
        have:sg c=-1:=by unfold sg; rw [ZI1 (by omega)] at ho; rw [if_neg (by omega)]
        rw [this] at h; exact h
      · rename_i ho
        have:sg c=1:=by unfold sg; rw [ZI1 (by omega)] at ho; rw [if_pos (by omega)]
        rw [this] at h; exact h
end Go.Proofs.YtheenipahifleaaGreat
namespace Go.Proofs.YtheenipahifleaaGreat
open Go Vc
theorem Zqj {l:List (A8×Int)} {K:List A8→Prop} (hl:l.length≤100000) (hok:∀ p,p∈l→OkP p.1) (h:∀ xs:List A8,xs.Perm (l.map (·.1))→xs.Pairwise (fun a b=>¬ pcmp b a < 0)→K xs):Zeo l K:=by
  unfold Zeo
  refine Zc9 (fun l' (s:List A8)=>(s++l'.map (·.1)).Perm (l.map (·.1))∧s.length+l'.length=l.length) ?_ ?_ l [] ⟨by simp,by simp⟩
  · intro l' p l'' s next hp ⟨h1,h2⟩ hn
    have hpp:=Zda hp
    have hln:=Zc6 hp
    refine⟨by unfold Xd; omega,hn _ ⟨?_,by simp; omega⟩⟩
    refine List.Perm.trans ?_ h1
    rw [List.append_assoc]
    refine List.Perm.append_left _ ?_
    exact(hpp.map (·.1)).symm
  · intro s ⟨h1,h2⟩
    rw [List.map_nil,List.append_nil] at h1
    refine⟨⟨fun x hx=>?_,by simp at h2; omega⟩,fun xs hp hw=>h xs (hp.trans h1) hw⟩
    obtain ⟨p,hp,rfl⟩:=Zv7.1 (h1.mem_iff.1 hx)
    exact hok p hp
theorem Zqk {l : List (A8 × Int)} {K : ZF9 → Int → Prop} (hl : l.length ≤ 400) (hok : ∀ p, p ∈ l → OkP p.1) (h3 : (∃ p, p ∈ l ∧ ∃ i, i < 8 ∧ p.1.get i > 20) → K ⟨[]⟩ 3)
    (h0:(∀ p,p∈l→∀ i,i < 8→p.1.get i≤20)→∀ xs:List A8,xs.Perm (l.map (·.1))→xs.Pairwise (fun a b=>¬ pcmp b a < 0)→K ⟨xs.map fun x=>⟨x,(Ym l x).getD 0⟩⟩ 0):Zce l K:=by
  unfold Zce
  rw [if_neg (by omega)]
  refine Zqj (by omega) hok fun xs hp hw=>?_
  have hxl:xs.length=l.length:=by simpa using hp.length_eq
  have hxm:∀ i,i < xs.length→∃ p,p∈l∧p.1=xs.getD i Zuw:=by
    intro i hi
    have:xs.getD i Zuw∈xs:=by simp [Zu3,hi]
    obtain ⟨p,hpl,he⟩:=Zv7.1 (hp.mem_iff.1 this)
    exact⟨p,hpl,he⟩
  refine Ys (fun i (s:List Term)=>(∀ j,j < i→∀ q,q < 8→(xs.getD j Zuw).get q≤20)∧s=(xs.take i).map fun x=>⟨x,(Ym l x).getD 0⟩) xs.length ?_ ?_ _ _ _ (by omega) ⟨by intro j hj; omega,by simp⟩
  · intro i s next hi ⟨h1, h2⟩ hn
    obtain ⟨p,hpl,hpe⟩:=hxm i hi
    refine Ys (fun j (t:A8)=>(∀ q,q < j→(xs.getD i Zuw).get q≤20)∧∀ q,q < 8→t.get q=if q < j then(xs.getD i Zuw).get q else 0) 8 ?_ ?_ _ _ _ (by omega) ⟨by intro q hq; omega,by intro q hq; simp [ZI7]⟩
    · intro j t next' hj ⟨g1, g2⟩ hn'
      split
      · rename_i hgt
        exact h3 ⟨p,hpl,j,hj,by rw [hpe]; exact hgt⟩
      · rename_i hgt
        have hnn:=(hok p hpl _ (A8.mem_list.2 ⟨j,hj,rfl⟩)).1
        rw [hpe] at hnn
        rw [Zgd _ (by omega)]
        refine hn' _ ⟨fun q hq=>?_,fun q hq=>?_⟩
        · by_cases hqj:q=j
          · subst hqj; omega
          · exact g1 q (by omega)
        · rw [ZIy hj]
          by_cases hqj:q=j
          · subst hqj; simp
          · rw [if_neg hqj,g2 q hq]
            by_cases hq2:q < j
            · rw [if_pos hq2,if_pos (by omega)]
            · rw [if_neg hq2,if_neg (by omega)]
    · intro t ⟨g1,g2⟩
      have ht:t=xs.getD i Zuw:=ZIz fun q hq=>by rw [g2 q hq,if_pos hq]
      have hsl:s.length=i:=by rw [h2]; simp; omega
      refine⟨by unfold Xd; omega,hn _ ⟨fun j hj q hq=>?_,?_⟩⟩
      · by_cases hji:j=i
        · subst hji; exact g1 q hq
        · exact h1 j (by omega) q hq
      · rw [List.take_add_one,List.map_append,← h2,ht]
        congr 1
        simp [Zu3,hi]
  · intro s ⟨h1,h2⟩
    rw [h2,List.take_length]
    refine h0 (fun p hpl i hi=>?_) xs hp hw
    have:p.1∈xs:=hp.mem_iff.2 (Zv7.2 ⟨p,hpl,rfl⟩)
    obtain ⟨j,hj,hje⟩:=List.getElem_of_mem this
    have:=h1 j hj i hi
    rwa [show xs.getD j Zuw=p.1 by simp [Zu3,hj,hje]] at this
end Go.Proofs.YtheenipahifleaaGreat
namespace Vc
open Go
theorem Zlb:∀ (xs ys:List Int),xs.length=ys.length→Xr xs ys=0→xs=ys
  | [],[],_,_=>rfl
  | x :: xs, y :: ys, h, h0 => by
    simp only [Xr] at h0
    split at h0
    · omega
    · rename_i he
      have he:x=y:=ZJw.1 he
      rw [he,Zlb xs ys (by simpa using h) h0]
  | [],_::_,h,_=>by simp at h
  | _::_,[],h,_=>by simp at h
theorem Zlc:∀ (xs ys:List Int),Xr xs ys=- Xr ys xs
  | [],[]=>rfl
  | x :: xs, y :: ys => by
    simp only [Xr]
    have:=Zlc xs ys
    split <;> split <;> omega
  | [],_::_=>rfl
  | _::_,[]=>rfl
theorem A8.list_inj {a b:A8} (h:a.list=b.list):a=b:=by
  cases a; cases b
  simpa [A8.list] using h
theorem Zql (a:A8):pcmp a a=0:=Zkn _
theorem Zld (a b:A8):pcmp a b=- pcmp b a:=Zlc _ _
theorem Zah {a b c:A8} (h1:pcmp a b < 0) (h2:pcmp b c < 0):pcmp a c < 0:=Zij a.list b.list c.list rfl rfl h1 h2
theorem Zg1 {a b:A8} (h1:¬ pcmp a b < 0) (h2:¬ pcmp b a < 0):a=b :=
  A8.list_inj (Zlb _ _ rfl (by have:=Zld a b; unfold pcmp at *; omega))
theorem Ze8 {a b:A8} (h:pcmp a b < 0):a≠b:=by rintro rfl; rw [Zql] at h; omega
theorem Ze9 {a b:A8} (h:pcmp a b < 0):b≠a:=fun e=>Ze8 h e.symm
theorem Zle {a b:A8} (h:pcmp a b < 0):¬ pcmp b a < 0:=by have:=Zld a b; omega
def tot {α:Type} (f:α→Int):List α→Int
  | []=>0
  | a::l=>f a+tot f l
theorem Zdj {α:Type} (f:α→Int) (l k:List α):tot f (l++k)=tot f l+tot f k:=by
  induction l with
  | nil=>simp [tot]
  | cons a l ih=>simp only [List.cons_append,tot,ih]; omega
theorem Zci {α:Type} (f:α→Int) {l k:List α} (h:l.Perm k):tot f l=tot f k:=by
  induction h with
  | nil=>rfl
  | cons x _ ih=>simp only [tot,ih]
  | swap x y l=>simp only [tot]; omega
  | trans _ _ h1 h2=>exact h1.trans h2
theorem Zai {α β:Type} (f:β→Int) (g:α→β) (l:List α):tot f (l.map g)=tot (fun a=>f (g a)) l:=by
  induction l with
  | nil=>rfl
  | cons a l ih=>simp only [Zvx,tot,ih]
theorem Zav {α:Type} {f g:α→Int} {l:List α} (h:∀ a,a∈l→f a=g a):tot f l=tot g l:=by
  induction l with
  | nil=>rfl
  | cons a l ih=>simp only [tot]; rw [h a (by simp),ih fun b hb=>h b (by simp [hb])]
theorem Zlf {α:Type} (k:Int) (f:α→Int) (l:List α):tot (fun a=>k * f a) l=k * tot f l:=by
  induction l with
  | nil=>simp [tot]
  | cons a l ih=>simp only [tot,ih,Int.mul_add]
theorem Zqm {α:Type} (f g:α→Int) (l:List α):tot (fun a=>f a+g a) l=tot f l+tot g l:=by
  induction l with
  | nil=>simp [tot]
  | cons a l ih=>simp only [tot,ih]; omega
theorem Zg2 {α:Type} {f:α→Int} {l:List α} (h:∀ a,a∈l→f a=0):tot f l=0:=by
  induction l with
  | nil=>rfl
  | cons a l ih=>simp only [tot]; rw [h a (by simp),ih fun b hb=>h b (by simp [hb])]; rfl
theorem Zi3 {α:Type} {f g:α→Int} {l:List α} (h:∀ a,a∈l→f a % 10007=g a % 10007):tot f l % 10007=tot g l % 10007:=by
  induction l with
  | nil=>rfl
  | cons a l ih =>
    have h1:=h a (by simp)
    have h2:=ih fun b hb=>h b (by simp [hb])
    simp only [tot]; omega
def co (l:List (A8×Int)) (m:A8):Int:=tot (fun p=>if p.1=m then p.2 else 0) l
def coT (l:List Term) (m:A8):Int:=tot (fun t=>if t.mono=m then t.factor else 0) l
theorem J4 (p:A8×Int) (l:List (A8×Int)) (m:A8):co (p::l) m=(if p.1=m then p.2 else 0)+co l m:=rfl
theorem Za8 (t:Term) (l:List Term) (m:A8):coT (t::l) m=(if t.mono=m then t.factor else 0)+coT l m:=rfl
theorem Zcj (m:A8):coT [] m=0:=rfl
theorem Zck (m:A8):co [] m=0:=rfl
theorem Za9 (l:List Term) (t:Term) (m:A8):coT (l++[t]) m=coT l m+(if t.mono=m then t.factor else 0):=by
  rw [coT,Zdj]; simp [tot,coT]
theorem Zfa {l:List Term} {m:A8} (h:∀ t,t∈l→t.mono≠m):coT l m=0:=Zg2 fun t ht=>if_neg (h t ht)
theorem Zbo {l:List (A8×Int)} {m:A8} (h:∀ t,t∈l→t.1≠m):co l m=0:=Zg2 fun t ht=>if_neg (h t ht)
def Canon (l:List Term):Prop:=l.Pairwise (fun a b=>pcmp a.mono b.mono < 0)∧∀ t,t∈l→1≤t.factor∧t.factor≤10006
theorem Canon.nil:Canon []:=⟨ZJ3,by simp⟩
theorem Canon.tail {t:Term} {l:List Term} (h:Canon (t::l)):Canon l:=⟨(Zvd.1 h.1).2,fun s hs=>h.2 s (by simp [hs])⟩
theorem Canon.head {t:Term} {l:List Term} (h:Canon (t::l)):∀ s,s∈l→pcmp t.mono s.mono < 0:=(Zvd.1 h.1).1
theorem Canon.snoc {l:List Term} {t:Term} (h:Canon l) (hl:∀ s,s∈l→pcmp s.mono t.mono < 0) (hf:1≤t.factor∧t.factor≤10006):Canon (l++[t]):=by
  refine⟨ZJ4.2 ⟨h.1,by simp,fun a ha b hb=>?_⟩,fun s hs=>?_⟩
  · obtain rfl:b=t:=by simpa using hb
    exact hl a ha
  · rcases List.mem_append.1 hs with q | q
    · exact h.2 s q
    · obtain rfl:s=t:=by simpa using q
      exact hf
theorem Canon.at_head {t:Term} {l:List Term} (h:Canon (t::l)):coT (t::l) t.mono=t.factor:=by
  rw [Za8,if_pos rfl,Zfa fun s hs=>Ze9 (h.head s hs),Int.add_zero]
theorem Canon.range {l:List Term} (h:Canon l) (m:A8):0≤coT l m∧coT l m≤10006:=by
  induction l with
  | nil=>simp [Zcj]
  | cons t l ih =>
    by_cases hm:t.mono=m
    · subst hm
      rw [h.at_head]
      have:=h.2 t (by simp)
      omega
    · rw [Za8,if_neg hm,ZIw]
      exact ih h.tail
theorem Zlg : ∀ (A B : List Term), Canon A → Canon B → (∀ m, coT A m = coT B m) → A = B
  | [],[],_,_,_=>rfl
  | [], b :: B, _, hB, h => by
    have:=h b.mono
    rw [hB.at_head,Zcj] at this
    have:=hB.2 b (by simp)
    omega
  | a :: A, [], hA, _, h => by
    have:=h a.mono
    rw [hA.at_head,Zcj] at this
    have:=hA.2 a (by simp)
    omega
  | a :: A, b :: B, hA, hB, h => by
    have ha:=hA.2 a (by simp)
    have hb:=hB.2 b (by simp)
    by_cases h1:pcmp a.mono b.mono < 0
    · exfalso
      have:=h a.mono
      rw [hA.at_head,Zfa (l:=b::B)] at this
      · omega
      · intro t ht
        rcases Zus.1 ht with rfl | ht
        · exact Ze9 h1
        · exact Ze9 (Zah h1 (hB.head t ht))
    · by_cases h2:pcmp b.mono a.mono < 0
      · exfalso
        have:=h b.mono
        rw [hB.at_head,Zfa (l:=a::A)] at this
        · omega
        · intro t ht
          rcases Zus.1 ht with rfl | ht
          · exact Ze9 h2
          · exact Ze9 (Zah h2 (hA.head t ht))
      · have hm:a.mono=b.mono:=Zg1 h1 h2
        have hf:a.factor=b.factor:=by
          have:=h a.mono
          rw [hA.at_head,hm,hB.at_head] at this; exact this
        have hab:a=b:=by cases a; cases b; simp only at hm hf; rw [hm,hf]
        subst hab
        rw [Zlg A B hA.tail hB.tail fun m=>?_]
        have:=h m
        rw [Za8,Za8] at this
        omega
theorem Zlh {A B:List Term} (hA:Canon A) (hB:Canon B) (h:∀ m,coT A m % 10007=coT B m % 10007):A=B :=
  Zlg A B hA hB fun m=>by have:=h m; have:=hA.range m; have:=hB.range m; omega
theorem Zfb (x:Int):-10007 < Zvh x 10007∧Zvh x 10007 < 10007:=by
  rcases Int.le_total 0 x with h | h
  · rw [ZI1 h]; omega
  · have e:Zvh x 10007=- Zvh (-x) 10007:=by rw [Int.neg_tmod]; omega
    rw [e,ZI1 (by omega)]; omega
theorem Zli (x:Int):Zvh (Zvh x 10007+10007) 10007=x % 10007:=by
  have h1:=Zfb x
  rw [ZI1 (by omega)]
  have h2:x=10007 * Int.tdiv x 10007+Zvh x 10007:=(ZJ6 x 10007).symm
  omega
theorem Zlj (x:Int):Zvh x 10007 % 10007=x % 10007:=by
  have h2:x=10007 * Int.tdiv x 10007+Zvh x 10007:=(ZJ6 x 10007).symm
  omega
theorem Zqn {d e:Nat} (h:d * e=10007):d=1∨e=1:=by
  have key:∀ k,k < 101→k ∣ 10007→k≤1:=by decide
  by_cases hd:d < 101
  · left
    have:=key d hd ⟨e,h.symm⟩
    rcases Nat.eq_zero_or_pos d with rfl | q
    · simp at h
    · omega
  · by_cases he:e < 101
    · right
      have:=key e he ⟨d,by rw [Nat.mul_comm]; exact h.symm⟩
      rcases Nat.eq_zero_or_pos e with rfl | q
      · simp at h
      · omega
    · exfalso
      have:101 * 101≤d * e:=Nat.mul_le_mul (by omega) (by omega)
      omega
theorem Zqo {a:Nat} (h1:1≤a) (h2:a≤10006):Nat.Coprime 10007 a:=by
  obtain ⟨e,he⟩:=Nat.gcd_dvd_left 10007 a
  rcases Zqn he.symm with q | q
  · exact q
  · exfalso
    rw [q,Nat.mul_one] at he
    have:=Nat.le_of_dvd (by omega) (Nat.gcd_dvd_right 10007 a)
    omega
theorem Zqp {a b:Int} (ha:1≤a∧a≤10006) (hb:1≤b∧b≤10006):(a * b) % 10007≠0:=by
  obtain ⟨x,rfl⟩:=ZJ9 (show 0≤a by omega)
  obtain ⟨y,rfl⟩:=ZJ9 (show 0≤b by omega)
  intro h
  have h:(x * y) % 10007=0:=by
    have e:((x:Int) * (y:Int))=((x * y:Nat):Int):=(Int.natCast_mul x y).symm
    rw [e] at h; omega
  have:=(Zqo (a:=x) (by omega) (by omega)).dvd_of_dvd_mul_left (Nat.dvd_of_mod_eq_zero h)
  have:=Nat.le_of_dvd (by omega) this
  omega
theorem Zqq {s a b:Int} (hs:s=1∨s=-1) (ha:1≤a∧a≤10006) (hb:1≤b∧b≤10006):1≤(s * (a * b)) % 10007∧(s * (a * b)) % 10007≤10006:=by
  have:=Zqp ha hb
  rcases hs with rfl | rfl <;> omega
theorem Zlk:∀ (a x y:List Int),a.length=x.length→x.length=y.length→Xr (List.zipWith (·+·) a x) (List.zipWith (·+·) a y)=Xr x y
  | [],[],[],_,_=>rfl
  | a :: ar, x :: xs, y :: ys, h1, h2 => by
    simp only [List.zipWith_cons_cons,Xr]
    have:=Zlk ar xs ys (by simpa using h1) (by simpa using h2)
    by_cases h:x=y
    · subst h; simpa using this
    · rw [if_pos (by omega),if_pos h]; omega
  | [],_::_,_,h,_=>by simp at h
  | _::_,[],_,h,_=>by simp at h
  | _::_,_::_,[],_,h=>by simp at h
  | [],[],_::_,_,h=>by simp at h
theorem Zqr (a x y:A8):pcmp (a.add x) (a.add y)=pcmp x y:=Zlk a.list x.list y.list rfl rfl
theorem Jy {α:Type} [Inhabited α] {l:List α} {i:Nat} (h:i < l.length):l.take (i+1)=l.take i++[l.getD i Zuw]:=by
  rw [List.take_add_one]; simp [Zu3,h]
theorem Canon.at_lt {l:List Term} (h:Canon l) {i j:Nat} (hij:i < j) (hj:j < l.length):pcmp (l.getD i Zuw).mono (l.getD j Zuw).mono < 0:=by
  have:=(List.pairwise_iff_getElem.1 h.1) i j (by omega) hj hij
  simpa [Zu3,hj,show i < l.length by omega] using this
theorem Canon.at_range {l:List Term} (h:Canon l) {i:Nat} (hi:i < l.length):1≤(l.getD i Zuw).factor∧(l.getD i Zuw).factor≤10006:=h.2 _ (by simp [Zu3,hi])
theorem X1 {α:Type} [Inhabited α] {l:List α} {i:Nat} (h:i < l.length):l.getD i Zuw∈l:=by simp [Zu3,h]
structure AddI (f g:List Term) (k:Int) (out:List Term) (i j:Nat):Prop where
  hi:i≤f.length
  hj:j≤g.length
  can:Canon out
  cf:∀ m,coT out m % 10007=(coT (f.take i) m+k * coT (g.take j) m) % 10007
  bf:∀ x,x∈out→i < f.length→pcmp x.mono (f.getD i Zuw).mono < 0
  bg:∀ x,x∈out→j < g.length→pcmp x.mono (g.getD j Zuw).mono < 0
  mo:∀ x,x∈out→∃ y,(y∈f∨y∈g)∧y.mono=x.mono
  ln:out.length≤i+j
theorem AddI.zero (f g:List Term) (k:Int):AddI f g k [] 0 0 :=
  ⟨by omega,by omega,Canon.nil,by intro m; simp [Zcj],by simp,by simp,by simp,by simp⟩
theorem Zaw {α:Type} {l:List α} {t x:α} (h:x∈l++[t]):x∈l∨x=t:=by simpa using h
theorem AddI.stepF {f g:List Term} {k:Int} {out:List Term} {i j:Nat} (h:AddI f g k out i j) (cf:Canon f) (cg:Canon g) (hi:i < f.length) (hb:j < g.length→pcmp (f.getD i Zuw).mono (g.getD j Zuw).mono < 0) :
    AddI f g k (out++[f.getD i Zuw]) (i+1) j where
  hi:=hi
  hj:=h.hj
  can:=h.can.snoc (fun s hs=>h.bf s hs hi) (cf.at_range hi)
  cf m:=by
    have:=h.cf m
    rw [Za9,Jy hi,Za9]
    omega
  bf x hx hl:=by
    rcases Zaw hx with q | rfl
    · exact Zah (h.bf x q hi) (cf.at_lt (by omega) hl)
    · exact cf.at_lt (by omega) hl
  bg x hx hl:=by
    rcases Zaw hx with q | rfl
    · exact h.bg x q hl
    · exact hb hl
  mo x hx:=by
    rcases Zaw hx with q | rfl
    · exact h.mo x q
    · exact⟨_,.inl (X1 hi),rfl⟩
  ln:=by have:=h.ln; simp; omega
theorem AddI.cfG {f g:List Term} {k:Int} {out:List Term} {i j:Nat} (h:AddI f g k out i j) (hj:j < g.length) (m:A8) :
    k * coT (g.take (j+1)) m=k * coT (g.take j) m+(if(g.getD j Zuw).mono=m then k * (g.getD j Zuw).factor else 0):=by
  rw [Jy hj,Za9,Int.mul_add]
  split <;> simp
theorem AddI.stepG0 {f g:List Term} {k:Int} {out:List Term} {i j:Nat} (h:AddI f g k out i j) (cf:Canon f) (cg:Canon g) (hj:j < g.length)
    (hz:(k * (g.getD j Zuw).factor) % 10007=0):AddI f g k out i (j+1) where
  hi:=h.hi
  hj:=hj
  can:=h.can
  cf m:=by
    have:=h.cf m
    rw [h.cfG hj m]
    split <;> omega
  bf:=h.bf
  bg x hx hl:=Zah (h.bg x hx hj) (cg.at_lt (by omega) hl)
  mo:=h.mo
  ln:=by have:=h.ln; omega
theorem AddI.stepG1 {f g:List Term} {k:Int} {out:List Term} {i j:Nat} (h:AddI f g k out i j) (cf:Canon f) (cg:Canon g) (hj:j < g.length) (hb:i < f.length→pcmp (g.getD j Zuw).mono (f.getD i Zuw).mono < 0)
    {v:Int} (hv:v=(k * (g.getD j Zuw).factor) % 10007) (hz:v≠0):AddI f g k (out++[⟨(g.getD j Zuw).mono,v⟩]) i (j+1) where
  hi:=h.hi
  hj:=hj
  can:=h.can.snoc (fun s hs=>h.bg s hs hj) (by dsimp only; omega)
  cf m:=by
    have:=h.cf m
    rw [h.cfG hj m,Za9]
    dsimp only
    split <;> omega
  bf x hx hl:=by
    rcases Zaw hx with q | rfl
    · exact h.bf x q hl
    · exact hb hl
  bg x hx hl:=by
    rcases Zaw hx with q | rfl
    · exact Zah (h.bg x q hj) (cg.at_lt (by omega) hl)
    · exact cg.at_lt (by omega) hl
  mo x hx:=by
    rcases Zaw hx with q | rfl
    · exact h.mo x q
    · exact⟨_,.inr (X1 hj),rfl⟩
  ln:=by have:=h.ln; simp; omega
theorem AddI.stepB0 {f g:List Term} {k:Int} {out:List Term} {i j:Nat} (h:AddI f g k out i j) (cf:Canon f) (cg:Canon g) (hi:i < f.length) (hj:j < g.length) (he:(f.getD i Zuw).mono=(g.getD j Zuw).mono)
    (hz:((f.getD i Zuw).factor+k * (g.getD j Zuw).factor) % 10007=0):AddI f g k out (i+1) (j+1) where
  hi:=hi
  hj:=hj
  can:=h.can
  cf m:=by
    have:=h.cf m
    rw [h.cfG hj m,Jy hi,Za9,he]
    split <;> omega
  bf x hx hl:=Zah (h.bf x hx hi) (cf.at_lt (by omega) hl)
  bg x hx hl:=Zah (h.bg x hx hj) (cg.at_lt (by omega) hl)
  mo:=h.mo
  ln:=by have:=h.ln; omega
theorem AddI.stepB1 {f g:List Term} {k:Int} {out:List Term} {i j:Nat} (h:AddI f g k out i j) (cf:Canon f) (cg:Canon g) (hi:i < f.length) (hj:j < g.length) (he:(f.getD i Zuw).mono=(g.getD j Zuw).mono)
    {v:Int} (hv:v=((f.getD i Zuw).factor+k * (g.getD j Zuw).factor) % 10007) (hz:v≠0):AddI f g k (out++[⟨(f.getD i Zuw).mono,v⟩]) (i+1) (j+1) where
  hi:=hi
  hj:=hj
  can:=h.can.snoc (fun s hs=>h.bf s hs hi) (by dsimp only; omega)
  cf m:=by
    have:=h.cf m
    rw [h.cfG hj m,Jy hi,Za9,Za9,he]
    dsimp only
    split <;> omega
  bf x hx hl:=by
    rcases Zaw hx with q | rfl
    · exact Zah (h.bf x q hi) (cf.at_lt (by omega) hl)
    · exact cf.at_lt (by omega) hl
  bg x hx hl:=by
    rcases Zaw hx with q | rfl
    · exact Zah (h.bg x q hj) (cg.at_lt (by omega) hl)
    · dsimp only; rw [he]; exact cg.at_lt (by omega) hl
  mo x hx:=by
    rcases Zaw hx with q | rfl
    · exact h.mo x q
    · exact⟨_,.inl (X1 hi),rfl⟩
  ln:=by have:=h.ln; simp; omega
structure IsAdd (f g:List Term) (k:Int) (out:List Term):Prop where
  can:Canon out
  cf:∀ m,coT out m % 10007=(coT f m+k * coT g m) % 10007
  mo:∀ x,x∈out→∃ y,(y∈f∨y∈g)∧y.mono=x.mono
  ln:out.length≤f.length+g.length
theorem AddI.done {f g:List Term} {k:Int} {out:List Term} {i j:Nat} (h:AddI f g k out i j) (hi:¬ i < f.length) (hj:¬ j < g.length):IsAdd f g k out where
  can:=h.can
  cf m:=by have:=h.cf m; rwa [Zwh (by omega),Zwh (by omega)] at this
  mo:=h.mo
  ln:=by have:=h.ln; have:=h.hi; have:=h.hj; omega
def pr1 (ds:List Int) (a:A8) (n:Int) (b:A8) (m':Int) (m:A8):Int:=if(Yt ds a b).1=m then(Yt ds a b).2 * (n * m') else 0
def shC (ds:List Int) (t:Term) (g:List Term) (m:A8):Int:=tot (fun u=>pr1 ds t.mono t.factor u.mono u.factor m) g
def prC (ds:List Int) (f g:List Term) (m:A8):Int:=tot (fun t=>shC ds t g m) f
structure IsShift (ds:List Int) (t:Term) (g out:List Term):Prop where
  can:Canon out
  cf:∀ m,coT out m % 10007=shC ds t g m % 10007
  mo:∀ x,x∈out→∃ u,u∈g∧x.mono=t.mono.add u.mono∧¬ Clash ds t.mono u.mono
  ln:out.length≤g.length
theorem IsShift.nil (ds:List Int) (t:Term):IsShift ds t [] []:=⟨Canon.nil,by intro m; rfl,by simp,by simp⟩
theorem Zll (ds:List Int) (t:Term) (g:List Term) (u:Term) (m:A8):shC ds t (g++[u]) m=shC ds t g m+pr1 ds t.mono t.factor u.mono u.factor m:=by
  rw [shC,Zdj]; simp [tot,shC]
theorem Canon.init {l:List Term} {u:Term} (h:Canon (l++[u])):Canon l∧∀ s,s∈l→pcmp s.mono u.mono < 0:=by
  have:=ZJ4.1 h.1
  exact⟨⟨this.1,fun s hs=>h.2 s (by simp [hs])⟩,fun s hs=>this.2.2 s hs u (by simp)⟩
theorem IsShift.skip {ds:List Int} {t:Term} {g out:List Term} {u:Term} (h:IsShift ds t g out) (hs:(Yt ds t.mono u.mono).2=0):IsShift ds t (g++[u]) out where
  can:=h.can
  cf m:=by
    have:=h.cf m
    rw [Zll,pr1,hs]
    split <;> simp [this]
  mo x hx:=by
    obtain ⟨u',hu,he⟩:=h.mo x hx
    exact⟨u',by simp [hu],he⟩
  ln:=by have:=h.ln; simp; omega
theorem Zfc {ds:List Int} {a b:A8} (h:(Yt ds a b).2≠0):¬ Clash ds a b∧(Yt ds a b).1=a.add b∧((Yt ds a b).2=1∨(Yt ds a b).2=-1):=by
  have hc:¬ Clash ds a b:=fun q=>h (by simp [Yt,q])
  refine⟨hc,by simp [Yt,hc],?_⟩
  simp only [Yt,hc,if_false]
  exact Zkt _
theorem IsShift.put {ds:List Int} {t:Term} {g out:List Term} {u:Term} (h:IsShift ds t g out) (cg:Canon (g++[u])) (ht:1≤t.factor∧t.factor≤10006) (hs:(Yt ds t.mono u.mono).2≠0) {v:Int} (hv:v=((Yt ds t.mono u.mono).2 * (t.factor * u.factor)) % 10007) :
    IsShift ds t (g++[u]) (out++[⟨(Yt ds t.mono u.mono).1,v⟩]):=by
  obtain ⟨hc,he,hsg⟩:=Zfc hs
  have hu:=cg.2 u (by simp)
  have hnz:=Zqq hsg ht hu
  refine⟨h.can.snoc (fun s hs'=>?_) (by dsimp only; omega),fun m=>?_,fun x hx=>?_,by have:=h.ln; simp; omega⟩
  · obtain ⟨u',hu',he',_⟩:=h.mo s hs'
    dsimp only
    rw [he,he',Zqr]
    exact cg.init.2 u' hu'
  · have:=h.cf m
    rw [Za9,Zll,pr1]
    dsimp only
    split <;> omega
  · rcases Zaw hx with q | rfl
    · obtain ⟨u',hu',he'⟩:=h.mo x q
      exact⟨u',by simp [hu'],he'⟩
    · exact⟨u,by simp,he,hc⟩
structure IsProd (ds:List Int) (f g out:List Term):Prop where
  can:Canon out
  cf:∀ m,coT out m % 10007=prC ds f g m % 10007
  mo:∀ x,x∈out→∃ t u,t∈f∧u∈g∧x.mono=t.mono.add u.mono∧¬ Clash ds t.mono u.mono
  ln:out.length≤f.length * g.length
theorem IsProd.nil (ds:List Int) (g:List Term):IsProd ds [] g []:=⟨Canon.nil,by intro m; rfl,by simp,by simp⟩
theorem IsProd.step {ds:List Int} {f g out sh out':List Term} {t:Term} (h:IsProd ds f g out) (hs:IsShift ds t g sh) (ha:IsAdd out sh 1 out'):IsProd ds (f++[t]) g out' where
  can:=ha.can
  cf m:=by
    have h1:=h.cf m
    have h2:=hs.cf m
    have h3:=ha.cf m
    rw [prC,Zdj]
    simp only [tot]
    unfold prC at h1
    omega
  mo x hx:=by
    obtain ⟨y,hy | hy,he⟩:=ha.mo x hx
    · obtain ⟨a,u,h1,h2,h3,h4⟩:=h.mo y hy
      exact⟨a,u,by simp [h1],h2,he ▸ h3,h4⟩
    · obtain ⟨u,h2,h3,h4⟩:=hs.mo y hy
      exact⟨t,u,by simp,h2,he ▸ h3,h4⟩
  ln:=by
    have h1:=h.ln
    have h2:=hs.ln
    have h3:=ha.ln
    have:(f++[t]).length * g.length=f.length * g.length+g.length:=by simp [Nat.add_mul]
    omega
def MapOk (l:List (A8×Int)):Prop:=(l.map Zvy).Nodup∧∀ p,p∈l→1≤p.2∧p.2≤10006
theorem MapOk.nil:MapOk []:=⟨by simp,by simp⟩
theorem Zdk {l : List (A8 × Int)} (h : (l.map Zvy).Nodup) (m : A8) : (Ym l m).getD 0 = co l m := by
  induction l with
  | nil=>rfl
  | cons p l ih =>
    simp only [Zvx,ZIx] at h
    simp only [Ym,J4]
    by_cases hm:m=p.1
    · subst hm
      rw [if_pos rfl,if_pos rfl,Zbo]
      · simp
      · intro t ht e
        exact h.1 (Zv7.2 ⟨t,ht,e⟩)
    · rw [if_neg hm,if_neg (fun e=>hm e.symm),ih h.2,ZIw]
theorem Zlm {l : List (A8 × Int)} (h : (l.map Zvy).Nodup) (x : A8) (v : Int) (m : A8) : co (Yc l x v) m = if m = x then v else co l m := by
  induction l with
  | nil => simp only [Yc, J4, Zck]; by_cases hm : m = x
           · subst hm; simp
           · rw [if_neg (fun e=>hm e.symm),if_neg hm]; rfl
  | cons p l ih =>
    simp only [Zvx,ZIx] at h
    simp only [Yc]
    split
    · rename_i hx
      rw [J4,J4]
      dsimp only
      by_cases hm:m=x
      · subst hm
        rw [if_pos rfl,if_pos rfl,Zbo]
        · simp
        · intro t ht e
          exact h.1 (Zv7.2 ⟨t,ht,by rw [e,hx]⟩)
      · rw [if_neg (fun e=>hm e.symm),if_neg hm,if_neg (fun e=>hm (by rw [hx,e]))]
    · rename_i hx
      rw [J4,J4,ih h.2]
      by_cases hm:m=x
      · subst hm; rw [if_pos rfl,if_pos rfl,if_neg (fun e=>hx e.symm)]; simp
      · rw [if_neg hm,if_neg hm]
theorem Zqs {l : List (A8 × Int)} (h : (l.map Zvy).Nodup) (x : A8) (m : A8) : co (Xq l x) m = if m = x then 0 else co l m := by
  induction l with
  | nil=>simp [Xq,Zck]
  | cons p l ih =>
    simp only [Zvx,ZIx] at h
    simp only [Xq]
    split
    · rename_i hx
      rw [J4]
      by_cases hm:m=x
      · subst hm
        rw [if_pos rfl,Zbo]
        intro t ht e
        exact h.1 (Zv7.2 ⟨t,ht,by rw [e,hx]⟩)
      · rw [if_neg hm,if_neg (fun e=>hm (by rw [hx,e]))]; simp
    · rename_i hx
      rw [J4,J4,ih h.2]
      by_cases hm:m=x
      · subst hm; rw [if_pos rfl,if_pos rfl,if_neg (fun e=>hx e.symm)]; rfl
      · rw [if_neg hm,if_neg hm]
theorem Zi4 {l:List (A8×Int)} {x:A8} {p:A8×Int} (h:p∈Xq l x):p∈l:=by
  induction l with
  | nil=>simp [Xq] at h
  | cons q l ih =>
    simp only [Xq] at h
    split at h
    · simp [h]
    · rcases Zus.1 h with rfl | h
      · simp
      · simp [ih h]
theorem Zqt {l:List (A8×Int)} (x:A8) (h:(l.map Zvy).Nodup):((Xq l x).map Zvy).Nodup:=by
  induction l with
  | nil=>simp [Xq]
  | cons q l ih =>
    simp only [Zvx,ZIx] at h
    simp only [Xq]
    split
    · exact h.2
    · simp only [Zvx,ZIx]
      refine⟨fun hq=>h.1 ?_,ih h.2⟩
      obtain ⟨p,hp,he⟩:=Zv7.1 hq
      exact Zv7.2 ⟨p,Zi4 hp,he⟩
theorem Zi5 {l : List (A8 × Int)} {x : A8} {v : Int} {p : A8 × Int} (h : p ∈ Yc l x v) : p = (x, v) ∨ p ∈ l := by
  induction l with
  | nil=>left; simpa [Yc] using h
  | cons q l ih =>
    simp only [Yc] at h
    split at h
    · rcases Zus.1 h with rfl | h
      · exact .inl rfl
      · exact .inr (by simp [h])
    · rcases Zus.1 h with rfl | h
      · exact .inr (by simp)
      · rcases ih h with e | e
        · exact .inl e
        · exact .inr (by simp [e])
theorem Zqu (l:List (A8×Int)) (x:A8) (v:Int):(Yc l x v).length≤l.length+1:=by
  induction l with
  | nil=>simp [Yc]
  | cons q l ih=>simp only [Yc]; split <;> simp; omega
theorem Zqv (l:List (A8×Int)) (x:A8):(Xq l x).length≤l.length:=by
  induction l with
  | nil=>simp [Xq]
  | cons q l ih=>simp only [Xq]; split <;> simp; omega
theorem MapOk.put {l:List (A8×Int)} (h:MapOk l) {x:A8} {v:Int} (hv:1≤v∧v≤10006):MapOk (Yc l x v) :=
  ⟨Zih h.1,fun p hp=>by rcases Zi5 hp with rfl | q; exact hv; exact h.2 p q⟩
theorem MapOk.del {l:List (A8×Int)} (h:MapOk l) (x:A8):MapOk (Xq l x):=⟨Zqt x h.1,fun p hp=>h.2 p (Zi4 hp)⟩
theorem MapOk.range {l : List (A8 × Int)} (h : MapOk l) (m : A8) : 0 ≤ co l m ∧ co l m ≤ 10006 := by
  rw [← Zdk h.1]
  cases hg:Ym l m with
  | none=>simp
  | some v =>
    have:(m,v)∈l:=by
      clear h
      induction l with
      | nil=>simp [Ym] at hg
      | cons p l ih =>
        simp only [Ym] at hg
        split at hg
        · rename_i e; injection hg with e2; subst e2; subst e; simp
        · simp [ih hg]
    have:=h.2 _ this
    simp only [Option.getD_some]
    dsimp only at this
    omega
structure IsPut (l:List (A8×Int)) (x:A8) (c:Int) (l':List (A8×Int)):Prop where
  ok:MapOk l'
  cf:∀ m,co l' m % 10007=(co l m+if x=m then c else 0) % 10007
  ks:∀ p,p∈l'→p.1=x∨∃ q,q∈l∧q.1=p.1
  ln:l'.length≤l.length+1
theorem IsPut.put {l:List (A8×Int)} (h:MapOk l) {x:A8} {c v:Int} (hv:v=(co l x+c) % 10007) (hz:v≠0):IsPut l x c (Yc l x v) where
  ok:=h.put (by omega)
  cf m:=by
    rw [Zlm h.1]
    by_cases hm:m=x
    · subst hm; rw [if_pos rfl,if_pos rfl]; omega
    · rw [if_neg hm,if_neg (fun e=>hm e.symm)]; simp
  ks p hp:=by
    rcases Zi5 hp with rfl | q
    · exact .inl rfl
    · exact .inr ⟨p,q,rfl⟩
  ln:=Zqu _ _ _
theorem IsPut.del {l:List (A8×Int)} (h:MapOk l) {x:A8} {c:Int} (hz:(co l x+c) % 10007=0):IsPut l x c (Xq l x) where
  ok:=h.del x
  cf m:=by
    rw [Zqs h.1]
    by_cases hm:m=x
    · subst hm; rw [if_pos rfl,if_pos rfl]; omega
    · rw [if_neg hm,if_neg (fun e=>hm e.symm)]; simp
  ks p hp:=.inr ⟨p,Zi4 hp,rfl⟩
  ln:=by have:=Zqv l x; omega
theorem Zg3 {l : List (A8 × Int)} (h : MapOk l) {xs : List A8} (hp : xs.Perm (l.map Zvy)) (hw : xs.Pairwise (fun a b => ¬ pcmp b a < 0)) : Canon (xs.map fun x => ⟨x, (Ym l x).getD 0⟩) ∧ ∀ m, coT (xs.map fun x => ⟨x, (Ym l x).getD 0⟩) m = co l m := by
  have hnd:xs.Nodup:=hp.nodup_iff.2 h.1
  have hmem:∀ x,x∈xs→∃ v,(x,v)∈l∧(Ym l x).getD 0=v:=by
    intro x hx
    obtain ⟨p,hpl,rfl⟩:=Zv7.1 (hp.mem_iff.1 hx)
    refine⟨p.2,hpl,?_⟩
    rw [Zdk h.1]
    have h1:=h.1
    clear hp hx h
    induction l with
    | nil=>simp at hpl
    | cons q l ih =>
      simp only [Zvx,ZIx] at h1
      rw [J4]
      rcases Zus.1 hpl with rfl | hpl
      · rw [if_pos rfl,Zbo]
        · simp
        · intro t ht e; exact h1.1 (Zv7.2 ⟨t,ht,e⟩)
      · rw [if_neg (fun e=>h1.1 (Zv7.2 ⟨p,hpl,e.symm⟩)),ih hpl h1.2,ZIw]
  refine⟨⟨?_,fun t ht=>?_⟩,fun m=>?_⟩
  · rw [List.pairwise_map]
    have:xs.Pairwise (fun a b=>a≠b):=hnd
    refine(hw.and this).imp fun {a b} hab=>?_
    by_cases q:pcmp a b < 0
    · exact q
    · exact absurd (Zg1 q hab.1) hab.2
  · obtain ⟨x,hx,rfl⟩:=Zv7.1 ht
    obtain ⟨v,hv,he⟩:=hmem x hx
    dsimp only
    rw [he]
    exact h.2 _ hv
  · rw [coT,Zai]
    dsimp only
    rw [Zci _ hp,Zai]
    refine Zav fun p hpl=>?_
    obtain ⟨v,hv,he⟩:=hmem p.1 (hp.mem_iff.2 (Zv7.2 ⟨p,hpl,rfl⟩))
    have:v=p.2:=by
      rw [← he,Zdk h.1]
      have h1:=h.1
      clear hp h hmem he hv
      induction l with
      | nil=>simp at hpl
      | cons q l ih =>
        simp only [Zvx,ZIx] at h1
        rw [J4]
        rcases Zus.1 hpl with rfl | hpl
        · rw [if_pos rfl,Zbo]
          · simp
          · intro t ht e; exact h1.1 (Zv7.2 ⟨t,ht,e⟩)
        · rw [if_neg (fun e=>h1.1 (Zv7.2 ⟨p,hpl,e.symm⟩)),ih hpl h1.2,ZIw]
    rw [he,this]
def Zcl (a:A8):List A8→List A8
  | []=>[a]
  | b::l=>if pcmp a b < 0 then a::b::l else b::Zcl a l
theorem Zln (a:A8) (l:List A8):(Zcl a l).Perm (a::l):=by
  induction l with
  | nil=>exact ZJa _
  | cons b l ih =>
    simp only [Zcl]
    split
    · exact ZJa _
    · exact(ih.cons b).trans (List.Perm.swap _ _ _)
theorem Zqw {a b c:A8} (h1:¬ pcmp b a < 0) (h2:¬ pcmp c b < 0):¬ pcmp c a < 0:=fun h=>by
  by_cases q:pcmp a b < 0
  · exact h2 (Zah h q)
  · have:=Zg1 q h1
    subst this
    exact h2 h
theorem Zqx {a:A8} {l:List A8} (h:l.Pairwise (fun a b=>¬ pcmp b a < 0)):(Zcl a l).Pairwise (fun a b=>¬ pcmp b a < 0):=by
  induction l with
  | nil=>simp [Zcl]
  | cons b l ih =>
    simp only [Zcl]
    have hb:=Zvd.1 h
    split
    · rename_i q
      refine Zvd.2 ⟨fun x hx=>?_,h⟩
      rcases Zus.1 hx with rfl | hx
      · exact Zle q
      · exact Zqw (Zle q) (hb.1 x hx)
    · rename_i q
      refine Zvd.2 ⟨fun x hx=>?_,ih hb.2⟩
      rcases Zus.1 ((Zln a l).mem_iff.1 hx) with rfl | hx
      · exact q
      · exact hb.1 x hx
theorem Zg4:∀ l:List A8,∃ xs:List A8,xs.Perm l∧xs.Pairwise (fun a b=>¬ pcmp b a < 0)
  | []=>⟨[],ZJa _,ZJ3⟩
  | a :: l => by
    obtain ⟨xs,h1,h2⟩:=Zg4 l
    exact⟨Zcl a xs,(Zln a xs).trans (h1.cons a),Zqx h2⟩
end Vc
namespace Vc
open Go Go.RowKit Go.ChangeShapes Go.WideShapes Go.ChangeAt
theorem Zqy {α:Type} {t:Ty α} {x:α} {cs:List Value} {fp:List Nat} {w:World} (h:t.rep x cs fp w):t.all [x] cs fp w:=by
  have hl:=t.len h
  refine⟨t.low h,by rw [hl]; simp,t.one h,fun i hi=>?_⟩
  obtain rfl:i=0:=by simpa using hi
  rw [Nat.zero_mul,List.drop_zero,Zwh (by omega)]
  exact h
section
variable {H:Type} {enc:TypeId×Value→H} {P:Program} {W:World}
end
end Vc
