import Derived.Test.YtaagfepgbofmlaaGreatQ3
set_option linter.unusedSectionVars false
set_option linter.unusedSimpArgs false
set_option linter.unusedVariables false
open Bool renaming false_ne_true→ZXd
open Go renaming wp_seq→ZMh,wp_block→ZMn,wp_skip→ZMl,wp_ret→ZMp,wp_exit→ZMv
open Go.Instr renaming buildSlice→ZW8
open Go.IntKind renaming i64→ZG5
open Go.Proofs.Tryz renaming prog→ZMk,underlying122→ZW3,underlying125→ZW4,underlying187→ZW5,underlying22→ZM0,underlying73→ZM4,underlying123→ZW9,func159→ZXa,underlying198→ZXc,underlying85→ZXe,underlying196→ZXh,func115→ZXi
open Go.Value renaming ownBlock→ZFi
open Inhabited renaming default→ZEo
open Int renaming tdiv→ZW1,natCast_nonneg→ZMx,ofNat_lt→ZNf
open List renaming toArray→ZMf,mem_singleton→ZFz,mem_append→ZEv,mem_cons→ZEk,not_mem_nil→ZGu,mem_singleton_self→ZSl,replicate→ZEj,map_append→ZSi,mem_append_left→ZFa,mem_cons_of_mem→ZSc,append_nil→ZXj,pairwise_singleton→ZS2
open Nat renaming le_of_ble_eq_true→ZMq,not_lt→ZE6
open Option renaming toList→ZNg
open Vc renaming Lvl→ZW6
open Vc.A8 renaming enc→ZMe,zero→ZMm
open Vc.Ctx renaming start→ZM2
open Vc.Enc renaming encs_append→ZM9
open Vc.Item renaming low→ZSa
open Vc.Lev renaming key→ZW2
open Vc.Tr renaming sl→ZR9,item→ZMy
open Vc.Ty renaming item→ZMg
set_option maxRecDepth 4000
set_option maxHeartbeats 4000000
namespace Go.Proofs.YtaagfepgbofmlaaGreat
open Go Go.RowKit Vc
variable {b0 bp0 b1 bp1 b2 bp2 b3 bp3 b4 bp4 b5 bp5 b6 bp6 b7 bp7 mb0:Nat} {u0_0 u0_1 u0_2 u0_3 u0_4 u0_5 u1_0 u1_1 u1_2 u1_3 u1_4 u1_5 u2_0 u2_1 u2_2 u2_3 u2_4 u2_5 u3_0 u3_1 u3_2 u3_3 u3_4 u3_5 u4_0 u4_1 u4_2 u4_3 u4_4 u4_5 u5_0 u5_1 u5_2 u5_3 u5_4 u5_5 u6_0 u6_1 u6_2 u6_3 u6_4 u6_5 u7_0 u7_1 u7_2 u7_3 u7_4 u7_5:Value} {fp0 fp1 fp2 fp3 fp4 fp5 fp6 fp7 fp0_0 fp0_1 fp0_2 fp0_3 fp0_4 fp0_5 fp1_0 fp1_1 fp1_2 fp1_3 fp1_4 fp1_5 F0:List Nat} {D0:List Lev}
theorem sc122:ScaT ZMk 122:=⟨⟨_,ZW3,rfl⟩,by kernel_rfl⟩
theorem Zz4 (x0:Value) (x1:Int) (hx0:Zei x0) (w:World):(Instr.build 187 #[(0,x0),(1,.int .i64 x1)]).run ZMk w=.ok (.agg #[x0,.int .i64 x1,.slice none 0 0]) w:=by obtain ⟨_,_,_,rfl⟩:=hx0; kernel_rfl
theorem Zz5  (w:World):(ZW8 120 0 #[]).run ZMk w=.ok (.slice (some ⟨w.heap.size,0,none⟩) 0 0) (w.alloc (.cells (ZMf (EB.encs [])) 4)):=by kernel_rfl
theorem Zz6 (x0:Bool) (w:World):(ZW8 120 1 #[(0,.bool x0)]).run ZMk w=.ok (.slice (some ⟨w.heap.size,0,none⟩) 1 1) (w.alloc (.cells (ZMf (EB.encs [x0])) 4)):=by kernel_rfl
theorem el4:J3 ZMk 4 (.bool false) 1 1:=by unfold J3; kernel_rfl
theorem sc123:ScaT ZMk 123:=⟨⟨_,ZW9,rfl⟩,by kernel_rfl⟩
theorem z3:X7 ZMk 3 (.int .i64 0):=by unfold X7; kernel_rfl
def f_impl_lister_from (fu_:Nat) (a0:List Int×Int×List A8) (a1:Int) (a2:A8) (a3:Int) (K:List A8→Prop):Prop :=
 match fu_ with
 | 0=>False
 | fu_+1=>(if(a0.2.2.length:Int) > a0.2.1 then K a0.2.2 else(if a1=(a0.1.length:Int) then(if a3=0 then(Zy (a0.2.2.length+1) 64∧K (a0.2.2++[a2])) else K a0.2.2) else((0≤a1∧a1 < (a0.1.length:Int))∧((a0.1.getD a1.toNat ZEo)≠0∧(if Int.tmod (a0.1.getD a1.toNat ZEo) 2=1 then Xt (fun (s10:A8×(List A8)×Int) nx10=>(if s10.2.2≥0 then((0≤a1∧a1 < 8)∧f_impl_lister_from fu_ (⟨a0.1,a0.2.1,s10.2.1⟩:List Int×Int×List A8) (ZG5.wrap (a1+1)) (s10.1.set a1.toNat s10.2.2) (ZG5.wrap (a3 - (ZG5.wrap (s10.2.2 * (a0.1.getD a1.toNat ZEo))))) (fun m10=>nx10 (s10.1.set a1.toNat s10.2.2,m10,ZG5.wrap (s10.2.2 - 1)))) else K s10.2.1)) (a2,a0.2.2,(if 1 < (if 20 < ZG5.wrap (ZW1 a3 (a0.1.getD a1.toNat ZEo)) then 20 else ZG5.wrap (ZW1 a3 (a0.1.getD a1.toNat ZEo))) then 1 else(if 20 < ZG5.wrap (ZW1 a3 (a0.1.getD a1.toNat ZEo)) then 20 else ZG5.wrap (ZW1 a3 (a0.1.getD a1.toNat ZEo))))) else Xt (fun (s11:A8×(List A8)×Int) nx11=>(if s11.2.2≥0 then((0≤a1∧a1 < 8)∧f_impl_lister_from fu_ (⟨a0.1,a0.2.1,s11.2.1⟩:List Int×Int×List A8) (ZG5.wrap (a1+1)) (s11.1.set a1.toNat s11.2.2) (ZG5.wrap (a3 - (ZG5.wrap (s11.2.2 * (a0.1.getD a1.toNat ZEo))))) (fun m11=>nx11 (s11.1.set a1.toNat s11.2.2,m11,ZG5.wrap (s11.2.2 - 1)))) else K s11.2.1)) (a2,a0.2.2,(if 20 < ZG5.wrap (ZW1 a3 (a0.1.getD a1.toNat ZEo)) then 20 else ZG5.wrap (ZW1 a3 (a0.1.getD a1.toNat ZEo)))))))))
theorem Zz7 (fu_:Nat):∀ (a0:List Int×Int×List A8) (a1:Int) (a2:A8) (a3:Int) {b0:Nat} {u0_0:Value} {u0_2:Value} {fp0:List Nat} {K:List A8→Prop} (h:f_impl_lister_from fu_ a0 a1 a2 a3 K) (w0:World) (q0:(ZMg TInts a0.1 [u0_0] fp0).holds w0) (qb0:(blk b0 187 [u0_0,vI a0.2.1,u0_2]).holds w0) (qo0:(own 73 8 u0_2 a0.2.2.length ((EA .i64).encs a0.2.2)).holds w0) (db0:b0∉ZNg (ZFi u0_2)) (dq0:∀ b,b∈fp0→b∉b0::ZNg (ZFi u0_2)),
  Calls ZMk 159 #[vQ b0,vI a1,.agg (ZMf (ZMe .i64 a2)),vI a3] w0 fun e w'=>∃ (m0:List A8) (y0:Value),
   e=.returned (.tuple #[])∧K m0∧(blk b0 187 [u0_0,vI a0.2.1,y0]).holds w'∧(own 73 8 y0 m0.length ((EA .i64).encs m0)).holds w'∧(∀ b,b∈ZNg (ZFi y0)→b∈ZNg (ZFi u0_2)∨w0.heap.size≤b)∧BelO (b0::ZNg (ZFi u0_2)) w0 w':=by
 induction fu_ with
 | zero =>
  intro a0 a1 a2 a3 b0 u0_0 u0_2 fp0 K h w0 q0 qb0 qo0 db0 dq0
  exact False.elim h
 | succ fu_ ih_ =>
  intro a0 a1 a2 a3 b0 u0_0 u0_2 fp0 K h w0 q0 qb0 qo0 db0 dq0
  rw [f_impl_lister_from.eq_2] at h
  refine cof ZXa rfl 74 Tryz.ntmps159 ?_
  have hC:=Ctx.startL w0 (b0::ZNg (ZFi u0_2)) [blk b0 187 [u0_0,vI a0.2.1,u0_2],own 73 8 u0_2 a0.2.2.length ((EA .i64).encs a0.2.2)] [ZMg TInts a0.1 [u0_0] fp0] (by simp only [ZEk,ZGu,or_false,forall_eq_or_imp,forall_eq]; exact⟨qb0,qo0⟩) (by simp only [ZEk,ZGu,or_false,forall_eq_or_imp,forall_eq]; exact q0) (fun it_ hi_ b_ hb_=>(ZEk.1 hi_).elim (fun e_=>by subst e_; exact ZEk.2 (.inl (ZFz.1 hb_))) (fun hi_=>by obtain rfl:=ZFz.1 hi_; exact ZSc _ hb_)) (List.pairwise_cons.2 ⟨(fun it_ hi_ b_ hb_ hb2_=>by obtain rfl:=ZFz.1 hi_; exact db0 (ZFz.1 hb_ ▸ hb2_)),ZS2 _ _⟩) (fun it_ hi_ b_ hb_=>by obtain rfl:=ZFz.1 hi_; exact dq0 b_ hb_)
  refine sr (Yg (v:=.agg (ZMf (ZMe .i64 a2))) hC (ZMe .i64 a2) rfl rfl fun b4 w6 hB_ hC=>dn (ZMh (ZMh ?_)))
  refine cwd 9 Yo [0,1,3,7,15,0,32,96,224,511] [3,4,8] [0,1,2,5,6,7] (fun hM8 hM9 w7 hB_=>?_)
  replace hC:=hC.grow hB_
  refine bM 0 (vQ b0) rfl hM9 (Zc 10 1) (bF 1 (vQ b0) rfl rfl hM9 (fun _=>by exact Zas rfl) (Zc 10 3) (bF 2 (.pointer (some ⟨b0,2,none⟩)) rfl rfl hM9 (fun _=>by exact Yt 2 ZW5 rfl sc122.size rfl rfl) (Zc 10 7) (bL 3 (u0_2) rfl rfl hM8 (fun _ hB_=>by exact Yh (hC.grow hB_) 1 (u0_2) rfl sc122 rfl rfl) (Zc 10 15) (bL 4 (vI (a0.2.2.length:Int)) rfl rfl hM8 (fun _ hB_=>by exact Zj8 (hC.grow hB_) 2 rfl ZW3 rfl) (Zc 10 31) (bM 5 (vQ b0) rfl hM9 (Zc 10 63) (bF 6 (vQ b0) rfl rfl hM9 (fun _=>by exact Zas rfl) (Zc 10 127) (bF 7 (.pointer (some ⟨b0,1,none⟩)) rfl rfl hM9 (fun _=>by exact Yt 1 ZW5 rfl sc3.size rfl rfl) (Zc 10 255) (bL 8 (vI a0.2.1) rfl rfl hM8 (fun _ hB_=>by exact Yh (hC.grow hB_) 1 (vI a0.2.1) rfl sc3 rfl rfl) (Zc 10 511) (Z6 9 (by decide) (by decide) (by kernel_rfl) (by kernel_rfl) rfl (Jh rfl rfl (done (Z7 (Ze ?_)))))))))))))
  refine Zs rfl (fun hb10=>?_) (fun hb10=>?_)
  ·replace h:=ift h (ct hb10)
   refine ZMp (Zm ?_)
   exact Zc2 rfl  ⟨a0.2.2,u0_2,rfl,h,(hC.getM 1 rfl),(hC.getM 2 rfl),(fun b_ hb_=>(hC.mfk 2 rfl b_ hb_).elim .inr (fun q_=>(ZEk.1 q_).elim (fun e_=>absurd hb_ (fun hb_=>hC.mm 1 2 rfl rfl (by decide) b_ (ZFz.2 e_) hb_)) .inl)),hC.belO⟩ (.inl rfl)
  ·replace h:=Zk h (cf hb10)
   refine ZMl (Ze (ZMh (sr (Za (v:=vI a1) rfl (Za (v:=vQ b0) rfl (Xy rfl (Z0 0 ZW5 rfl sc22.size rfl rfl (Yb hC 1 (u0_0) rfl sc22 rfl rfl (Zu hC 0 rfl ZM0 rfl (Xx rfl rfl (dn ?_)))))))))))
   refine Zs rfl (fun hb11=>?_) (fun hb11=>?_)
   ·replace h:=ift h (ct hb11)
    refine ZMh (sr (Za (v:=vI a3) rfl (Xx rfl rfl (dn ?_))))
    refine Zs rfl (fun hb12=>?_) (fun hb12=>?_)
    ·replace h:=ift h (ct hb12)
     refine cwd 7 Yo [0,0,2,6,14,0,32,126,255,511,1023] [4,5] [0,1,2,3] (fun hM11 hM10 w10 hB_=>?_)
     replace hC:=hC.grow hB_
     refine bM 0 (vQ b0) rfl hM10 (Zc 11 1) (bM 1 (vQ b0) rfl hM10 (Zc 11 3) (bF 2 (vQ b0) rfl rfl hM10 (fun _=>by exact Zas rfl) (Zc 11 7) (bF 3 (.pointer (some ⟨b0,2,none⟩)) rfl rfl hM10 (fun _=>by exact Yt 2 ZW5 rfl sc122.size rfl rfl) (Zc 11 15) (bL 4 (u0_2) rfl rfl hM11 (fun _ hB_=>by exact Yh (hC.grow hB_) 1 (u0_2) rfl sc122 rfl rfl) (Zc 11 31) (bL 5 (.agg (ZMf (ZMe .i64 a2))) rfl rfl hM11 (fun _ hB_=>by exact Xa (hC.grow hB_) 0 (ZMe .i64 a2) rfl ag73 rfl rfl rfl) (Zc 11 63) (aO 6 rfl (Ye (sz:=8) hC [(0,.agg (ZMf (ZMe .i64 a2)))] ((EA .i64).encs [a2]) rfl (fun _=>Zvs a2 _) rfl (by decide) fun b10 w11 hB_ hC=>done (aK (by assumption) (Zc 11 127) (aO 7 rfl ?_)))))))))
     obtain ⟨hm10,h⟩:=h
     refine Ja hC 3 ZW3 Zvt rfl (by decide) (by decide) rfl (Jx (hC.getM 0 rfl)) (fun q hq=>Enc.encs_one' (E:=(EA .i64)) _ q hq) rfl rfl hm10 fun v12 w12 hC=>?_
     replace hC:=Yy hC 3 ((a0.2.2++[a2]).length) ((EA .i64).encs (a0.2.2++[a2])) rfl (by simp) (by first | (simp [ZM9]; done) | simp [ZM9,Enc.encs])
     refine done (Zgs (by decide) (l9:=(Zc 11 255)) (by kernel_rfl) (Z6 8 (by decide) (by decide) (by kernel_rfl) (by kernel_rfl) rfl (Xy rfl (Z0 2 ZW5 rfl sc122.size rfl rfl (Z3 (v:=v12) hC 2 [v12] [u0_0,vI a0.2.1,v12] rfl sc122.size rfl rfl (Zb9 (hC.getM 3 rfl)) rfl (Xp (X4 (hC.getM 3 rfl)) rfl) (ZMq rfl) rfl fun w13 hC=>done (Z7 (Ze ?_)))))))
     refine ZMp (Zm ?_)
     exact Zc2 rfl  ⟨a0.2.2++[a2],v12,rfl,h,(hC.getM 2 rfl),(hC.getM 3 rfl),(fun b_ hb_=>(hC.mfk 3 rfl b_ hb_).elim .inr (fun q_=>(ZEk.1 q_).elim (fun e_=>absurd hb_ (fun hb_=>hC.mm 2 3 rfl rfl (by decide) b_ (ZFz.2 e_) hb_)) .inl)),hC.belO⟩ (.inl rfl)
    ·replace h:=Zk h (cf hb12)
     refine ZMl (Ze ?_)
     refine ZMp (Zm ?_)
     exact Zc2 rfl  ⟨a0.2.2,u0_2,rfl,h,(hC.getM 1 rfl),(hC.getM 2 rfl),(fun b_ hb_=>(hC.mfk 2 rfl b_ hb_).elim .inr (fun q_=>(ZEk.1 q_).elim (fun e_=>absurd hb_ (fun hb_=>hC.mm 1 2 rfl rfl (by decide) b_ (ZFz.2 e_) hb_)) .inl)),hC.belO⟩ (.inl rfl)
   ·replace h:=Zk h (cf hb11)
    refine ZMl (Ze (sr (Za (v:=vQ b0) rfl (Xy rfl (Z0 0 ZW5 rfl sc22.size rfl rfl (Yb hC 1 (u0_0) rfl sc22 rfl rfl (Za (v:=vI a1) rfl ?_)))))))
    obtain ⟨⟨h10,h11⟩,h⟩:=h
    obtain ⟨Ad10,c10,hv10⟩:=Zw (hC.getP 0 rfl) a1.toNat (show a1.toNat < a0.1.length by omega)
    refine Yn (len:=a0.1.length) ZM0 sc2.size (tr rfl hv10) rfl h10 h11 (Yp (vI (a0.1.getD a1.toNat ZEo)) (Yd (hC.getP 0 rfl) hv10 a1.toNat (show a1.toNat < a0.1.length by omega)) sc2 rfl (Zd (v:=vI (a0.1.getD a1.toNat ZEo)) rfl (dn (sr (Za (v:=vI a3) rfl (Za (v:=vI (a0.1.getD a1.toNat ZEo)) rfl ?_))))))
    obtain ⟨h12,h⟩:=h
    refine Ze8 rfl rfl h12 (Zic rfl rfl (Zd (v:=vI (if 20 < ZG5.wrap (ZW1 a3 (a0.1.getD a1.toNat ZEo)) then 20 else ZG5.wrap (ZW1 a3 (a0.1.getD a1.toNat ZEo)))) rfl (dn (ZMh (sr (Za (v:=vI (a0.1.getD a1.toNat ZEo)) rfl (X8 rfl rfl (by decide) (Xx rfl rfl (dn ?_)))))))))
    refine Zs rfl (fun hb13=>?_) (fun hb13=>?_)
    ·replace h:=ift h (ct hb13)
     refine Zh (Za (v:=vI (if 20 < ZG5.wrap (ZW1 a3 (a0.1.getD a1.toNat ZEo)) then 20 else ZG5.wrap (ZW1 a3 (a0.1.getD a1.toNat ZEo)))) rfl (Zic rfl rfl (Zd (v:=vI (if 1 < (if 20 < ZG5.wrap (ZW1 a3 (a0.1.getD a1.toNat ZEo)) then 20 else ZG5.wrap (ZW1 a3 (a0.1.getD a1.toNat ZEo))) then 1 else(if 20 < ZG5.wrap (ZW1 a3 (a0.1.getD a1.toNat ZEo)) then 20 else ZG5.wrap (ZW1 a3 (a0.1.getD a1.toNat ZEo))))) rfl (dn (sr (Za (v:=vI (if 1 < (if 20 < ZG5.wrap (ZW1 a3 (a0.1.getD a1.toNat ZEo)) then 20 else ZG5.wrap (ZW1 a3 (a0.1.getD a1.toNat ZEo))) then 1 else(if 20 < ZG5.wrap (ZW1 a3 (a0.1.getD a1.toNat ZEo)) then 20 else ZG5.wrap (ZW1 a3 (a0.1.getD a1.toNat ZEo))))) rfl (Zd (v:=vI (if 1 < (if 20 < ZG5.wrap (ZW1 a3 (a0.1.getD a1.toNat ZEo)) then 20 else ZG5.wrap (ZW1 a3 (a0.1.getD a1.toNat ZEo))) then 1 else(if 20 < ZG5.wrap (ZW1 a3 (a0.1.getD a1.toNat ZEo)) then 20 else ZG5.wrap (ZW1 a3 (a0.1.getD a1.toNat ZEo))))) rfl (dn (ZMn ?_)))))))))
     refine Xz (S:=A8×(List A8)×Int) _ (fun s10 e_ w_=>∃ (v10:Value),Zt e_ [(0,vQ b0),(1,vI a1),(3,vI a3),(6,vQ b4),(8,vI (a0.1.getD a1.toNat ZEo)),(10,vI s10.2.2)]∧Ctx (fun c_=>c_∈b0::ZNg (ZFi u0_2)) w0 w_ [blk b4 73 (ZMe .i64 s10.1),blk b0 187 [u0_0,vI a0.2.1,v10],own 73 8 v10 s10.2.1.length ((EA .i64).encs s10.2.1)] [ZMg TInts a0.1 [u0_0] fp0]) ?_ (s0:=(a2,a0.2.2,(if 1 < (if 20 < ZG5.wrap (ZW1 a3 (a0.1.getD a1.toNat ZEo)) then 20 else ZG5.wrap (ZW1 a3 (a0.1.getD a1.toNat ZEo))) then 1 else(if 20 < ZG5.wrap (ZW1 a3 (a0.1.getD a1.toNat ZEo)) then 20 else ZG5.wrap (ZW1 a3 (a0.1.getD a1.toNat ZEo)))))) ?_ h
     ·clear hC h
      rintro s10 e_ w14 nx10 K10 ⟨v10,hS_,hC⟩ h hK10
      rw [ue hS_]
      refine ZMh (sr (Za (v:=vI s10.2.2) rfl (J7 rfl rfl (dn ?_))))
      refine Zs rfl (fun hb14=>?_) (fun hb14=>?_)
      ·replace h:=ift h (ct hb14)
       refine ZMl (Ze (ZMh (ZMn (sr (Za (v:=vI a1) rfl (Za (v:=vI s10.2.2) rfl ?_))))))
       obtain ⟨⟨h13,h14⟩,h⟩:=h
       refine Xs a1.toNat ZM4 sc3.size rfl rfl h13 h14 (by omega) (Z3 (v:=vI s10.2.2) hC 0 [vI s10.2.2] (ZMe .i64 (s10.1.set a1.toNat s10.2.2)) rfl sc3.size rfl rfl rfl rfl rfl (show a1.toNat < 8 by omega) (A8.enc_set _ _ _ (show a1.toNat < 8 by omega)) fun w15 hC=>dn (Zh (Za (v:=vQ b0) rfl (Za (v:=vI a1) rfl (Zq rfl rfl (Yq hC 0 (ZMe .i64 (s10.1.set a1.toNat s10.2.2)) rfl ag73 rfl rfl rfl (Za (v:=vI a3) rfl (Za (v:=vI s10.2.2) rfl (Za (v:=vI (a0.1.getD a1.toNat ZEo)) rfl (Zan rfl rfl (X3 rfl rfl ?_)))))))))))
       replace hC:=hC.sM [1,2,0] (M':=[blk b0 187 [u0_0,vI a0.2.1,v10],own 73 8 v10 s10.2.1.length ((EA .i64).encs s10.2.1),blk b4 73 (ZMe .i64 (s10.1.set a1.toNat s10.2.2))]) (by decide) rfl
       refine Zf [vQ b0,vI (ZG5.wrap (a1+1)),.agg (ZMf (ZMe .i64 (s10.1.set a1.toNat s10.2.2))),vI (ZG5.wrap (a3 - (ZG5.wrap (s10.2.2 * (a0.1.getD a1.toNat ZEo)))))] _ ZXa rfl rfl rfl (ih_ (⟨a0.1,a0.2.1,s10.2.1⟩:List Int×Int×List A8) (ZG5.wrap (a1+1)) (s10.1.set a1.toNat s10.2.2) (ZG5.wrap (a3 - (ZG5.wrap (s10.2.2 * (a0.1.getD a1.toNat ZEo))))) h _ (hC.getP 0 rfl) (hC.getM 0 rfl) (hC.getM 1 rfl) (fun hb_=>hC.mm 0 1 rfl rfl (by decide) _ (ZSl _) hb_) (fun b_ hb_ hb2_=>(ZEk.1 hb2_).elim (fun e_=>hC.pdk 0 0 rfl rfl b_ hb_ (ZFz.2 e_)) (fun hb2_=>hC.pdk 0 1 rfl rfl b_ hb_ hb2_))) ?_
       rintro _ w16 ⟨m10,v13,rfl,h,hm11,hm12,hm13,hB10⟩
       refine rt ?_
       replace hC:=hC.turnS hB10 hm11 hm12 hm13
       refine done (Zr (Ze (Zh (Za (v:=vI s10.2.2) rfl (X3 rfl rfl (Zd (v:=vI (ZG5.wrap (s10.2.2 - 1))) rfl (done ?_)))))))
       exact hK10 (s10.1.set a1.toNat s10.2.2,m10,ZG5.wrap (s10.2.2 - 1)) _ _ ⟨v13,(slq rfl),(hC.xM [2,0,1] rfl)⟩ h
      ·replace h:=Zk h (cf hb14)
       refine ZMv (Zj (Zj (Zx ?_)))
       exact Zc2 rfl  ⟨s10.2.1,v10,rfl,h,(hC.getM 1 rfl),(hC.getM 2 rfl),(fun b_ hb_=>(hC.mfk 2 rfl b_ hb_).elim .inr (fun q_=>(ZEk.1 q_).elim (fun e_=>absurd hb_ (fun hb_=>hC.mm 1 2 rfl rfl (by decide) b_ (ZFz.2 e_) hb_)) .inl)),hC.belO⟩ (.inr rfl)
     ·skip
      exact⟨u0_2,(slq rfl),hC⟩
    ·replace h:=Zk h (cf hb13)
     refine ZMl (Ze (sr (Za (v:=vI (if 20 < ZG5.wrap (ZW1 a3 (a0.1.getD a1.toNat ZEo)) then 20 else ZG5.wrap (ZW1 a3 (a0.1.getD a1.toNat ZEo)))) rfl (Zd (v:=vI (if 20 < ZG5.wrap (ZW1 a3 (a0.1.getD a1.toNat ZEo)) then 20 else ZG5.wrap (ZW1 a3 (a0.1.getD a1.toNat ZEo)))) rfl (dn (ZMn ?_))))))
     refine Xz (S:=A8×(List A8)×Int) _ (fun s11 e_ w_=>∃ (v11:Value),Zt e_ [(0,vQ b0),(1,vI a1),(3,vI a3),(6,vQ b4),(8,vI (a0.1.getD a1.toNat ZEo)),(10,vI s11.2.2)]∧Ctx (fun c_=>c_∈b0::ZNg (ZFi u0_2)) w0 w_ [blk b4 73 (ZMe .i64 s11.1),blk b0 187 [u0_0,vI a0.2.1,v11],own 73 8 v11 s11.2.1.length ((EA .i64).encs s11.2.1)] [ZMg TInts a0.1 [u0_0] fp0]) ?_ (s0:=(a2,a0.2.2,(if 20 < ZG5.wrap (ZW1 a3 (a0.1.getD a1.toNat ZEo)) then 20 else ZG5.wrap (ZW1 a3 (a0.1.getD a1.toNat ZEo))))) ?_ h
     ·clear hC h
      rintro s11 e_ w17 nx11 K11 ⟨v11,hS_,hC⟩ h hK11
      rw [ue hS_]
      refine ZMh (sr (Za (v:=vI s11.2.2) rfl (J7 rfl rfl (dn ?_))))
      refine Zs rfl (fun hb15=>?_) (fun hb15=>?_)
      ·replace h:=ift h (ct hb15)
       refine ZMl (Ze (ZMh (ZMn (sr (Za (v:=vI a1) rfl (Za (v:=vI s11.2.2) rfl ?_))))))
       obtain ⟨⟨h15,h16⟩,h⟩:=h
       refine Xs a1.toNat ZM4 sc3.size rfl rfl h15 h16 (by omega) (Z3 (v:=vI s11.2.2) hC 0 [vI s11.2.2] (ZMe .i64 (s11.1.set a1.toNat s11.2.2)) rfl sc3.size rfl rfl rfl rfl rfl (show a1.toNat < 8 by omega) (A8.enc_set _ _ _ (show a1.toNat < 8 by omega)) fun w18 hC=>dn (Zh (Za (v:=vQ b0) rfl (Za (v:=vI a1) rfl (Zq rfl rfl (Yq hC 0 (ZMe .i64 (s11.1.set a1.toNat s11.2.2)) rfl ag73 rfl rfl rfl (Za (v:=vI a3) rfl (Za (v:=vI s11.2.2) rfl (Za (v:=vI (a0.1.getD a1.toNat ZEo)) rfl (Zan rfl rfl (X3 rfl rfl ?_)))))))))))
       replace hC:=hC.sM [1,2,0] (M':=[blk b0 187 [u0_0,vI a0.2.1,v11],own 73 8 v11 s11.2.1.length ((EA .i64).encs s11.2.1),blk b4 73 (ZMe .i64 (s11.1.set a1.toNat s11.2.2))]) (by decide) rfl
       refine Zf [vQ b0,vI (ZG5.wrap (a1+1)),.agg (ZMf (ZMe .i64 (s11.1.set a1.toNat s11.2.2))),vI (ZG5.wrap (a3 - (ZG5.wrap (s11.2.2 * (a0.1.getD a1.toNat ZEo)))))] _ ZXa rfl rfl rfl (ih_ (⟨a0.1,a0.2.1,s11.2.1⟩:List Int×Int×List A8) (ZG5.wrap (a1+1)) (s11.1.set a1.toNat s11.2.2) (ZG5.wrap (a3 - (ZG5.wrap (s11.2.2 * (a0.1.getD a1.toNat ZEo))))) h _ (hC.getP 0 rfl) (hC.getM 0 rfl) (hC.getM 1 rfl) (fun hb_=>hC.mm 0 1 rfl rfl (by decide) _ (ZSl _) hb_) (fun b_ hb_ hb2_=>(ZEk.1 hb2_).elim (fun e_=>hC.pdk 0 0 rfl rfl b_ hb_ (ZFz.2 e_)) (fun hb2_=>hC.pdk 0 1 rfl rfl b_ hb_ hb2_))) ?_
       rintro _ w19 ⟨m11,v14,rfl,h,hm14,hm15,hm16,hB11⟩
       refine rt ?_
       replace hC:=hC.turnS hB11 hm14 hm15 hm16
       refine done (Zr (Ze (Zh (Za (v:=vI s11.2.2) rfl (X3 rfl rfl (Zd (v:=vI (ZG5.wrap (s11.2.2 - 1))) rfl (done ?_)))))))
       exact hK11 (s11.1.set a1.toNat s11.2.2,m11,ZG5.wrap (s11.2.2 - 1)) _ _ ⟨v14,(slq rfl),(hC.xM [2,0,1] rfl)⟩ h
      ·replace h:=Zk h (cf hb15)
       refine ZMv (Zj (Zj (Zx ?_)))
       exact Zc2 rfl  ⟨s11.2.1,v11,rfl,h,(hC.getM 1 rfl),(hC.getM 2 rfl),(fun b_ hb_=>(hC.mfk 2 rfl b_ hb_).elim .inr (fun q_=>(ZEk.1 q_).elim (fun e_=>absurd hb_ (fun hb_=>hC.mm 1 2 rfl rfl (by decide) b_ (ZFz.2 e_) hb_)) .inl)),hC.belO⟩ (.inr rfl)
     ·skip
      exact⟨u0_2,(slq rfl),hC⟩
def Za6 (a0:List Int) (a1:Int) (a2:Int) (K:List A8→Bool→Prop):Prop :=
 (if a1≥0 then f_impl_lister_from 9 (⟨a0,a2,[]⟩:List Int×Int×List A8) 0 ZMm a1 (fun m10=>K m10 (decide ((m10.length:Int)≤a2))) else K [] (decide (0≤a2)))
theorem Zk6 (a0:List Int) (a1:Int) (a2:Int)  {K:List A8→Bool→Prop} (h:Za6 a0 a1 a2 K) (w0:World) (q0:TInts.rep a0 [u0_0] fp0 w0) :
  Calls ZMk 100 #[u0_0,vI a1,vI a2] w0 fun e w'=>∃ (r0:List A8) (z0_0:Value) (fz0:List Nat) (r1:Bool),
   e=.returned (.tuple #[z0_0,.bool r1])∧K r0 r1∧(ZMy (ZR9 73 ((EA .i64).tr)) r0 [z0_0] fz0).holds w'∧(∀ b,b∈fz0→w0.heap.size≤b)∧Bel w0 w':=by
 unfold Za6 at h
 refine cof Tryz.func100 rfl 30 Tryz.ntmps100 ?_
 have hC:=ZM2 (X:=Nox) w0 [ZMg TInts a0 [u0_0] fp0] (al1 q0)
 refine sr (Zd (v:=.slice none 0 0) rfl (Zd (v:=.bool false) rfl (dn (sr (Za (v:=u0_0) rfl (Za (v:=vI a2) rfl (J2 [(0,u0_0),(1,vI a2)] rfl (Zz4 u0_0 a2 (Zco (hC.getP 0 rfl)) _) (Yg (v:=.agg #[u0_0,vI a2,.slice none 0 0]) hC [u0_0,vI a2,.slice none 0 0] rfl rfl fun b2 w4 hB_ hC=>Zd (v:=vQ b2) rfl (dn (ZMh (sr (Za (v:=vI a1) rfl (J7 rfl rfl (dn ?_))))))))))))))
 refine Zs rfl (fun hb5=>?_) (fun hb5=>?_)
 ·replace h:=ift h (ct hb5)
  refine Zh (Za (v:=vQ b2) rfl (J2 [] rfl (Zg4   _) (Za (v:=vI a1) rfl ?_)))
  replace hC:=hC.pushNil 73 8
  replace hC:=hC.sM [1,0] (M':=[blk b2 187 [u0_0,vI a2,.slice none 0 0],own 73 8 (.slice none 0 0) 0 ((EA .i64).encs [])]) (by decide) rfl
  refine Zf [vQ b2,vI 0,.agg (ZMf (ZMe .i64 ZMm)),vI a1] _ ZXa rfl rfl rfl (Zz7 9 (⟨a0,a2,[]⟩:List Int×Int×List A8) 0 ZMm a1 h _ (hC.getP 0 rfl) (hC.getM 0 rfl) (hC.getM 1 rfl) (fun hb_=>hC.mm 0 1 rfl rfl (by decide) _ (ZSl _) hb_) (fun b_ hb_ hb2_=>(ZEk.1 hb2_).elim (fun e_=>hC.pdk 0 0 rfl rfl b_ hb_ (ZFz.2 e_)) (fun hb2_=>hC.pdk 0 1 rfl rfl b_ hb_ hb2_))) ?_
  rintro _ w9 ⟨m10,v10,rfl,h,hm10,hm11,hm12,hB10⟩
  refine rt ?_
  replace hC:=hC.turnS hB10 hm10 hm11 hm12
  refine dn (ZMh ?_)
  refine cwd 12 Yo [0,1,3,7,0,16,48,112,240,0,1008,15,4095] [3,7,8] [0,1,2,4,5,6,9,10,11] (fun hM12 hM10 w10 hB_=>?_)
  replace hC:=hC.grow hB_
  refine bM 0 (vQ b2) rfl hM10 (Zc 13 1) (bF 1 (vQ b2) rfl rfl hM10 (fun _=>by exact Zas rfl) (Zc 13 3) (bF 2 (.pointer (some ⟨b2,2,none⟩)) rfl rfl hM10 (fun _=>by exact Yt 2 ZW5 rfl sc122.size rfl rfl) (Zc 13 7) (bL 3 (v10) rfl rfl hM12 (fun _ hB_=>by exact Yh (hC.grow hB_) 0 (v10) rfl sc122 rfl rfl) (Zc 13 15) (bM 4 (vQ b2) rfl hM10 (Zc 13 31) (bF 5 (vQ b2) rfl rfl hM10 (fun _=>by exact Zas rfl) (Zc 13 63) (bF 6 (.pointer (some ⟨b2,2,none⟩)) rfl rfl hM10 (fun _=>by exact Yt 2 ZW5 rfl sc122.size rfl rfl) (Zc 13 127) (bL 7 (v10) rfl rfl hM12 (fun _ hB_=>by exact Yh (hC.grow hB_) 0 (v10) rfl sc122 rfl rfl) (Zc 13 255) (bL 8 (vI (m10.length:Int)) rfl rfl hM12 (fun _ hB_=>by exact Zj8 (hC.grow hB_) 1 rfl ZW3 rfl) (Zc 13 511) (bM 9 (vI a2) rfl hM10 (Zc 13 1023) (bF 10 (.bool (decide ((m10.length:Int)≤a2))) rfl rfl hM10 (fun _=>by exact Zpi rfl rfl) (Zc 13 2047) (bA 11 (v10) rfl hM10 (Zc 13 4095) (Z6 12 (by decide) (by decide) (by kernel_rfl) (by kernel_rfl) rfl (Zd (v:=.bool (decide ((m10.length:Int)≤a2))) rfl (done (Z7 (Ze (ZMp ?_)))))))))))))))))
  exact X9 rfl (Zg rfl) (Zg rfl) ⟨m10,v10,(ZNg (ZFi v10)),decide ((m10.length:Int)≤a2),rfl,h,(Xf (hC.getM 1 rfl)),(Y8 hC 1 rfl),hC.below⟩ (.inl rfl)
 ·replace h:=Zk h (cf hb5)
  refine ZMl (Ze (ZMh ?_))
  refine cwd 12 Yo [0,1,3,7,0,16,48,112,240,0,1008,15,4095] [3,7,8] [0,1,2,4,5,6,9,10,11] (fun hM13 hM11 w11 hB_=>?_)
  replace hC:=hC.grow hB_
  refine bM 0 (vQ b2) rfl hM11 (Zc 13 1) (bF 1 (vQ b2) rfl rfl hM11 (fun _=>by exact Zas rfl) (Zc 13 3) (bF 2 (.pointer (some ⟨b2,2,none⟩)) rfl rfl hM11 (fun _=>by exact Yt 2 ZW5 rfl sc122.size rfl rfl) (Zc 13 7) (bL 3 (.slice none 0 0) rfl rfl hM13 (fun _ hB_=>by exact Yh (hC.grow hB_) 0 (.slice none 0 0) rfl sc122 rfl rfl) (Zc 13 15) (bM 4 (vQ b2) rfl hM11 (Zc 13 31) (bF 5 (vQ b2) rfl rfl hM11 (fun _=>by exact Zas rfl) (Zc 13 63) (bF 6 (.pointer (some ⟨b2,2,none⟩)) rfl rfl hM11 (fun _=>by exact Yt 2 ZW5 rfl sc122.size rfl rfl) (Zc 13 127) (bL 7 (.slice none 0 0) rfl rfl hM13 (fun _ hB_=>by exact Yh (hC.grow hB_) 0 (.slice none 0 0) rfl sc122 rfl rfl) (Zc 13 255) (bL 8 (vI 0) rfl rfl hM13 (fun _ hB_=>by exact Zgr ZW3 rfl) (Zc 13 511) (bM 9 (vI a2) rfl hM11 (Zc 13 1023) (bF 10 (.bool (decide (0≤a2))) rfl rfl hM11 (fun _=>by exact Zpi rfl rfl) (Zc 13 2047) (bA 11 (.slice none 0 0) rfl hM11 (Zc 13 4095) (Z6 12 (by decide) (by decide) (by kernel_rfl) (by kernel_rfl) rfl (Zd (v:=.bool (decide (0≤a2))) rfl (done (Z7 (Ze (ZMp ?_)))))))))))))))))
  exact X9 rfl (Zg rfl) (Zg rfl) ⟨[],.slice none 0 0,[],decide (0≤a2),rfl,h,(Zba _ _ _),(fun b hb=>absurd hb (by simp)),hC.below⟩ (.inl rfl)
def Zex (a0:A8) (K:Int→Prop):Prop :=
 Z8 (fun i10 (s10:Int) nx10=>nx10 (ZG5.wrap (s10+(a0.get i10)))) (fun (s10:Int)=>K s10) 8 0 0
theorem Zrx (a0:A8)  {K:Int→Prop} (h:Zex a0 K) (w0:World)  :
  Calls ZMk 137 #[.agg (ZMf (ZMe .i64 a0))] w0 fun e w'=>∃ (r0:Int),
   e=.returned (vI r0)∧K r0∧Bel w0 w':=by
 unfold Zex at h
 refine cof Tryz.func137 rfl 15 Tryz.ntmps137 ?_
 have hC:=ZM2 (X:=Nox) w0 [] (by simp)
 refine sr (Yg (v:=.agg (ZMf (ZMe .i64 a0))) hC (ZMe .i64 a0) rfl rfl fun b1 w3 hB_ hC=>Zd (v:=vI 0) rfl (dn (sr (Zd (v:=vI 0) rfl (dn (ZMh (sr (Yq hC 0 (ZMe .i64 a0) rfl ag73 rfl rfl rfl (Za (v:=vI 0) rfl (dn (ZMn ?_)))))))))))
 refine Yi (S:=Int) _ _ (fun i10 s10 e_ w_=>Zt e_ [(3,vI s10),(6,.agg (ZMf (ZMe .i64 a0))),(7,vI (i10:Int))]∧Ctx Nox w0 w_ [] []) 8 ?_ ?_ (s0:=0) ?_ h
 ·clear hC h
  rintro i10 s10 e_ w10 nx10 K10 hi10 ⟨hS_,hC⟩ h hK10
  rw [ue hS_]
  refine sr (Zn rfl rfl (dn (ZMh (Z5 rfl (decide_eq_true (by omega)) (ZMl (Ze (ZMh (ZMn (sr (Zjk (vI (a0.get i10)) ZM4 rfl rfl (ZMx _) (by omega) sc3 (A8.enc_get _ _ hi10) (Zd (v:=vI (a0.get i10)) rfl (dn (Zh (Za (v:=vI s10) rfl (Za (v:=vI (a0.get i10)) rfl (Zq rfl rfl (Zd (v:=vI (ZG5.wrap (s10+(a0.get i10)))) rfl (done (Zr (Ze (Zh (Zq rfl rfl (Za (v:=vI (ZG5.wrap ((i10:Int)+1))) rfl (done ?_))))))))))))))))))))))))
  exact hK10 (ZG5.wrap (s10+(a0.get i10))) _ _ ⟨(sl ⟨rfl,rfl,(tr rfl (congrArg _ (Z2 hi10 (by decide)))),trivial⟩),hC⟩ h
 ·clear hC h
  rintro s10 e_ w11 K10 ⟨hS_,hC⟩ h
  rw [ue hS_]
  refine sr (Zn rfl rfl (dn (ZMh (Z1 rfl (decide_eq_false (by omega)) ?_))))
  refine ZMv (Zj (Zj (Zx ?_)))
  refine Ze (sr (Za (v:=vI s10) rfl (Zd (v:=vI s10) rfl (dn (ZMp ?_)))))
  exact Zi rfl (Zg rfl) ⟨s10,rfl,h,hC.below⟩ (.inl rfl)
 ·skip
  exact⟨(slq rfl),(hC.xM [] rfl)⟩
def Zd2 (a0:ZW6) (a1:Int) (K:List Bool→Prop):Prop :=
 Z8 (fun i10 (s10:(List Bool)) nx10=>Zex (a0.list.getD i10 ZEo) (fun r10=>(Zy (s10.length+1) 1∧nx10 (s10++[decide (r10≥a1)])))) (fun (s10:(List Bool))=>K s10) a0.list.length 0 []
theorem Zk7 (a0:ZW6) (a1:Int)  {K:List Bool→Prop} (h:Zd2 a0 a1 K) (w0:World) (q0:TLvl.rep a0 [u0_0,u0_1,u0_2,u0_3,u0_4,u0_5] fp0 w0) (qb0:(blk b0 125 [u0_0,u0_1,u0_2,u0_3,u0_4,u0_5]).holds w0) :
  Calls ZMk 81 #[vQ b0,vI a1] w0 fun e w'=>∃ (r0:List Bool) (z0_0:Value) (fz0:List Nat),
   e=.returned (z0_0)∧K r0∧(ZMy (ZR9 4 EB.tr) r0 [z0_0] fz0).holds w'∧(∀ b,b∈fz0→w0.heap.size≤b)∧Bel w0 w':=by
 unfold Zd2 at h
 refine cof Tryz.func81 rfl 27 Tryz.ntmps81 ?_
 have hC:=ZM2 (X:=Nox) w0 [ZMg TLvl a0 [u0_0,u0_1,u0_2,u0_3,u0_4,u0_5] fp0,blk b0 125 [u0_0,u0_1,u0_2,u0_3,u0_4,u0_5]] (alc q0 (al1 qb0))
 have hp3:=(hC.getP 0 rfl)
 have hp4:=Zn8 hp3
 replace hC:=hC.derive 0 rfl (ZMg ((EA .i64).ty.sl) a0.list [u0_0] fp0) (fun _=>hp4.1) (fun _ hb_=>hb_)
 obtain ⟨b6,rfl,hbf7,hm8⟩:=Znx hp4.2
 replace hC:=hC.derive 1 rfl (mapS b6 a0.place) (fun _=>hm8) (fun c_ hc_=>by obtain rfl:=ZFz.1 hc_; exact hbf7)
 refine sr (Zd (v:=.slice none 0 0) rfl (dn (sr (Ye (sz:=1) hC [] (EB.encs []) rfl (fun _=>Zz5  _) rfl (by decide) fun b10 w10 hB_ hC=>Zd (v:=.slice (some ⟨b10,0,none⟩) 0 0) rfl (dn (ZMh (sr (Za (v:=vQ b0) rfl (Xy rfl (Z0 0 ZW4 rfl sc122.size rfl rfl (Zck (u0_0) (hC.getP 3 rfl) sc122 rfl rfl (Zu hC 1 rfl ZW3 rfl (Za (v:=vI 0) rfl (dn (ZMn ?_)))))))))))))))
 have hN10:a0.list.length≤9223372036854775807:=Yw (hC.getP 1 rfl)
 refine Yi (S:=(List Bool)) _ _ (fun i10 s10 e_ w_=>∃ (v10:Value),Zt e_ [(1,vI a1),(5,v10),(12,u0_0),(13,vI (a0.list.length:Int)),(14,vI (i10:Int))]∧Ctx Nox w0 w_ [own 4 1 v10 s10.length (EB.encs s10)] [ZMg ((EA .i64).ty.sl) a0.list [u0_0] fp0,ZMg TLvl a0 [u0_0,.map (some b6),u0_2,u0_3,u0_4,u0_5] fp0,blk b0 125 [u0_0,.map (some b6),u0_2,u0_3,u0_4,u0_5]]) a0.list.length ?_ ?_ (s0:=[]) ?_ h
 ·clear hC h
  rintro i10 s10 e_ w11 nx10 K10 hi10 ⟨v10,hS_,hC⟩ h hK10
  rw [ue hS_]
  refine sr (Zn rfl rfl (dn (ZMh (Z5 rfl (decide_eq_true (by omega)) (ZMl (Ze (ZMh (ZMn (sr ?_)))))))))
  obtain ⟨Ad10,c10,hv10⟩:=Zw (hC.getP 0 rfl) i10 hi10
  refine Yn (len:=a0.list.length) ZW3 ag73.size (tr rfl hv10) rfl (ZMx _) (ZNf.2 hi10) (Jd (ZMe .i64 (a0.list.getD i10 ZEo)) (Yd (hC.getP 0 rfl) hv10 i10 hi10) ag73 rfl rfl (Ys hC (ZMe .i64 ZMm) z73 rfl fun b11 w12 hB_ hC=>Z3 (v:=.agg (ZMf (ZMe .i64 (a0.list.getD i10 ZEo)))) hC 0 (ZMe .i64 (a0.list.getD i10 ZEo)) (ZMe .i64 (a0.list.getD i10 ZEo)) rfl ag73.size rfl rfl rfl rfl rfl (ZMq rfl) rfl fun w13 hC=>dn (Zh (Za (v:=v10) rfl (Yq hC 0 (ZMe .i64 (a0.list.getD i10 ZEo)) rfl ag73 rfl rfl rfl (Zf [.agg (ZMf (ZMe .i64 (a0.list.getD i10 ZEo)))] _ Tryz.func137 rfl rfl rfl (Zrx (a0.list.getD i10 ZEo) h _) ?_))))))
  rintro _ w14 ⟨r10,rfl,h,hB10⟩
  refine rt ?_
  replace hC:=hC.grow hB10
  refine Za (v:=vI a1) rfl (J7 rfl rfl (Ye (sz:=1) hC [(0,.bool (decide (r10≥a1)))] (EB.encs [decide (r10≥a1)]) rfl (fun _=>Zz6 (decide (r10≥a1)) _) rfl (by decide) fun b12 w15 hB_ hC=>?_))
  obtain ⟨hm10,h⟩:=h
  refine Ja hC 2 Tryz.underlying120 el4 rfl (by decide) (by decide) rfl (Jx (hC.getM 0 rfl)) (fun q hq=>Enc.encs_one' (E:=EB) _ q hq) rfl rfl hm10 fun v11 w16 hC=>?_
  replace hC:=Yy hC 2 ((s10++[decide (r10≥a1)]).length) (EB.encs (s10++[decide (r10≥a1)])) rfl (by simp) (by first | (simp [ZM9]; done) | simp [ZM9,Enc.encs])
  refine Zd (v:=v11) rfl (done (Zr (Ze (Zh (Zq rfl rfl (Za (v:=vI (ZG5.wrap ((i10:Int)+1))) rfl (done ?_)))))))
  exact hK10 (s10++[decide (r10≥a1)]) _ _ ⟨v11,(sl ⟨rfl,rfl,rfl,rfl,(tr rfl (congrArg _ (Z2 hi10 hN10))),trivial⟩),(hC.xM [2] rfl)⟩ h
 ·clear hC h
  rintro s10 e_ w17 K10 ⟨v10,hS_,hC⟩ h
  rw [ue hS_]
  refine sr (Zn rfl rfl (dn (ZMh (Z1 rfl (decide_eq_false (by omega)) ?_))))
  refine ZMv (Zj (Zj (Zx ?_)))
  refine Ze (sr (Za (v:=v10) rfl (Zd (v:=v10) rfl (dn (ZMp ?_)))))
  exact Zi rfl (Zg rfl) ⟨s10,v10,(ZNg (ZFi v10)),rfl,h,(Xf (hC.getM 0 rfl)),(Y8 hC 0 rfl),hC.below⟩ (.inl rfl)
 ·skip
  exact⟨.slice (some ⟨b10,0,none⟩) 0 0,(slq rfl),(hC.sP [1,2,3] rfl)⟩
def Zey (a0:ZW6) (a1:List (A8×Int)) (K:List Int→Prop):Prop :=
 ((0≤(a0.list.length:Int)∧(a0.list.length:Int) * 8≤281474976710656)∧Zca (fun (q10:A8×Int) (s10:(List Int)) nx10=>((0≤(Y9 a0.place q10.1).getD 0∧(Y9 a0.place q10.1).getD 0 < (s10.length:Int))∧nx10 (s10.set (((Y9 a0.place q10.1).getD 0).toNat) q10.2))) (fun (s10:(List Int))=>K s10) a1.length a1 (ZEj ((a0.list.length:Int).toNat) (0:Int)))
theorem Zry (a0:ZW6) (a1:List (A8×Int))  {K:List Int→Prop} (h:Zey a0 a1 K) (w0:World) (q0:TLvl.rep a0 [u0_0,u0_1,u0_2,u0_3,u0_4,u0_5] fp0 w0) (qb0:(blk b0 125 [u0_0,u0_1,u0_2,u0_3,u0_4,u0_5]).holds w0) (q1:(mapS b1 a1).holds w0) :
  Calls ZMk 85 #[vQ b0,.map (some b1)] w0 fun e w'=>∃ (r0:List Int) (z0_0:Value) (fz0:List Nat),
   e=.returned (z0_0)∧K r0∧(ZMy (ZR9 2 (eI.tr)) r0 [z0_0] fz0).holds w'∧(∀ b,b∈fz0→w0.heap.size≤b)∧Bel w0 w':=by
 unfold Zey at h
 refine cof Tryz.func85 rfl 31 Tryz.ntmps85 ?_
 have hC:=ZM2 (X:=Nox) w0 [ZMg TLvl a0 [u0_0,u0_1,u0_2,u0_3,u0_4,u0_5] fp0,blk b0 125 [u0_0,u0_1,u0_2,u0_3,u0_4,u0_5],mapS b1 a1] (alc q0 (alc qb0 (al1 q1)))
 have hp4:=(hC.getP 0 rfl)
 have hp5:=Zn8 hp4
 replace hC:=hC.derive 0 rfl (ZMg ((EA .i64).ty.sl) a0.list [u0_0] fp0) (fun _=>hp5.1) (fun _ hb_=>hb_)
 obtain ⟨b7,rfl,hbf8,hm9⟩:=Znx hp5.2
 replace hC:=hC.derive 1 rfl (mapS b7 a0.place) (fun _=>hm9) (fun c_ hc_=>by obtain rfl:=ZFz.1 hc_; exact hbf8)
 refine sr (Zd (v:=.slice none 0 0) rfl (dn (sr (Za (v:=vQ b0) rfl (Xy rfl (Z0 0 ZW4 rfl sc122.size rfl rfl (Zck (u0_0) (hC.getP 3 rfl) sc122 rfl rfl (Zu hC 1 rfl ZW3 rfl ?_))))))))
 obtain ⟨hm10,h⟩:=h
 refine Zb8 (sz:=1) hC (eI.encs (ZEj ((a0.list.length:Int).toNat) (0:Int))) ZM0 el2 (tr rfl (congrArg (Value.int .i64) (Int.toNat_of_nonneg hm10.1).symm)) (tr rfl (congrArg (Value.int .i64) (Int.toNat_of_nonneg hm10.1).symm)) (by omega) (by omega) (Zbk (E:=eI) _ _) fun v11 w10 hB_ hC=>?_
 replace hC:=Yy hC 0 ((ZEj ((a0.list.length:Int).toNat) (0:Int)).length) (eI.encs (ZEj ((a0.list.length:Int).toNat) (0:Int))) rfl (by simp) rfl
 refine Zd (v:=v11) rfl (dn (ZMh (sr (Za (v:=.map (some b1)) rfl (Zgw hC 4 rfl Tryz.underlying115 rfl fun r10 es10 ck10 w11 hB_ hn10 hbn10 hC=>dn (ZMn ?_))))))
 refine Zg0 (S:=(List Int)) _ _ (fun l10 s10 e_ w_=>∃ (v10:Value),∃ (la10:Option MapEntry),Zt e_ [(0,vQ b0),(5,v10),(15,vQ r10)]∧Ctx Nox w0 w_ [itI (kvA .i64) (vvI .i64) r10 b1 es10 ck10 la10 l10,own 2 1 v10 s10.length (eI.encs s10)] [Za9 b1 es10 ck10,mapS b7 a0.place,ZMg ((EA .i64).ty.sl) a0.list [u0_0] fp0,ZMg TLvl a0 [u0_0,.map (some b7),u0_2,u0_3,u0_4,u0_5] fp0,blk b0 125 [u0_0,.map (some b7),u0_2,u0_3,u0_4,u0_5],mapS b1 a1]) ?_ (l0:=a1) (s0:=(ZEj ((a0.list.length:Int).toNat) (0:Int))) ?_ h
 ·clear hC h
  rintro l10 s10 e_ w12 nx10 K10 ⟨v10,la10,hS_,hC⟩ h hK10
  rw [ue hS_]
  refine sr ?_
  refine Zgx hC 0 0 rfl rfl hn10 hbn10 rfl (fun hr10=>?_) (fun q10 l11 ent10 w13 hp10 hk10 hv11 hC=>?_)
  ·replace h:=h.1 hr10
   refine Yx (v:=.bool false) rfl rfl (dn (ZMh (Z1 rfl rfl ?_)))
   refine ZMv (Zj (Zj (Zx ?_)))
   refine Ze (sr (Za (v:=v10) rfl (Zd (v:=v10) rfl (dn (ZMp ?_)))))
   exact Zi rfl (Zg rfl) ⟨s10,v10,(ZNg (ZFi v10)),rfl,h,(Xf (hC.getM 1 rfl)),(Y8 hC 1 rfl),hC.below⟩ (.inl rfl)
  ·replace h:=h.2 q10 l11 hp10
   refine Yx (v:=.bool true) rfl rfl (dn (ZMh (Z5 rfl rfl (ZMl (Ze (ZMn (sr (Zgy hC 0 0 q10 rfl rfl hn10 rfl hk10 hv11 (Yx (v:=.agg (ZMf (ZMe .i64 q10.1))) rfl rfl (Yx (v:=vI q10.2) rfl rfl (Ys hC (ZMe .i64 ZMm) z73 rfl fun b10 w14 hB_ hC=>Z3 (v:=.agg (ZMf (ZMe .i64 q10.1))) hC 0 (ZMe .i64 q10.1) (ZMe .i64 q10.1) rfl ag73.size rfl rfl rfl rfl rfl (ZMq rfl) rfl fun w15 hC=>Zd (v:=vI q10.2) rfl (dn ?_))))))))))))
   refine cwd 8 Yo [0,0,2,6,14,0,62,0,255,511] [4,5,6] [0,1,2,3,7] (fun hM11 hM10 w16 hB_=>?_)
   replace hC:=hC.grow hB_
   refine bM 0 (v10) rfl hM10 (Zc 10 1) (bM 1 (vQ b0) rfl hM10 (Zc 10 3) (bF 2 (vQ b0) rfl rfl hM10 (fun _=>by exact Zas rfl) (Zc 10 7) (bF 3 (.pointer (some ⟨b0,1,none⟩)) rfl rfl hM10 (fun _=>by exact Yt 1 ZW4 rfl sc123.size rfl rfl) (Zc 10 15) (bL 4 (.map (some b7)) rfl rfl hM11 (fun _ hB_=>by exact Zc3 (.map (some b7)) ((hC.grow hB_).getP 4 rfl) sc123 rfl rfl) (Zc 10 31) (bL 5 (.agg (ZMf (ZMe .i64 q10.1))) rfl rfl hM11 (fun _ hB_=>by exact Xa (hC.grow hB_) 0 (ZMe .i64 q10.1) rfl ag73 rfl rfl rfl) (Zc 10 63) (bL 6 (vI ((Y9 a0.place q10.1).getD 0)) rfl rfl hM11 (fun _ hB_=>by exact Zp2 q10.1 0 ((hC.grow hB_).getP 1 rfl) Js ZW9 z3 rfl rfl) (Zc 10 127) (bM 7 (vI q10.2) rfl hM10 (Zc 10 255) (Z6 8 (by decide) (by decide) (by kernel_rfl) (by kernel_rfl) rfl ?_))))))))
   obtain ⟨⟨h10,h11⟩,h⟩:=h
   obtain ⟨Ad10,c10,hv10⟩:=Xo (hC.getM 2 rfl) (Nat.lt_of_le_of_lt (Nat.zero_le _) (show ((Y9 a0.place q10.1).getD 0).toNat < s10.length by omega))
   refine Xv (((Y9 a0.place q10.1).getD 0).toNat * 1) ZM0 sc2.size (tr rfl hv10) rfl h10 h11 rfl (Za8 (v:=vI q10.2) hC 2 [vI q10.2] (eI.encs (s10.set (((Y9 a0.place q10.1).getD 0).toNat) q10.2)) rfl hv10 sc2.size rfl rfl rfl rfl rfl (by rw [Enc.encs_len]; exact J4 (sz:=1) (show ((Y9 a0.place q10.1).getD 0).toNat < s10.length by omega)) (Zbj _ _ _ (show ((Y9 a0.place q10.1).getD 0).toNat < s10.length by omega)) fun w17 hC=>?_)
   replace hC:=Yy hC 2 ((s10.set (((Y9 a0.place q10.1).getD 0).toNat) q10.2).length) (eI.encs (s10.set (((Y9 a0.place q10.1).getD 0).toNat) q10.2)) rfl (by simp) rfl
   refine done (Z7 (Zr ?_))
   exact hK10 q10 l11 (s10.set (((Y9 a0.place q10.1).getD 0).toNat) q10.2) _ _ hp10 ⟨v10,(some ent10),(slq rfl),(hC.xM [1,2] rfl)⟩ h
 ·skip
  exact⟨v11,none,(slq rfl),hC⟩
def Zie (a0:ZW6) (a1:List Int) (K:List (A8×Int)→Prop):Prop :=
 Z8 (fun i10 (s10:(List (A8×Int))) nx10=>((0≤(i10:Int)∧(i10:Int) < (a0.list.length:Int))∧Zek s10 (a0.list.getD i10 ZEo) (a1.getD i10 ZEo) (fun m10=>nx10 m10))) (fun (s10:(List (A8×Int)))=>K s10) a1.length 0 ([]:List (A8×Int))
theorem Zz8 (a0:ZW6) (a1:List Int)  {K:List (A8×Int)→Prop} (h:Zie a0 a1 K) (w0:World) (q0:TLvl.rep a0 [u0_0,u0_1,u0_2,u0_3,u0_4,u0_5] fp0 w0) (qb0:(blk b0 125 [u0_0,u0_1,u0_2,u0_3,u0_4,u0_5]).holds w0) (q1:TInts.rep a1 [u1_0] fp1 w0) :
  Calls ZMk 172 #[vQ b0,u1_0] w0 fun e w'=>∃ (r0:List (A8×Int)) (zb0:Nat),
   e=.returned (.map (some zb0))∧K r0∧(mapS zb0 r0).holds w'∧w0.heap.size≤zb0∧Bel w0 w':=by
 unfold Zie at h
 refine cof Tryz.func172 rfl 28 Tryz.ntmps172 ?_
 have hC:=ZM2 (X:=Nox) w0 [ZMg TLvl a0 [u0_0,u0_1,u0_2,u0_3,u0_4,u0_5] fp0,ZMg TInts a1 [u1_0] fp1,blk b0 125 [u0_0,u0_1,u0_2,u0_3,u0_4,u0_5]] (alc q0 (alc q1 (al1 qb0)))
 have hp4:=(hC.getP 0 rfl)
 have hp5:=Zn8 hp4
 replace hC:=hC.derive 0 rfl (ZMg ((EA .i64).ty.sl) a0.list [u0_0] fp0) (fun _=>hp5.1) (fun _ hb_=>hb_)
 obtain ⟨b7,rfl,hbf8,hm9⟩:=Znx hp5.2
 replace hC:=hC.derive 1 rfl (mapS b7 a0.place) (fun _=>hm9) (fun c_ hc_=>by obtain rfl:=ZFz.1 hc_; exact hbf8)
 refine sr (Zd (v:=.map none) rfl (dn (sr (Zfh hC (kvA .i64) (vvI .i64) fun b10 w10 hB_ hC=>Zd (v:=.map (some b10)) rfl (dn (ZMh (sr (Za (v:=u1_0) rfl (Zu hC 3 rfl ZM0 rfl (Za (v:=vI 0) rfl (dn (ZMn ?_))))))))))))
 have hN10:a1.length≤9223372036854775807:=Yw (hC.getP 3 rfl)
 refine Yi (S:=(List (A8×Int))) _ _ (fun i10 s10 e_ w_=>Zt e_ [(0,vQ b0),(5,.map (some b10)),(9,u1_0),(10,vI (a1.length:Int)),(11,vI (i10:Int))]∧Ctx Nox w0 w_ [mapS b10 s10] [mapS b7 a0.place,ZMg ((EA .i64).ty.sl) a0.list [u0_0] fp0,ZMg TLvl a0 [u0_0,.map (some b7),u0_2,u0_3,u0_4,u0_5] fp0,ZMg TInts a1 [u1_0] fp1,blk b0 125 [u0_0,.map (some b7),u0_2,u0_3,u0_4,u0_5]]) a1.length ?_ ?_ (s0:=([]:List (A8×Int))) ?_ h
 ·clear hC h
  rintro i10 s10 e_ w11 nx10 K10 hi10 ⟨hS_,hC⟩ h hK10
  rw [ue hS_]
  refine sr (Zn rfl rfl (dn (ZMh (Z5 rfl (decide_eq_true (by omega)) (ZMl (Ze (ZMh (ZMn (sr (Za (v:=vI (i10:Int)) rfl ?_))))))))))
  obtain ⟨Ad10,c10,hv10⟩:=Zw (hC.getP 3 rfl) i10 hi10
  refine Yn (len:=a1.length) ZM0 sc2.size (tr rfl hv10) rfl (ZMx _) (ZNf.2 hi10) (Yp (vI (a1.getD i10 ZEo)) (Yd (hC.getP 3 rfl) hv10 i10 hi10) sc2 rfl (Zd (v:=vI (i10:Int)) rfl (Zd (v:=vI (a1.getD i10 ZEo)) rfl (dn (Zh (Za (v:=.map (some b10)) rfl (Za (v:=vQ b0) rfl (Xy rfl (Z0 0 ZW4 rfl sc122.size rfl rfl (Zck (u0_0) (hC.getP 4 rfl) sc122 rfl rfl (Za (v:=vI (i10:Int)) rfl ?_)))))))))))
  obtain ⟨⟨h10,h11⟩,h⟩:=h
  obtain ⟨Ad11,c11,hv11⟩:=Zw (hC.getP 1 rfl) i10 (show i10 < a0.list.length by omega)
  refine Yn (len:=a0.list.length) ZW3 ag73.size (tr rfl hv11) rfl h10 h11 (Jd (ZMe .i64 (a0.list.getD i10 ZEo)) (Yd (hC.getP 1 rfl) hv11 i10 (show i10 < a0.list.length by omega)) ag73 rfl rfl (Za (v:=vI (a1.getD i10 ZEo)) rfl (Zf [.map (some b10),.agg (ZMf (ZMe .i64 (a0.list.getD i10 ZEo))),vI (a1.getD i10 ZEo)] _ Tryz.func195 rfl rfl rfl (Zm9 s10 (a0.list.getD i10 ZEo) (a1.getD i10 ZEo) h _ (hC.getM 0 rfl)) ?_)))
  rintro _ w12 ⟨m10,rfl,h,hm10,hB10⟩
  refine rt ?_
  replace hC:=hC.turnB 0 rfl hB10 rfl rfl hm10
  refine done (Zr (Ze (Zh (Zq rfl rfl (Za (v:=vI (ZG5.wrap ((i10:Int)+1))) rfl (done ?_))))))
  exact hK10 m10 _ _ ⟨(sl ⟨rfl,rfl,rfl,rfl,(tr rfl (congrArg _ (Z2 hi10 hN10))),trivial⟩),hC⟩ h
 ·clear hC h
  rintro s10 e_ w13 K10 ⟨hS_,hC⟩ h
  rw [ue hS_]
  refine sr (Zn rfl rfl (dn (ZMh (Z1 rfl (decide_eq_false (by omega)) ?_))))
  refine ZMv (Zj (Zj (Zx ?_)))
  refine Ze (sr (Za (v:=.map (some b10)) rfl (Zd (v:=.map (some b10)) rfl (dn (ZMp ?_)))))
  exact Zi rfl (Zg rfl) ⟨s10,b10,rfl,h,(hC.getM 0 rfl),(Zgv hC 0 rfl),hC.below⟩ (.inl rfl)
 ·skip
  exact⟨(slq rfl),hC⟩
end Go.Proofs.YtaagfepgbofmlaaGreat
set_option maxRecDepth 4000
set_option maxHeartbeats 4000000
namespace Go.Proofs.YtaagfepgbofmlaaGreat
open Go Go.RowKit Vc
theorem Zz9:X7 ZMk 117 (.pointer none):=by unfold X7; kernel_rfl
theorem bsc196:ScaT ZMk 196:=⟨⟨_,ZXh,rfl⟩,by kernel_rfl⟩
theorem bsc66:ScaT ZMk 66:=⟨⟨_,Tryz.underlying66,rfl⟩,by kernel_rfl⟩
theorem bsc22:ScaT ZMk 22:=⟨⟨_,ZM0,rfl⟩,by kernel_rfl⟩
theorem bsc122:ScaT ZMk 122:=⟨⟨_,ZW3,rfl⟩,by kernel_rfl⟩
theorem bsc123:ScaT ZMk 123:=⟨⟨_,ZW9,rfl⟩,by kernel_rfl⟩
theorem Zrz:KeyT ZMk 2 (vvI .i64):=Zza Tryz.underlying2
theorem ZAa:ScaT ZMk 3:=⟨⟨_,Tryz.underlying3,rfl⟩,by kernel_rfl⟩
theorem ZAb:KeyT ZMk 73 (kvA .i64):=Zmp ZM4 Tryz.underlying3 ZAa
theorem bag73:AggT ZMk 73 8:=⟨⟨_,ZM4,rfl⟩,by kernel_rfl⟩
theorem ZAc:X7 ZMk 73 (.agg (ZMf (ZMe .i64 ZMm))):=by unfold X7; kernel_rfl
theorem ZAd:ZMk.follows .mixedOrders=true:=by kernel_rfl
theorem ZAe (x0:Nat) (w:World):(Instr.build 125 #[(1,.map (some x0))]).run ZMk w=.ok (.agg #[.slice none 0 0,.map (some x0),.slice none 0 0,.slice none 0 0,.slice none 0 0,.slice none 0 0]) w:=by kernel_rfl
def Zoa (l:List A8) (p:List (A8×Int)):Prop:=Z8 (fun i (s:List (A8×Int)) nx=>nx (Yu s (l.getD i ZEo) (i:Int))) (fun s=>s=p) l.length 0 []
def Zce (C:Cx) (ds:List Int) (n:Int):Prop:=Za6 ds n 120 (fun l _=>l=C.LV n∧Zoa l (C.PL n))
theorem Zr0 (C : Cx) (a : Alg) (n : Int) {cb ab mb : Nat} {u0 u1 : Value} {fpA : List Nat} {D : List Lev} {F : List Nat} (h : Zce C a.degrees n) (w0 : World)
    (qc:(blk cb 198 [.pointer (some ⟨ab,0,none⟩),.map (some mb)]).holds w0) (qa:(blk ab 32 [u0,u1]).holds w0) (q0:TAlg.rep a [u0,u1] fpA w0)
    (qm:(Yc (vvI .i64) vvP mb (D.map ZW2)).holds w0) (qp:(cpP C D F).holds w0) (hd:cb≠mb∧ab≠mb∧mb∉fpA∧mb∉F) :
    Calls ZMk 115 #[.pointer (some ⟨cb,0,none⟩),.int .i64 n] w0 fun e w'=>∃ (ev:Lev) (new:List Lev) (F1:List Nat),
      e=.returned (vvP ev.b)∧ev.n=n∧ev∈D++new∧(Yc (vvI .i64) vvP mb ((D++new).map ZW2)).holds w'∧(cpP C (D++new) (F++F1)).holds w'∧(lvB 125 new).holds w' ∧
      (∀ b,b∈new.map (·.b)→w0.heap.size≤b)∧(∀ b,b∈F1→w0.heap.size≤b)∧(∀ b,b∈new.map (·.b)→b∉F1)∧(∀ e,e∈new→e.cd=false∧e.vc=.slice none 0 0)∧BelB mb w0 w':=by
  refine Zmb (args:=[.pointer (some ⟨cb,0,none⟩),.int .i64 n]) ZXi rfl 63 Tryz.ntmps115 (ZMq rfl) ?_
  have hC:=Ctx.start1 w0 mb (it:=Yc (vvI .i64) vvP mb (D.map ZW2)) rfl [cpP C D F,blk cb 198 [.pointer (some ⟨ab,0,none⟩),.map (some mb)],blk ab 32 [u0,u1],ZMg TAlg a [u0,u1] fpA] qm
    (by simp only [ZEk,ZGu,or_false,forall_eq_or_imp,forall_eq]; exact⟨qp,qc,qa,q0⟩)
    (by
      simp only [ZEk,ZGu,or_false,forall_eq_or_imp,forall_eq]
      exact⟨fun c hc e=>hd.2.2.2 (e ▸ hc),fun c hc e=>hd.1 ((ZFz.1 hc).symm.trans e),fun c hc e=>hd.2.1 ((ZFz.1 hc).symm.trans e),fun c hc e=>hd.2.2.1 (e ▸ hc)⟩)
  refine sr ?_
  refine Zd (v:=.pointer none) rfl ?_
  refine dn ?_
  refine ZMh ?_
  refine sr ?_
  refine Za (v:=.pointer (some ⟨cb,0,none⟩)) rfl ?_
  refine Xy rfl ?_
  refine Z0 1 ZXc rfl bsc196.size rfl rfl ?_
  refine Yp (.map (some mb)) (Zaw (off:=1) (sz:=1) (hC.getP 1 rfl) rfl) bsc196 rfl ?_
  refine Za (v:=.int .i64 n) rfl ?_
  refine Zzy n (.pointer none) (hC.getM 0 rfl) Zrz ZXh Zz9 rfl rfl (fun b hg=>?_) (fun hg=>?_)
  · refine Za (v:=.tuple #[vvP b,.bool true]) rfl ?_
    refine Yx (v:=vvP b) rfl rfl ?_
    refine Yx (v:=.bool true) rfl rfl ?_
    refine Zd (v:=vvP b) rfl ?_
    refine Zd (v:=.bool true) rfl ?_
    refine dn ?_
    refine sr ?_
    refine Za (v:=.bool true) rfl ?_
    refine dn ?_
    refine Z5 rfl rfl ?_
    refine ZMh ?_
    refine Zh ?_
    refine Za (v:=vvP b) rfl ?_
    refine Zd (v:=vvP b) rfl ?_
    refine dn ?_
    refine ZMp ?_
    obtain ⟨ev,he,hn,rfl⟩:=Zzw hg
    refine Zm (Zi (fn:=Tryz.f115) (v:=vvP ev.b) rfl (Zg rfl) ⟨ev,[],[],rfl,hn,by simpa using he,?_,?_,Zrr _ _,by simp,by simp,by simp,by simp,hC.belB⟩ (.inl rfl))
    · rw [ZXj]; exact hC.getM 0 rfl
    · rw [ZXj,ZXj]; exact hC.getP 0 rfl
  · refine Za (v:=.tuple #[.pointer none,.bool false]) rfl ?_
    refine Yx (v:=.pointer none) rfl rfl ?_
    refine Yx (v:=.bool false) rfl rfl ?_
    refine Zd (v:=.pointer none) rfl ?_
    refine Zd (v:=.bool false) rfl ?_
    refine dn ?_
    refine sr ?_
    refine Za (v:=.bool false) rfl ?_
    refine dn ?_
    refine Z1 rfl rfl ?_
    refine ZMl ?_
    refine Ze ?_
    refine sr ?_
    refine Zfh hC (kvA .i64) (vvI .i64) fun pb w1 hB_ hC=>?_
    refine J2 [(1,.map (some pb))] rfl (ZAe pb _) ?_
    refine Yg (v:=.agg #[.slice none 0 0,.map (some pb),.slice none 0 0,.slice none 0 0,.slice none 0 0,.slice none 0 0]) hC [.slice none 0 0,.map (some pb),.slice none 0 0,.slice none 0 0,.slice none 0 0,.slice none 0 0] rfl rfl fun bx w2 hB_ hC=>?_
    refine Zd (v:=.pointer (some ⟨bx,0,none⟩)) rfl ?_
    refine dn ?_
    refine sr ?_
    refine Za (v:=.pointer (some ⟨bx,0,none⟩)) rfl ?_
    refine Za (v:=.pointer (some ⟨cb,0,none⟩)) rfl ?_
    refine Xy rfl ?_
    refine Z0 0 ZXc rfl bsc66.size rfl rfl ?_
    refine Yp (.pointer (some ⟨ab,0,none⟩)) (Zaw (off:=0) (sz:=1) (hC.getP 1 rfl) rfl) bsc66 rfl ?_
    refine Xy rfl ?_
    refine Z0 0 Tryz.underlying32 rfl bsc22.size rfl rfl ?_
    refine Yp (u0) (Zaw (off:=0) (sz:=1) (hC.getP 2 rfl) rfl) bsc22 rfl ?_
    refine Za (v:=.int .i64 n) rfl ?_
    refine Zf [u0,.int .i64 n,.int .i64 120] _ Tryz.func100 rfl rfl rfl (Zk6 a.degrees n 120 h _ (Zfd (hC.getP 3 rfl)).1) (fun ret w3 hR=>?_)
    obtain ⟨r,u,f1,rb,rfl,⟨hrL,h⟩,hr2,hf2,hB3⟩:=hR
    refine⟨_,rfl,?_⟩
    replace hC:=hC.push hB3 (ZMy (ZR9 73 ((EA .i64).tr)) r [u] f1) hr2 hf2
    obtain ⟨ho,hf3⟩:=Yv (hC.getM 0 rfl).1
    subst hf3
    replace hC:=hC.recast (c:=own 73 8 u r.length ((EA .i64).encs r)) (fun _ h_=>h_) (fun _=>ho)
    refine Za (v:=.tuple #[u,.bool rb]) rfl ?_
    refine Yx (v:=u) rfl rfl ?_
    refine Yx (v:=.bool rb) rfl rfl ?_
    refine Xy rfl ?_
    refine Z0 0 ZW4 rfl bsc122.size rfl rfl ?_
    refine Z3 (v:=u) hC 1 [u] [u,.map (some pb),.slice none 0 0,.slice none 0 0,.slice none 0 0,.slice none 0 0] rfl bsc122.size rfl rfl (Zb9 (hC.getM 0 rfl)) rfl (Xp (X4 (hC.getM 0 rfl)) rfl) (ZMq rfl) rfl fun w4 hC=>?_
    refine dn ?_
    refine ZMh ?_
    refine sr ?_
    refine Za (v:=.pointer (some ⟨bx,0,none⟩)) rfl ?_
    refine Xy rfl ?_
    refine Z0 0 ZW4 rfl bsc122.size rfl rfl ?_
    refine Yb hC 1 (u) rfl bsc122 rfl rfl ?_
    obtain ⟨Ad,c9,hv9⟩:=Zbi (hC.getM 0 rfl)
    refine Zec ZW3 (tr rfl hv9) ?_
    refine Za (v:=.int .i64 0) rfl ?_
    refine dn ?_
    refine ZMn ?_
    have hN:r.length≤9223372036854775807:=Zdl (hC.getM 0 rfl)
    refine Yi (S:=(List (A8×Int))) _ _ (fun i s e_ w_=>Zt e_ [(0,.pointer (some ⟨cb,0,none⟩)),(1,.int .i64 n),(7,.pointer (some ⟨bx,0,none⟩)),(42,u),(43,.int .i64 (r.length:Int)),(44,.int .i64 (i:Int))]∧Ctx (fun c=>c=mb) w0 w_ [own 73 8 u r.length ((EA .i64).encs r),blk bx 125 [u,.map (some pb),.slice none 0 0,.slice none 0 0,.slice none 0 0,.slice none 0 0],Yc (kvA .i64) (vvI .i64) pb s,Yc (vvI .i64) vvP mb (D.map ZW2)] [cpP C D F,blk cb 198 [.pointer (some ⟨ab,0,none⟩),.map (some mb)],blk ab 32 [u0,u1],ZMg TAlg a [u0,u1] fpA]) r.length ?_ ?_ (s0:=([]:List (A8×Int))) ?_ h
    · clear hC h
      rintro i s e_ w5 next K5 hi5 ⟨hS_,hC⟩ h hK5
      refine sr ?_
      refine Zn (sx hS_ 5 rfl) (sx hS_ 4 rfl) ?_
      refine dn ?_
      refine ZMh ?_
      refine Z5 rfl (decide_eq_true (by omega)) ?_
      refine ZMl ?_
      refine Ze ?_
      refine ZMh ?_
      refine ZMn ?_
      refine sr ?_
      refine Za (v:=.int .i64 (i:Int)) (sx hS_ 5 rfl) ?_
      obtain ⟨Ad6,c6,hv6⟩:=Xo (hC.getM 0 rfl) (Nat.lt_of_le_of_lt (Nat.zero_le _) hi5)
      refine Xv (i * 8) ZW3 bag73.size (tr (sx hS_ 3 rfl) hv6) (sx hS_ 5 rfl) (ZMx _) (ZNf.2 hi5) rfl ?_
      refine Jd (ZMe .i64 (r.getD i ZEo)) (Zah (hC.getM 0 rfl) hv6 i hi5) bag73 rfl rfl ?_
      refine Ys hC (ZMe .i64 ZMm) ZAc rfl fun b7 w7 hB_ hC=>?_
      refine Zd (v:=.int .i64 (i:Int)) rfl ?_
      refine Z3 (v:=.agg (ZMf (ZMe .i64 (r.getD i ZEo)))) hC 0 (ZMe .i64 (r.getD i ZEo)) (ZMe .i64 (r.getD i ZEo)) rfl bag73.size rfl rfl rfl rfl rfl (ZMq rfl) rfl fun w8 hC=>?_
      refine dn ?_
      refine Zpw 6 ZAd [0,1,3,7,0,0,63] [3,4] [0,1,2,5] (by kernel_rfl) (by kernel_rfl) (by kernel_rfl) (fun hM1 hM2 w9 hB_=>?_)
      replace hC:=hC.grow hB_
      refine aF 0 (.pointer (some ⟨bx,0,none⟩)) rfl rfl (hM2 0 rfl) (rfl) (fun _=>by exact Zax (v:=.pointer (some ⟨bx,0,none⟩)) (sx hS_ 2 rfl)) (Zc 7 1) ?_
      refine aF 1 (.pointer (some ⟨bx,0,none⟩)) rfl rfl (hM2 1 rfl) (rfl) (fun _=>by exact Zas rfl) (Zc 7 3) ?_
      refine aF 2 (.pointer (some ⟨bx,1,none⟩)) rfl rfl (hM2 2 rfl) (rfl) (fun _=>by exact Yt 1 ZW4 rfl bsc123.size rfl rfl) (Zc 7 7) ?_
      refine aL 3 (.map (some pb)) rfl rfl (hM1 3 rfl) (rfl) (fun _ hB_=>by exact Yh (hC.grow hB_) 2 (.map (some pb)) rfl bsc123 rfl rfl) (Zc 7 15) ?_
      refine aL 4 (.agg (ZMf (ZMe .i64 (r.getD i ZEo)))) rfl rfl (hM1 4 rfl) (rfl) (fun _ hB_=>by exact Xa (hC.grow hB_) 0 (ZMe .i64 (r.getD i ZEo)) rfl bag73 rfl rfl rfl) (Zc 7 31) ?_
      refine aF 5 (.int .i64 (i:Int)) rfl rfl (hM2 5 rfl) (rfl) (fun _=>by exact Zax (v:=.int .i64 (i:Int)) rfl) (Zc 7 63) ?_
      refine Z6 6 (by decide) (by decide) (by kernel_rfl) (by kernel_rfl) rfl ?_
      refine Zj1 hC 3 (r.getD i ZEo) (i:Int) rfl ZAb ZW9 rfl rfl rfl (fun w10 hC=>?_) (.inl rfl)
      refine done ?_
      refine Z7 ?_
      refine Zr ?_
      refine Ze ?_
      refine Zh ?_
      refine Zq (sx hS_ 5 rfl) rfl ?_
      refine Za (v:=.int .i64 (ZG5.wrap ((i:Int)+1))) rfl ?_
      refine done ?_
      replace hC:=hC.sM [1,2,3,4] (M':=[own 73 8 u r.length ((EA .i64).encs r),blk bx 125 [u,.map (some pb),.slice none 0 0,.slice none 0 0,.slice none 0 0,.slice none 0 0],Yc (kvA .i64) (vvI .i64) pb (Yu s (r.getD i ZEo) (i:Int)),Yc (vvI .i64) vvP mb (D.map ZW2)]) (by decide) rfl
      exact hK5 (Yu s (r.getD i ZEo) (i:Int)) _ _ ⟨(sk (sx hS_ 0 rfl) (sk (sx hS_ 1 rfl) (sk (sx hS_ 2 rfl) (sk (sx hS_ 3 rfl) (sk (sx hS_ 4 rfl) (sk (tr rfl (congrArg _ (Z2 hi5 hN))) sn)))))),hC⟩ h
    · clear hC h
      rintro s e_ w11 K11 ⟨hS_,hC⟩ h
      refine sr ?_
      refine Zn (sx hS_ 5 rfl) (sx hS_ 4 rfl) ?_
      refine dn ?_
      refine ZMh ?_
      refine Z1 rfl (decide_eq_false (by omega)) ?_
      refine ZMv (Zj (Zj (Zx ?_)))
      refine Ze ?_
      refine sr ?_
      refine Za (v:=.pointer (some ⟨cb,0,none⟩)) (sx hS_ 0 rfl) ?_
      refine Xy rfl ?_
      refine Z0 1 ZXc rfl bsc196.size rfl rfl ?_
      refine Yp (.map (some mb)) (Zaw (off:=1) (sz:=1) (hC.getP 1 rfl) rfl) bsc196 rfl ?_
      refine Za (v:=.int .i64 n) (sx hS_ 1 rfl) ?_
      refine Za (v:=.pointer (some ⟨bx,0,none⟩)) (sx hS_ 2 rfl) ?_
      refine Zj1 hC 3 n bx rfl Zrz ZXh rfl rfl rfl (fun w12 hC=>?_) (.inl rfl)
      refine dn ?_
      refine sr ?_
      refine Za (v:=.pointer (some ⟨bx,0,none⟩)) (sx hS_ 2 rfl) ?_
      refine Zd (v:=.pointer (some ⟨bx,0,none⟩)) rfl ?_
      refine dn ?_
      refine ZMp ?_
      have e1:=hC.getM 0 rfl
      have e2:=hC.getM 1 rfl
      have e3:=hC.getM 2 rfl
      have e4:=hC.getM 3 rfl
      have d1:=hC.mm 0 3 rfl rfl (by decide)
      have d2:=hC.mm 1 3 rfl rfl (by decide)
      have d3:=hC.mm 2 3 rfl rfl (by decide)
      have d4:=hC.mm 1 0 rfl rfl (by decide)
      have d5:=hC.mm 1 2 rfl rfl (by decide)
      have fr:∀ it,it∈[own 73 8 u r.length ((EA .i64).encs r),blk bx 125 [u,.map (some pb),.slice none 0 0,.slice none 0 0,.slice none 0 0,.slice none 0 0],Yc (kvA .i64) (vvI .i64) pb s]→(∀ x,x∈it.fp→x∉(Yc (vvI .i64) vvP mb (Yu (D.map ZW2) n bx)).fp)→∀ b,b∈it.fp→w0.heap.size≤b:=fun it hit hds b hb =>
        (hC.mfp it (by
          simp only [ZEk,ZGu,or_false] at hit
          rcases hit with rfl | rfl | rfl
          · exact List.mem_of_getElem? (i:=0) rfl
          · exact List.mem_of_getElem? (i:=1) rfl
          · exact List.mem_of_getElem? (i:=2) rfl) b hb).elim id fun e=>absurd (by simp [Yc,e]) (hds b hb)
      have hl1:∀ b,b∈u.ownBlock.toList++[pb]→b < w12.heap.size:=by
        intro b hb
        rcases ZEv.1 hb with q | q
        · exact ZSa _ _ e1 b q
        · exact ZSa _ _ e3 b q
      refine Zi (fn:=Tryz.f115) (v:=vvP bx) rfl (Zg rfl) ⟨⟨n,bx,pb,u,.slice none 0 0,.slice none 0 0,.slice none 0 0,.slice none 0 0,false,false⟩,[⟨n,bx,pb,u,.slice none 0 0,.slice none 0 0,.slice none 0 0,.slice none 0 0,false,false⟩],u.ownBlock.toList++[pb],rfl,rfl,by simp,?_,Zzt (hC.getP 0 rfl) ⟨?_,⟨by simp,?_⟩,fun _=>rfl,fun q=>(ZXd q).elim,⟨⟨_,_,_,rfl⟩,⟨_,_,_,rfl⟩,⟨_,_,_,rfl⟩⟩,fun q=>(ZXd q).elim⟩ hl1,Zzo e2,?_,?_,?_,by simp,hC.belB⟩ (.inl rfl)
      · have e5:=e4
        rw [Zzx hg] at e5
        rw [ZSi]; exact e5
      · show ((EA .i64).ty.sl).rep (C.LV n) [u] _ _
        rw [← hrL]
        exact Ty.more _ (Ym e1) (fun b hb=>ZFa _ hb) hl1
      · have hs:s=C.PL n:=h
        show (Yc (kvA .i64) (vvI .i64) pb (C.PL n)).holds w12
        rw [← hs]; exact e3
      · intro b hb
        obtain rfl:b=bx:=by simpa using hb
        exact fr _ (by simp) d2 b (by simp [blk])
      · intro b hb
        rcases ZEv.1 hb with q | q
        · exact fr _ (by simp) d1 b q
        · exact fr _ (by simp) d3 b (by simpa [Yc] using q)
      · intro b hb hb2
        obtain rfl:b=bx:=by simpa using hb
        rcases ZEv.1 hb2 with q | q
        · exact d4 b (by simp [blk]) q
        · exact d5 b (by simp [blk]) (by simpa [Yc] using q)
    · exact⟨(sk rfl (sk rfl (sk rfl (sk rfl (sk rfl (sk rfl sn)))))),hC⟩
theorem Zf2 (C : Cx) (a : Alg) (n : Int) {cb ab mb : Nat} {u0 u1 : Value} {fpA : List Nat} {D : List Lev} {F : List Nat} (h : Zce C a.degrees n) (w0 : World)
    (q0:TAlg.rep a [u0,u1] fpA w0) (qa:(blk ab 32 [u0,u1]).holds w0) (qc:(blk cb 198 [.pointer (some ⟨ab,0,none⟩),.map (some mb)]).holds w0) (qx:(cpx C 125 mb D F).holds w0)
    (dq:∀ b,b∈fpA→b∉(cpx C 125 mb D F).fp) (da:ab∉(cpx C 125 mb D F).fp) (dc:cb∉(cpx C 125 mb D F).fp) :
    Calls ZMk 115 #[.pointer (some ⟨cb,0,none⟩),.int .i64 n] w0 fun e w'=>∃ (b:Nat) (D':List Lev) (F':List Nat),
      e=.returned (vvP b)∧LvAt D' n b false false∧CpLe D D' F F'∧(cpx C 125 mb D' F').holds w'∧(∀ x,x∈(cpx C 125 mb D' F').fp→x∈(cpx C 125 mb D F).fp∨w0.heap.size≤x)∧BelB mb w0 w':=by
  refine(Zr0 C a n h w0 qc qa q0 qx.1 qx.2.2.1 ⟨fun e=>dc (e ▸ Zbu),fun e=>da (e ▸ Zbu),fun q=>dq _ q Zbu,qx.2.2.2.2.1⟩).mono ?_
  rintro e w' ⟨v,new,F1,rfl,h1,h2,h3,h4,h5,h6,h7,h8,h9,hB⟩
  have lmb:mb < w0.heap.size:=ZSa _ w0 qx mb Zbu
  have lD:∀ b,b∈D.map (·.b)→b < w0.heap.size:=fun b hb=>ZSa _ w0 qx.2.1 b hb
  have lF:∀ b,b∈F→b < w0.heap.size:=fun b hb=>ZSa _ w0 qx.2.2.1 b hb
  have hvn:∀ e,e∈D++new→∃ e',e'∈D++new∧e'.n=e.n∧e'.b=e.b∧(e.md=true→e'.md=true)∧(e.cd=true→e'.cd=true):=fun e he=>⟨e,he,rfl,rfl,id,id⟩
  refine⟨v.b,D++new,F++F1,rfl,⟨v,h2,h1,rfl,fun q=>(ZXd q).elim,fun q=>(ZXd q).elim⟩,⟨fun e he=>hvn e (ZFa _ he),fun e he=>?_,fun x hx=>ZFa _ hx⟩,⟨h3,Zrs (Item.keep _ w0 w' (fun b hb=>hB.old b (lD b hb) (fun e=>qx.2.2.2.1 (e ▸ hb))) qx.2.1) h5 (fun x hx hx2=>absurd (lD x hx) (ZE6.2 (h6 x hx2))),h4,?_,?_,?_⟩,fun x hx=>?_,hB⟩
  · rcases ZEv.1 he with q | q
    · exact .inr ⟨e,q,rfl,rfl,rfl⟩
    · exact .inl (h9 e q)
  · intro q
    rw [ZSi] at q
    rcases ZEv.1 q with q | q
    · exact qx.2.2.2.1 q
    · exact absurd lmb (ZE6.2 (h6 _ q))
  · intro q
    rcases ZEv.1 q with q | q
    · exact qx.2.2.2.2.1 q
    · exact absurd lmb (ZE6.2 (h7 _ q))
  · intro b hb hb2
    rw [ZSi] at hb
    rcases ZEv.1 hb with q | q
    · rcases ZEv.1 hb2 with q2 | q2
      · exact qx.2.2.2.2.2 b q q2
      · exact absurd (lD b q) (ZE6.2 (h7 _ q2))
    · rcases ZEv.1 hb2 with q2 | q2
      · exact absurd (lF b q2) (ZE6.2 (h6 _ q))
      · exact h8 b q q2
  · rcases ZEk.1 hx with rfl | hx
    · exact .inl List.mem_cons_self
    · rcases ZEv.1 hx with q | q
      · rw [ZSi] at q
        rcases ZEv.1 q with q | q
        · exact .inl (ZSc _ (ZFa _ q))
        · exact .inr (h6 _ q)
      · rcases ZEv.1 q with q | q
        · exact .inl (ZSc _ (List.mem_append_right _ q))
        · exact .inr (h7 _ q)
section
variable {ops:Array Oper} {Q:Exit→Act→World→Prop} {m:Nat} {e:Env} {w:World} {rest:List Oper}
variable {X:Nat→Prop} {w0:World} {M Ps:List Vc.Item}
variable {d ty:Nat} {pos:String} {af:Array Edge}
theorem ZAf {C : Cx} {a : Alg} {n : Int} {cb ab mb : Nat} {u0 u1 : Value} {fpA : List Nat} {D B : List Lev} {F : List Nat} {x y : Operand} {at_ : Array Nat} (hok : Zce C a.degrees n)
    (hC:Ctx X w0 w (Yc (vvI .i64) vvP mb (D.map ZW2)::lvB 125 B::M) (cpP C D F::blk cb 198 [.pointer (some ⟨ab,0,none⟩),.map (some mb)]::blk ab 32 [u0,u1]::ZMg TAlg a [u0,u1] fpA::Ps))
    (hx:ev m e x=.pointer (some ⟨cb,0,none⟩)) (hy:ev m e y=.int .i64 n)
    (k:∀ (v:Lev) (new:List Lev) (F1:List Nat) (w':World),v.n=n→v∈D++new→(∀ x,x∈F1→w.heap.size≤x)→(∀ z,z∈new→z.cd=false∧z.vc=.slice none 0 0)→Ctx X w0 w' (Yc (vvI .i64) vvP mb ((D++new).map ZW2)::lvB 125 (B++new)::M) (cpP C (D++new) (F++F1)::blk cb 198 [.pointer (some ⟨ab,0,none⟩),.map (some mb)]::blk ab 32 [u0,u1]::ZMg TAlg a [u0,u1] fpA::Ps) →
      BelB mb w w'→W ZMk ops Q rest m (upd e d (vvP v.b)) w') :
    W ZMk ops Q (⟨some d,.call { callee:=.value (.func 115),args:=#[x,y],argTypes:=at_ }, ty,pos,af,none⟩::rest) m e w:=by
  have hm:Yc (vvI .i64) vvP mb (D.map ZW2)∈Yc (vvI .i64) vvP mb (D.map ZW2)::lvB 125 B::M:=by simp
  have hd:cb≠mb∧ab≠mb∧mb∉fpA∧mb∉F :=
    ⟨fun q=>hC.pd _ (List.mem_of_getElem? (i:=1) rfl) cb (by simp [blk]) _ hm (by simp [Yc,q]),fun q=>hC.pd _ (List.mem_of_getElem? (i:=2) rfl) ab (by simp [blk]) _ hm (by simp [Yc,q]),
      fun q=>hC.pd _ (List.mem_of_getElem? (i:=3) rfl) mb q _ hm (by simp [Yc]),fun q=>hC.pd _ (List.mem_of_getElem? (i:=0) rfl) mb q _ hm (by simp [Yc])⟩
  refine Zf (l:=[x,y]) [.pointer (some ⟨cb,0,none⟩),.int .i64 n] _ ZXi rfl rfl (by simp [hx,hy]) (Zr0 C a n hok w (hC.getP 1 rfl) (hC.getP 2 rfl) (hC.getP 3 rfl) (hC.getM 0 rfl) (hC.getP 0 rfl) hd) (fun ret w' hR=>?_)
  obtain ⟨v,new,F1,rfl,h1,h2,h3,h4,h5,h6,h7,h8,h9,hB⟩:=hR
  have hlow:mb < w.heap.size:=ZSa _ _ (hC.getM 0 rfl) mb (by simp [Yc])
  refine⟨_,rfl,k v new F1 w' h1 h2 h7 h9 ?_ hB⟩
  have hT:=hC.turnMPN 0 0 (jt:=Yc (vvI .i64) vvP mb ((D++new).map ZW2)) (qt:=cpP C (D++new) (F++F1)) (nt:=lvB 125 new) rfl rfl ⟨hB.os,hB.tape,hB.output,hB.size,hB.drawn,fun c hc hne=>hB.old c hc (fun q=>hne (by simp [Yc,q]))⟩ h3 h4 h5 (fun b hb=>.inl hb)
    (fun b hb=>(ZEv.1 hb).elim .inl fun q=>.inr (h7 b q)) (fun b hb hb2=>by
      obtain rfl:b=mb:=by simpa [Yc] using hb2
      rcases ZEv.1 hb with q | q
      · exact hd.2.2.2 q
      · have:=h7 _ q; omega) h6 (fun b hb=>⟨fun q=>by
        obtain rfl:b=mb:=by simpa [Yc] using q
        have:=h6 _ hb; omega,fun q=>by
        rcases ZEv.1 q with q | q
        · exact absurd (ZSa _ _ (hC.getP 0 rfl) b q) (ZE6.2 (h6 b hb))
        · exact h8 b hb q⟩)
  have hT2:=(hT.permM ((List.Perm.cons _ (.swap _ _ _)).trans (.swap _ _ _))).gather (c:=lvB 125 (B++new)) (fun x hx=>by
    rw [show (lvB 125 (B++new)).fp=B.map (·.b)++new.map (·.b) from ZSi] at hx
    exact ZEv.1 hx) (fun g1 g2 gd=>Zrs g1 g2 gd)
  exact hT2.permM (.swap _ _ _)
end
end Go.Proofs.YtaagfepgbofmlaaGreat
set_option maxRecDepth 4000
set_option maxHeartbeats 4000000
namespace Go.Proofs.YtaagfepgbofmlaaGreat
open Go Go.RowKit Vc
variable {b0 bp0 b1 bp1 b2 bp2 b3 bp3 b4 bp4 b5 bp5 b6 bp6 b7 bp7 mb0:Nat} {u0_0 u0_1 u0_2 u0_3 u0_4 u0_5 u1_0 u1_1 u1_2 u1_3 u1_4 u1_5 u2_0 u2_1 u2_2 u2_3 u2_4 u2_5 u3_0 u3_1 u3_2 u3_3 u3_4 u3_5 u4_0 u4_1 u4_2 u4_3 u4_4 u4_5 u5_0 u5_1 u5_2 u5_3 u5_4 u5_5 u6_0 u6_1 u6_2 u6_3 u6_4 u6_5 u7_0 u7_1 u7_2 u7_3 u7_4 u7_5:Value} {fp0 fp1 fp2 fp3 fp4 fp5 fp6 fp7 fp0_0 fp0_1 fp0_2 fp0_3 fp0_4 fp0_5 fp1_0 fp1_1 fp1_2 fp1_3 fp1_4 fp1_5 F0:List Nat} {D0:List Lev}
theorem sc85:ScaT ZMk 85:=⟨⟨_,ZXe,rfl⟩,by kernel_rfl⟩
theorem Zak (w:World):(ZW8 85 0 #[]).run ZMk w=.ok (.slice (some ⟨w.heap.size,0,none⟩) 0 0) (w.alloc (.cells (ZMf []) 22)):=by kernel_rfl
theorem Zae (x0:Value) (hx0:Zei x0) (w:World):(ZW8 85 1 #[(0,x0)]).run ZMk w=.ok (.slice (some ⟨w.heap.size,0,none⟩) 1 1) (w.alloc (.cells (ZMf [x0]) 22)):=by obtain ⟨_,_,_,rfl⟩:=hx0; kernel_rfl
theorem Jz:J3 ZMk 22 (.slice none 0 0) 1 24:=by unfold J3; kernel_rfl
def Zk8 (C:Cx) (a0:Alg) (a1:Int) (K:Prop):Prop :=
 (Zce C a0.degrees a1∧((Zce C a0.degrees (ZG5.wrap (a1+1))∧Z8 (fun i10 (s10:(List (List Int))) nx10=>Zdx a0 (Yu ([]:List (A8×Int)) ((C.LV a1).getD i10 ZEo) 1) (fun r11=>Zey (⟨C.LV (ZG5.wrap (a1+1)),C.PL (ZG5.wrap (a1+1))⟩:ZW6) r11 (fun r10=>(Zy (s10.length+1) 24∧nx10 (s10++[r10]))))) (fun (s10:(List (List Int)))=>(s10=C.MX a1∧K)) ((C.LV a1).length) 0 [])∧K))
theorem ZAg (C:Cx) (a0:Alg) (a1:Int)  {K:Prop} (h:Zk8 C a0 a1 K) (w0:World) (q0:TAlg.rep a0 [u0_0,u0_1] fp0 w0) (qb0:(blk b0 32 [u0_0,u0_1]).holds w0) (qbp0:(blk bp0 198 [vQ b0,.map (some mb0)]).holds w0) (qx0:(cpx C 125 mb0 D0 F0).holds w0) (dq0:∀ b,b∈fp0→b∉(cpx C 125 mb0 D0 F0).fp) (db0:b0∉(cpx C 125 mb0 D0 F0).fp) (dbp0:bp0∉(cpx C 125 mb0 D0 F0).fp) :
  Calls ZMk 135 #[vQ bp0,vI a1] w0 fun e w'=>∃ (zb0:Nat) (Dz:List Lev) (Fz:List Nat),
   e=.returned (vvP zb0)∧K∧LvAt Dz a1 zb0 true false∧CpLe D0 Dz F0 Fz∧(cpx C 125 mb0 Dz Fz).holds w'∧(∀ x,x∈(cpx C 125 mb0 Dz Fz).fp→x∈(cpx C 125 mb0 D0 F0).fp∨w0.heap.size≤x)∧BelO ((cpx C 125 mb0 D0 F0).fp) w0 w':=by
 unfold Zk8 at h
 refine cof Tryz.func135 rfl 55 Tryz.ntmps135 ?_
 have hC:=Ctx.startL w0 ((cpx C 125 mb0 D0 F0).fp) [cpx C 125 mb0 D0 F0] [ZMg TAlg a0 [u0_0,u0_1] fp0,blk b0 32 [u0_0,u0_1],blk bp0 198 [vQ b0,.map (some mb0)]] (al1 qx0) (alc q0 (alc qb0 (al1 qbp0))) (al1 (fun b_ hb_=>hb_)) (ZS2 _ _) (alc (fun b_ hb_=>dq0 b_ hb_) (alc (Zbp db0) (al1 (Zbp dbp0))))
 replace hC:=hC.dAlg 0 rfl
 refine sr (Zd (v:=.pointer none) rfl (dn (sr (Za (v:=vQ bp0) rfl (Za (v:=vI a1) rfl ?_)))))
 obtain ⟨ho10,h⟩:=h
 refine Zf [vQ bp0,vI a1] _ ZXi rfl rfl rfl (Zf2 C a0 a1 ho10 _ (Yk (hC.getP 1 rfl) (hC.getP 0 rfl)) (hC.getP 3 rfl) (hC.getP 4 rfl) (hC.getM 0 rfl) (fun b_ hb hb2_=>(ZEv.1 hb).elim (fun hb=>hC.pdk 1 0 rfl rfl b_ hb hb2_) (fun hb=>hC.pdk 0 0 rfl rfl b_ hb hb2_)) (fun hx_=>hC.pdk 3 0 rfl rfl _ (ZSl _) hx_) (fun hx_=>hC.pdk 4 0 rfl rfl _ (ZSl _) hx_)) ?_
 rintro _ w9 ⟨b10,D10,F11,rfl,hat18,hle12,hx13,hf10,hB10⟩
 refine rt ?_
 replace hC:=hC.turnI 0 rfl (hB10.belO Zbu) hx13 hf10
 refine Zd (v:=vvP b10) rfl (dn (ZMh (sr (Za (v:=vvP b10) rfl (Xy rfl (Z0 2 ZW4 rfl sc85.size rfl rfl ?_))))))
 obtain ⟨u12,u13,u11,u14,u15,u16,hb10,Ad10,n27,c10,hv10,hmd30⟩:=Zzz (hC.getM 0 rfl) hat18
 refine Yp (u11) (Zaw (off:=2) (sz:=1) hb10 rfl) sc85 rfl ?_
 rcases Ad10 with _ | Ad11
 ·replace h:=h.1
  refine Zk2 true ZXe (tr rfl hv10) rfl rfl (dn (Z5 rfl rfl (sr (Za (v:=vvP b10) rfl (Ye (sz:=1) hC [] [] rfl (fun _=>Zak _) rfl (by decide) fun b11 w11 hB_ hC=>?_)))))
  replace hC:=hC.pushM0 (Z9 (ZR9 2 (eI.tr)) ([]:List (List Int)) [] []) (Jb _ _) rfl
  replace hC:=hC.gather (c:=ZMy (ZR9 22 (ZR9 2 (eI.tr))) [] [.slice (some ⟨b11,0,none⟩) 0 0] ((ZNg (ZFi (.slice (some ⟨b11,0,none⟩) 0 0)))++([]:List (List Nat)).flatten)) (fun x_ hx_=>(ZEv.1 hx_).symm) (fun h1_ h2_ hd_=>X1 h2_ h1_ (fun b_ hb_ hb2_=>hd_ b_ hb2_ hb_))
  refine Xy rfl (Z0 2 ZW4 rfl sc85.size rfl rfl ?_)
  replace hC:=hC.sM [1,0] (M':=[cpx C 125 mb0 D10 F11,ZMy (ZR9 22 (ZR9 2 (eI.tr))) [] [.slice (some ⟨b11,0,none⟩) 0 0] ((ZNg (ZFi (.slice (some ⟨b11,0,none⟩) 0 0)))++([]:List (List Nat)).flatten)]) (by decide) rfl
  obtain ⟨D36,D37,ev38,rfl,hn10,hb11,hz41,hC⟩:=hC.focus hat18
  replace hC:=hC.derive 0 rfl (ZMg ((EA .i64).ty.sl) (C.LV a1) [ev38.vl] F11) (fun h_=>Zzv h_ (by simp) hn10) (fun _ h_=>h_)
  refine Z3 (v:=.slice (some ⟨b11,0,none⟩) 0 0) hC 0 [.slice (some ⟨b11,0,none⟩) 0 0] [ev38.vl,.map (some ev38.pb),.slice (some ⟨b11,0,none⟩) 0 0,ev38.vc,ev38.vd,ev38.vk] rfl sc85.size rfl rfl (Zmo (Tr.trep _ (hC.getM 3 rfl).1)) rfl (Xp (Zdo (Tr.trep _ (hC.getM 3 rfl).1)) rfl) (ZMq rfl) rfl fun w12 hC=>dn (sr (Za (v:=vQ bp0) rfl (Za (v:=vI a1) rfl (Zq rfl rfl ?_))))
  replace hC:=hC.sM [2,1,0,3] (M':=[Yc (vvI .i64) vvP mb0 ((D36++ev38::D37).map ZW2),lvB 125 (D36++D37),blk b10 125 [ev38.vl,.map (some ev38.pb),.slice (some ⟨b11,0,none⟩) 0 0,ev38.vc,ev38.vd,ev38.vk],ZMy (ZR9 22 (ZR9 2 (eI.tr))) [] [.slice (some ⟨b11,0,none⟩) 0 0] ((ZNg (ZFi (.slice (some ⟨b11,0,none⟩) 0 0)))++([]:List (List Nat)).flatten)]) (by decide) rfl
  replace hC:=hC.sP [1,6,5,4,0,2,3] (Ps':=[cpP C (D36++ev38::D37) F11,blk bp0 198 [vQ b0,.map (some mb0)],blk b0 32 [u0_0,u0_1],ZMg TAlg a0 [u0_0,u0_1] fp0,ZMg ((EA .i64).ty.sl) (C.LV a1) [ev38.vl] F11,ZMg TForm.sl a0.images [u0_1] fp0,ZMg TInts a0.degrees [u0_0] fp0]) rfl
  obtain ⟨ho11,h⟩:=h
  have hz58:=hC.size
  refine ZAf ho11 hC rfl rfl (fun ev49 D50 F51 w13 hn11 hm10 hz55 hnw57 hC hB13=>?_)
  have hv12:ev49∈((D36++D37))++D50:=Zz0 hm10 (fun q_=>Zz1 a1 (hn11.symm.trans ((congrArg Lev.n q_).trans hn10)))
  refine Zd (v:=vvP ev49.b) rfl (dn (sr (Za (v:=vQ b10) rfl (Xy rfl (Z0 0 ZW4 rfl sc122.size rfl rfl (Yb hC 2 (ev38.vl) rfl sc122 rfl rfl (Zu hC 4 rfl ZW3 rfl (Za (v:=vI 0) rfl (dn (ZMn ?_))))))))))
  have hN10:(C.LV a1).length≤9223372036854775807:=Yw (hC.getP 4 rfl)
  refine Yi (S:=(List (List Int))) _ _ (fun i10 s10 e_ w_=>∃ (v10:Value),∃ (f10:List Nat),Zt e_ [(0,vQ bp0),(5,vQ b10),(6,vvP ev49.b),(28,ev38.vl),(29,vI ((C.LV a1).length:Int)),(30,vI (i10:Int))]∧Ctx (fun c_=>c_∈(cpx C 125 mb0 D0 F0).fp) w0 w_ [Yc (vvI .i64) vvP mb0 (((D36++ev38::D37)++D50).map ZW2),lvB 125 ((D36++D37)++D50),blk b10 125 [ev38.vl,.map (some ev38.pb),v10,ev38.vc,ev38.vd,ev38.vk],ZMy (ZR9 22 (ZR9 2 (eI.tr))) s10 [v10] f10] [cpP C ((D36++ev38::D37)++D50) (F11++F51),blk bp0 198 [vQ b0,.map (some mb0)],blk b0 32 [u0_0,u0_1],ZMg TAlg a0 [u0_0,u0_1] fp0,ZMg ((EA .i64).ty.sl) (C.LV a1) [ev38.vl] F11,ZMg TForm.sl a0.images [u0_1] fp0,ZMg TInts a0.degrees [u0_0] fp0]) ((C.LV a1).length) ?_ ?_ (s0:=[]) ?_ h
  ·clear hC h
   rintro i10 s10 e_ w14 nx10 K10 hi10 ⟨v10,f10,hS_,hC⟩ h hK10
   rw [ue hS_]
   refine sr (Zn rfl rfl (dn (ZMh (Z5 rfl (decide_eq_true (by omega)) (ZMl (Ze (ZMh (ZMn (sr ?_)))))))))
   obtain ⟨Ad12,c11,hv11⟩:=Zw (hC.getP 4 rfl) i10 hi10
   refine Yn (len:=(C.LV a1).length) ZW3 ag73.size (tr rfl hv11) rfl (ZMx _) (ZNf.2 hi10) (Jd (ZMe .i64 ((C.LV a1).getD i10 ZEo)) (Yd (hC.getP 4 rfl) hv11 i10 hi10) ag73 rfl rfl (Ys hC (ZMe .i64 ZMm) z73 rfl fun b15 w15 hB_ hC=>Z3 (v:=.agg (ZMf (ZMe .i64 ((C.LV a1).getD i10 ZEo)))) hC 0 (ZMe .i64 ((C.LV a1).getD i10 ZEo)) (ZMe .i64 ((C.LV a1).getD i10 ZEo)) rfl ag73.size rfl rfl rfl rfl rfl (ZMq rfl) rfl fun w16 hC=>dn ?_))
   refine Zm2 17 Yo [0,0,2,6,14,0,0,64,192,448,0,0,3072,7168,16320,32736,65504,131070,262143,524287,1048575] [4,9,11] [0,1,2,3,5,6,7,8,13] (fun hM11 hM10 w10 hB_=>?_)
   replace hC:=hC.grow hB_
   have hN_:w10.heap.size≤w10.heap.size:=Nat.le_refl _
   refine bMR (Xc _) 0 (vQ b10) rfl hM10 (Zc 21 1) (bMR (Xc _) 1 (vQ b10) rfl hM10 (Zc 21 3) (Zv (Xc _) 2 (vQ b10) rfl rfl (by kernel_rfl) (hM10 2 rfl) (fun w_=>.inl ⟨rfl,by exact Zas rfl⟩) (l9:=(Zc 21 7)) (by kernel_rfl) (Zv (Xc _) 3 (.pointer (some ⟨b10,2,none⟩)) rfl rfl (by kernel_rfl) (hM10 3 rfl) (fun w_=>.inl ⟨rfl,by exact Yt 2 ZW4 rfl sc85.size rfl rfl⟩) (l9:=(Zc 21 15)) (by kernel_rfl) (Za3 (Xc _) 4 (v10) rfl rfl (by kernel_rfl) (hM11 4 rfl) (fun w_ hB_=>.inl ⟨rfl,by exact Yh (hC.grow (Zcp hB_)) 3 (v10) rfl sc85 rfl rfl⟩) (l9:=(Zc 21 31)) (by kernel_rfl) (bMR (Xc _) 5 (vvP ev49.b) rfl hM10 (Zc 21 63) (bMR (Xc _) 6 (vQ bp0) rfl hM10 (Zc 21 127) (Zv (Xc _) 7 (vQ bp0) rfl rfl (by kernel_rfl) (hM10 7 rfl) (fun w_=>.inl ⟨rfl,by exact Zas rfl⟩) (l9:=(Zc 21 255)) (by kernel_rfl) (Zv (Xc _) 8 (vQ bp0) rfl rfl (by kernel_rfl) (hM10 8 rfl) (fun w_=>.inl ⟨rfl,by exact Yt 0 ZXc rfl sc66.size rfl rfl⟩) (l9:=(Zc 21 511)) (by kernel_rfl) (Za3 (Xc _) 9 (vQ b0) rfl rfl (by kernel_rfl) (hM11 9 rfl) (fun w_ hB_=>.inl ⟨rfl,by exact Zc3 (vQ b0) ((hC.grow (Zcp hB_)).getP 1 rfl) sc66 rfl rfl⟩) (l9:=(Zc 21 1023)) (by kernel_rfl) (Za3 (Xc _) 11 (.agg (ZMf (ZMe .i64 ((C.LV a1).getD i10 ZEo)))) rfl rfl (by kernel_rfl) (hM11 11 rfl) (fun w_ hB_=>.inl ⟨rfl,by exact Xa (hC.grow (Zcp hB_)) 0 (ZMe .i64 ((C.LV a1).getD i10 ZEo)) rfl ag73 rfl rfl rfl⟩) (l9:=(Zc 21 3071)) (by kernel_rfl) (aO 10 rfl (Zdp hC (kvA .i64) (vvI .i64) fun b13 w17 hn_ hB_ hC=>?_))))))))))))
   have hnb_b197:=Nat.le_trans hN_ hn_
   refine done ?_
   refine Xb (Jj hN_ (by assumption)) hN_ (l9:=(Zc 21 4095)) (by kernel_rfl) (fun hN_=>?_)
   refine aO 12 rfl ?_
   refine Zao hC 0 ((C.LV a1).getD i10 ZEo) 1 rfl Js Tryz.underlying115 rfl rfl rfl (fun w18 hBB_ hC=>?_) (.inr rfl)
   refine done ?_
   refine Xb (Zab hN_ hnb_b197 hBB_) hN_ (l9:=(Zc 21 8191)) (by kernel_rfl) (fun hN_=>?_)
   refine bMR (Xc _) 13 (.map (some b13)) rfl hM10 (Zc 21 16383) (aO 14 rfl (Zf [vQ b0,.map (some b13)] _ Tryz.func154 rfl rfl rfl (Znb a0 (Yu ([]:List (A8×Int)) ((C.LV a1).getD i10 ZEo) 1) h _ (Yk (hC.getP 6 rfl) (hC.getP 5 rfl)) (hC.getP 2 rfl) (hC.getM 0 rfl)) ?_))
   rintro _ w19 ⟨r11,b14,rfl,h,hr10,hf11,hB11⟩
   refine rt ?_
   replace hC:=hC.push hB11 (mapS b14 r11) hr10 (fun b_ hb_=>by obtain rfl:=ZFz.1 hb_; exact hf11)
   refine done ?_
   refine Xb (Jj hN_ (by assumption)) hN_ (l9:=(Zc 21 32767)) (by kernel_rfl) (fun hN_=>?_)
   refine aO 15 rfl (Zf [vvP ev49.b,.map (some b14)] _ Tryz.func85 rfl rfl rfl (Zry (⟨C.LV (ZG5.wrap (a1+1)),C.PL (ZG5.wrap (a1+1))⟩:ZW6) r11 h _ (Zru (hC.getP 0 rfl) hm10 hn11) (Zk5 (hC.getM 4 rfl) hv12) (hC.getM 0 rfl)) ?_)
   rintro _ w20 ⟨r10,u10,f11,rfl,h,hr11,hf12,hB12⟩
   refine rt ?_
   replace hC:=hC.push hB12 (ZMy (ZR9 2 (eI.tr)) r10 [u10] f11) hr11 hf12
   obtain ⟨ho12,hf13⟩:=Yv (hC.getM 0 rfl).1
   subst hf13
   replace hC:=hC.recast (c:=own 2 1 u10 r10.length (eI.encs r10)) (fun _ h_=>h_) (fun _=>ho12)
   refine done ?_
   refine Xb (Jj hN_ (by assumption)) hN_ (l9:=(Zc 21 65535)) (by kernel_rfl) (fun hN_=>?_)
   refine aO 16 rfl (Ye (sz:=1) hC [(0,u10)] [u10] rfl (fun _=>Zae u10 (Zbc (hC.getM 0 rfl)) _) rfl (by decide) fun b12 w21 hB_ hC=>?_)
   replace hC:=hC.pushM0 (Z9 (ZR9 2 (eI.tr)) [] [] []) (Jb _ _) rfl
   replace hC:=hC.sM [2,0,1,3,4,5,6,7,8,9] (M':=[own 2 1 u10 r10.length (eI.encs r10),Z9 (ZR9 2 (eI.tr)) [] [] [],own 22 1 (.slice (some ⟨b12,0,none⟩) 1 1) 1 [u10],mapS b14 r11,mapS b13 (Yu ([]:List (A8×Int)) ((C.LV a1).getD i10 ZEo) 1),blk b15 73 (ZMe .i64 ((C.LV a1).getD i10 ZEo)),Yc (vvI .i64) vvP mb0 (((D36++ev38::D37)++D50).map ZW2),lvB 125 ((D36++D37)++D50),blk b10 125 [ev38.vl,.map (some ev38.pb),v10,ev38.vc,ev38.vd,ev38.vk],ZMy (ZR9 22 (ZR9 2 (eI.tr))) s10 [v10] f10]) (by decide) rfl
   replace hC:=hC.gather (c:=Z9 (ZR9 2 (eI.tr)) [r10] [u10] [(ZNg (ZFi u10))]) (fun x_ hx_=>Zbo hx_) (fun h1_ h2_ hd_=>Zbb (c:=[u10]) (id (Xf h1_)) h2_ hd_)
   replace hC:=hC.sM [1,0,2,3,4,5,6,7,8] (M':=[own 22 1 (.slice (some ⟨b12,0,none⟩) 1 1) 1 [u10],Z9 (ZR9 2 (eI.tr)) [r10] [u10] [(ZNg (ZFi u10))],mapS b14 r11,mapS b13 (Yu ([]:List (A8×Int)) ((C.LV a1).getD i10 ZEo) 1),blk b15 73 (ZMe .i64 ((C.LV a1).getD i10 ZEo)),Yc (vvI .i64) vvP mb0 (((D36++ev38::D37)++D50).map ZW2),lvB 125 ((D36++D37)++D50),blk b10 125 [ev38.vl,.map (some ev38.pb),v10,ev38.vc,ev38.vd,ev38.vk],ZMy (ZR9 22 (ZR9 2 (eI.tr))) s10 [v10] f10]) (by decide) rfl
   replace hC:=hC.gather (c:=ZMy (ZR9 22 (ZR9 2 (eI.tr))) [r10] [.slice (some ⟨b12,0,none⟩) 1 1] ((ZNg (ZFi (.slice (some ⟨b12,0,none⟩) 1 1)))++([(ZNg (ZFi u10))]:List (List Nat)).flatten)) (fun x_ hx_=>ZEv.1 hx_) (fun h1_ h2_ hd_=>X1 h1_ h2_ hd_)
   refine done ?_
   refine Xb (Jj hN_ (by assumption)) hN_ (l9:=(Zc 21 131071)) (by kernel_rfl) (fun hN_=>?_)
   refine aO 17 rfl ?_
   replace hC:=hC.sM [7,0,1,2,3,4,5,6] (M':=[ZMy (ZR9 22 (ZR9 2 (eI.tr))) s10 [v10] f10,ZMy (ZR9 22 (ZR9 2 (eI.tr))) [r10] [.slice (some ⟨b12,0,none⟩) 1 1] ((ZNg (ZFi (.slice (some ⟨b12,0,none⟩) 1 1)))++([(ZNg (ZFi u10))]:List (List Nat)).flatten),mapS b14 r11,mapS b13 (Yu ([]:List (A8×Int)) ((C.LV a1).getD i10 ZEo) 1),blk b15 73 (ZMe .i64 ((C.LV a1).getD i10 ZEo)),Yc (vvI .i64) vvP mb0 (((D36++ev38::D37)++D50).map ZW2),lvB 125 ((D36++D37)++D50),blk b10 125 [ev38.vl,.map (some ev38.pb),v10,ev38.vc,ev38.vd,ev38.vk]]) (by decide) rfl
   obtain ⟨hm11,h⟩:=h
   refine Za4 hC ZXe Jz rfl (by decide) (by decide) rfl rfl hm11 fun v11 f12 w22 hC=>done (Zgs (by decide) (l9:=(Zc 21 262143)) (by kernel_rfl) (Z6 18 (by decide) (by decide) (by kernel_rfl) (by kernel_rfl) rfl (Xy rfl (Z0 2 ZW4 rfl sc85.size rfl rfl (Z3 (v:=v11) hC 6 [v11] [ev38.vl,.map (some ev38.pb),v11,ev38.vc,ev38.vd,ev38.vk] rfl sc85.size rfl rfl (Zmo (Tr.trep _ (hC.getM 0 rfl).1)) rfl (Xp (Zdo (Tr.trep _ (hC.getM 0 rfl).1)) rfl) (ZMq rfl) rfl fun w23 hC=>done (Z7 (Zr (Ze (Zh (Zq rfl rfl (Za (v:=vI (ZG5.wrap ((i10:Int)+1))) rfl (done ?_))))))))))))
   exact hK10 (s10++[r10]) _ _ ⟨v11,f12,(sl ⟨rfl,rfl,rfl,rfl,rfl,(tr rfl (congrArg _ (Z2 hi10 hN10))),trivial⟩),(hC.xM [4,5,6,0] rfl)⟩ h
  ·clear hC h
   rintro s10 e_ w24 K10 ⟨v10,f10,hS_,hC⟩ h
   rw [ue hS_]
   refine sr (Zn rfl rfl (dn (ZMh (Z1 rfl (decide_eq_false (by omega)) ?_))))
   refine ZMv (Zj (Zj (Zx ?_)))
   refine Ze (sr (Za (v:=vQ b10) rfl (Zd (v:=vQ b10) rfl (dn (ZMp ?_)))))
   obtain ⟨hmx234,h⟩:=h
   obtain ⟨D235,F236,hle237,hat238,hx239,hf14⟩:=Zz2 (n:=a1) (hC.getM 0 rfl) (hC.getM 1 rfl) (hC.getM 2 rfl) (hC.getP 0 rfl) (hmx234 ▸ (hC.getM 3 rfl)) hn10 hb11 (hC.mm 0 2 rfl rfl (by decide)) (hC.mm 0 1 rfl rfl (by decide)) (hC.mm 0 3 rfl rfl (by decide)) (hC.mm 2 1 rfl rfl (by decide)) (hC.mm 2 3 rfl rfl (by decide)) (hC.mm 1 3 rfl rfl (by decide)) (fun x_ hx_ hy_=>hC.pdk 0 0 rfl rfl x_ hx_ hy_) (fun x_ hx_ hy_=>hC.pdk 0 2 rfl rfl x_ hx_ hy_) (fun x_ hx_ hy_=>hC.pdk 0 1 rfl rfl x_ hx_ hy_) hnw57
   exact Zi rfl (Zg rfl) ⟨b10,D235,F236,rfl,h,hat238,(hle12.trans hle237),hx239,(fun x_ hx_=>((hf14 x_ hx_).elim (hC.anyX 0 rfl x_) (fun q_=>q_.elim (hC.anyX 2 rfl x_) (fun q_=>q_.elim (hC.anyX 1 rfl x_) (fun q_=>q_.elim (hz41 x_) (fun q_=>q_.elim (fun q_=>.inl (Nat.le_trans hz58 (hz55 x_ q_))) (hC.anyX 3 rfl x_)))))).symm),hC.belO⟩ (.inl rfl)
  ·skip
   exact⟨.slice (some ⟨b11,0,none⟩) 0 0,((ZNg (ZFi (.slice (some ⟨b11,0,none⟩) 0 0)))++([]:List (List Nat)).flatten),(slq rfl),hC⟩
 ·replace h:=h.2
  refine Zk2 false ZXe (tr rfl hv10) rfl rfl ?_
  have hat32:=hmd30 _ rfl
  refine dn (Z1 rfl rfl (ZMl (Ze (sr (Za (v:=vvP b10) rfl (Zd (v:=vvP b10) rfl (dn (ZMp ?_))))))))
  exact Zi rfl (Zg rfl) ⟨b10,D10,F11,rfl,h,hat32,hle12,(hC.getM 0 rfl),(fun x_ hx_=>(hC.anyX 0 rfl x_ hx_).symm),hC.belO⟩ (.inl rfl)
end Go.Proofs.YtaagfepgbofmlaaGreat
namespace Go.Proofs.YtaagfepgbofmlaaGreat
open Go Go.RowKit Vc
def Zk9 (C:Cx) (a:Alg) (n:Int):Prop:=Zk8 C a n True
theorem ZAh (C:Cx) (a:Alg) (n:Int) {cb ab mb:Nat} {u0 u1:Value} {fpA:List Nat} {D:List Lev} {F:List Nat} (h:Zk9 C a n) (w0:World)
    (q0:TAlg.rep a [u0,u1] fpA w0) (qa:(blk ab 32 [u0,u1]).holds w0) (qc:(blk cb 198 [.pointer (some ⟨ab,0,none⟩),.map (some mb)]).holds w0) (qx:(cpx C 125 mb D F).holds w0)
    (dq:∀ b,b∈fpA→b∉(cpx C 125 mb D F).fp) (da:ab∉(cpx C 125 mb D F).fp) (dc:cb∉(cpx C 125 mb D F).fp) :
    Calls ZMk 135 #[.pointer (some ⟨cb,0,none⟩),.int .i64 n] w0 fun e w'=>∃ (b:Nat) (D':List Lev) (F':List Nat),
      e=.returned (vvP b)∧LvAt D' n b true false∧CpLe D D' F F'∧(cpx C 125 mb D' F').holds w'∧(∀ x,x∈(cpx C 125 mb D' F').fp→x∈(cpx C 125 mb D F).fp∨w0.heap.size≤x)∧BelO (cpx C 125 mb D F).fp w0 w':=by
  refine(ZAg C a n h w0 q0 qa qc qx dq da dc).mono ?_
  rintro e w' ⟨b,D',F',h1,_,h2⟩
  exact⟨b,D',F',h1,h2⟩
end Go.Proofs.YtaagfepgbofmlaaGreat
