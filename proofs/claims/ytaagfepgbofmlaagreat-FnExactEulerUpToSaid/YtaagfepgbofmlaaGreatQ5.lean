import Derived.Test.YtaagfepgbofmlaaGreatQ4
set_option linter.unusedSectionVars false
set_option linter.unusedSimpArgs false
set_option linter.unusedVariables false
open Decidable renaming not_not→ZQk,byContradiction→ZZs
open Go renaming wp_seq→ZMn,wp_ret→ZMv,wp_skip→ZMr,wp_block→ZMt,wp_exit→ZM1
open Go.Instr renaming buildSlice→ZYz
open Go.IntKind renaming i64→ZHd,u8→ZMz
open Go.Proofs.Tryz renaming underlying22→ZM6,prog→ZMq,underlying85→ZT8,underlying132→ZYl,func94→ZYn,func163→ZYo,underlying32→ZM7,func150→ZYw,func126→ZYx,func125→ZNd,underlying136→ZM5,underlying5→ZNn,func164→ZY0,underlying55→ZMu,underlying53→ZMx
open Go.Value renaming ownBlock→ZFq,int→ZPb
open Inhabited renaming default→ZEx
open Int renaming tdiv→ZTb,tmod→ZFo,natCast_nonneg→ZM3,ofNat_lt→ZNl,mul_emod→ZTo,toNat_of_nonneg→ZPc,zero_add→ZO6,mul_le_mul_of_nonneg_right→ZYp,tmod_eq_emod_of_nonneg→ZPg,mul_comm→ZYq,mul_assoc→ZYt,le_trans→ZYu,emod_emod→ZYv,mul_nonneg→ZT9,ediv_nonneg→ZY3,toNat_natCast→ZY4,add_emod→ZT1,tdiv_eq_ediv_of_nonneg→ZZm
open List renaming mem_append→ZE4,replicate→ZEs,mem_cons→ZEt,toArray→ZMl,length_eq_one_iff→ZNj,getD→ZFf,mem_map→ZF9,mem_append_left→ZFi,mem_singleton→ZF6,pairwise_cons→ZFk,mem_append_right→ZFj,length_take→ZTn,pairwise_append→ZQr,not_mem_nil→ZG2,take_of_length_le→ZFw,length_append→ZE8,pairwise_map→ZUc,pairwise_singleton→ZU4,mem_singleton_self→ZTg,take_append_drop→ZIs,mem_of_mem_drop→ZZp,mem_cons_of_mem→ZTd
open List.Pairwise renaming nil→ZQq
open Nat renaming zero_le→ZGh,lt_of_le_of_lt→ZPl,le_of_ble_eq_true→ZMw,le_refl→ZEw,le_trans→ZEy,lt_trichotomy→ZY6,lt_or_ge→ZF1
open Option renaming toList→ZNm
open Vc renaming TInts→ZO5
open Vc.A8 renaming enc→ZMk,get_set→ZPe,zero→ZMs,get_add→ZYr,get_mkf→ZYs,get_zero→ZYy
open Vc.Ctx renaming start→ZM8
open Vc.Enc renaming encs_append→ZNf,encs_one'→ZNq
open Vc.Tr renaming sl→ZTa,item→ZM4,trep→ZXe
open Vc.Ty renaming item→ZMm,allItem→ZXd
set_option maxRecDepth 4000
set_option maxHeartbeats 4000000
namespace Go.Proofs.YtaagfepgbofmlaaGreat
open Go Go.RowKit Vc
variable {b0 bp0 b1 bp1 b2 bp2 b3 bp3 b4 bp4 b5 bp5 b6 bp6 b7 bp7 mb0:Nat} {u0_0 u0_1 u0_2 u0_3 u0_4 u0_5 u1_0 u1_1 u1_2 u1_3 u1_4 u1_5 u2_0 u2_1 u2_2 u2_3 u2_4 u2_5 u3_0 u3_1 u3_2 u3_3 u3_4 u3_5 u4_0 u4_1 u4_2 u4_3 u4_4 u4_5 u5_0 u5_1 u5_2 u5_3 u5_4 u5_5 u6_0 u6_1 u6_2 u6_3 u6_4 u6_5 u7_0 u7_1 u7_2 u7_3 u7_4 u7_5:Value} {fp0 fp1 fp2 fp3 fp4 fp5 fp6 fp7 fp0_0 fp0_1 fp0_2 fp0_3 fp0_4 fp0_5 fp1_0 fp1_1 fp1_2 fp1_3 fp1_4 fp1_5 F0:List Nat} {D0:List Lev}
theorem ZA8 (x0:A8) (w:World):(ZYz 132 1 #[(0,.agg (ZMl (ZMk .u8 x0)))]).run ZMq w=.ok (.slice (some ⟨w.heap.size,0,none⟩) 1 1) (w.alloc (.cells (ZMl ((EA .u8).encs [x0])) 136)):=by kernel_rfl
theorem ZA9:Zaf ZMq 136 (.agg (ZMl (ZMk .u8 ZMs))) 8 8:=by unfold Zaf; kernel_rfl
theorem ZBa:ZMq.eqGuardType ZMq.depth 136=false:=by kernel_rfl
theorem ZBb:KeyT ZMq 136 (kvA .u8):=Zli ZM5 ZNn sc5
theorem Zrd (x0:Int) (w:World):(ZYz 22 1 #[(0,.int .i64 x0)]).run ZMq w=.ok (.slice (some ⟨w.heap.size,0,none⟩) 1 1) (w.alloc (.cells (ZMl ((EI .i64).encs [x0])) 2)):=by kernel_rfl
theorem ZBc (x0:Nat) (x1:Nat) (w:World):(Instr.build 198 #[(0,.pointer (some ⟨x0,0,none⟩)),(1,.map (some x1))]).run ZMq w=.ok (.agg #[.pointer (some ⟨x0,0,none⟩),.map (some x1)]) w:=by kernel_rfl
theorem ZBd (x0:Int) (x1:Int) (w:World):(ZYz 22 2 #[(0,.int .i64 x0),(1,.int .i64 x1)]).run ZMq w=.ok (.slice (some ⟨w.heap.size,0,none⟩) 2 2) (w.alloc (.cells (ZMl ((EI .i64).encs [x0,x1])) 2)):=by kernel_rfl
theorem Zj4:AggT ZMq 25 2:=⟨⟨_,Tryz.underlying25,rfl⟩,by kernel_rfl⟩
def f_spec_l01Fill (fu_:Nat) (a0:List Int) (a1:A8) (a2:Int) (a3:Int) (a4:List A8) (K:List A8→Prop):Prop :=
 match fu_ with
 | 0=>False
 | fu_+1=>(if a2=(a0.length:Int) then(if a3=0 then(Z7 (a4.length+1) 8∧K (a4++[a1])) else K a4) else((0≤a2∧a2 < (a0.length:Int))∧((a0.getD a2.toNat ZEx)≠0∧((0≤a2∧a2 < (a0.length:Int))∧(if ZFo (a0.getD a2.toNat ZEx) 2≠0 then Xh (fun (s10:A8×(List A8)×Int) nx10=>(if s10.2.2≥0 then(if(s10.2.1.length:Int)≤400 then((0≤a2∧a2 < 8)∧((0≤a2∧a2 < (a0.length:Int))∧f_spec_l01Fill fu_ a0 (s10.1.set a2.toNat (ZMz.wrap s10.2.2)) (ZHd.wrap (a2+1)) (ZHd.wrap (a3 - (ZHd.wrap (s10.2.2 * (a0.getD a2.toNat ZEx))))) s10.2.1 (fun r10=>nx10 (s10.1.set a2.toNat (ZMz.wrap s10.2.2),r10,ZHd.wrap (s10.2.2 - 1))))) else K s10.2.1) else K s10.2.1)) (a1,a4,(if 20 < (if 1 < ZHd.wrap (ZTb a3 (a0.getD a2.toNat ZEx)) then 1 else ZHd.wrap (ZTb a3 (a0.getD a2.toNat ZEx))) then 20 else(if 1 < ZHd.wrap (ZTb a3 (a0.getD a2.toNat ZEx)) then 1 else ZHd.wrap (ZTb a3 (a0.getD a2.toNat ZEx))))) else Xh (fun (s11:A8×(List A8)×Int) nx11=>(if s11.2.2≥0 then(if(s11.2.1.length:Int)≤400 then((0≤a2∧a2 < 8)∧((0≤a2∧a2 < (a0.length:Int))∧f_spec_l01Fill fu_ a0 (s11.1.set a2.toNat (ZMz.wrap s11.2.2)) (ZHd.wrap (a2+1)) (ZHd.wrap (a3 - (ZHd.wrap (s11.2.2 * (a0.getD a2.toNat ZEx))))) s11.2.1 (fun r11=>nx11 (s11.1.set a2.toNat (ZMz.wrap s11.2.2),r11,ZHd.wrap (s11.2.2 - 1))))) else K s11.2.1) else K s11.2.1)) (a1,a4,(if 20 < ZHd.wrap (ZTb a3 (a0.getD a2.toNat ZEx)) then 20 else ZHd.wrap (ZTb a3 (a0.getD a2.toNat ZEx)))))))))
theorem ZBe (fu_:Nat):∀ (a0:List Int) (a1:A8) (a2:Int) (a3:Int) (a4:List A8) {u4_0:Value} {u0_0:Value} {fp0:List Nat} {K:List A8→Prop} (h:f_spec_l01Fill fu_ a0 a1 a2 a3 a4 K) (w0:World) (q0:ZO5.rep a0 [u0_0] fp0 w0) (qo4:(own 136 8 u4_0 a4.length ((EA .u8).encs a4)).holds w0) (do0:∀ b,b∈fp0→b∉ZNm (ZFq u4_0)),
  Calls ZMq 150 #[u0_0,.agg (ZMl (ZMk .u8 a1)),vI a2,vI a3,u4_0] w0 fun e w'=>∃ (r0:List A8) (z0_0:Value),
   e=.returned (z0_0)∧K r0∧(own 136 8 z0_0 r0.length ((EA .u8).encs r0)).holds w'∧(∀ b,b∈ZNm (ZFq z0_0)→b∈ZNm (ZFq u4_0)∨w0.heap.size≤b)∧BelO (ZNm (ZFq u4_0)) w0 w':=by
 induction fu_ with
 | zero =>
  intro a0 a1 a2 a3 a4 u4_0 u0_0 fp0 K h w0 q0 qo4 do0
  exact False.elim h
 | succ fu_ ih_ =>
  intro a0 a1 a2 a3 a4 u4_0 u0_0 fp0 K h w0 q0 qo4 do0
  rw [f_spec_l01Fill.eq_2] at h
  refine cof ZYw rfl 68 Tryz.ntmps150 ?_
  have hC:=Ctx.startL w0 (ZNm (ZFq u4_0)) [own 136 8 u4_0 a4.length ((EA .u8).encs a4)] [ZMm TInts a0 [u0_0] fp0] (by simp only [ZEt,ZG2,or_false,forall_eq_or_imp,forall_eq]; exact qo4) (by simp only [ZEt,ZG2,or_false,forall_eq_or_imp,forall_eq]; exact q0) (by simp only [ZEt,ZG2,or_false,forall_eq_or_imp,forall_eq]; exact(fun b_ hb_=>hb_)) (ZU4 _ _) (by simp only [ZEt,ZG2,or_false,forall_eq_or_imp,forall_eq]; exact do0)
  refine sr (Yg (v:=.agg (ZMl (ZMk .u8 a1))) hC (ZMk .u8 a1) rfl rfl fun b3 w5 hB_ hC=>Zc (v:=.slice none 0 0) rfl (dn (ZMn (sr (Za (v:=vI a2) rfl (Za (v:=u0_0) rfl (Zv hC 0 rfl ZM6 rfl (Jg rfl rfl (dn ?_)))))))))
  refine Zp rfl (fun hb9=>?_) (fun hb9=>?_)
  ·replace h:=ift h (ct hb9)
   refine ZMn (sr (Za (v:=vI a3) rfl (Jg rfl rfl (dn ?_))))
   refine Zp rfl (fun hb12=>?_) (fun hb12=>?_)
   ·replace h:=ift h (ct hb12)
    refine sr (Za (v:=u4_0) rfl (Yp hC 0 (ZMk .u8 a1) rfl ag136 rfl rfl rfl (Y4 (sz:=8) hC [(0,.agg (ZMl (ZMk .u8 a1)))] ((EA .u8).encs [a1]) rfl (fun _=>ZA8 a1 _) rfl (by decide) fun b10 w10 hB_ hC=>?_)))
    obtain ⟨hm10,h⟩:=h
    refine J7 hC 2 ZYl ZA9 rfl (by decide) (by decide) rfl (Za7 (hC.getM 0 rfl)) (fun q hq=>ZNq (E:=(EA .u8)) _ q hq) rfl rfl hm10 fun v12 w11 hC=>?_
    replace hC:=Xb hC 2 ((a4++[a1]).length) ((EA .u8).encs (a4++[a1])) rfl (by simp) (by first | (simp [ZNf]; done) | simp [ZNf,Enc.encs])
    refine Zc (v:=v12) rfl (dn ?_)
    refine ZMv (Zk (Zk ?_))
    exact Zi rfl (Ze rfl) ⟨a4++[a1],v12,rfl,h,(hC.getM 2 rfl),(fun b_ hb_=>(hC.mfk 2 rfl b_ hb_).symm),hC.belO⟩ (.inl rfl)
   ·replace h:=Zj h (cf hb12)
    refine ZMr (Zd (sr (Za (v:=u4_0) rfl (Zc (v:=u4_0) rfl (dn ?_)))))
    refine ZMv (Zk ?_)
    exact Zi rfl (Ze rfl) ⟨a4,u4_0,rfl,h,(hC.getM 1 rfl),(fun b_ hb_=>(hC.mfk 1 rfl b_ hb_).symm),hC.belO⟩ (.inl rfl)
  ·replace h:=Zj h (cf hb9)
   refine ZMr (Zd (sr (Za (v:=vI a3) rfl (Za (v:=u0_0) rfl (Za (v:=vI a2) rfl ?_)))))
   obtain ⟨⟨h10,h11⟩,h⟩:=h
   obtain ⟨Ad12,c10,hv10⟩:=Zw (hC.getP 0 rfl) a2.toNat (show a2.toNat < a0.length by omega)
   refine Yo (len:=a0.length) ZM6 sc2.size (tr rfl hv10) rfl h10 h11 (Yl (vI (a0.getD a2.toNat ZEx)) (Ye (hC.getP 0 rfl) hv10 a2.toNat (show a2.toNat < a0.length by omega)) sc2 rfl ?_)
   obtain ⟨h12,h⟩:=h
   refine Zeu rfl rfl h12 (Zc (v:=vI (ZHd.wrap (ZTb a3 (a0.getD a2.toNat ZEx)))) rfl (dn (ZMn (sr (Za (v:=u0_0) rfl (Za (v:=vI a2) rfl ?_))))))
   obtain ⟨⟨h13,h14⟩,h⟩:=h
   obtain ⟨Ad13,c11,hv11⟩:=Zw (hC.getP 0 rfl) a2.toNat (show a2.toNat < a0.length by omega)
   refine Yo (len:=a0.length) ZM6 sc2.size (tr rfl hv11) rfl h13 h14 (Yl (vI (a0.getD a2.toNat ZEx)) (Ye (hC.getP 0 rfl) hv11 a2.toNat (show a2.toNat < a0.length by omega)) sc2 rfl (Xr rfl rfl (by decide) (Y2 rfl rfl (dn ?_))))
   refine Zp rfl (fun hb13=>?_) (fun hb13=>?_)
   ·replace h:=ift h (ct hb13)
    refine Zg (Za (v:=vI (ZHd.wrap (ZTb a3 (a0.getD a2.toNat ZEx)))) rfl (Zhn rfl rfl (Zc (v:=vI (if 1 < ZHd.wrap (ZTb a3 (a0.getD a2.toNat ZEx)) then 1 else ZHd.wrap (ZTb a3 (a0.getD a2.toNat ZEx)))) rfl (dn (ZMn (sr (Za (v:=vI (if 1 < ZHd.wrap (ZTb a3 (a0.getD a2.toNat ZEx)) then 1 else ZHd.wrap (ZTb a3 (a0.getD a2.toNat ZEx)))) rfl (Zhn rfl rfl (Zc (v:=vI (if 20 < (if 1 < ZHd.wrap (ZTb a3 (a0.getD a2.toNat ZEx)) then 1 else ZHd.wrap (ZTb a3 (a0.getD a2.toNat ZEx))) then 20 else(if 1 < ZHd.wrap (ZTb a3 (a0.getD a2.toNat ZEx)) then 1 else ZHd.wrap (ZTb a3 (a0.getD a2.toNat ZEx))))) rfl (dn (ZMt ?_)))))))))))
    refine X2 (S:=A8×(List A8)×Int) _ (fun s10 e_ w_=>∃ (v10:Value),Zt e_ [(0,u0_0),(2,vI a2),(3,vI a3),(4,v10),(6,vQ b3),(12,vI s10.2.2)]∧Ctx (fun c_=>c_∈ZNm (ZFq u4_0)) w0 w_ [blk b3 136 (ZMk .u8 s10.1),own 136 8 v10 s10.2.1.length ((EA .u8).encs s10.2.1)] [ZMm TInts a0 [u0_0] fp0]) ?_ (s0:=(a1,a4,(if 20 < (if 1 < ZHd.wrap (ZTb a3 (a0.getD a2.toNat ZEx)) then 1 else ZHd.wrap (ZTb a3 (a0.getD a2.toNat ZEx))) then 20 else(if 1 < ZHd.wrap (ZTb a3 (a0.getD a2.toNat ZEx)) then 1 else ZHd.wrap (ZTb a3 (a0.getD a2.toNat ZEx)))))) ?_ h
    ·clear hC h
     rintro s10 e_ w12 nx10 K10 ⟨v10,hS_,hC⟩ h hK10
     rw [ue hS_]
     refine ZMn (sr (Za (v:=vI s10.2.2) rfl (Zay rfl rfl (Za (v:=.bool (decide (s10.2.2≥0))) rfl ?_))))
     refine Y5 (decide (s10.2.2≥0)) (fun hb10=>?_) (fun hb10=>?_)
     ·replace h:=ift h (ct hb10)
      refine Zl 2 42 rfl rfl hb10 (Za (v:=v10) rfl (Zl 2 42 rfl rfl hb10 (Zb7 hC 1 rfl ZYl rfl (Zl 2 42 rfl rfl hb10 (Zbt rfl rfl (Z3 (v:=.bool (decide ((s10.2.1.length:Int)≤400))) (b:=true) (tr rfl (congrArg _ hb10)) rfl (dn ?_)))))))
      refine Zp rfl (fun hb14=>?_) (fun hb14=>?_)
      ·replace h:=ift h (ct hb14)
       refine ZMr (Zd (ZMn (ZMt (sr (Za (v:=vI a2) rfl (Za (v:=vI s10.2.2) rfl (Zk2 Tryz.underlying2 ZNn rfl ?_)))))))
       obtain ⟨⟨h15,h16⟩,h⟩:=h
       refine Xm a2.toNat ZM5 sc5.size rfl rfl h15 h16 (by omega) (Zx (v:=.int .u8 (ZMz.wrap s10.2.2)) hC 0 [.int .u8 (ZMz.wrap s10.2.2)] (ZMk .u8 (s10.1.set a2.toNat (ZMz.wrap s10.2.2))) rfl sc5.size rfl rfl rfl rfl rfl (show a2.toNat < 8 by omega) (A8.enc_set _ _ _ (show a2.toNat < 8 by omega)) fun w13 hC=>dn ?_)
       refine cwd 13 Yi [0,0,0,4,0,0,0,0,192,448,992,2032,0,8191,16383] [1,8,9] [0,2,3,4,5,6,7,10,11,12] (fun hM12 hM10 w14 hB_=>?_)
       replace hC:=hC.grow hB_
       refine bM 0 (u0_0) rfl hM10 (Zb 15 1) (bL 1 (.agg (ZMl (ZMk .u8 (s10.1.set a2.toNat (ZMz.wrap s10.2.2))))) rfl rfl hM12 (fun _ hB_=>by exact Xf (hC.grow hB_) 0 (ZMk .u8 (s10.1.set a2.toNat (ZMz.wrap s10.2.2))) rfl ag136 rfl rfl rfl) (Zb 15 3) (bM 2 (vI a2) rfl hM10 (Zb 15 7) (bF 3 (vI (ZHd.wrap (a2+1))) rfl rfl hM10 (fun _=>by exact Zc4 rfl rfl) (Zb 15 15) (bM 4 (vI a3) rfl hM10 (Zb 15 31) (bM 5 (vI s10.2.2) rfl hM10 (Zb 15 63) (bM 6 (u0_0) rfl hM10 (Zb 15 127) (bM 7 (vI a2) rfl hM10 (Zb 15 255) ?_)))))))
       obtain ⟨⟨h17,h18⟩,h⟩:=h
       obtain ⟨Ad10,c12,hv12⟩:=Zw (hC.getP 0 rfl) a2.toNat (show a2.toNat < a0.length by omega)
       refine bL 8 (.pointer (some (Ad10.add (a2.toNat * 1)))) rfl rfl hM12 (fun _ hB_=>by exact Yq (len:=a0.length) ZM6 sc2.size (by exact tr rfl hv12) rfl h17 h18) (Zb 15 511) (bL 9 (vI (a0.getD a2.toNat ZEx)) rfl rfl hM12 (fun _ hB_=>by exact Y7 (vI (a0.getD a2.toNat ZEx)) (Ye ((hC.grow hB_).getP 0 rfl) hv12 a2.toNat (show a2.toNat < a0.length by omega)) sc2 rfl) (Zb 15 1023) (bF 10 (vI (ZHd.wrap (s10.2.2 * (a0.getD a2.toNat ZEx)))) rfl rfl hM10 (fun _=>by exact Zcj rfl rfl) (Zb 15 2047) (bF 11 (vI (ZHd.wrap (a3 - (ZHd.wrap (s10.2.2 * (a0.getD a2.toNat ZEx)))))) rfl rfl hM10 (fun _=>by exact Zf3 rfl rfl) (Zb 15 4095) (bM 12 (v10) rfl hM10 (Zb 15 8191) (Zz 13 (by decide) (by decide) (by kernel_rfl) (by kernel_rfl) rfl (Zf [u0_0,.agg (ZMl (ZMk .u8 (s10.1.set a2.toNat (ZMz.wrap s10.2.2)))),vI (ZHd.wrap (a2+1)),vI (ZHd.wrap (a3 - (ZHd.wrap (s10.2.2 * (a0.getD a2.toNat ZEx))))),v10] _ ZYw rfl rfl rfl (ih_ a0 (s10.1.set a2.toNat (ZMz.wrap s10.2.2)) (ZHd.wrap (a2+1)) (ZHd.wrap (a3 - (ZHd.wrap (s10.2.2 * (a0.getD a2.toNat ZEx))))) s10.2.1 h _ (hC.getP 0 rfl) (hC.getM 1 rfl) (fun b_ hb_ hb2_=>hC.pdk 0 1 rfl rfl b_ hb_ hb2_)) ?_))))))
       rintro _ w15 ⟨r10,v13,rfl,h,hr10,hf10,hB10⟩
       refine rt ?_
       replace hC:=hC.turnO 1 rfl hB10 hr10 hf10
       refine Zc (v:=v13) rfl (done (Z0 (Zq (Zd (Zg (Za (v:=vI s10.2.2) rfl (Jx rfl rfl (Zc (v:=vI (ZHd.wrap (s10.2.2 - 1))) rfl (done ?_)))))))))
       exact hK10 (s10.1.set a2.toNat (ZMz.wrap s10.2.2),r10,ZHd.wrap (s10.2.2 - 1)) _ _ ⟨v13,(slq rfl),hC⟩ h
      ·replace h:=Zj h (cf hb14)
       refine ZM1 (Zh (Zh (Zy ?_)))
       refine Zd (sr (Za (v:=v10) rfl (Zc (v:=v10) rfl (dn (ZMv ?_)))))
       exact Zi rfl (Ze rfl) ⟨s10.2.1,v10,rfl,h,(hC.getM 1 rfl),(fun b_ hb_=>(hC.mfk 1 rfl b_ hb_).symm),hC.belO⟩ (.inl rfl)
     ·replace h:=Zj h (cf hb10)
      refine Zm (b:=false) 2 42 rfl (tr rfl (congrArg _ hb10)) (by decide) (Zm (b:=false) 2 42 rfl (tr rfl (congrArg _ hb10)) (by decide) (Zm (b:=false) 2 42 rfl (tr rfl (congrArg _ hb10)) (by decide) (Z3 (v:=.bool false) (b:=false) (tr rfl (congrArg _ hb10)) rfl (dn (Z2 rfl rfl ?_)))))
      refine ZM1 (Zh (Zh (Zy ?_)))
      refine Zd (sr (Za (v:=v10) rfl (Zc (v:=v10) rfl (dn (ZMv ?_)))))
      exact Zi rfl (Ze rfl) ⟨s10.2.1,v10,rfl,h,(hC.getM 1 rfl),(fun b_ hb_=>(hC.mfk 1 rfl b_ hb_).symm),hC.belO⟩ (.inl rfl)
    ·skip
     exact⟨u4_0,(slq rfl),hC⟩
   ·replace h:=Zj h (cf hb13)
    refine ZMr (Zd (ZMn (sr (Za (v:=vI (ZHd.wrap (ZTb a3 (a0.getD a2.toNat ZEx)))) rfl (Zhn rfl rfl (Zc (v:=vI (if 20 < ZHd.wrap (ZTb a3 (a0.getD a2.toNat ZEx)) then 20 else ZHd.wrap (ZTb a3 (a0.getD a2.toNat ZEx)))) rfl (dn (ZMt ?_))))))))
    refine X2 (S:=A8×(List A8)×Int) _ (fun s11 e_ w_=>∃ (v11:Value),Zt e_ [(0,u0_0),(2,vI a2),(3,vI a3),(4,v11),(6,vQ b3),(12,vI s11.2.2)]∧Ctx (fun c_=>c_∈ZNm (ZFq u4_0)) w0 w_ [blk b3 136 (ZMk .u8 s11.1),own 136 8 v11 s11.2.1.length ((EA .u8).encs s11.2.1)] [ZMm TInts a0 [u0_0] fp0]) ?_ (s0:=(a1,a4,(if 20 < ZHd.wrap (ZTb a3 (a0.getD a2.toNat ZEx)) then 20 else ZHd.wrap (ZTb a3 (a0.getD a2.toNat ZEx))))) ?_ h
    ·clear hC h
     rintro s11 e_ w16 nx11 K11 ⟨v11,hS_,hC⟩ h hK11
     rw [ue hS_]
     refine ZMn (sr (Za (v:=vI s11.2.2) rfl (Zay rfl rfl (Za (v:=.bool (decide (s11.2.2≥0))) rfl ?_))))
     refine Y5 (decide (s11.2.2≥0)) (fun hb11=>?_) (fun hb11=>?_)
     ·replace h:=ift h (ct hb11)
      refine Zl 2 42 rfl rfl hb11 (Za (v:=v11) rfl (Zl 2 42 rfl rfl hb11 (Zb7 hC 1 rfl ZYl rfl (Zl 2 42 rfl rfl hb11 (Zbt rfl rfl (Z3 (v:=.bool (decide ((s11.2.1.length:Int)≤400))) (b:=true) (tr rfl (congrArg _ hb11)) rfl (dn ?_)))))))
      refine Zp rfl (fun hb15=>?_) (fun hb15=>?_)
      ·replace h:=ift h (ct hb15)
       refine ZMr (Zd (ZMn (ZMt (sr (Za (v:=vI a2) rfl (Za (v:=vI s11.2.2) rfl (Zk2 Tryz.underlying2 ZNn rfl ?_)))))))
       obtain ⟨⟨h19,h20⟩,h⟩:=h
       refine Xm a2.toNat ZM5 sc5.size rfl rfl h19 h20 (by omega) (Zx (v:=.int .u8 (ZMz.wrap s11.2.2)) hC 0 [.int .u8 (ZMz.wrap s11.2.2)] (ZMk .u8 (s11.1.set a2.toNat (ZMz.wrap s11.2.2))) rfl sc5.size rfl rfl rfl rfl rfl (show a2.toNat < 8 by omega) (A8.enc_set _ _ _ (show a2.toNat < 8 by omega)) fun w17 hC=>dn ?_)
       refine cwd 13 Yi [0,0,0,4,0,0,0,0,192,448,992,2032,0,8191,16383] [1,8,9] [0,2,3,4,5,6,7,10,11,12] (fun hM13 hM11 w18 hB_=>?_)
       replace hC:=hC.grow hB_
       refine bM 0 (u0_0) rfl hM11 (Zb 15 1) (bL 1 (.agg (ZMl (ZMk .u8 (s11.1.set a2.toNat (ZMz.wrap s11.2.2))))) rfl rfl hM13 (fun _ hB_=>by exact Xf (hC.grow hB_) 0 (ZMk .u8 (s11.1.set a2.toNat (ZMz.wrap s11.2.2))) rfl ag136 rfl rfl rfl) (Zb 15 3) (bM 2 (vI a2) rfl hM11 (Zb 15 7) (bF 3 (vI (ZHd.wrap (a2+1))) rfl rfl hM11 (fun _=>by exact Zc4 rfl rfl) (Zb 15 15) (bM 4 (vI a3) rfl hM11 (Zb 15 31) (bM 5 (vI s11.2.2) rfl hM11 (Zb 15 63) (bM 6 (u0_0) rfl hM11 (Zb 15 127) (bM 7 (vI a2) rfl hM11 (Zb 15 255) ?_)))))))
       obtain ⟨⟨h21,h22⟩,h⟩:=h
       obtain ⟨Ad11,c13,hv13⟩:=Zw (hC.getP 0 rfl) a2.toNat (show a2.toNat < a0.length by omega)
       refine bL 8 (.pointer (some (Ad11.add (a2.toNat * 1)))) rfl rfl hM13 (fun _ hB_=>by exact Yq (len:=a0.length) ZM6 sc2.size (by exact tr rfl hv13) rfl h21 h22) (Zb 15 511) (bL 9 (vI (a0.getD a2.toNat ZEx)) rfl rfl hM13 (fun _ hB_=>by exact Y7 (vI (a0.getD a2.toNat ZEx)) (Ye ((hC.grow hB_).getP 0 rfl) hv13 a2.toNat (show a2.toNat < a0.length by omega)) sc2 rfl) (Zb 15 1023) (bF 10 (vI (ZHd.wrap (s11.2.2 * (a0.getD a2.toNat ZEx)))) rfl rfl hM11 (fun _=>by exact Zcj rfl rfl) (Zb 15 2047) (bF 11 (vI (ZHd.wrap (a3 - (ZHd.wrap (s11.2.2 * (a0.getD a2.toNat ZEx)))))) rfl rfl hM11 (fun _=>by exact Zf3 rfl rfl) (Zb 15 4095) (bM 12 (v11) rfl hM11 (Zb 15 8191) (Zz 13 (by decide) (by decide) (by kernel_rfl) (by kernel_rfl) rfl (Zf [u0_0,.agg (ZMl (ZMk .u8 (s11.1.set a2.toNat (ZMz.wrap s11.2.2)))),vI (ZHd.wrap (a2+1)),vI (ZHd.wrap (a3 - (ZHd.wrap (s11.2.2 * (a0.getD a2.toNat ZEx))))),v11] _ ZYw rfl rfl rfl (ih_ a0 (s11.1.set a2.toNat (ZMz.wrap s11.2.2)) (ZHd.wrap (a2+1)) (ZHd.wrap (a3 - (ZHd.wrap (s11.2.2 * (a0.getD a2.toNat ZEx))))) s11.2.1 h _ (hC.getP 0 rfl) (hC.getM 1 rfl) (fun b_ hb_ hb2_=>hC.pdk 0 1 rfl rfl b_ hb_ hb2_)) ?_))))))
       rintro _ w19 ⟨r11,v14,rfl,h,hr11,hf11,hB11⟩
       refine rt ?_
       replace hC:=hC.turnO 1 rfl hB11 hr11 hf11
       refine Zc (v:=v14) rfl (done (Z0 (Zq (Zd (Zg (Za (v:=vI s11.2.2) rfl (Jx rfl rfl (Zc (v:=vI (ZHd.wrap (s11.2.2 - 1))) rfl (done ?_)))))))))
       exact hK11 (s11.1.set a2.toNat (ZMz.wrap s11.2.2),r11,ZHd.wrap (s11.2.2 - 1)) _ _ ⟨v14,(slq rfl),hC⟩ h
      ·replace h:=Zj h (cf hb15)
       refine ZM1 (Zh (Zh (Zy ?_)))
       refine Zd (sr (Za (v:=v11) rfl (Zc (v:=v11) rfl (dn (ZMv ?_)))))
       exact Zi rfl (Ze rfl) ⟨s11.2.1,v11,rfl,h,(hC.getM 1 rfl),(fun b_ hb_=>(hC.mfk 1 rfl b_ hb_).symm),hC.belO⟩ (.inl rfl)
     ·replace h:=Zj h (cf hb11)
      refine Zm (b:=false) 2 42 rfl (tr rfl (congrArg _ hb11)) (by decide) (Zm (b:=false) 2 42 rfl (tr rfl (congrArg _ hb11)) (by decide) (Zm (b:=false) 2 42 rfl (tr rfl (congrArg _ hb11)) (by decide) (Z3 (v:=.bool false) (b:=false) (tr rfl (congrArg _ hb11)) rfl (dn (Z2 rfl rfl ?_)))))
      refine ZM1 (Zh (Zh (Zy ?_)))
      refine Zd (sr (Za (v:=v11) rfl (Zc (v:=v11) rfl (dn (ZMv ?_)))))
      exact Zi rfl (Ze rfl) ⟨s11.2.1,v11,rfl,h,(hC.getM 1 rfl),(fun b_ hb_=>(hC.mfk 1 rfl b_ hb_).symm),hC.belO⟩ (.inl rfl)
    ·skip
     exact⟨u4_0,(slq rfl),hC⟩
def Zc1 (a0:List Int) (a1:Int) (K:List A8→Prop):Prop :=
 f_spec_l01Fill 9 a0 ZMs 0 a1 [] (fun r6=>K r6)
theorem Zem (a0:List Int) (a1:Int)  {K:List A8→Prop} (h:Zc1 a0 a1 K) (w0:World) (q0:ZO5.rep a0 [u0_0] fp0 w0) :
  Calls ZMq 94 #[u0_0,vI a1] w0 fun e w'=>∃ (r0:List A8) (z0_0:Value) (fz0:List Nat),
   e=.returned (z0_0)∧K r0∧(ZM4 (ZTa 136 ((EA .u8).tr)) r0 [z0_0] fz0).holds w'∧(∀ b,b∈fz0→w0.heap.size≤b)∧Bel w0 w':=by
 unfold Zc1 at h
 refine cof ZYn rfl 9 Tryz.ntmps94 ?_
 have hC:=ZM8 (X:=Nox) w0 [ZMm TInts a0 [u0_0] fp0] (al1 q0)
 refine sr (Zc (v:=.slice none 0 0) rfl (dn (sr (Za (v:=u0_0) rfl (J6 [] rfl (Zlv   _) (Za (v:=vI a1) rfl ?_))))))
 replace hC:=hC.pushNil 136 8
 refine Zf [u0_0,.agg (ZMl (ZMk .u8 ZMs)),vI 0,vI a1,.slice none 0 0] _ ZYw rfl rfl rfl (ZBe 9 a0 ZMs 0 a1 [] h _ (hC.getP 0 rfl) (hC.getM 0 rfl) (fun b_ hb_ hb2_=>hC.pdk 0 0 rfl rfl b_ hb_ hb2_)) ?_
 rintro _ w5 ⟨r6,v7,rfl,h,hr8,hf9,hB10⟩
 refine rt ?_
 replace hC:=hC.turnO 0 rfl hB10 hr8 hf9
 refine Zc (v:=v7) rfl (dn (ZMv ?_))
 exact Zi rfl (Ze rfl) ⟨r6,v7,(ZNm (ZFq v7)),rfl,h,(Xy (hC.getM 0 rfl)),(Yz hC 0 rfl),hC.below⟩ (.inl rfl)
def Zhz (a0:Alg) (a1:Int) (a2:Int) (K:Bool→Prop):Prop :=
 Xh (fun (s10:Int) nx10=>(if s10≤a2 then Zc1 a0.degrees s10 (fun r10=>(if(r10.length:Int) > 120 then K false else nx10 (ZHd.wrap (s10+1)))) else K true)) (if a1 < 0 then 0 else a1)
theorem ZBf (a0:Alg) (a1:Int) (a2:Int)  {K:Bool→Prop} (h:Zhz a0 a1 a2 K) (w0:World) (q0:TAlg.rep a0 [u0_0,u0_1] fp0 w0) :
  Calls ZMq 108 #[.agg #[u0_0,u0_1],vI a1,vI a2] w0 fun e w'=>∃ (r0:Bool),
   e=.returned (.bool r0)∧K r0∧Bel w0 w':=by
 unfold Zhz at h
 refine cof Tryz.func108 rfl 21 Tryz.ntmps108 ?_
 have hC:=ZM8 (X:=Nox) w0 [ZMm TAlg a0 [u0_0,u0_1] fp0] (al1 q0)
 replace hC:=hC.dAlg 0 rfl
 refine sr (Yg (v:=.agg #[u0_0,u0_1]) hC [u0_0,u0_1] rfl rfl fun b4 w6 hB_ hC=>Zc (v:=.bool false) rfl (dn (ZMn (sr (Za (v:=vI a1) rfl (Zzk rfl rfl (Zc (v:=vI (if a1 < 0 then 0 else a1)) rfl (dn (ZMt ?_)))))))))
 refine X2 (S:=Int) _ (fun s10 e_ w_=>Zt e_ [(2,vI a2),(3,vQ b4),(7,vI s10)]∧Ctx Nox w0 w_ [blk b4 32 [u0_0,u0_1]] [ZMm TForm.sl a0.images [u0_1] fp0,ZMm TInts a0.degrees [u0_0] fp0,ZMm TAlg a0 [u0_0,u0_1] fp0]) ?_ (s0:=(if a1 < 0 then 0 else a1)) ?_ h
 ·clear hC h
  rintro s10 e_ w10 nx10 K10 ⟨hS_,hC⟩ h hK10
  rw [ue hS_]
  refine ZMn (sr (Za (v:=vI s10) rfl (Za (v:=vI a2) rfl (Zbt rfl rfl (dn ?_)))))
  refine Zp rfl (fun hb10=>?_) (fun hb10=>?_)
  ·replace h:=ift h (ct hb10)
   refine ZMr (Zd (ZMn (ZMt (sr (Zu 0 ZM7 rfl sc22.size rfl rfl (Z5 hC 0 (u0_0) rfl sc22 rfl rfl (Za (v:=vI s10) rfl (Zf [u0_0,vI s10] _ ZYn rfl rfl rfl (Zem a0.degrees s10 h _ (hC.getP 1 rfl)) ?_))))))))
   rintro _ w11 ⟨r10,u10,f10,rfl,h,hr10,hf10,hB10⟩
   refine rt ?_
   replace hC:=hC.push hB10 (ZM4 (ZTa 136 ((EA .u8).tr)) r10 [u10] f10) hr10 hf10
   obtain ⟨ho10,hf11⟩:=Xn (hC.getM 0 rfl).1
   subst hf11
   replace hC:=hC.recast (c:=own 136 8 u10 r10.length ((EA .u8).encs r10)) (fun _ h_=>h_) (fun _=>ho10)
   refine Zb7 hC 0 rfl ZYl rfl (Jh rfl rfl (dn ?_))
   refine Zp rfl (fun hb11=>?_) (fun hb11=>?_)
   ·replace h:=ift h (ct hb11)
    refine sr (Zc (v:=.bool false) rfl (dn ?_))
    refine ZMv (Z4 (Zk (Zk (Z4 (Zk ?_)))))
    exact Zi rfl (Ze rfl) ⟨false,rfl,h,hC.below⟩ (.inl rfl)
   ·replace h:=Zj h (cf hb11)
    refine ZMr (Zq (Zd (Zg (Za (v:=vI s10) rfl (Zo rfl rfl (Zc (v:=vI (ZHd.wrap (s10+1))) rfl (done ?_)))))))
    exact hK10 (ZHd.wrap (s10+1)) _ _ ⟨(slq rfl),(hC.xM [1] rfl)⟩ h
  ·replace h:=Zj h (cf hb10)
   refine ZM1 (Zh (Zh (Zy ?_)))
   refine Zd (sr (Zc (v:=.bool true) rfl (dn (ZMv ?_))))
   exact Zi rfl (Ze rfl) ⟨true,rfl,h,hC.below⟩ (.inl rfl)
 ·skip
  exact⟨(slq rfl),hC⟩
def Zj5 (a0:Alg) (a1:Int) (K:Int→Prop):Prop :=
 Zgs a0 (fun r10=>(if¬ (r10=true) then K 1 else Zd3 a1 0 20 (fun r11=>(if¬ (r11=true) then K 2 else Zhz a0 0 (ZHd.wrap (a1+1)) (fun r12=>(if¬ (r12=true) then K 3 else K 0))))))
theorem ZBg (a0:Alg) (a1:Int)  {K:Int→Prop} (h:Zj5 a0 a1 K) (w0:World) (q0:TAlg.rep a0 [u0_0,u0_1] fp0 w0) :
  Calls ZMq 145 #[.agg #[u0_0,u0_1],vI a1] w0 fun e w'=>∃ (r0:Int),
   e=.returned (vI r0)∧K r0∧Bel w0 w':=by
 unfold Zj5 at h
 refine cof Tryz.func145 rfl 19 Tryz.ntmps145 ?_
 have hC:=ZM8 (X:=Nox) w0 [ZMm TAlg a0 [u0_0,u0_1] fp0] (al1 q0)
 replace hC:=hC.dAlg 0 rfl
 refine sr (Yg (v:=.agg #[u0_0,u0_1]) hC [u0_0,u0_1] rfl rfl fun b4 w6 hB_ hC=>Zc (v:=vI 0) rfl (dn (ZMn (ZMt (sr (Yp hC 0 [u0_0,u0_1] rfl ag32 rfl rfl rfl (Zf [.agg #[u0_0,u0_1]] _ Tryz.func92 rfl rfl rfl (Zv6 a0 h _ (Xs (hC.getP 1 rfl) (hC.getP 0 rfl))) ?_)))))))
 rintro _ w9 ⟨r10,rfl,h,hB10⟩
 refine rt ?_
 replace hC:=hC.grow hB10
 refine Xu rfl (Zc (v:=.bool (!r10)) rfl (dn ?_))
 refine Zp rfl (fun hb10=>?_) (fun hb10=>?_)
 ·replace h:=ift h (Xa (X3 hb10))
  refine sr (Zc (v:=vI 1) rfl (dn ?_))
  refine ZMv (Z4 (Zk ?_))
  exact Zi rfl (Ze rfl) ⟨1,rfl,h,hC.below⟩ (.inl rfl)
 ·replace h:=Zj h (not_not_intro ((X4 hb10)))
  refine sr (Za (v:=vI a1) rfl (Zf [vI a1,vI 0,vI 20] _ Tryz.func59 rfl rfl rfl (Zlx a1 0 20 h _) ?_))
  rintro _ w10 ⟨r11,rfl,h,hB11⟩
  refine rt ?_
  replace hC:=hC.grow hB11
  refine Xu rfl (Zc (v:=.bool (!r11)) rfl (dn ?_))
  refine Zp rfl (fun hb11=>?_) (fun hb11=>?_)
  ·replace h:=ift h (Xa (X3 hb11))
   refine sr (Zc (v:=vI 2) rfl (dn ?_))
   refine ZMv (Z4 (Zk ?_))
   exact Zi rfl (Ze rfl) ⟨2,rfl,h,hC.below⟩ (.inl rfl)
  ·replace h:=Zj h (not_not_intro ((X4 hb11)))
   refine sr (Yp hC 0 [u0_0,u0_1] rfl ag32 rfl rfl rfl (Za (v:=vI a1) rfl (Zo rfl rfl (Zf [.agg #[u0_0,u0_1],vI 0,vI (ZHd.wrap (a1+1))] _ Tryz.func108 rfl rfl rfl (ZBf a0 0 (ZHd.wrap (a1+1)) h _ (Xs (hC.getP 1 rfl) (hC.getP 0 rfl))) ?_))))
   rintro _ w11 ⟨r12,rfl,h,hB12⟩
   refine rt ?_
   replace hC:=hC.grow hB12
   refine Xu rfl (Zc (v:=.bool (!r12)) rfl (dn ?_))
   refine Zp rfl (fun hb12=>?_) (fun hb12=>?_)
   ·replace h:=ift h (Xa (X3 hb12))
    refine sr (Zc (v:=vI 3) rfl (dn ?_))
    refine ZMv (Z4 (Zk ?_))
    exact Zi rfl (Ze rfl) ⟨3,rfl,h,hC.below⟩ (.inl rfl)
   ·replace h:=Zj h (not_not_intro ((X4 hb12)))
    refine ZMr (Zq (Zd (sr (Zc (v:=vI 0) rfl (dn (ZMv ?_))))))
    exact Zi rfl (Ze rfl) ⟨0,rfl,h,hC.below⟩ (.inl rfl)
def Zbg (a0:List Int) (K:Int→Prop):Prop :=
 Yb (fun i10 (s10:Unit) nx10=>(if a0.getD i10 ZEx≠0 then K (i10:Int) else nx10 ())) (fun (s10:Unit)=>K (-1)) a0.length 0 ()
theorem Zm1 (a0:List Int)  {K:Int→Prop} (h:Zbg a0 K) (w0:World) (q0:ZO5.rep a0 [u0_0] fp0 w0) :
  Calls ZMq 126 #[u0_0] w0 fun e w'=>∃ (r0:Int),
   e=.returned (vI r0)∧K r0∧Bel w0 w':=by
 unfold Zbg at h
 refine cof ZYx rfl 16 Tryz.ntmps126 ?_
 have hC:=ZM8 (X:=Nox) w0 [ZMm TInts a0 [u0_0] fp0] (al1 q0)
 refine sr (Zc (v:=vI 0) rfl (dn (ZMn (sr (Zc (v:=vI 0) rfl (dn (ZMt ?_)))))))
 have hN10:a0.length≤9223372036854775807:=Yx (hC.getP 0 rfl)
 refine Yn (S:=Unit) _ _ (fun i10 s10 e_ w_=>Zt e_ [(0,u0_0),(3,vI (i10:Int))]∧Ctx Nox w0 w_ [] [ZMm TInts a0 [u0_0] fp0]) a0.length ?_ ?_ (s0:=()) ?_ h
 ·clear hC h
  rintro i10 s10 e_ w10 nx10 K10 hi10 ⟨hS_,hC⟩ h hK10
  rw [ue hS_]
  refine ZMn (sr (Za (v:=vI (i10:Int)) rfl (Za (v:=u0_0) rfl (Zv hC 0 rfl ZM6 rfl (Zn rfl rfl (dn (Yc rfl (decide_eq_true (by omega)) (ZMr (Zd (ZMn (ZMt (sr (Za (v:=u0_0) rfl (Za (v:=vI (i10:Int)) rfl ?_))))))))))))))
  obtain ⟨Ad10,c10,hv10⟩:=Zw (hC.getP 0 rfl) i10 hi10
  refine Yo (len:=a0.length) ZM6 sc2.size (tr rfl hv10) rfl (ZM3 _) (ZNl.2 hi10) (Yl (vI (a0.getD i10 ZEx)) (Ye (hC.getP 0 rfl) hv10 i10 hi10) sc2 rfl (Y2 rfl rfl (dn ?_)))
  refine Zp rfl (fun hb10=>?_) (fun hb10=>?_)
  ·replace h:=ift h (ct hb10)
   refine sr (Za (v:=vI (i10:Int)) rfl (Zc (v:=vI (i10:Int)) rfl (dn ?_)))
   refine ZMv (Z4 (Zk (Zk (Z4 (Zk ?_)))))
   exact Zi rfl (Ze rfl) ⟨(i10:Int),rfl,h,hC.below⟩ (.inl rfl)
  ·replace h:=Zj h (cf hb10)
   refine ZMr (Zq (Zd (Zg (Za (v:=vI (i10:Int)) rfl (Zo rfl rfl (Zc (v:=vI (ZHd.wrap ((i10:Int)+1))) rfl (done ?_)))))))
   exact hK10 () _ _ ⟨(sl ⟨rfl,(tr rfl (congrArg _ (Z6 hi10 hN10))),trivial⟩),hC⟩ h
 ·clear hC h
  rintro s10 e_ w11 K10 ⟨hS_,hC⟩ h
  rw [ue hS_]
  refine ZMn (sr (Za (v:=vI (a0.length:Int)) rfl (Za (v:=u0_0) rfl (Zv hC 0 rfl ZM6 rfl (Zn rfl rfl (dn (Z2 rfl (decide_eq_false (by omega)) ?_)))))))
  refine ZM1 (Zh (Zh (Zy ?_)))
  refine Zd (sr (Zc (v:=vI (-1)) rfl (dn (ZMv ?_))))
  exact Zi rfl (Ze rfl) ⟨(-1),rfl,h,hC.below⟩ (.inl rfl)
 ·skip
  exact⟨(slq rfl),hC⟩
def X9 (a0:List Int) (a1:List Int) (a2:Int) (K:List Int→Prop):Prop :=
 ((0≤(a0.length:Int)∧(a0.length:Int) * 8≤281474976710656)∧Yb (fun i10 (s10:(List Int)) nx10=>((0≤(i10:Int)∧(i10:Int) < (a1.length:Int))∧Xz (ZHd.wrap ((a0.getD i10 ZEx) - (ZHd.wrap (a2 * (a1.getD i10 ZEx))))) (fun r10=>((0≤(i10:Int)∧(i10:Int) < (s10.length:Int))∧nx10 (s10.set i10 r10))))) (fun (s10:(List Int))=>K s10) a0.length 0 (ZEs ((a0.length:Int).toNat) (0:Int)))
theorem Zen (a0:List Int) (a1:List Int) (a2:Int)  {K:List Int→Prop} (h:X9 a0 a1 a2 K) (w0:World) (q0:ZO5.rep a0 [u0_0] fp0 w0) (q1:ZO5.rep a1 [u1_0] fp1 w0) :
  Calls ZMq 163 #[u0_0,u1_0,vI a2] w0 fun e w'=>∃ (r0:List Int) (z0_0:Value) (fz0:List Nat),
   e=.returned (z0_0)∧K r0∧(ZM4 (ZTa 2 (eI.tr)) r0 [z0_0] fz0).holds w'∧(∀ b,b∈fz0→w0.heap.size≤b)∧Bel w0 w':=by
 unfold X9 at h
 refine cof ZYo rfl 34 Tryz.ntmps163 ?_
 have hC:=ZM8 (X:=Nox) w0 [ZMm TInts a0 [u0_0] fp0,ZMm TInts a1 [u1_0] fp1] (alc q0 (al1 q1))
 refine sr (Zc (v:=.slice none 0 0) rfl (dn (sr (Za (v:=u0_0) rfl (Zv hC 0 rfl ZM6 rfl ?_)))))
 obtain ⟨hm8,h⟩:=h
 refine Zb2 (sz:=1) hC (eI.encs (ZEs ((a0.length:Int).toNat) (0:Int))) ZM6 el2 (tr rfl (congrArg (ZPb .i64) (ZPc hm8.1).symm)) (tr rfl (congrArg (ZPb .i64) (ZPc hm8.1).symm)) (by omega) (by omega) (Zbu (E:=eI) _ _) fun v6 w7 hB_ hC=>?_
 replace hC:=Xb hC 0 ((ZEs ((a0.length:Int).toNat) (0:Int)).length) (eI.encs (ZEs ((a0.length:Int).toNat) (0:Int))) rfl (by simp) rfl
 refine Zc (v:=v6) rfl (dn (ZMn (sr (Zc (v:=vI 0) rfl (dn (ZMt ?_))))))
 have hN10:a0.length≤9223372036854775807:=Yx (hC.getP 0 rfl)
 refine Yn (S:=(List Int)) _ _ (fun i10 s10 e_ w_=>∃ (v10:Value),Zt e_ [(0,u0_0),(1,u1_0),(2,vI a2),(7,v10),(8,vI (i10:Int))]∧Ctx Nox w0 w_ [own 2 1 v10 s10.length (eI.encs s10)] [ZMm TInts a0 [u0_0] fp0,ZMm TInts a1 [u1_0] fp1]) a0.length ?_ ?_ (s0:=(ZEs ((a0.length:Int).toNat) (0:Int))) ?_ h
 ·clear hC h
  rintro i10 s10 e_ w10 nx10 K10 hi10 ⟨v10,hS_,hC⟩ h hK10
  rw [ue hS_]
  refine ZMn (sr (Za (v:=vI (i10:Int)) rfl (Za (v:=u0_0) rfl (Zv hC 0 rfl ZM6 rfl (Zn rfl rfl (dn (Yc rfl (decide_eq_true (by omega)) (ZMr (Zd (ZMn (ZMt ?_)))))))))))
  refine cwd 14 Yi [0,0,0,0,12,28,0,0,0,384,896,1984,4092,8188,16383,32767] [4,5,9,10] [0,1,2,3,6,7,8,11,12] (fun hM11 hM10 w11 hB_=>?_)
  replace hC:=hC.grow hB_
  refine bM 0 (v10) rfl hM10 (Zb 16 1) (bM 1 (vI (i10:Int)) rfl hM10 (Zb 16 3) (bM 2 (u0_0) rfl hM10 (Zb 16 7) (bM 3 (vI (i10:Int)) rfl hM10 (Zb 16 15) ?_)))
  obtain ⟨Ad10,c10,hv10⟩:=Zw (hC.getP 0 rfl) i10 hi10
  refine bL 4 (.pointer (some (Ad10.add (i10 * 1)))) rfl rfl hM11 (fun _ hB_=>by exact Yq (len:=a0.length) ZM6 sc2.size (by exact tr rfl hv10) rfl (ZM3 _) (ZNl.2 hi10)) (Zb 16 31) (bL 5 (vI (a0.getD i10 ZEx)) rfl rfl hM11 (fun _ hB_=>by exact Y7 (vI (a0.getD i10 ZEx)) (Ye ((hC.grow hB_).getP 0 rfl) hv10 i10 hi10) sc2 rfl) (Zb 16 63) (bM 6 (vI a2) rfl hM10 (Zb 16 127) (bM 7 (u1_0) rfl hM10 (Zb 16 255) (bM 8 (vI (i10:Int)) rfl hM10 (Zb 16 511) ?_))))
  obtain ⟨⟨h10,h11⟩,h⟩:=h
  obtain ⟨Ad11,c11,hv11⟩:=Zw (hC.getP 1 rfl) i10 (show i10 < a1.length by omega)
  refine bL 9 (.pointer (some (Ad11.add (i10 * 1)))) rfl rfl hM11 (fun _ hB_=>by exact Yq (len:=a1.length) ZM6 sc2.size (by exact tr rfl hv11) rfl h10 h11) (Zb 16 1023) (bL 10 (vI (a1.getD i10 ZEx)) rfl rfl hM11 (fun _ hB_=>by exact Y7 (vI (a1.getD i10 ZEx)) (Ye ((hC.grow hB_).getP 1 rfl) hv11 i10 (show i10 < a1.length by omega)) sc2 rfl) (Zb 16 2047) (bF 11 (vI (ZHd.wrap (a2 * (a1.getD i10 ZEx)))) rfl rfl hM10 (fun _=>by exact Zcj rfl rfl) (Zb 16 4095) (bF 12 (vI (ZHd.wrap ((a0.getD i10 ZEx) - (ZHd.wrap (a2 * (a1.getD i10 ZEx)))))) rfl rfl hM10 (fun _=>by exact Zf3 rfl rfl) (Zb 16 8191) (aO 13 rfl (Zf [vI (ZHd.wrap ((a0.getD i10 ZEx) - (ZHd.wrap (a2 * (a1.getD i10 ZEx)))))] _ ZNd rfl rfl rfl (Zbc (ZHd.wrap ((a0.getD i10 ZEx) - (ZHd.wrap (a2 * (a1.getD i10 ZEx))))) h _) ?_)))))
  rintro _ w12 ⟨r10,rfl,h,hB10⟩
  refine rt ?_
  replace hC:=hC.grow hB10
  refine done (aK (by assumption) (Zb 16 16383) (Zz 14 (by decide) (by decide) (by kernel_rfl) (by kernel_rfl) rfl ?_))
  obtain ⟨⟨h12,h13⟩,h⟩:=h
  obtain ⟨Ad12,c12,hv12⟩:=Jp (hC.getM 0 rfl) (ZPl (ZGh _) (show i10 < s10.length by omega))
  refine Jz (i10 * 1) ZM6 sc2.size (tr rfl hv12) rfl h12 h13 rfl (Zc7 (v:=vI r10) hC 0 [vI r10] (eI.encs (s10.set i10 r10)) rfl hv12 sc2.size rfl rfl rfl rfl rfl (by rw [Enc.encs_len]; exact Zar (sz:=1) (show i10 < s10.length by omega)) (Zc8 _ _ _ (show i10 < s10.length by omega)) fun w13 hC=>?_)
  replace hC:=Xb hC 0 ((s10.set i10 r10).length) (eI.encs (s10.set i10 r10)) rfl (by simp) rfl
  refine done (Z0 (Zq (Zd (Zg (Za (v:=vI (i10:Int)) rfl (Zo rfl rfl (Zc (v:=vI (ZHd.wrap ((i10:Int)+1))) rfl (done ?_))))))))
  exact hK10 (s10.set i10 r10) _ _ ⟨v10,(sl ⟨rfl,rfl,rfl,rfl,(tr rfl (congrArg _ (Z6 hi10 hN10))),trivial⟩),hC⟩ h
 ·clear hC h
  rintro s10 e_ w14 K10 ⟨v10,hS_,hC⟩ h
  rw [ue hS_]
  refine ZMn (sr (Za (v:=vI (a0.length:Int)) rfl (Za (v:=u0_0) rfl (Zv hC 0 rfl ZM6 rfl (Zn rfl rfl (dn (Z2 rfl (decide_eq_false (by omega)) ?_)))))))
  refine ZM1 (Zh (Zh (Zy ?_)))
  refine Zd (sr (Za (v:=v10) rfl (Zc (v:=v10) rfl (dn (ZMv ?_)))))
  exact Zi rfl (Ze rfl) ⟨s10,v10,(ZNm (ZFq v10)),rfl,h,(Xy (hC.getM 0 rfl)),(Yz hC 0 rfl),hC.below⟩ (.inl rfl)
 ·skip
  exact⟨v6,(slq rfl),hC⟩
def Zh0 (a0:List Int) (a1:List (List Int)) (K:List Int→Prop):Prop :=
 Yb (fun i10 (s10:(List Int)) nx10=>Zbg (a1.getD i10 ZEx) (fun r10=>((0≤r10∧r10 < (s10.length:Int))∧(if s10.getD r10.toNat ZEx≠0 then((0≤r10∧r10 < (s10.length:Int))∧X9 s10 (a1.getD i10 ZEx) (s10.getD r10.toNat ZEx) (fun r11=>nx10 r11)) else nx10 s10)))) (fun (s10:(List Int))=>K s10) a1.length 0 a0
theorem ZBh (a0:List Int) (a1:List (List Int))  {K:List Int→Prop} (h:Zh0 a0 a1 K) (w0:World) (q0:ZO5.rep a0 [u0_0] fp0 w0) (q1:(ZO5.sl).rep a1 [u1_0] fp1 w0) :
  Calls ZMq 127 #[u0_0,u1_0] w0 fun e w'=>∃ (r0:List Int) (z0_0:Value) (fz0:List Nat),
   e=.returned (z0_0)∧K r0∧ZO5.rep r0 [z0_0] fz0 w'∧(∀ b,b∈fz0→w0.heap.size≤b∨b∈(fp0++(fp1)))∧Bel w0 w':=by
 unfold Zh0 at h
 refine cof Tryz.func127 rfl 34 Tryz.ntmps127 ?_
 have hC:=ZM8 (X:=Nox) w0 [ZMm TInts a0 [u0_0] fp0,ZMm (ZO5.sl) a1 [u1_0] fp1] (alc q0 (al1 q1))
 refine sr (Zc (v:=.slice none 0 0) rfl (dn (ZMn (sr (Zc (v:=vI 0) rfl (dn (ZMt ?_)))))))
 have hN10:a1.length≤9223372036854775807:=Yx (hC.getP 1 rfl)
 refine Yn (S:=(List Int)) _ _ (fun i10 s10 e_ w_=>∃ (v10:Value),∃ (f10:List Nat),Zt e_ [(0,v10),(1,u1_0),(5,vI (i10:Int))]∧(∀ b,b∈f10→w0.heap.size≤b∨b∈(fp0++(fp1)))∧Ctx Nox w0 w_ [] [ZMm TInts s10 [v10] f10,ZMm TInts a0 [u0_0] fp0,ZMm (ZO5.sl) a1 [u1_0] fp1]) a1.length ?_ ?_ (s0:=a0) ?_ h
 ·clear hC h
  rintro i10 s10 e_ w10 nx10 K10 hi10 ⟨v10,f10,hS_,hq10,hC⟩ h hK10
  rw [ue hS_]
  refine ZMn (sr (Za (v:=vI (i10:Int)) rfl (Za (v:=u1_0) rfl (Zv hC 2 rfl ZT8 rfl (Zn rfl rfl (dn (Yc rfl (decide_eq_true (by omega)) (ZMr (Zd (ZMn (ZMt (sr (Za (v:=u1_0) rfl (Za (v:=vI (i10:Int)) rfl ?_))))))))))))))
  obtain ⟨Ad12,c10,hv10⟩:=Zw (hC.getP 2 rfl) i10 hi10
  refine Yo (len:=a1.length) ZT8 sc22.size (tr rfl hv10) rfl (ZM3 _) (ZNl.2 hi10) ?_
  obtain ⟨cs_,hl10,hc10,hr10⟩:=Xj (hC.getP 2 rfl) hv10 i10 hi10
  obtain ⟨u12,rfl⟩:=ZNj.1 hl10
  clear hl10
  rw [Xl _ _ hi10] at hr10
  replace hC:=hC.derive 2 rfl (ZMm TInts (a1.getD i10 ZEx) [u12] fp1) (fun _=>hr10) (fun _ hb_=>hb_)
  refine Yl (u12) hc10 sc22 rfl (Zf [u12] _ ZYx rfl rfl rfl (Zm1 (a1.getD i10 ZEx) h _ (hC.getP 0 rfl)) ?_)
  rintro _ w11 ⟨r10,rfl,h,hB10⟩
  refine rt ?_
  replace hC:=hC.grow hB10
  refine Zc (v:=vI r10) rfl (dn (sr (Za (v:=v10) rfl (Za (v:=vI r10) rfl ?_))))
  obtain ⟨⟨h10,h11⟩,h⟩:=h
  obtain ⟨Ad13,c11,hv11⟩:=Zw (hC.getP 1 rfl) r10.toNat (show r10.toNat < s10.length by omega)
  refine Yo (len:=s10.length) ZM6 sc2.size (tr rfl hv11) rfl h10 h11 (Yl (vI (s10.getD r10.toNat ZEx)) (Ye (hC.getP 1 rfl) hv11 r10.toNat (show r10.toNat < s10.length by omega)) sc2 rfl (Y2 rfl rfl (dn ?_)))
  refine Zp rfl (fun hb10=>?_) (fun hb10=>?_)
  ·replace h:=ift h (ct hb10)
   refine cwd 9 Yi [0,0,0,6,14,0,0,96,224,511,1023] [3,4,7,8] [0,1,2,5,6] (fun hM11 hM10 w12 hB_=>?_)
   replace hC:=hC.grow hB_
   refine bM 0 (v10) rfl hM10 (Zb 11 1) (bM 1 (u1_0) rfl hM10 (Zb 11 3) (bM 2 (vI (i10:Int)) rfl hM10 (Zb 11 7) ?_))
   obtain ⟨Ad10,c12,hv12⟩:=Zw (hC.getP 3 rfl) i10 hi10
   refine bL 3 (.pointer (some (Ad10.add (i10 * 1)))) rfl rfl hM11 (fun _ hB_=>by exact Yq (len:=a1.length) ZT8 sc22.size (by exact tr rfl hv12) rfl (ZM3 _) (ZNl.2 hi10)) (Zb 11 15) ?_
   obtain ⟨cs_,hl11,hc11,hr11⟩:=Xj (hC.getP 3 rfl) hv12 i10 hi10
   obtain ⟨u11,rfl⟩:=ZNj.1 hl11
   clear hl11
   rw [Xl _ _ hi10] at hr11
   replace hC:=hC.derive 3 rfl (ZMm TInts (a1.getD i10 ZEx) [u11] fp1) (fun _=>hr11) (fun _ hb_=>hb_)
   refine bL 4 (u11) rfl rfl hM11 (fun _ hB_=>by exact Y7 (u11) (Zaq hB_ hc11) sc22 rfl) (Zb 11 31) (bM 5 (v10) rfl hM10 (Zb 11 63) (bM 6 (vI r10) rfl hM10 (Zb 11 127) ?_))
   obtain ⟨⟨h12,h13⟩,h⟩:=h
   obtain ⟨Ad11,c13,hv13⟩:=Zw (hC.getP 2 rfl) r10.toNat (show r10.toNat < s10.length by omega)
   refine bL 7 (.pointer (some (Ad11.add (r10.toNat * 1)))) rfl rfl hM11 (fun _ hB_=>by exact Yq (len:=s10.length) ZM6 sc2.size (by exact tr rfl hv13) rfl h12 h13) (Zb 11 255) (bL 8 (vI (s10.getD r10.toNat ZEx)) rfl rfl hM11 (fun _ hB_=>by exact Y7 (vI (s10.getD r10.toNat ZEx)) (Ye ((hC.grow hB_).getP 2 rfl) hv13 r10.toNat (show r10.toNat < s10.length by omega)) sc2 rfl) (Zb 11 511) (Zz 9 (by decide) (by decide) (by kernel_rfl) (by kernel_rfl) rfl (Zf [v10,u11,vI (s10.getD r10.toNat ZEx)] _ ZYo rfl rfl rfl (Zen s10 (a1.getD i10 ZEx) (s10.getD r10.toNat ZEx) h _ (hC.getP 2 rfl) (hC.getP 0 rfl)) ?_)))
   rintro _ w13 ⟨r11,u10,f11,rfl,h,hr12,hf10,hB11⟩
   refine rt ?_
   replace hC:=hC.push hB11 (ZM4 (ZTa 2 (eI.tr)) r11 [u10] f11) hr12 hf10
   obtain ⟨ho10,hf11⟩:=Xn (hC.getM 0 rfl).1
   subst hf11
   replace hC:=hC.recast (c:=own 2 1 u10 r11.length (eI.encs r11)) (fun _ h_=>h_) (fun _=>ho10)
   refine Zc (v:=u10) rfl (done (Z0 (Zq (Zd (Zg (Za (v:=vI (i10:Int)) rfl (Zo rfl rfl (Zc (v:=vI (ZHd.wrap ((i10:Int)+1))) rfl (done ?_)))))))))
   have hs10:=Yz hC 0 rfl
   replace hC:=hC.thaw 0 rfl (ZMm TInts r11 [u10] (ZNm (ZFq u10))) Y3 (fun _ hb_=>hb_)
   exact hK10 r11 _ _ ⟨u10,(ZNm (ZFq u10)),(sl ⟨rfl,rfl,(tr rfl (congrArg _ (Z6 hi10 hN10))),trivial⟩),(fun b hb=>.inl (hs10 b hb)),(hC.sP [0,4,5] rfl)⟩ h
  ·replace h:=Zj h (cf hb10)
   refine ZMr (Zq (Zd (Zg (Za (v:=vI (i10:Int)) rfl (Zo rfl rfl (Zc (v:=vI (ZHd.wrap ((i10:Int)+1))) rfl (done ?_)))))))
   exact hK10 s10 _ _ ⟨v10,f10,(sl ⟨rfl,rfl,(tr rfl (congrArg _ (Z6 hi10 hN10))),trivial⟩),hq10,(hC.sP [1,2,3] rfl)⟩ h
 ·clear hC h
  rintro s10 e_ w14 K10 ⟨v10,f10,hS_,hq10,hC⟩ h
  rw [ue hS_]
  refine ZMn (sr (Za (v:=vI (a1.length:Int)) rfl (Za (v:=u1_0) rfl (Zv hC 2 rfl ZT8 rfl (Zn rfl rfl (dn (Z2 rfl (decide_eq_false (by omega)) ?_)))))))
  refine ZM1 (Zh (Zh (Zy ?_)))
  refine Zd (sr (Za (v:=v10) rfl (Zc (v:=v10) rfl (dn (ZMv ?_)))))
  exact Zi rfl (Ze rfl) ⟨s10,v10,f10,rfl,h,(hC.getP 0 rfl),(fun b hb=>hq10 b hb),hC.below⟩ (.inl rfl)
 ·skip
  exact⟨u0_0,fp0,(slq rfl),(fun b hb=>.inr (ZFi _ hb)),(hC.sP [0,0,1] rfl)⟩
def Zeo (a0:Int) (K:Int→Prop):Prop :=
 Xh (fun (s6:Int×Int×Int) next7=>(if s6.2.2 > 0 then(if ZFo s6.2.2 2=1 then next7 (ZFo (ZHd.wrap (s6.1 * s6.2.1)) 10007,ZFo (ZHd.wrap (s6.2.1 * s6.2.1)) 10007,ZHd.wrap (ZTb s6.2.2 2)) else next7 (s6.1,ZFo (ZHd.wrap (s6.2.1 * s6.2.1)) 10007,ZHd.wrap (ZTb s6.2.2 2))) else K s6.1)) (1,a0,10005)
theorem Zre (a0:Int)  {K:Int→Prop} (h:Zeo a0 K) (w0:World)  :
  Calls ZMq 164 #[vI a0] w0 fun e w'=>∃ (r0:Int),
   e=.returned (vI r0)∧K r0∧Bel w0 w':=by
 unfold Zeo at h
 refine cof ZY0 rfl 23 Tryz.ntmps164 ?_
 have hC:=ZM8 (X:=Nox) w0 [] (by simp)
 refine sr (Zc (v:=vI 0) rfl (dn (sr (Za (v:=vI a0) rfl (Zc (v:=vI 1) rfl (Zc (v:=vI a0) rfl (dn (ZMn (sr (Zc (v:=vI 10005) rfl (dn (ZMt ?_))))))))))))
 refine X2 (S:=Int×Int×Int) _ (fun s6 e_ w_=>Zt e_ [(3,vI s6.1),(4,vI s6.2.1),(5,vI s6.2.2)]∧Ctx Nox w0 w_ [] []) ?_ (s0:=(1,a0,10005)) ?_ h
 ·clear hC h
  rintro s6 e_ w10 next7 K8 ⟨hS_,hC⟩ h hK9
  rw [ue hS_]
  refine ZMn (sr (Za (v:=vI s6.2.2) rfl (Jh rfl rfl (dn ?_))))
  refine Zp rfl (fun hb10=>?_) (fun hb10=>?_)
  ·replace h:=ift h (ct hb10)
   refine ZMr (Zd (ZMn (ZMt (ZMn (sr (Za (v:=vI s6.2.2) rfl (Xr rfl rfl (by decide) (Jg rfl rfl (dn ?_)))))))))
   refine Zp rfl (fun hb11=>?_) (fun hb11=>?_)
   ·replace h:=ift h (ct hb11)
    refine Zg (Za (v:=vI s6.1) rfl (Za (v:=vI s6.2.1) rfl (Js rfl rfl (Xr rfl rfl (by decide) (Zc (v:=vI (ZFo (ZHd.wrap (s6.1 * s6.2.1)) 10007)) rfl (dn (Zg (Za (v:=vI s6.2.1) rfl (Za (v:=vI s6.2.1) rfl (Js rfl rfl (Xr rfl rfl (by decide) (Zc (v:=vI (ZFo (ZHd.wrap (s6.2.1 * s6.2.1)) 10007)) rfl (done (Zq (Zd (Zg (Za (v:=vI s6.2.2) rfl (Zeu rfl rfl (by decide) (Zc (v:=vI (ZHd.wrap (ZTb s6.2.2 2))) rfl (done ?_))))))))))))))))))))
    exact hK9 (ZFo (ZHd.wrap (s6.1 * s6.2.1)) 10007,ZFo (ZHd.wrap (s6.2.1 * s6.2.1)) 10007,ZHd.wrap (ZTb s6.2.2 2)) _ _ ⟨(slq rfl),hC⟩ h
   ·replace h:=Zj h (cf hb11)
    refine ZMr (Zd (Zg (Za (v:=vI s6.2.1) rfl (Za (v:=vI s6.2.1) rfl (Js rfl rfl (Xr rfl rfl (by decide) (Zc (v:=vI (ZFo (ZHd.wrap (s6.2.1 * s6.2.1)) 10007)) rfl (done (Zq (Zd (Zg (Za (v:=vI s6.2.2) rfl (Zeu rfl rfl (by decide) (Zc (v:=vI (ZHd.wrap (ZTb s6.2.2 2))) rfl (done ?_)))))))))))))))
    exact hK9 (s6.1,ZFo (ZHd.wrap (s6.2.1 * s6.2.1)) 10007,ZHd.wrap (ZTb s6.2.2 2)) _ _ ⟨(slq rfl),hC⟩ h
  ·replace h:=Zj h (cf hb10)
   refine ZM1 (Zh (Zh (Zy ?_)))
   refine Zd (sr (Za (v:=vI s6.1) rfl (Zc (v:=vI s6.1) rfl (dn (ZMv ?_)))))
   exact Zi rfl (Ze rfl) ⟨s6.1,rfl,h,hC.below⟩ (.inl rfl)
 ·skip
  exact⟨(slq rfl),hC⟩
def Zh1 (a0:List (List Int)) (a1:List Int) (K:List (List Int)→Prop):Prop :=
 Zh0 a1 a0 (fun r6=>Zbg r6 (fun r10=>(if r10 < 0 then K a0 else((0≤r10∧r10 < (r6.length:Int))∧(((0≤(r6.length:Int)∧(r6.length:Int) * 8≤281474976710656)∧Zeo (r6.getD r10.toNat ZEx) (fun r20=>Xz (ZHd.wrap (0 - r20)) (fun r21=>X9 (ZEs ((r6.length:Int).toNat) (0:Int)) r6 r21 (fun r15=>Yb (fun i10 (s10:(List (List Int))×Bool) nx10=>(if¬ (s10.2=true) then Zbg (a0.getD i10 ZEx) (fun r18=>(if r18 > r10 then(Z7 (s10.1.length+1) 24∧((0≤r10∧r10 < ((a0.getD i10 ZEx).length:Int))∧X9 (a0.getD i10 ZEx) r15 ((a0.getD i10 ZEx).getD r10.toNat ZEx) (fun r12=>(Z7 ((s10.1++[r15]).length+1) 24∧nx10 ((s10.1++[r15])++[r12],true))))) else((0≤r10∧r10 < ((a0.getD i10 ZEx).length:Int))∧X9 (a0.getD i10 ZEx) r15 ((a0.getD i10 ZEx).getD r10.toNat ZEx) (fun r13=>(Z7 (s10.1.length+1) 24∧nx10 (s10.1++[r13],s10.2)))))) else((0≤r10∧r10 < ((a0.getD i10 ZEx).length:Int))∧X9 (a0.getD i10 ZEx) r15 ((a0.getD i10 ZEx).getD r10.toNat ZEx) (fun r14=>(Z7 (s10.1.length+1) 24∧nx10 (s10.1++[r14],s10.2)))))) (fun (s10:(List (List Int))×Bool)=>(if¬ (s10.2=true) then(Z7 (s10.1.length+1) 24∧K (s10.1++[r15])) else K s10.1)) a0.length 0 ([],false)))))∧Zeo (r6.getD r10.toNat ZEx) (fun r19=>(((0≤(r6.length:Int)∧(r6.length:Int) * 8≤281474976710656)∧Xz (ZHd.wrap (0 - r19)) (fun r22=>X9 (ZEs ((r6.length:Int).toNat) (0:Int)) r6 r22 (fun r16=>Yb (fun i10 (s10:(List (List Int))×Bool) nx10=>(if¬ (s10.2=true) then Zbg (a0.getD i10 ZEx) (fun r18=>(if r18 > r10 then(Z7 (s10.1.length+1) 24∧((0≤r10∧r10 < ((a0.getD i10 ZEx).length:Int))∧X9 (a0.getD i10 ZEx) r16 ((a0.getD i10 ZEx).getD r10.toNat ZEx) (fun r12=>(Z7 ((s10.1++[r16]).length+1) 24∧nx10 ((s10.1++[r16])++[r12],true))))) else((0≤r10∧r10 < ((a0.getD i10 ZEx).length:Int))∧X9 (a0.getD i10 ZEx) r16 ((a0.getD i10 ZEx).getD r10.toNat ZEx) (fun r13=>(Z7 (s10.1.length+1) 24∧nx10 (s10.1++[r13],s10.2)))))) else((0≤r10∧r10 < ((a0.getD i10 ZEx).length:Int))∧X9 (a0.getD i10 ZEx) r16 ((a0.getD i10 ZEx).getD r10.toNat ZEx) (fun r14=>(Z7 (s10.1.length+1) 24∧nx10 (s10.1++[r14],s10.2)))))) (fun (s10:(List (List Int))×Bool)=>(if¬ (s10.2=true) then(Z7 (s10.1.length+1) 24∧K (s10.1++[r16])) else K s10.1)) a0.length 0 ([],false))))∧Xz (ZHd.wrap (0 - r19)) (fun r23=>((0≤(r6.length:Int)∧(r6.length:Int) * 8≤281474976710656)∧X9 (ZEs ((r6.length:Int).toNat) (0:Int)) r6 r23 (fun r17=>Yb (fun i10 (s10:(List (List Int))×Bool) nx10=>(if¬ (s10.2=true) then Zbg (a0.getD i10 ZEx) (fun r18=>(if r18 > r10 then(Z7 (s10.1.length+1) 24∧((0≤r10∧r10 < ((a0.getD i10 ZEx).length:Int))∧X9 (a0.getD i10 ZEx) r17 ((a0.getD i10 ZEx).getD r10.toNat ZEx) (fun r12=>(Z7 ((s10.1++[r17]).length+1) 24∧nx10 ((s10.1++[r17])++[r12],true))))) else((0≤r10∧r10 < ((a0.getD i10 ZEx).length:Int))∧X9 (a0.getD i10 ZEx) r17 ((a0.getD i10 ZEx).getD r10.toNat ZEx) (fun r13=>(Z7 (s10.1.length+1) 24∧nx10 (s10.1++[r13],s10.2)))))) else((0≤r10∧r10 < ((a0.getD i10 ZEx).length:Int))∧X9 (a0.getD i10 ZEx) r17 ((a0.getD i10 ZEx).getD r10.toNat ZEx) (fun r14=>(Z7 (s10.1.length+1) 24∧nx10 (s10.1++[r14],s10.2)))))) (fun (s10:(List (List Int))×Bool)=>(if¬ (s10.2=true) then(Z7 (s10.1.length+1) 24∧K (s10.1++[r17])) else K s10.1)) a0.length 0 ([],false)))))))))))
theorem ZBi (a0:List (List Int)) (a1:List Int)  {K:List (List Int)→Prop} (h:Zh1 a0 a1 K) (w0:World) (q0:(ZO5.sl).rep a0 [u0_0] fp0 w0) (q1:ZO5.rep a1 [u1_0] fp1 w0) :
  Calls ZMq 106 #[u0_0,u1_0] w0 fun e w'=>∃ (r0:List (List Int)) (z0_0:Value) (fz0:List Nat),
   e=.returned (z0_0)∧K r0∧(ZO5.sl).rep r0 [z0_0] fz0 w'∧(∀ b,b∈fz0→w0.heap.size≤b∨b∈(fp0++(fp1)))∧Bel w0 w':=by
 unfold Zh1 at h
 refine cof Tryz.func106 rfl 74 Tryz.ntmps106 ?_
 have hC:=ZM8 (X:=Nox) w0 [ZMm (ZO5.sl) a0 [u0_0] fp0,ZMm TInts a1 [u1_0] fp1] (alc q0 (al1 q1))
 refine sr (Zc (v:=.slice none 0 0) rfl (dn (sr (Za (v:=u1_0) rfl (Za (v:=u0_0) rfl (Zf [u1_0,u0_0] _ Tryz.func127 rfl rfl rfl (ZBh a1 a0 h _ (hC.getP 1 rfl) (hC.getP 0 rfl)) ?_))))))
 rintro _ w5 ⟨r6,u7,f8,rfl,h,hr9,hf10,hB10⟩
 refine rt ?_
 have hs26:∀ b,b∈f8→w0.heap.size≤b∨b∈(fp0++(fp1)):=(fun b hb=>(hf10 b hb).elim (fun h_=>.inl (ZEy hC.size h_)) (fun hb=>(ZE4.1 hb).elim (fun hb=>.inr (ZFj _ hb)) (fun hb=>.inr (ZFi _ hb))))
 replace hC:=hC.pushR hB10 (ZMm TInts r6 [u7] f8) hr9 (fun b hb=>(hf10 b hb).elim .inl (fun hb=>.inr ((ZE4.1 hb).elim (fun hb=>⟨_,mg 1 rfl,hb⟩) (fun hb=>⟨_,mg 0 rfl,hb⟩))))
 refine Zc (v:=u7) rfl (dn (sr (Za (v:=u7) rfl (Zf [u7] _ ZYx rfl rfl rfl (Zm1 r6 h _ (hC.getP 0 rfl)) ?_))))
 rintro _ w10 ⟨r10,rfl,h,hB11⟩
 refine rt ?_
 replace hC:=hC.grow hB11
 refine Zc (v:=vI r10) rfl (dn (ZMn (sr (Za (v:=vI r10) rfl (Zn rfl rfl (dn ?_))))))
 refine Zp rfl (fun hb11=>?_) (fun hb11=>?_)
 ·replace h:=ift h (ct hb11)
  refine sr (Za (v:=u0_0) rfl (Zc (v:=u0_0) rfl (dn ?_)))
  refine ZMv (Zk ?_)
  exact Zi rfl (Ze rfl) ⟨a0,u0_0,fp0,rfl,h,(hC.getP 1 rfl),(fun b hb=>.inr (ZFi _ hb)),hC.below⟩ (.inl rfl)
 ·replace h:=Zj h (cf hb11)
  refine ZMr (Zd (ZMn ?_))
  refine cwd 11 Yi [0,1,3,0,0,0,48,112,240,496,1008,2047,4095] [1,6,7] [0,3,4,5,9] (fun hM17 hM13 w11 hB_=>?_)
  replace hC:=hC.grow hB_
  refine bM 0 (u7) rfl hM13 (Zb 13 1) (bL 1 (vI (r6.length:Int)) rfl rfl hM17 (fun _ hB_=>by exact Zi6 (hC.grow hB_) 0 rfl ZM6 rfl) (Zb 13 3) (bM 3 (u7) rfl hM13 (Zb 13 11) (bM 4 (u7) rfl hM13 (Zb 13 27) (bM 5 (vI r10) rfl hM13 (Zb 13 59) ?_))))
  obtain ⟨⟨h10,h11⟩,h⟩:=h
  obtain ⟨Ad10,c10,hv10⟩:=Zw (hC.getP 0 rfl) r10.toNat (show r10.toNat < r6.length by omega)
  refine bL 6 (.pointer (some (Ad10.add (r10.toNat * 1)))) rfl rfl hM17 (fun _ hB_=>by exact Yq (len:=r6.length) ZM6 sc2.size (by exact tr rfl hv10) rfl h10 h11) (Zb 13 123) (bL 7 (vI (r6.getD r10.toNat ZEx)) rfl rfl hM17 (fun _ hB_=>by exact Y7 (vI (r6.getD r10.toNat ZEx)) (Ye ((hC.grow hB_).getP 0 rfl) hv10 r10.toNat (show r10.toNat < r6.length by omega)) sc2 rfl) (Zb 13 251) ?_)
  refine Zdw (fun e_ w_=>∃ (u10:Value),∃ (r11:List Int),Zt e_ [(0,u0_0),(1,u10),(5,vI r10)]∧Ctx Nox w0 w_ [own 2 1 u10 r11.length (eI.encs r11)] [ZMm (ZO5.sl) a0 [u0_0] fp0,ZMm TInts a1 [u1_0] fp1]∧(Yb (fun i10 (s10:(List (List Int))×Bool) nx10=>(if¬ (s10.2=true) then Zbg (a0.getD i10 ZEx) (fun r18=>(if r18 > r10 then(Z7 (s10.1.length+1) 24∧((0≤r10∧r10 < ((a0.getD i10 ZEx).length:Int))∧X9 (a0.getD i10 ZEx) r11 ((a0.getD i10 ZEx).getD r10.toNat ZEx) (fun r12=>(Z7 ((s10.1++[r11]).length+1) 24∧nx10 ((s10.1++[r11])++[r12],true))))) else((0≤r10∧r10 < ((a0.getD i10 ZEx).length:Int))∧X9 (a0.getD i10 ZEx) r11 ((a0.getD i10 ZEx).getD r10.toNat ZEx) (fun r13=>(Z7 (s10.1.length+1) 24∧nx10 (s10.1++[r13],s10.2)))))) else((0≤r10∧r10 < ((a0.getD i10 ZEx).length:Int))∧X9 (a0.getD i10 ZEx) r11 ((a0.getD i10 ZEx).getD r10.toNat ZEx) (fun r14=>(Z7 (s10.1.length+1) 24∧nx10 (s10.1++[r14],s10.2)))))) (fun (s10:(List (List Int))×Bool)=>(if¬ (s10.2=true) then(Z7 (s10.1.length+1) 24∧K (s10.1++[r11])) else K s10.1)) a0.length 0 ([],false))) ?_ ?_
  ·clear hC h
   rintro e_ w12 ⟨u10,r11,hS_,hC,h⟩
   rw [ue hS_]
   refine Zd (sr (Y4 (sz:=1) hC [] [] rfl (fun _=>Zbz _) rfl (by decide) fun b15 w13 hB_ hC=>?_))
   replace hC:=hC.pushE (ZXd TInts [] [] []) (Zmq _ _) rfl
   refine Zc (v:=.slice (some ⟨b15,0,none⟩) 0 0) rfl (Zc (v:=.bool false) rfl (dn (ZMn (sr (Zc (v:=vI 0) rfl (dn (ZMt ?_)))))))
   have hs10:=Yz hC 1 rfl
   replace hC:=hC.thaw 1 rfl (ZMm TInts r11 [u10] (ZNm (ZFq u10))) Y3 (fun _ hb_=>hb_)
   have hN10:a0.length≤9223372036854775807:=Yx (hC.getP 2 rfl)
   refine Yn (S:=(List (List Int))×Bool) _ _ (fun i10 s10 e_ w_=>∃ (v10:Value),∃ (cs10:List Value),∃ (f10:List Nat),Zt e_ [(0,u0_0),(1,u10),(5,vI r10),(6,v10),(7,.bool s10.2),(8,vI (i10:Int))]∧(∀ b,b∈f10→w0.heap.size≤b∨b∈(fp0++(fp1)))∧Ctx Nox w0 w_ [own 22 1 v10 s10.1.length cs10] [ZXd TInts s10.1 cs10 f10,ZMm TInts r11 [u10] (ZNm (ZFq u10)),ZMm (ZO5.sl) a0 [u0_0] fp0,ZMm TInts a1 [u1_0] fp1]) a0.length ?_ ?_ (s0:=([],false)) ?_ h
   ·clear hC h
    rintro i10 s10 e_ w14 nx10 K10 hi10 ⟨v10,cs10,f10,hS_,hq10,hC⟩ h hK10
    rw [ue hS_]
    refine ZMn (sr (Za (v:=vI (i10:Int)) rfl (Za (v:=u0_0) rfl (Zv hC 2 rfl ZT8 rfl (Zn rfl rfl (dn (Yc rfl (decide_eq_true (by omega)) (ZMr (Zd (ZMn (ZMt (ZMn (sr (Za (v:=.bool s10.2) rfl (Xu rfl (Za (v:=.bool (!s10.2)) rfl ?_))))))))))))))))
    refine Y5 (!s10.2) (fun hb10=>?_) (fun hb10=>?_)
    ·replace h:=ift h (Xa (X3 hb10))
     refine Zl 2 38 rfl rfl hb10 (Za (v:=u0_0) rfl (Zl 2 38 rfl rfl hb10 (Za (v:=vI (i10:Int)) rfl (Zl 2 38 rfl rfl hb10 ?_))))
     obtain ⟨Ad20,c11,hv11⟩:=Zw (hC.getP 2 rfl) i10 hi10
     refine Yo (len:=a0.length) ZT8 sc22.size (tr rfl hv11) rfl (ZM3 _) (ZNl.2 hi10) (Zl 2 38 rfl rfl hb10 ?_)
     obtain ⟨cs_,hl10,hc10,hr10⟩:=Xj (hC.getP 2 rfl) hv11 i10 hi10
     obtain ⟨u20,rfl⟩:=ZNj.1 hl10
     clear hl10
     rw [Xl _ _ hi10] at hr10
     replace hC:=hC.derive 2 rfl (ZMm TInts (a0.getD i10 ZEx) [u20] fp0) (fun _=>hr10) (fun _ hb_=>hb_)
     refine Yl (u20) hc10 sc22 rfl (Zl 2 38 rfl rfl hb10 (Zf [u20] _ ZYx rfl rfl rfl (Zm1 (a0.getD i10 ZEx) h _ (hC.getP 0 rfl)) ?_))
     rintro _ w15 ⟨r18,rfl,h,hB12⟩
     refine rt ?_
     replace hC:=hC.grow hB12
     refine Zl 2 38 rfl rfl hb10 (Za (v:=vI r10) rfl (Zl 2 38 rfl rfl hb10 (Jh rfl rfl (Z3 (v:=.bool (decide (r18 > r10))) (b:=true) (tr rfl (congrArg _ hb10)) rfl (dn ?_)))))
     refine Zp rfl (fun hb12=>?_) (fun hb12=>?_)
     ·replace h:=ift h (ct hb12)
      refine sr (Za (v:=v10) rfl (Za (v:=u10) rfl (Y4 (sz:=1) hC [(0,u10)] [u10] rfl (fun _=>Zbe u10 (Zb5 (hC.getP 2 rfl)) _) rfl (by decide) fun b10 w16 hB_ hC=>?_)))
      have hf11:=Yz hC 0 rfl
      replace hC:=hC.thaw 0 rfl (own 22 1 (.slice (some ⟨b10,0,none⟩) 1 1) 1 [u10]) id (fun _ hb_=>hb_)
      replace hC:=hC.joinP 0 3 rfl rfl (ZMm (ZO5.sl) [r11] [.slice (some ⟨b10,0,none⟩) 1 1] ((ZNm (ZFq (.slice (some ⟨b10,0,none⟩) 1 1)))++(ZNm (ZFq u10)))) (fun a_ b_=>Zap a_ (Zdh b_)) (fun c_ hc_=>ZE4.1 hc_)
      have hs11:∀ b,b∈((ZNm (ZFq (.slice (some ⟨b10,0,none⟩) 1 1)))++(ZNm (ZFq u10)))→w0.heap.size≤b:=(fun b hb=>(ZE4.1 hb).elim (fun hb=>hf11 b hb) (fun hb=>hs10 b hb))
      obtain ⟨cs11,hd10,ha10⟩:=Zef (hC.getP 0 rfl)
      replace hC:=hC.derive 0 rfl (ZXd TInts [r11] cs11 ((ZNm (ZFq (.slice (some ⟨b10,0,none⟩) 1 1)))++(ZNm (ZFq u10)))) (fun _=>ha10) (fun _ h_=>h_)
      obtain ⟨hm13,h⟩:=h
      refine J7 hC 0 ZT8 Zbf rfl (by decide) (by decide) rfl hd10 (fun q_ hq_=>ha10.2.2.1 q_ hq_) rfl rfl hm13 fun v12 w17 hC=>?_
      replace hC:=Xb hC 0 ((s10.1++[r11]).length) (cs10++cs11) rfl (by simp) (by simp)
      have hs12:∀ b,b∈(f10++((ZNm (ZFq (.slice (some ⟨b10,0,none⟩) 1 1)))++(ZNm (ZFq u10))))→w0.heap.size≤b∨b∈(fp0++(fp1)):=(fun b hb=>(ZE4.1 hb).elim (fun hb=>hq10 b hb) (fun hb=>.inl (hs11 b hb)))
      replace hC:=hC.joinP 4 0 rfl rfl (ZXd TInts (s10.1++[r11]) (cs10++cs11) (f10++((ZNm (ZFq (.slice (some ⟨b10,0,none⟩) 1 1)))++(ZNm (ZFq u10))))) (fun a_ b_=>Zeg a_ b_) (fun c_ hc_=>ZE4.1 hc_)
      refine Zc (v:=v12) rfl (dn (Zg (Zc (v:=.bool true) rfl (dn ?_))))
      refine cwd 15 Yi [0,0,0,6,14,0,0,0,192,448,0,1984,4032,8190,16382,32767,65535] [3,4,8,9,11,12] [0,1,2,5,6,7,10] (fun hM14 hM10 w18 hB_=>?_)
      replace hC:=hC.grow hB_
      refine bM 0 (v12) rfl hM10 (Zb 17 1) (bM 1 (u0_0) rfl hM10 (Zb 17 3) (bM 2 (vI (i10:Int)) rfl hM10 (Zb 17 7) ?_))
      obtain ⟨Ad11,c12,hv12⟩:=Zw (hC.getP 7 rfl) i10 hi10
      refine bL 3 (.pointer (some (Ad11.add (i10 * 1)))) rfl rfl hM14 (fun _ hB_=>by exact Yq (len:=a0.length) ZT8 sc22.size (by exact tr rfl hv12) rfl (ZM3 _) (ZNl.2 hi10)) (Zb 17 15) ?_
      obtain ⟨cs_,hl11,hc11,hr11⟩:=Xj (hC.getP 7 rfl) hv12 i10 hi10
      obtain ⟨u14,rfl⟩:=ZNj.1 hl11
      clear hl11
      rw [Xl _ _ hi10] at hr11
      replace hC:=hC.derive 7 rfl (ZMm TInts (a0.getD i10 ZEx) [u14] fp0) (fun _=>hr11) (fun _ hb_=>hb_)
      refine bL 4 (u14) rfl rfl hM14 (fun _ hB_=>by exact Y7 (u14) (Zaq hB_ hc11) sc22 rfl) (Zb 17 31) (bM 5 (u10) rfl hM10 (Zb 17 63) (bM 6 (u0_0) rfl hM10 (Zb 17 127) (bM 7 (vI (i10:Int)) rfl hM10 (Zb 17 255) ?_)))
      obtain ⟨Ad12,c13,hv13⟩:=Zw (hC.getP 8 rfl) i10 hi10
      refine bL 8 (.pointer (some (Ad12.add (i10 * 1)))) rfl rfl hM14 (fun _ hB_=>by exact Yq (len:=a0.length) ZT8 sc22.size (by exact tr rfl hv13) rfl (ZM3 _) (ZNl.2 hi10)) (Zb 17 511) ?_
      obtain ⟨cs_,hl12,hc12,hr12⟩:=Xj (hC.getP 8 rfl) hv13 i10 hi10
      obtain ⟨u21,rfl⟩:=ZNj.1 hl12
      clear hl12
      rw [Xl _ _ hi10] at hr12
      replace hC:=hC.derive 8 rfl (ZMm TInts (a0.getD i10 ZEx) [u21] fp0) (fun _=>hr12) (fun _ hb_=>hb_)
      refine bL 9 (u21) rfl rfl hM14 (fun _ hB_=>by exact Y7 (u21) (Zaq hB_ hc12) sc22 rfl) (Zb 17 1023) (bM 10 (vI r10) rfl hM10 (Zb 17 2047) ?_)
      obtain ⟨⟨h12,h13⟩,h⟩:=h
      obtain ⟨Ad13,c14,hv14⟩:=Zw (hC.getP 0 rfl) r10.toNat (show r10.toNat < (a0.getD i10 ZEx).length by omega)
      refine bL 11 (.pointer (some (Ad13.add (r10.toNat * 1)))) rfl rfl hM14 (fun _ hB_=>by exact Yq (len:=(a0.getD i10 ZEx).length) ZM6 sc2.size (by exact tr rfl hv14) rfl h12 h13) (Zb 17 4095) (bL 12 (vI ((a0.getD i10 ZEx).getD r10.toNat ZEx)) rfl rfl hM14 (fun _ hB_=>by exact Y7 (vI ((a0.getD i10 ZEx).getD r10.toNat ZEx)) (Ye ((hC.grow hB_).getP 0 rfl) hv14 r10.toNat (show r10.toNat < (a0.getD i10 ZEx).length by omega)) sc2 rfl) (Zb 17 8191) (aO 13 rfl (Zf [u14,u10,vI ((a0.getD i10 ZEx).getD r10.toNat ZEx)] _ ZYo rfl rfl rfl (Zen (a0.getD i10 ZEx) r11 ((a0.getD i10 ZEx).getD r10.toNat ZEx) h _ (hC.getP 1 rfl) (hC.getP 8 rfl)) ?_)))
      rintro _ w19 ⟨r12,u11,f11,rfl,h,hr17,hf12,hB13⟩
      refine rt ?_
      replace hC:=hC.push hB13 (ZM4 (ZTa 2 (eI.tr)) r12 [u11] f11) hr17 hf12
      obtain ⟨ho10,hf13⟩:=Xn (hC.getM 0 rfl).1
      subst hf13
      replace hC:=hC.recast (c:=own 2 1 u11 r12.length (eI.encs r12)) (fun _ h_=>h_) (fun _=>ho10)
      refine done (aK (by assumption) (Zb 17 16383) (aO 14 rfl ?_))
      have hs13:=Yz hC 0 rfl
      replace hC:=hC.thaw 0 rfl (ZMm TInts r12 [u11] (ZNm (ZFq u11))) Y3 (fun _ hb_=>hb_)
      refine Y4 (sz:=1) hC [(0,u11)] [u11] rfl (fun _=>Zbe u11 (Zb5 (hC.getP 0 rfl)) _) rfl (by decide) fun b12 w20 hB_ hC=>?_
      have hf14:=Yz hC 0 rfl
      replace hC:=hC.thaw 0 rfl (own 22 1 (.slice (some ⟨b12,0,none⟩) 1 1) 1 [u11]) id (fun _ hb_=>hb_)
      replace hC:=hC.joinP 0 1 rfl rfl (ZMm (ZO5.sl) [r12] [.slice (some ⟨b12,0,none⟩) 1 1] ((ZNm (ZFq (.slice (some ⟨b12,0,none⟩) 1 1)))++(ZNm (ZFq u11)))) (fun a_ b_=>Zap a_ (Zdh b_)) (fun c_ hc_=>ZE4.1 hc_)
      have hs14:∀ b,b∈((ZNm (ZFq (.slice (some ⟨b12,0,none⟩) 1 1)))++(ZNm (ZFq u11)))→w0.heap.size≤b:=(fun b hb=>(ZE4.1 hb).elim (fun hb=>hf14 b hb) (fun hb=>hs13 b hb))
      refine done (aK (by assumption) (Zb 17 32767) (Zz 15 (by decide) (by decide) (by kernel_rfl) (by kernel_rfl) rfl ?_))
      obtain ⟨cs12,hd11,ha11⟩:=Zef (hC.getP 0 rfl)
      replace hC:=hC.derive 0 rfl (ZXd TInts [r12] cs12 ((ZNm (ZFq (.slice (some ⟨b12,0,none⟩) 1 1)))++(ZNm (ZFq u11)))) (fun _=>ha11) (fun _ h_=>h_)
      obtain ⟨hm14,h⟩:=h
      refine J7 hC 0 ZT8 Zbf rfl (by decide) (by decide) rfl hd11 (fun q_ hq_=>ha11.2.2.1 q_ hq_) rfl rfl hm14 fun v13 w21 hC=>?_
      replace hC:=Xb hC 0 (((s10.1++[r11])++[r12]).length) ((cs10++cs11)++cs12) rfl (by simp) (by simp)
      have hs15:∀ b,b∈((f10++((ZNm (ZFq (.slice (some ⟨b10,0,none⟩) 1 1)))++(ZNm (ZFq u10))))++((ZNm (ZFq (.slice (some ⟨b12,0,none⟩) 1 1)))++(ZNm (ZFq u11))))→w0.heap.size≤b∨b∈(fp0++(fp1)):=(fun b hb=>(ZE4.1 hb).elim (fun hb=>hs12 b hb) (fun hb=>.inl (hs14 b hb)))
      replace hC:=hC.joinP 6 0 rfl rfl (ZXd TInts ((s10.1++[r11])++[r12]) ((cs10++cs11)++cs12) ((f10++((ZNm (ZFq (.slice (some ⟨b10,0,none⟩) 1 1)))++(ZNm (ZFq u10))))++((ZNm (ZFq (.slice (some ⟨b12,0,none⟩) 1 1)))++(ZNm (ZFq u11))))) (fun a_ b_=>Zeg a_ b_) (fun c_ hc_=>ZE4.1 hc_)
      refine Zc (v:=v13) rfl (done (Z0 (Zq (Zd (Zg (Za (v:=vI (i10:Int)) rfl (Zo rfl rfl (Zc (v:=vI (ZHd.wrap ((i10:Int)+1))) rfl (done ?_)))))))))
      exact hK10 ((s10.1++[r11])++[r12],true) _ _ ⟨v13,(cs10++cs11)++cs12,((f10++((ZNm (ZFq (.slice (some ⟨b10,0,none⟩) 1 1)))++(ZNm (ZFq u10))))++((ZNm (ZFq (.slice (some ⟨b12,0,none⟩) 1 1)))++(ZNm (ZFq u11)))),(sl ⟨rfl,rfl,rfl,rfl,rfl,(tr rfl (congrArg _ (Z6 hi10 hN10))),trivial⟩),hs15,(hC.sP [0,13,14,15] rfl)⟩ h
     ·replace h:=Zj h (cf hb12)
      refine ZMr (Zd ?_)
      refine cwd 15 Yi [0,0,0,6,14,0,0,0,192,448,0,1984,4032,8190,16382,32767,65535] [3,4,8,9,11,12] [0,1,2,5,6,7,10] (fun hM15 hM11 w22 hB_=>?_)
      replace hC:=hC.grow hB_
      refine bM 0 (v10) rfl hM11 (Zb 17 1) (bM 1 (u0_0) rfl hM11 (Zb 17 3) (bM 2 (vI (i10:Int)) rfl hM11 (Zb 17 7) ?_))
      obtain ⟨Ad14,c15,hv15⟩:=Zw (hC.getP 3 rfl) i10 hi10
      refine bL 3 (.pointer (some (Ad14.add (i10 * 1)))) rfl rfl hM15 (fun _ hB_=>by exact Yq (len:=a0.length) ZT8 sc22.size (by exact tr rfl hv15) rfl (ZM3 _) (ZNl.2 hi10)) (Zb 17 15) ?_
      obtain ⟨cs_,hl13,hc13,hr13⟩:=Xj (hC.getP 3 rfl) hv15 i10 hi10
      obtain ⟨u15,rfl⟩:=ZNj.1 hl13
      clear hl13
      rw [Xl _ _ hi10] at hr13
      replace hC:=hC.derive 3 rfl (ZMm TInts (a0.getD i10 ZEx) [u15] fp0) (fun _=>hr13) (fun _ hb_=>hb_)
      refine bL 4 (u15) rfl rfl hM15 (fun _ hB_=>by exact Y7 (u15) (Zaq hB_ hc13) sc22 rfl) (Zb 17 31) (bM 5 (u10) rfl hM11 (Zb 17 63) (bM 6 (u0_0) rfl hM11 (Zb 17 127) (bM 7 (vI (i10:Int)) rfl hM11 (Zb 17 255) ?_)))
      obtain ⟨Ad15,c16,hv16⟩:=Zw (hC.getP 4 rfl) i10 hi10
      refine bL 8 (.pointer (some (Ad15.add (i10 * 1)))) rfl rfl hM15 (fun _ hB_=>by exact Yq (len:=a0.length) ZT8 sc22.size (by exact tr rfl hv16) rfl (ZM3 _) (ZNl.2 hi10)) (Zb 17 511) ?_
      obtain ⟨cs_,hl14,hc14,hr14⟩:=Xj (hC.getP 4 rfl) hv16 i10 hi10
      obtain ⟨u22,rfl⟩:=ZNj.1 hl14
      clear hl14
      rw [Xl _ _ hi10] at hr14
      replace hC:=hC.derive 4 rfl (ZMm TInts (a0.getD i10 ZEx) [u22] fp0) (fun _=>hr14) (fun _ hb_=>hb_)
      refine bL 9 (u22) rfl rfl hM15 (fun _ hB_=>by exact Y7 (u22) (Zaq hB_ hc14) sc22 rfl) (Zb 17 1023) (bM 10 (vI r10) rfl hM11 (Zb 17 2047) ?_)
      obtain ⟨⟨h14,h15⟩,h⟩:=h
      obtain ⟨Ad16,c17,hv17⟩:=Zw (hC.getP 0 rfl) r10.toNat (show r10.toNat < (a0.getD i10 ZEx).length by omega)
      refine bL 11 (.pointer (some (Ad16.add (r10.toNat * 1)))) rfl rfl hM15 (fun _ hB_=>by exact Yq (len:=(a0.getD i10 ZEx).length) ZM6 sc2.size (by exact tr rfl hv17) rfl h14 h15) (Zb 17 4095) (bL 12 (vI ((a0.getD i10 ZEx).getD r10.toNat ZEx)) rfl rfl hM15 (fun _ hB_=>by exact Y7 (vI ((a0.getD i10 ZEx).getD r10.toNat ZEx)) (Ye ((hC.grow hB_).getP 0 rfl) hv17 r10.toNat (show r10.toNat < (a0.getD i10 ZEx).length by omega)) sc2 rfl) (Zb 17 8191) (aO 13 rfl (Zf [u15,u10,vI ((a0.getD i10 ZEx).getD r10.toNat ZEx)] _ ZYo rfl rfl rfl (Zen (a0.getD i10 ZEx) r11 ((a0.getD i10 ZEx).getD r10.toNat ZEx) h _ (hC.getP 1 rfl) (hC.getP 4 rfl)) ?_)))
      rintro _ w23 ⟨r13,u12,f12,rfl,h,hr18,hf15,hB14⟩
      refine rt ?_
      replace hC:=hC.push hB14 (ZM4 (ZTa 2 (eI.tr)) r13 [u12] f12) hr18 hf15
      obtain ⟨ho11,hf16⟩:=Xn (hC.getM 0 rfl).1
      subst hf16
      replace hC:=hC.recast (c:=own 2 1 u12 r13.length (eI.encs r13)) (fun _ h_=>h_) (fun _=>ho11)
      refine done (aK (by assumption) (Zb 17 16383) (aO 14 rfl ?_))
      have hs16:=Yz hC 0 rfl
      replace hC:=hC.thaw 0 rfl (ZMm TInts r13 [u12] (ZNm (ZFq u12))) Y3 (fun _ hb_=>hb_)
      refine Y4 (sz:=1) hC [(0,u12)] [u12] rfl (fun _=>Zbe u12 (Zb5 (hC.getP 0 rfl)) _) rfl (by decide) fun b13 w24 hB_ hC=>?_
      have hf17:=Yz hC 0 rfl
      replace hC:=hC.thaw 0 rfl (own 22 1 (.slice (some ⟨b13,0,none⟩) 1 1) 1 [u12]) id (fun _ hb_=>hb_)
      replace hC:=hC.joinP 0 1 rfl rfl (ZMm (ZO5.sl) [r13] [.slice (some ⟨b13,0,none⟩) 1 1] ((ZNm (ZFq (.slice (some ⟨b13,0,none⟩) 1 1)))++(ZNm (ZFq u12)))) (fun a_ b_=>Zap a_ (Zdh b_)) (fun c_ hc_=>ZE4.1 hc_)
      have hs17:∀ b,b∈((ZNm (ZFq (.slice (some ⟨b13,0,none⟩) 1 1)))++(ZNm (ZFq u12)))→w0.heap.size≤b:=(fun b hb=>(ZE4.1 hb).elim (fun hb=>hf17 b hb) (fun hb=>hs16 b hb))
      refine done (aK (by assumption) (Zb 17 32767) (Zz 15 (by decide) (by decide) (by kernel_rfl) (by kernel_rfl) rfl ?_))
      obtain ⟨cs13,hd12,ha12⟩:=Zef (hC.getP 0 rfl)
      replace hC:=hC.derive 0 rfl (ZXd TInts [r13] cs13 ((ZNm (ZFq (.slice (some ⟨b13,0,none⟩) 1 1)))++(ZNm (ZFq u12)))) (fun _=>ha12) (fun _ h_=>h_)
      obtain ⟨hm15,h⟩:=h
      refine J7 hC 0 ZT8 Zbf rfl (by decide) (by decide) rfl hd12 (fun q_ hq_=>ha12.2.2.1 q_ hq_) rfl rfl hm15 fun v14 w25 hC=>?_
      replace hC:=Xb hC 0 ((s10.1++[r13]).length) (cs10++cs13) rfl (by simp) (by simp)
      have hs18:∀ b,b∈(f10++((ZNm (ZFq (.slice (some ⟨b13,0,none⟩) 1 1)))++(ZNm (ZFq u12))))→w0.heap.size≤b∨b∈(fp0++(fp1)):=(fun b hb=>(ZE4.1 hb).elim (fun hb=>hq10 b hb) (fun hb=>.inl (hs17 b hb)))
      replace hC:=hC.joinP 7 0 rfl rfl (ZXd TInts (s10.1++[r13]) (cs10++cs13) (f10++((ZNm (ZFq (.slice (some ⟨b13,0,none⟩) 1 1)))++(ZNm (ZFq u12))))) (fun a_ b_=>Zeg a_ b_) (fun c_ hc_=>ZE4.1 hc_)
      refine Zc (v:=v14) rfl (done (Z0 (Zq (Zd (Zg (Za (v:=vI (i10:Int)) rfl (Zo rfl rfl (Zc (v:=vI (ZHd.wrap ((i10:Int)+1))) rfl (done ?_)))))))))
      exact hK10 (s10.1++[r13],s10.2) _ _ ⟨v14,cs10++cs13,(f10++((ZNm (ZFq (.slice (some ⟨b13,0,none⟩) 1 1)))++(ZNm (ZFq u12)))),(sl ⟨rfl,rfl,rfl,rfl,rfl,(tr rfl (congrArg _ (Z6 hi10 hN10))),trivial⟩),hs18,(hC.sP [0,9,10,11] rfl)⟩ h
    ·replace h:=Zj h (not_not_intro ((X4 hb10)))
     refine Zm (b:=false) 2 38 rfl (tr rfl (congrArg _ hb10)) (by decide) (Zm (b:=false) 2 38 rfl (tr rfl (congrArg _ hb10)) (by decide) (Zm (b:=false) 2 38 rfl (tr rfl (congrArg _ hb10)) (by decide) (Zm (b:=false) 2 38 rfl (tr rfl (congrArg _ hb10)) (by decide) (Zm (b:=false) 2 38 rfl (tr rfl (congrArg _ hb10)) (by decide) (Zm (b:=false) 2 38 rfl (tr rfl (congrArg _ hb10)) (by decide) (Zm (b:=false) 2 38 rfl (tr rfl (congrArg _ hb10)) (by decide) (Z3 (v:=.bool false) (b:=false) (tr rfl (congrArg _ hb10)) rfl (dn (Z2 rfl rfl (ZMr (Zd ?_)))))))))))
     refine cwd 15 Yi [0,0,0,6,14,0,0,0,192,448,0,1984,4032,8190,16382,32767,65535] [3,4,8,9,11,12] [0,1,2,5,6,7,10] (fun hM16 hM12 w26 hB_=>?_)
     replace hC:=hC.grow hB_
     refine bM 0 (v10) rfl hM12 (Zb 17 1) (bM 1 (u0_0) rfl hM12 (Zb 17 3) (bM 2 (vI (i10:Int)) rfl hM12 (Zb 17 7) ?_))
     obtain ⟨Ad17,c18,hv18⟩:=Zw (hC.getP 2 rfl) i10 hi10
     refine bL 3 (.pointer (some (Ad17.add (i10 * 1)))) rfl rfl hM16 (fun _ hB_=>by exact Yq (len:=a0.length) ZT8 sc22.size (by exact tr rfl hv18) rfl (ZM3 _) (ZNl.2 hi10)) (Zb 17 15) ?_
     obtain ⟨cs_,hl15,hc15,hr15⟩:=Xj (hC.getP 2 rfl) hv18 i10 hi10
     obtain ⟨u16,rfl⟩:=ZNj.1 hl15
     clear hl15
     rw [Xl _ _ hi10] at hr15
     replace hC:=hC.derive 2 rfl (ZMm TInts (a0.getD i10 ZEx) [u16] fp0) (fun _=>hr15) (fun _ hb_=>hb_)
     refine bL 4 (u16) rfl rfl hM16 (fun _ hB_=>by exact Y7 (u16) (Zaq hB_ hc15) sc22 rfl) (Zb 17 31) (bM 5 (u10) rfl hM12 (Zb 17 63) (bM 6 (u0_0) rfl hM12 (Zb 17 127) (bM 7 (vI (i10:Int)) rfl hM12 (Zb 17 255) ?_)))
     obtain ⟨Ad18,c19,hv19⟩:=Zw (hC.getP 3 rfl) i10 hi10
     refine bL 8 (.pointer (some (Ad18.add (i10 * 1)))) rfl rfl hM16 (fun _ hB_=>by exact Yq (len:=a0.length) ZT8 sc22.size (by exact tr rfl hv19) rfl (ZM3 _) (ZNl.2 hi10)) (Zb 17 511) ?_
     obtain ⟨cs_,hl16,hc16,hr16⟩:=Xj (hC.getP 3 rfl) hv19 i10 hi10
     obtain ⟨u23,rfl⟩:=ZNj.1 hl16
     clear hl16
     rw [Xl _ _ hi10] at hr16
     replace hC:=hC.derive 3 rfl (ZMm TInts (a0.getD i10 ZEx) [u23] fp0) (fun _=>hr16) (fun _ hb_=>hb_)
     refine bL 9 (u23) rfl rfl hM16 (fun _ hB_=>by exact Y7 (u23) (Zaq hB_ hc16) sc22 rfl) (Zb 17 1023) (bM 10 (vI r10) rfl hM12 (Zb 17 2047) ?_)
     obtain ⟨⟨h16,h17⟩,h⟩:=h
     obtain ⟨Ad19,c20,hv20⟩:=Zw (hC.getP 0 rfl) r10.toNat (show r10.toNat < (a0.getD i10 ZEx).length by omega)
     refine bL 11 (.pointer (some (Ad19.add (r10.toNat * 1)))) rfl rfl hM16 (fun _ hB_=>by exact Yq (len:=(a0.getD i10 ZEx).length) ZM6 sc2.size (by exact tr rfl hv20) rfl h16 h17) (Zb 17 4095) (bL 12 (vI ((a0.getD i10 ZEx).getD r10.toNat ZEx)) rfl rfl hM16 (fun _ hB_=>by exact Y7 (vI ((a0.getD i10 ZEx).getD r10.toNat ZEx)) (Ye ((hC.grow hB_).getP 0 rfl) hv20 r10.toNat (show r10.toNat < (a0.getD i10 ZEx).length by omega)) sc2 rfl) (Zb 17 8191) (aO 13 rfl (Zf [u16,u10,vI ((a0.getD i10 ZEx).getD r10.toNat ZEx)] _ ZYo rfl rfl rfl (Zen (a0.getD i10 ZEx) r11 ((a0.getD i10 ZEx).getD r10.toNat ZEx) h _ (hC.getP 1 rfl) (hC.getP 3 rfl)) ?_)))
     rintro _ w27 ⟨r14,u13,f13,rfl,h,hr19,hf18,hB15⟩
     refine rt ?_
     replace hC:=hC.push hB15 (ZM4 (ZTa 2 (eI.tr)) r14 [u13] f13) hr19 hf18
     obtain ⟨ho12,hf19⟩:=Xn (hC.getM 0 rfl).1
     subst hf19
     replace hC:=hC.recast (c:=own 2 1 u13 r14.length (eI.encs r14)) (fun _ h_=>h_) (fun _=>ho12)
     refine done (aK (by assumption) (Zb 17 16383) (aO 14 rfl ?_))
     have hs19:=Yz hC 0 rfl
     replace hC:=hC.thaw 0 rfl (ZMm TInts r14 [u13] (ZNm (ZFq u13))) Y3 (fun _ hb_=>hb_)
     refine Y4 (sz:=1) hC [(0,u13)] [u13] rfl (fun _=>Zbe u13 (Zb5 (hC.getP 0 rfl)) _) rfl (by decide) fun b14 w28 hB_ hC=>?_
     have hf20:=Yz hC 0 rfl
     replace hC:=hC.thaw 0 rfl (own 22 1 (.slice (some ⟨b14,0,none⟩) 1 1) 1 [u13]) id (fun _ hb_=>hb_)
     replace hC:=hC.joinP 0 1 rfl rfl (ZMm (ZO5.sl) [r14] [.slice (some ⟨b14,0,none⟩) 1 1] ((ZNm (ZFq (.slice (some ⟨b14,0,none⟩) 1 1)))++(ZNm (ZFq u13)))) (fun a_ b_=>Zap a_ (Zdh b_)) (fun c_ hc_=>ZE4.1 hc_)
     have hs20:∀ b,b∈((ZNm (ZFq (.slice (some ⟨b14,0,none⟩) 1 1)))++(ZNm (ZFq u13)))→w0.heap.size≤b:=(fun b hb=>(ZE4.1 hb).elim (fun hb=>hf20 b hb) (fun hb=>hs19 b hb))
     refine done (aK (by assumption) (Zb 17 32767) (Zz 15 (by decide) (by decide) (by kernel_rfl) (by kernel_rfl) rfl ?_))
     obtain ⟨cs14,hd13,ha13⟩:=Zef (hC.getP 0 rfl)
     replace hC:=hC.derive 0 rfl (ZXd TInts [r14] cs14 ((ZNm (ZFq (.slice (some ⟨b14,0,none⟩) 1 1)))++(ZNm (ZFq u13)))) (fun _=>ha13) (fun _ h_=>h_)
     obtain ⟨hm16,h⟩:=h
     refine J7 hC 0 ZT8 Zbf rfl (by decide) (by decide) rfl hd13 (fun q_ hq_=>ha13.2.2.1 q_ hq_) rfl rfl hm16 fun v15 w29 hC=>?_
     replace hC:=Xb hC 0 ((s10.1++[r14]).length) (cs10++cs14) rfl (by simp) (by simp)
     have hs21:∀ b,b∈(f10++((ZNm (ZFq (.slice (some ⟨b14,0,none⟩) 1 1)))++(ZNm (ZFq u13))))→w0.heap.size≤b∨b∈(fp0++(fp1)):=(fun b hb=>(ZE4.1 hb).elim (fun hb=>hq10 b hb) (fun hb=>.inl (hs20 b hb)))
     replace hC:=hC.joinP 6 0 rfl rfl (ZXd TInts (s10.1++[r14]) (cs10++cs14) (f10++((ZNm (ZFq (.slice (some ⟨b14,0,none⟩) 1 1)))++(ZNm (ZFq u13))))) (fun a_ b_=>Zeg a_ b_) (fun c_ hc_=>ZE4.1 hc_)
     refine Zc (v:=v15) rfl (done (Z0 (Zq (Zd (Zg (Za (v:=vI (i10:Int)) rfl (Zo rfl rfl (Zc (v:=vI (ZHd.wrap ((i10:Int)+1))) rfl (done ?_)))))))))
     exact hK10 (s10.1++[r14],s10.2) _ _ ⟨v15,cs10++cs14,(f10++((ZNm (ZFq (.slice (some ⟨b14,0,none⟩) 1 1)))++(ZNm (ZFq u13)))),(sl ⟨rfl,rfl,rfl,rfl,rfl,(tr rfl (congrArg _ (Z6 hi10 hN10))),trivial⟩),hs21,(hC.sP [0,8,9,10] rfl)⟩ h
   ·clear hC h
    rintro s10 e_ w30 K10 ⟨v10,cs10,f10,hS_,hq10,hC⟩ h
    rw [ue hS_]
    refine ZMn (sr (Za (v:=vI (a0.length:Int)) rfl (Za (v:=u0_0) rfl (Zv hC 2 rfl ZT8 rfl (Zn rfl rfl (dn (Z2 rfl (decide_eq_false (by omega)) ?_)))))))
    refine ZM1 (Zh (Zh (Zy ?_)))
    refine Zd (ZMn (sr (Za (v:=.bool s10.2) rfl (Xu rfl (dn ?_)))))
    refine Zp rfl (fun hb13=>?_) (fun hb13=>?_)
    ·replace h:=ift h (Xa (X3 hb13))
     refine Zg (Za (v:=v10) rfl (Za (v:=u10) rfl (Y4 (sz:=1) hC [(0,u10)] [u10] rfl (fun _=>Zbe u10 (Zb5 (hC.getP 1 rfl)) _) rfl (by decide) fun b11 w31 hB_ hC=>?_)))
     have hf21:=Yz hC 0 rfl
     replace hC:=hC.thaw 0 rfl (own 22 1 (.slice (some ⟨b11,0,none⟩) 1 1) 1 [u10]) id (fun _ hb_=>hb_)
     replace hC:=hC.joinP 0 2 rfl rfl (ZMm (ZO5.sl) [r11] [.slice (some ⟨b11,0,none⟩) 1 1] ((ZNm (ZFq (.slice (some ⟨b11,0,none⟩) 1 1)))++(ZNm (ZFq u10)))) (fun a_ b_=>Zap a_ (Zdh b_)) (fun c_ hc_=>ZE4.1 hc_)
     have hs22:∀ b,b∈((ZNm (ZFq (.slice (some ⟨b11,0,none⟩) 1 1)))++(ZNm (ZFq u10)))→w0.heap.size≤b:=(fun b hb=>(ZE4.1 hb).elim (fun hb=>hf21 b hb) (fun hb=>hs10 b hb))
     obtain ⟨cs15,hd14,ha14⟩:=Zef (hC.getP 0 rfl)
     replace hC:=hC.derive 0 rfl (ZXd TInts [r11] cs15 ((ZNm (ZFq (.slice (some ⟨b11,0,none⟩) 1 1)))++(ZNm (ZFq u10)))) (fun _=>ha14) (fun _ h_=>h_)
     obtain ⟨hm17,h⟩:=h
     refine J7 hC 0 ZT8 Zbf rfl (by decide) (by decide) rfl hd14 (fun q_ hq_=>ha14.2.2.1 q_ hq_) rfl rfl hm17 fun v11 w32 hC=>?_
     replace hC:=Xb hC 0 ((s10.1++[r11]).length) (cs10++cs15) rfl (by simp) (by simp)
     have hs23:∀ b,b∈(f10++((ZNm (ZFq (.slice (some ⟨b11,0,none⟩) 1 1)))++(ZNm (ZFq u10))))→w0.heap.size≤b∨b∈(fp0++(fp1)):=(fun b hb=>(ZE4.1 hb).elim (fun hb=>hq10 b hb) (fun hb=>.inl (hs22 b hb)))
     replace hC:=hC.joinP 3 0 rfl rfl (ZXd TInts (s10.1++[r11]) (cs10++cs15) (f10++((ZNm (ZFq (.slice (some ⟨b11,0,none⟩) 1 1)))++(ZNm (ZFq u10))))) (fun a_ b_=>Zeg a_ b_) (fun c_ hc_=>ZE4.1 hc_)
     refine Zc (v:=v11) rfl (dn (sr (Za (v:=v11) rfl (Zc (v:=v11) rfl (dn (ZMv ?_))))))
     have hf22:=Yz hC 0 rfl
     replace hC:=hC.thaw 0 rfl (own 22 1 v11 ((s10.1++[r11]).length) (cs10++cs15)) id (fun _ hb_=>hb_)
     replace hC:=hC.joinP 0 1 rfl rfl (ZMm (ZO5.sl) (s10.1++[r11]) [v11] ((ZNm (ZFq v11))++(f10++((ZNm (ZFq (.slice (some ⟨b11,0,none⟩) 1 1)))++(ZNm (ZFq u10)))))) (fun a_ b_=>Zap a_ b_) (fun c_ hc_=>ZE4.1 hc_)
     have hs24:∀ b,b∈((ZNm (ZFq v11))++(f10++((ZNm (ZFq (.slice (some ⟨b11,0,none⟩) 1 1)))++(ZNm (ZFq u10)))))→w0.heap.size≤b∨b∈(fp0++(fp1)):=(fun b hb=>(ZE4.1 hb).elim (fun hb=>.inl (hf22 b hb)) (fun hb=>hs23 b hb))
     exact Zi rfl (Ze rfl) ⟨s10.1++[r11],v11,((ZNm (ZFq v11))++(f10++((ZNm (ZFq (.slice (some ⟨b11,0,none⟩) 1 1)))++(ZNm (ZFq u10))))),rfl,h,(hC.getP 0 rfl),(fun b hb=>hs24 b hb),hC.below⟩ (.inl rfl)
    ·replace h:=Zj h (not_not_intro ((X4 hb13)))
     refine ZMr (Zd (sr (Za (v:=v10) rfl (Zc (v:=v10) rfl (dn (ZMv ?_))))))
     have hf23:=Yz hC 0 rfl
     replace hC:=hC.thaw 0 rfl (own 22 1 v10 s10.1.length cs10) id (fun _ hb_=>hb_)
     replace hC:=hC.joinP 0 1 rfl rfl (ZMm (ZO5.sl) s10.1 [v10] ((ZNm (ZFq v10))++f10)) (fun a_ b_=>Zap a_ b_) (fun c_ hc_=>ZE4.1 hc_)
     have hs25:∀ b,b∈((ZNm (ZFq v10))++f10)→w0.heap.size≤b∨b∈(fp0++(fp1)):=(fun b hb=>(ZE4.1 hb).elim (fun hb=>.inl (hf23 b hb)) (fun hb=>hq10 b hb))
     exact Zi rfl (Ze rfl) ⟨s10.1,v10,((ZNm (ZFq v10))++f10),rfl,h,(hC.getP 0 rfl),(fun b hb=>hs25 b hb),hC.below⟩ (.inl rfl)
   ·skip
    exact⟨.slice (some ⟨b15,0,none⟩) 0 0,[],[],(slq rfl),(fun b hb=>.inl ((fun b hb=>absurd hb (by simp)) b hb)),(hC.sP [1,0,2,3] rfl)⟩
  refine Jy 2 8 rfl rfl (by kernel_rfl) ?_ ?_
  ·skip
   replace h:=h.1
   obtain ⟨hm10,h⟩:=h
   refine Zb2 (sz:=1) hC (eI.encs (ZEs ((r6.length:Int).toNat) (0:Int))) ZM6 el2 (tr rfl (congrArg (ZPb .i64) (ZPc hm10.1).symm)) (tr rfl (congrArg (ZPb .i64) (ZPc hm10.1).symm)) (by omega) (by omega) (Zbu (E:=eI) _ _) fun v16 w33 hB_ hC=>?_
   replace hC:=Xb hC 0 ((ZEs ((r6.length:Int).toNat) (0:Int)).length) (eI.encs (ZEs ((r6.length:Int).toNat) (0:Int))) rfl (by simp) rfl
   refine done (aK (by assumption) (Zb 13 255) (aO 8 rfl (Zf [vI (r6.getD r10.toNat ZEx)] _ ZY0 rfl rfl rfl (Zre (r6.getD r10.toNat ZEx) h _) ?_)))
   rintro _ w34 ⟨r20,rfl,h,hB16⟩
   refine rt ?_
   replace hC:=hC.grow hB16
   refine done (aK (by assumption) (Zb 13 511) (bF 9 (vI (ZHd.wrap (0 - r20))) rfl rfl hM13 (fun _=>by exact Zok rfl) (Zb 13 1023) (aO 10 rfl (Zf [vI (ZHd.wrap (0 - r20))] _ ZNd rfl rfl rfl (Zbc (ZHd.wrap (0 - r20)) h _) ?_))))
   rintro _ w35 ⟨r21,rfl,h,hB17⟩
   refine rt ?_
   replace hC:=hC.grow hB17
   refine done (aK (by assumption) (Zb 13 2047) (Zz 11 (by decide) (by decide) (by kernel_rfl) (by kernel_rfl) rfl (Zf [v16,u7,vI r21] _ ZYo rfl rfl rfl (Zen (ZEs ((r6.length:Int).toNat) (0:Int)) r6 r21 h _ (Y3 (hC.getM 0 rfl)) (hC.getP 0 rfl)) ?_)))
   rintro _ w36 ⟨r15,u17,f14,rfl,h,hr20,hf24,hB18⟩
   refine rt ?_
   replace hC:=hC.push hB18 (ZM4 (ZTa 2 (eI.tr)) r15 [u17] f14) hr20 hf24
   obtain ⟨ho13,hf25⟩:=Xn (hC.getM 0 rfl).1
   subst hf25
   replace hC:=hC.recast (c:=own 2 1 u17 r15.length (eI.encs r15)) (fun _ h_=>h_) (fun _=>ho13)
   refine Zc (v:=u17) rfl (done (Z0 ?_))
   exact⟨rfl,_,rfl,⟨u17,r15,(slq rfl),((hC.xM [0] rfl).sP [1,2] rfl),h⟩⟩
  ·skip
   replace h:=h.2
   refine Zf [vI (r6.getD r10.toNat ZEx)] _ ZY0 rfl rfl rfl (Zre (r6.getD r10.toNat ZEx) h _) ?_
   rintro _ w37 ⟨r19,rfl,h,hB19⟩
   refine rt ?_
   replace hC:=hC.grow hB19
   refine done (aK (by assumption) (Zb 13 507) (bF 9 (vI (ZHd.wrap (0 - r19))) rfl rfl hM13 (fun _=>by exact Zok rfl) (Zb 13 1019) ?_))
   refine Jy 2 10 rfl rfl (by kernel_rfl) ?_ ?_
   ·skip
    replace h:=h.1
    obtain ⟨hm11,h⟩:=h
    refine Zb2 (sz:=1) hC (eI.encs (ZEs ((r6.length:Int).toNat) (0:Int))) ZM6 el2 (tr rfl (congrArg (ZPb .i64) (ZPc hm11.1).symm)) (tr rfl (congrArg (ZPb .i64) (ZPc hm11.1).symm)) (by omega) (by omega) (Zbu (E:=eI) _ _) fun v17 w38 hB_ hC=>?_
    replace hC:=Xb hC 0 ((ZEs ((r6.length:Int).toNat) (0:Int)).length) (eI.encs (ZEs ((r6.length:Int).toNat) (0:Int))) rfl (by simp) rfl
    refine done (aK (by assumption) (Zb 13 1023) (aO 10 rfl (Zf [vI (ZHd.wrap (0 - r19))] _ ZNd rfl rfl rfl (Zbc (ZHd.wrap (0 - r19)) h _) ?_)))
    rintro _ w39 ⟨r22,rfl,h,hB20⟩
    refine rt ?_
    replace hC:=hC.grow hB20
    refine done (aK (by assumption) (Zb 13 2047) (Zz 11 (by decide) (by decide) (by kernel_rfl) (by kernel_rfl) rfl (Zf [v17,u7,vI r22] _ ZYo rfl rfl rfl (Zen (ZEs ((r6.length:Int).toNat) (0:Int)) r6 r22 h _ (Y3 (hC.getM 0 rfl)) (hC.getP 0 rfl)) ?_)))
    rintro _ w40 ⟨r16,u18,f15,rfl,h,hr21,hf26,hB21⟩
    refine rt ?_
    replace hC:=hC.push hB21 (ZM4 (ZTa 2 (eI.tr)) r16 [u18] f15) hr21 hf26
    obtain ⟨ho14,hf27⟩:=Xn (hC.getM 0 rfl).1
    subst hf27
    replace hC:=hC.recast (c:=own 2 1 u18 r16.length (eI.encs r16)) (fun _ h_=>h_) (fun _=>ho14)
    refine Zc (v:=u18) rfl (done (Z0 ?_))
    exact⟨rfl,_,rfl,⟨u18,r16,(slq rfl),((hC.xM [0] rfl).sP [1,2] rfl),h⟩⟩
   ·skip
    replace h:=h.2
    refine Zf [vI (ZHd.wrap (0 - r19))] _ ZNd rfl rfl rfl (Zbc (ZHd.wrap (0 - r19)) h _) ?_
    rintro _ w41 ⟨r23,rfl,h,hB22⟩
    refine rt ?_
    replace hC:=hC.grow hB22
    refine done (aK (by assumption) (Zb 13 2043) (aO 2 rfl ?_))
    obtain ⟨hm12,h⟩:=h
    refine Zb2 (sz:=1) hC (eI.encs (ZEs ((r6.length:Int).toNat) (0:Int))) ZM6 el2 (tr rfl (congrArg (ZPb .i64) (ZPc hm12.1).symm)) (tr rfl (congrArg (ZPb .i64) (ZPc hm12.1).symm)) (by omega) (by omega) (Zbu (E:=eI) _ _) fun v18 w42 hB_ hC=>?_
    replace hC:=Xb hC 0 ((ZEs ((r6.length:Int).toNat) (0:Int)).length) (eI.encs (ZEs ((r6.length:Int).toNat) (0:Int))) rfl (by simp) rfl
    refine done (aK (by assumption) (Zb 13 2047) (Zz 11 (by decide) (by decide) (by kernel_rfl) (by kernel_rfl) rfl (Zf [v18,u7,vI r23] _ ZYo rfl rfl rfl (Zen (ZEs ((r6.length:Int).toNat) (0:Int)) r6 r23 h _ (Y3 (hC.getM 0 rfl)) (hC.getP 0 rfl)) ?_)))
    rintro _ w43 ⟨r17,u19,f16,rfl,h,hr22,hf28,hB23⟩
    refine rt ?_
    replace hC:=hC.push hB23 (ZM4 (ZTa 2 (eI.tr)) r17 [u19] f16) hr22 hf28
    obtain ⟨ho15,hf29⟩:=Xn (hC.getM 0 rfl).1
    subst hf29
    replace hC:=hC.recast (c:=own 2 1 u19 r17.length (eI.encs r17)) (fun _ h_=>h_) (fun _=>ho15)
    refine Zc (v:=u19) rfl (done (Z0 ?_))
    exact⟨rfl,_,rfl,⟨u19,r17,(slq rfl),((hC.xM [0] rfl).sP [1,2] rfl),h⟩⟩
def Zh2 (a0:List (List Int)) (K:List (List Int)→Prop):Prop :=
 Yb (fun i10 (s10:(List (List Int))) nx10=>Zh1 s10 (a0.getD i10 ZEx) (fun r10=>nx10 r10)) (fun (s10:(List (List Int)))=>K s10) a0.length 0 []
theorem ZBj (a0:List (List Int))  {K:List (List Int)→Prop} (h:Zh2 a0 K) (w0:World) (q0:(ZO5.sl).rep a0 [u0_0] fp0 w0) :
  Calls ZMq 55 #[u0_0] w0 fun e w'=>∃ (r0:List (List Int)) (z0_0:Value) (fz0:List Nat),
   e=.returned (z0_0)∧K r0∧(ZO5.sl).rep r0 [z0_0] fz0 w'∧(∀ b,b∈fz0→w0.heap.size≤b∨b∈(fp0))∧Bel w0 w':=by
 unfold Zh2 at h
 refine cof Tryz.func55 rfl 19 Tryz.ntmps55 ?_
 have hC:=ZM8 (X:=Nox) w0 [ZMm (ZO5.sl) a0 [u0_0] fp0] (al1 q0)
 refine sr (Zc (v:=.slice none 0 0) rfl (dn (sr (Y4 (sz:=1) hC [] [] rfl (fun _=>Zbz _) rfl (by decide) fun b2 w3 hB_ hC=>?_))))
 replace hC:=hC.pushM0 (Yj (ZTa 2 (eI.tr)) ([]:List (List Int)) [] []) (Zat _ _) rfl
 replace hC:=hC.gather (c:=ZM4 (ZTa 22 (ZTa 2 (eI.tr))) [] [.slice (some ⟨b2,0,none⟩) 0 0] ((ZNm (ZFq (.slice (some ⟨b2,0,none⟩) 0 0)))++([]:List (List Nat)).flatten)) (fun x_ hx_=>(ZE4.1 hx_).symm) (fun h1_ h2_ hd_=>Zah h2_ h1_ (fun b_ hb_ hb2_=>hd_ b_ hb2_ hb_))
 refine Zc (v:=.slice (some ⟨b2,0,none⟩) 0 0) rfl (dn (ZMn (sr (Zc (v:=vI 0) rfl (dn (ZMt ?_))))))
 have hs5:=Zcn hC 0 rfl
 replace hC:=hC.thaw 0 rfl (ZMm (ZO5.sl) [] [.slice (some ⟨b2,0,none⟩) 0 0] ((ZNm (ZFq (.slice (some ⟨b2,0,none⟩) 0 0)))++([]:List (List Nat)).flatten)) (fun h_=>ZXe _ h_.1) (fun _ hb_=>hb_)
 have hN10:a0.length≤9223372036854775807:=Yx (hC.getP 1 rfl)
 refine Yn (S:=(List (List Int))) _ _ (fun i10 s10 e_ w_=>∃ (v10:Value),∃ (f10:List Nat),Zt e_ [(0,u0_0),(3,v10),(4,vI (i10:Int))]∧(∀ b,b∈f10→w0.heap.size≤b∨b∈(fp0))∧Ctx Nox w0 w_ [] [ZMm (ZO5.sl) s10 [v10] f10,ZMm (ZO5.sl) a0 [u0_0] fp0]) a0.length ?_ ?_ (s0:=[]) ?_ h
 ·clear hC h
  rintro i10 s10 e_ w10 nx10 K10 hi10 ⟨v10,f10,hS_,hq10,hC⟩ h hK10
  rw [ue hS_]
  refine ZMn (sr (Za (v:=vI (i10:Int)) rfl (Za (v:=u0_0) rfl (Zv hC 1 rfl ZT8 rfl (Zn rfl rfl (dn (Yc rfl (decide_eq_true (by omega)) (ZMr (Zd (ZMn (ZMt (Zg (Za (v:=v10) rfl (Za (v:=u0_0) rfl (Za (v:=vI (i10:Int)) rfl ?_)))))))))))))))
  obtain ⟨Ad10,c10,hv10⟩:=Zw (hC.getP 1 rfl) i10 hi10
  refine Yo (len:=a0.length) ZT8 sc22.size (tr rfl hv10) rfl (ZM3 _) (ZNl.2 hi10) ?_
  obtain ⟨cs_,hl10,hc10,hr10⟩:=Xj (hC.getP 1 rfl) hv10 i10 hi10
  obtain ⟨u10,rfl⟩:=ZNj.1 hl10
  clear hl10
  rw [Xl _ _ hi10] at hr10
  replace hC:=hC.derive 1 rfl (ZMm TInts (a0.getD i10 ZEx) [u10] fp0) (fun _=>hr10) (fun _ hb_=>hb_)
  refine Yl (u10) hc10 sc22 rfl (Zf [v10,u10] _ Tryz.func106 rfl rfl rfl (ZBi s10 (a0.getD i10 ZEx) h _ (hC.getP 1 rfl) (hC.getP 0 rfl)) ?_)
  rintro _ w11 ⟨r10,u11,f11,rfl,h,hr11,hf10,hB10⟩
  refine rt ?_
  have hs10:∀ b,b∈f11→w0.heap.size≤b∨b∈(fp0):=(fun b hb=>(hf10 b hb).elim (fun h_=>.inl (ZEy hC.size h_)) (fun hb=>(ZE4.1 hb).elim (fun hb=>hq10 b hb) (fun hb=>.inr hb)))
  replace hC:=hC.pushR hB10 (ZMm (ZO5.sl) r10 [u11] f11) hr11 (fun b hb=>(hf10 b hb).elim .inl (fun hb=>.inr ((ZE4.1 hb).elim (fun hb=>⟨_,mg 1 rfl,hb⟩) (fun hb=>⟨_,mg 0 rfl,hb⟩))))
  refine Zc (v:=u11) rfl (done (Zq (Zd (Zg (Za (v:=vI (i10:Int)) rfl (Zo rfl rfl (Zc (v:=vI (ZHd.wrap ((i10:Int)+1))) rfl (done ?_))))))))
  exact hK10 r10 _ _ ⟨u11,f11,(sl ⟨rfl,rfl,(tr rfl (congrArg _ (Z6 hi10 hN10))),trivial⟩),hs10,(hC.sP [0,3] rfl)⟩ h
 ·clear hC h
  rintro s10 e_ w12 K10 ⟨v10,f10,hS_,hq10,hC⟩ h
  rw [ue hS_]
  refine ZMn (sr (Za (v:=vI (a0.length:Int)) rfl (Za (v:=u0_0) rfl (Zv hC 1 rfl ZT8 rfl (Zn rfl rfl (dn (Z2 rfl (decide_eq_false (by omega)) ?_)))))))
  refine ZM1 (Zh (Zh (Zy ?_)))
  refine Zd (sr (Za (v:=v10) rfl (Zc (v:=v10) rfl (dn (ZMv ?_)))))
  exact Zi rfl (Ze rfl) ⟨s10,v10,f10,rfl,h,(hC.getP 0 rfl),(fun b hb=>hq10 b hb),hC.below⟩ (.inl rfl)
 ·skip
  exact⟨.slice (some ⟨b2,0,none⟩) 0 0,((ZNm (ZFq (.slice (some ⟨b2,0,none⟩) 0 0)))++([]:List (List Nat)).flatten),(slq rfl),(fun b hb=>.inl (hs5 b hb)),hC⟩
def Zep (a0:Vc.Form) (a1:List A8) (K:List Int→Prop):Prop :=
 ((0≤(a1.length:Int)∧(a1.length:Int) * 8≤281474976710656)∧Xh (fun (s10:(List Int)×Int×Int) nx10=>(if s10.2.2 < (a1.length:Int) then(if s10.2.1 < (a0.terms.length:Int) then((0≤s10.2.1∧s10.2.1 < (a0.terms.length:Int))∧((0≤s10.2.2∧s10.2.2 < (a1.length:Int))∧(if(a0.terms.getD s10.2.1.toNat ZEx).mono=a1.getD s10.2.2.toNat ZEx then((0≤s10.2.1∧s10.2.1 < (a0.terms.length:Int))∧((0≤s10.2.2∧s10.2.2 < (s10.1.length:Int))∧nx10 (s10.1.set s10.2.2.toNat ((a0.terms.getD s10.2.1.toNat ZEx).factor),ZHd.wrap (s10.2.1+1),ZHd.wrap (s10.2.2+1)))) else nx10 (s10.1,s10.2.1,ZHd.wrap (s10.2.2+1))))) else K s10.1) else K s10.1)) (ZEs ((a1.length:Int).toNat) (0:Int),0,0))
theorem ZBk (a0:Vc.Form) (a1:List A8)  {K:List Int→Prop} (h:Zep a0 a1 K) (w0:World) (q0:TForm.rep a0 [u0_0] fp0 w0) (q1:((EA .u8).ty.sl).rep a1 [u1_0] fp1 w0) :
  Calls ZMq 128 #[.agg #[u0_0],u1_0] w0 fun e w'=>∃ (r0:List Int) (z0_0:Value) (fz0:List Nat),
   e=.returned (z0_0)∧K r0∧(ZM4 (ZTa 2 (eI.tr)) r0 [z0_0] fz0).holds w'∧(∀ b,b∈fz0→w0.heap.size≤b)∧Bel w0 w':=by
 unfold Zep at h
 refine cof Tryz.func128 rfl 47 Tryz.ntmps128 ?_
 have hC:=ZM8 (X:=Nox) w0 [ZMm TForm a0 [u0_0] fp0,ZMm ((EA .u8).ty.sl) a1 [u1_0] fp1] (alc q0 (al1 q1))
 have hp3:=(hC.getP 0 rfl)
 replace hC:=hC.derive 0 rfl (ZMm ETerm.ty.sl a0.terms [u0_0] fp0) (fun _=>(Xi hp3)) (fun _ hb_=>hb_)
 refine sr (Yg (v:=.agg #[u0_0]) hC [u0_0] rfl rfl fun b5 w7 hB_ hC=>Zc (v:=.slice none 0 0) rfl (dn (sr (Za (v:=u1_0) rfl (Zv hC 2 rfl ZYl rfl ?_)))))
 obtain ⟨hm10,h⟩:=h
 refine Zb2 (sz:=1) hC (eI.encs (ZEs ((a1.length:Int).toNat) (0:Int))) ZM6 el2 (tr rfl (congrArg (ZPb .i64) (ZPc hm10.1).symm)) (tr rfl (congrArg (ZPb .i64) (ZPc hm10.1).symm)) (by omega) (by omega) (Zbu (E:=eI) _ _) fun v11 w10 hB_ hC=>?_
 replace hC:=Xb hC 0 ((ZEs ((a1.length:Int).toNat) (0:Int)).length) (eI.encs (ZEs ((a1.length:Int).toNat) (0:Int))) rfl (by simp) rfl
 refine Zc (v:=v11) rfl (Zc (v:=vI 0) rfl (dn (ZMn (sr (Zc (v:=vI 0) rfl (dn (ZMt ?_)))))))
 refine X2 (S:=(List Int)×Int×Int) _ (fun s10 e_ w_=>∃ (v10:Value),Zt e_ [(1,u1_0),(2,vQ b5),(5,v10),(6,vI s10.2.1),(7,vI s10.2.2)]∧Ctx Nox w0 w_ [own 2 1 v10 s10.1.length (eI.encs s10.1),blk b5 55 [u0_0]] [ZMm ETerm.ty.sl a0.terms [u0_0] fp0,ZMm TForm a0 [u0_0] fp0,ZMm ((EA .u8).ty.sl) a1 [u1_0] fp1]) ?_ (s0:=(ZEs ((a1.length:Int).toNat) (0:Int),0,0)) ?_ h
 ·clear hC h
  rintro s10 e_ w11 nx10 K10 ⟨v10,hS_,hC⟩ h hK10
  rw [ue hS_]
  refine ZMn (sr (Za (v:=vI s10.2.2) rfl (Za (v:=u1_0) rfl (Zv hC 2 rfl ZYl rfl (Zn rfl rfl (Za (v:=.bool (decide (s10.2.2 < (a1.length:Int)))) rfl ?_))))))
  refine Y5 (decide (s10.2.2 < (a1.length:Int))) (fun hb10=>?_) (fun hb10=>?_)
  ·replace h:=ift h (ct hb10)
   refine Zl 4 15 rfl rfl hb10 (Za (v:=vI s10.2.1) rfl (Zl 4 15 rfl rfl hb10 (Zu 0 ZMu rfl sc53.size rfl rfl (Zl 4 15 rfl rfl hb10 (Z5 hC 1 (u0_0) rfl sc53 rfl rfl (Zl 4 15 rfl rfl hb10 (Zv hC 0 rfl ZMx rfl (Zl 4 15 rfl rfl hb10 (Zn rfl rfl (Z3 (v:=.bool (decide (s10.2.1 < (a0.terms.length:Int)))) (b:=true) (tr rfl (congrArg _ hb10)) rfl (dn ?_)))))))))))
   refine Zp rfl (fun hb11=>?_) (fun hb11=>?_)
   ·replace h:=ift h (ct hb11)
    refine ZMr (Zd (ZMn (ZMt (ZMn ?_))))
    refine cwd 10 Yi [0,1,0,7,15,31,0,0,192,448,1023] [1,3,5,8,9] [0,2,4,6,7] (fun hM10 hM11 w12 hB_=>?_)
    replace hC:=hC.grow hB_
    refine bF 0 (vQ b5) rfl rfl hM11 (fun _=>by exact Yf 0 ZMu rfl sc53.size rfl rfl) (Zb 11 1) (bL 1 (u0_0) rfl rfl hM10 (fun _ hB_=>by exact Ya (hC.grow hB_) 1 (u0_0) rfl sc53 rfl rfl) (Zb 11 3) (bM 2 (vI s10.2.1) rfl hM11 (Zb 11 7) ?_))
    obtain ⟨⟨h10,h11⟩,h⟩:=h
    obtain ⟨Ad10,c10,hv10⟩:=Zw (hC.getP 0 rfl) s10.2.1.toNat (show s10.2.1.toNat < a0.terms.length by omega)
    refine bL 3 (.pointer (some (Ad10.add (s10.2.1.toNat * 9)))) rfl rfl hM10 (fun _ hB_=>by exact Yq (len:=a0.terms.length) ZMx ag162.size (by exact tr rfl hv10) rfl h10 h11) (Zb 11 15) (bF 4 (.pointer (some (Ad10.add (s10.2.1.toNat * 9+0)))) rfl rfl hM11 (fun _=>by exact Zao (s10.2.1.toNat * 9+0) Tryz.underlying162 rfl ag136.size rfl rfl) (Zb 11 31) (bL 5 (.agg (ZMl (ZMk .u8 ((a0.terms.getD s10.2.1.toNat ZEx).mono)))) rfl rfl hM10 (fun _ hB_=>by exact Ji (ZMk .u8 ((a0.terms.getD s10.2.1.toNat ZEx).mono)) (Jt (o:=0) (k:=8) (Ye ((hC.grow hB_).getP 0 rfl) hv10 s10.2.1.toNat (show s10.2.1.toNat < a0.terms.length by omega)) rfl) ag136 rfl rfl) (Zb 11 63) (bM 6 (u1_0) rfl hM11 (Zb 11 127) (bM 7 (vI s10.2.2) rfl hM11 (Zb 11 255) ?_))))
    obtain ⟨⟨h12,h13⟩,h⟩:=h
    obtain ⟨Ad11,c11,hv11⟩:=Zw (hC.getP 2 rfl) s10.2.2.toNat (show s10.2.2.toNat < a1.length by omega)
    refine bL 8 (.pointer (some (Ad11.add (s10.2.2.toNat * 8)))) rfl rfl hM10 (fun _ hB_=>by exact Yq (len:=a1.length) ZYl ag136.size (by exact tr rfl hv11) rfl h12 h13) (Zb 11 511) (bL 9 (.agg (ZMl (ZMk .u8 (a1.getD s10.2.2.toNat ZEx)))) rfl rfl hM10 (fun _ hB_=>by exact Ji (ZMk .u8 (a1.getD s10.2.2.toNat ZEx)) (Ye ((hC.grow hB_).getP 2 rfl) hv11 s10.2.2.toNat (show s10.2.2.toNat < a1.length by omega)) ag136 rfl rfl) (Zb 11 1023) (Zz 10 (by decide) (by decide) (by kernel_rfl) (by kernel_rfl) rfl (Zzg ZBb ZBa rfl rfl (done (Z0 (Zd ?_))))))
    refine Zp rfl (fun hb12=>?_) (fun hb12=>?_)
    ·replace h:=ift h (ct hb12)
     refine sr (Za (v:=v10) rfl (Za (v:=vI s10.2.2) rfl (Zu 0 ZMu rfl sc53.size rfl rfl (Z5 hC 1 (u0_0) rfl sc53 rfl rfl (Za (v:=vI s10.2.1) rfl ?_)))))
     obtain ⟨⟨h14,h15⟩,h⟩:=h
     obtain ⟨Ad12,c12,hv12⟩:=Zw (hC.getP 0 rfl) s10.2.1.toNat (show s10.2.1.toNat < a0.terms.length by omega)
     refine Yo (len:=a0.terms.length) ZMx ag162.size (tr rfl hv12) rfl h14 h15 (Zew (s10.2.1.toNat * 9+8) Tryz.underlying162 rfl sc2.size rfl rfl (Yl (vI ((a0.terms.getD s10.2.1.toNat ZEx).factor)) (Jt (o:=8) (k:=1) (Ye (hC.getP 0 rfl) hv12 s10.2.1.toNat (show s10.2.1.toNat < a0.terms.length by omega)) rfl) sc2 rfl ?_))
     obtain ⟨⟨h16,h17⟩,h⟩:=h
     obtain ⟨Ad13,c13,hv13⟩:=Jp (hC.getM 0 rfl) (ZPl (ZGh _) (show s10.2.2.toNat < s10.1.length by omega))
     refine Jz (s10.2.2.toNat * 1) ZM6 sc2.size (tr rfl hv13) rfl h16 h17 rfl (Zc7 (v:=vI ((a0.terms.getD s10.2.1.toNat ZEx).factor)) hC 0 [vI ((a0.terms.getD s10.2.1.toNat ZEx).factor)] (eI.encs (s10.1.set s10.2.2.toNat ((a0.terms.getD s10.2.1.toNat ZEx).factor))) rfl hv13 sc2.size rfl rfl rfl rfl rfl (by rw [Enc.encs_len]; exact Zar (sz:=1) (show s10.2.2.toNat < s10.1.length by omega)) (Zc8 _ _ _ (show s10.2.2.toNat < s10.1.length by omega)) fun w13 hC=>?_)
     replace hC:=Xb hC 0 ((s10.1.set s10.2.2.toNat ((a0.terms.getD s10.2.1.toNat ZEx).factor)).length) (eI.encs (s10.1.set s10.2.2.toNat ((a0.terms.getD s10.2.1.toNat ZEx).factor))) rfl (by simp) rfl
     refine dn (Zg (Za (v:=vI s10.2.1) rfl (Zo rfl rfl (Zc (v:=vI (ZHd.wrap (s10.2.1+1))) rfl (done (Zq (Zd (Zg (Za (v:=vI s10.2.2) rfl (Zo rfl rfl (Zc (v:=vI (ZHd.wrap (s10.2.2+1))) rfl (done ?_))))))))))))
     exact hK10 (s10.1.set s10.2.2.toNat ((a0.terms.getD s10.2.1.toNat ZEx).factor),ZHd.wrap (s10.2.1+1),ZHd.wrap (s10.2.2+1)) _ _ ⟨v10,(slq rfl),hC⟩ h
    ·replace h:=Zj h (cf hb12)
     refine ZMr (Zq (Zd (Zg (Za (v:=vI s10.2.2) rfl (Zo rfl rfl (Zc (v:=vI (ZHd.wrap (s10.2.2+1))) rfl (done ?_)))))))
     exact hK10 (s10.1,s10.2.1,ZHd.wrap (s10.2.2+1)) _ _ ⟨v10,(slq rfl),hC⟩ h
   ·replace h:=Zj h (cf hb11)
    refine ZM1 (Zh (Zh (Zy ?_)))
    refine Zd (sr (Za (v:=v10) rfl (Zc (v:=v10) rfl (dn (ZMv ?_)))))
    exact Zi rfl (Ze rfl) ⟨s10.1,v10,(ZNm (ZFq v10)),rfl,h,(Xy (hC.getM 0 rfl)),(Yz hC 0 rfl),hC.below⟩ (.inl rfl)
  ·replace h:=Zj h (cf hb10)
   refine Zm (b:=false) 4 15 rfl (tr rfl (congrArg _ hb10)) (by decide) (Zm (b:=false) 4 15 rfl (tr rfl (congrArg _ hb10)) (by decide) (Zm (b:=false) 4 15 rfl (tr rfl (congrArg _ hb10)) (by decide) (Zm (b:=false) 4 15 rfl (tr rfl (congrArg _ hb10)) (by decide) (Zm (b:=false) 4 15 rfl (tr rfl (congrArg _ hb10)) (by decide) (Z3 (v:=.bool false) (b:=false) (tr rfl (congrArg _ hb10)) rfl (dn (Z2 rfl rfl ?_)))))))
   refine ZM1 (Zh (Zh (Zy ?_)))
   refine Zd (sr (Za (v:=v10) rfl (Zc (v:=v10) rfl (dn (ZMv ?_)))))
   exact Zi rfl (Ze rfl) ⟨s10.1,v10,(ZNm (ZFq v10)),rfl,h,(Xy (hC.getM 0 rfl)),(Yz hC 0 rfl),hC.below⟩ (.inl rfl)
 ·skip
  exact⟨v11,(slq rfl),hC⟩
def Zh3 (a0:Alg) (a1:Int) (K:List (List Int)→Prop):Prop :=
 Zc1 a0.degrees a1 (fun r15=>Zc1 a0.degrees (ZHd.wrap (a1+1)) (fun r16=>Yb (fun i10 (s10:(List (List Int))) nx10=>Ju (r15.getD i10 ZEx) 1 (fun r11=>Zde (⟨a0.degrees,a0.images⟩:Alg) r11 (fun r12=>Zep r12 r16 (fun r13=>(Z7 (s10.length+1) 24∧nx10 (s10++[r13])))))) (fun (s10:(List (List Int)))=>K s10) r15.length 0 []))
theorem ZBl (a0:Alg) (a1:Int)  {K:List (List Int)→Prop} (h:Zh3 a0 a1 K) (w0:World) (q0:TAlg.rep a0 [u0_0,u0_1] fp0 w0) :
  Calls ZMq 176 #[.agg #[u0_0,u0_1],vI a1] w0 fun e w'=>∃ (r0:List (List Int)) (z0_0:Value) (fz0:List Nat),
   e=.returned (z0_0)∧K r0∧(ZM4 (ZTa 22 (ZTa 2 (eI.tr))) r0 [z0_0] fz0).holds w'∧(∀ b,b∈fz0→w0.heap.size≤b)∧Bel w0 w':=by
 unfold Zh3 at h
 refine cof Tryz.func176 rfl 38 Tryz.ntmps176 ?_
 have hC:=ZM8 (X:=Nox) w0 [ZMm TAlg a0 [u0_0,u0_1] fp0] (al1 q0)
 replace hC:=hC.dAlg 0 rfl
 refine sr (Yg (v:=.agg #[u0_0,u0_1]) hC [u0_0,u0_1] rfl rfl fun b4 w6 hB_ hC=>Zc (v:=.slice none 0 0) rfl (dn (ZMn ?_)))
 refine cwd 12 Yi [0,1,0,7,0,16,0,64,255,0,511,1535,4095] [1,5] [0,2,4,6,7,10,11] (fun hM8 hM9 w7 hB_=>?_)
 replace hC:=hC.grow hB_
 refine bF 0 (vQ b4) rfl rfl hM9 (fun _=>by exact Yf 0 ZM7 rfl sc22.size rfl rfl) (Zb 13 1) (bL 1 (u0_0) rfl rfl hM8 (fun _ hB_=>by exact Ya (hC.grow hB_) 0 (u0_0) rfl sc22 rfl rfl) (Zb 13 3) (bM 2 (vI a1) rfl hM9 (Zb 13 7) (bF 4 (vQ b4) rfl rfl hM9 (fun _=>by exact Yf 0 ZM7 rfl sc22.size rfl rfl) (Zb 13 23) (bL 5 (u0_0) rfl rfl hM8 (fun _ hB_=>by exact Ya (hC.grow hB_) 0 (u0_0) rfl sc22 rfl rfl) (Zb 13 55) (bM 6 (vI a1) rfl hM9 (Zb 13 119) (bF 7 (vI (ZHd.wrap (a1+1))) rfl rfl hM9 (fun _=>by exact Zc4 rfl rfl) (Zb 13 247) ?_))))))
 refine Zdw (fun e_ w_=>∃ (b10:Nat),∃ (u12:Value),∃ (r14:List A8),∃ (u11:Value),∃ (r10:List A8),Zt e_ [(2,vQ b4),(5,u11),(6,u12),(7,.slice (some ⟨b10,0,none⟩) 0 0)]∧Ctx Nox w0 w_ [ZM4 (ZTa 22 (ZTa 2 (eI.tr))) [] [.slice (some ⟨b10,0,none⟩) 0 0] ((ZNm (ZFq (.slice (some ⟨b10,0,none⟩) 0 0)))++([]:List (List Nat)).flatten),own 136 8 u12 r14.length ((EA .u8).encs r14),own 136 8 u11 r10.length ((EA .u8).encs r10),blk b4 32 [u0_0,u0_1]] [ZMm TForm.sl a0.images [u0_1] fp0,ZMm TInts a0.degrees [u0_0] fp0,ZMm TAlg a0 [u0_0,u0_1] fp0]∧(Yb (fun i10 (s10:(List (List Int))) nx10=>Ju (r10.getD i10 ZEx) 1 (fun r11=>Zde (⟨a0.degrees,a0.images⟩:Alg) r11 (fun r12=>Zep r12 r14 (fun r13=>(Z7 (s10.length+1) 24∧nx10 (s10++[r13])))))) (fun (s10:(List (List Int)))=>K s10) r10.length 0 [])) ?_ ?_
 ·clear hC h
  rintro e_ w10 ⟨b10,u12,r14,u11,r10,hS_,hC,h⟩
  rw [ue hS_]
  refine Zd (ZMn (sr (Zc (v:=vI 0) rfl (dn (ZMt ?_)))))
  have hN10:r10.length≤9223372036854775807:=Zis (hC.getM 2 rfl)
  refine Yn (S:=(List (List Int))) _ _ (fun i10 s10 e_ w_=>∃ (v10:Value),∃ (f10:List Nat),Zt e_ [(2,vQ b4),(5,u11),(6,u12),(7,v10),(8,vI (i10:Int))]∧Ctx Nox w0 w_ [ZM4 (ZTa 22 (ZTa 2 (eI.tr))) s10 [v10] f10,own 136 8 u12 r14.length ((EA .u8).encs r14),own 136 8 u11 r10.length ((EA .u8).encs r10),blk b4 32 [u0_0,u0_1]] [ZMm TForm.sl a0.images [u0_1] fp0,ZMm TInts a0.degrees [u0_0] fp0,ZMm TAlg a0 [u0_0,u0_1] fp0]) r10.length ?_ ?_ (s0:=[]) ?_ h
  ·clear hC h
   rintro i10 s10 e_ w11 nx10 K10 hi10 ⟨v10,f10,hS_,hC⟩ h hK10
   rw [ue hS_]
   refine ZMn (sr (Za (v:=vI (i10:Int)) rfl (Za (v:=u11) rfl (Zb7 hC 2 rfl ZYl rfl (Zn rfl rfl (dn (Yc rfl (decide_eq_true (by omega)) (ZMr (Zd (ZMn (ZMt ?_)))))))))))
   refine cwd 11 Yi [0,0,0,0,12,28,60,126,0,510,1022,2047,4095] [1,4,5] [0,2,3,8] (fun hM11 hM10 w12 hB_=>?_)
   replace hC:=hC.grow hB_
   refine bM 0 (v10) rfl hM10 (Zb 13 1) (bL 1 (.agg #[u0_0,u0_1]) rfl rfl hM11 (fun _ hB_=>by exact Xf (hC.grow hB_) 3 [u0_0,u0_1] rfl ag32 rfl rfl rfl) (Zb 13 3) (bM 2 (u11) rfl hM10 (Zb 13 7) (bM 3 (vI (i10:Int)) rfl hM10 (Zb 13 15) ?_)))
   obtain ⟨Ad10,c10,hv10⟩:=Jp (hC.getM 2 rfl) (ZPl (ZGh _) hi10)
   refine bL 4 (.pointer (some ⟨Ad10,i10 * 8,none⟩)) rfl rfl hM11 (fun _ hB_=>by exact Zba (i10 * 8) ZYl ag136.size (by exact tr rfl hv10) rfl (ZM3 _) (ZNl.2 hi10) rfl) (Zb 13 31) (bL 5 (.agg (ZMl (ZMk .u8 (r10.getD i10 ZEx)))) rfl rfl hM11 (fun _ hB_=>by exact Ji (ZMk .u8 (r10.getD i10 ZEx)) (Zb3 ((hC.grow hB_).getM 2 rfl) hv10 i10 hi10) ag136 rfl rfl) (Zb 13 63) (bM 8 (u12) rfl hM10 (Zb 13 319) (aO 6 rfl (Zf [.agg (ZMl (ZMk .u8 (r10.getD i10 ZEx))),vI 1] _ Tryz.func95 rfl rfl rfl (Zd4 (r10.getD i10 ZEx) 1 h _) ?_))))
   rintro _ w13 ⟨r11,u13,f11,rfl,h,hr10,hf10,hB10⟩
   refine rt ?_
   replace hC:=hC.push hB10 (ZM4 (Yt 162) r11 [u13] f11) hr10 hf10
   obtain ⟨ho10,hf11⟩:=Jk (hC.getM 0 rfl)
   subst hf11
   replace hC:=hC.recast (c:=own 162 9 u13 r11.terms.length (ETerm.encs r11.terms)) (fun _ h_=>h_) (fun _=>ho10)
   refine done (aK (by assumption) (Zb 13 383) (aO 7 rfl (Zf [.agg #[u0_0,u0_1],.agg #[u13]] _ Tryz.func71 rfl rfl rfl (Zpm (⟨a0.degrees,a0.images⟩:Alg) r11 h _ (Xs (hC.getP 1 rfl) (hC.getP 0 rfl)) (Yy (Y3 (hC.getM 0 rfl)))) ?_)))
   rintro _ w14 ⟨r12,u14,f12,rfl,h,hr11,hf12,hB11⟩
   refine rt ?_
   replace hC:=hC.push hB11 (ZM4 (Yt 162) r12 [u14] f12) hr11 hf12
   obtain ⟨ho11,hf13⟩:=Jk (hC.getM 0 rfl)
   subst hf13
   replace hC:=hC.recast (c:=own 162 9 u14 r12.terms.length (ETerm.encs r12.terms)) (fun _ h_=>h_) (fun _=>ho11)
   refine done (aK (by assumption) (Zb 13 511) (aO 9 rfl (Zf [.agg #[u14],u12] _ Tryz.func128 rfl rfl rfl (ZBk r12 r14 h _ (Yy (Y3 (hC.getM 0 rfl))) (Y3 (hC.getM 3 rfl))) ?_)))
   rintro _ w15 ⟨r13,u10,f13,rfl,h,hr12,hf14,hB12⟩
   refine rt ?_
   replace hC:=hC.push hB12 (ZM4 (ZTa 2 (eI.tr)) r13 [u10] f13) hr12 hf14
   obtain ⟨ho12,hf15⟩:=Xn (hC.getM 0 rfl).1
   subst hf15
   replace hC:=hC.recast (c:=own 2 1 u10 r13.length (eI.encs r13)) (fun _ h_=>h_) (fun _=>ho12)
   refine done (aK (by assumption) (Zb 13 1023) (aO 10 rfl (Y4 (sz:=1) hC [(0,u10)] [u10] rfl (fun _=>Zbe u10 (Ze7 (hC.getM 0 rfl)) _) rfl (by decide) fun b11 w16 hB_ hC=>?_)))
   replace hC:=hC.pushM0 (Yj (ZTa 2 (eI.tr)) [] [] []) (Zat _ _) rfl
   replace hC:=hC.sM [2,0,1,3,4,5,6,7,8] (M':=[own 2 1 u10 r13.length (eI.encs r13),Yj (ZTa 2 (eI.tr)) [] [] [],own 22 1 (.slice (some ⟨b11,0,none⟩) 1 1) 1 [u10],own 162 9 u14 r12.terms.length (ETerm.encs r12.terms),own 162 9 u13 r11.terms.length (ETerm.encs r11.terms),ZM4 (ZTa 22 (ZTa 2 (eI.tr))) s10 [v10] f10,own 136 8 u12 r14.length ((EA .u8).encs r14),own 136 8 u11 r10.length ((EA .u8).encs r10),blk b4 32 [u0_0,u0_1]]) (by decide) rfl
   replace hC:=hC.gather (c:=Yj (ZTa 2 (eI.tr)) [r13] [u10] [(ZNm (ZFq u10))]) (fun x_ hx_=>Zgi hx_) (fun h1_ h2_ hd_=>Ze6 (c:=[u10]) (id (Xy h1_)) h2_ hd_)
   replace hC:=hC.sM [1,0,2,3,4,5,6,7] (M':=[own 22 1 (.slice (some ⟨b11,0,none⟩) 1 1) 1 [u10],Yj (ZTa 2 (eI.tr)) [r13] [u10] [(ZNm (ZFq u10))],own 162 9 u14 r12.terms.length (ETerm.encs r12.terms),own 162 9 u13 r11.terms.length (ETerm.encs r11.terms),ZM4 (ZTa 22 (ZTa 2 (eI.tr))) s10 [v10] f10,own 136 8 u12 r14.length ((EA .u8).encs r14),own 136 8 u11 r10.length ((EA .u8).encs r10),blk b4 32 [u0_0,u0_1]]) (by decide) rfl
   replace hC:=hC.gather (c:=ZM4 (ZTa 22 (ZTa 2 (eI.tr))) [r13] [.slice (some ⟨b11,0,none⟩) 1 1] ((ZNm (ZFq (.slice (some ⟨b11,0,none⟩) 1 1)))++([(ZNm (ZFq u10))]:List (List Nat)).flatten)) (fun x_ hx_=>ZE4.1 hx_) (fun h1_ h2_ hd_=>Zah h1_ h2_ hd_)
   refine done (aK (by assumption) (Zb 13 2047) (Zz 11 (by decide) (by decide) (by kernel_rfl) (by kernel_rfl) rfl ?_))
   replace hC:=hC.sM [3,0,1,2,4,5,6] (M':=[ZM4 (ZTa 22 (ZTa 2 (eI.tr))) s10 [v10] f10,ZM4 (ZTa 22 (ZTa 2 (eI.tr))) [r13] [.slice (some ⟨b11,0,none⟩) 1 1] ((ZNm (ZFq (.slice (some ⟨b11,0,none⟩) 1 1)))++([(ZNm (ZFq u10))]:List (List Nat)).flatten),own 162 9 u14 r12.terms.length (ETerm.encs r12.terms),own 162 9 u13 r11.terms.length (ETerm.encs r11.terms),own 136 8 u12 r14.length ((EA .u8).encs r14),own 136 8 u11 r10.length ((EA .u8).encs r10),blk b4 32 [u0_0,u0_1]]) (by decide) rfl
   obtain ⟨hm10,h⟩:=h
   refine Zgh hC ZT8 Zbf rfl (by decide) (by decide) rfl rfl hm10 fun v11 f14 w17 hC=>Zc (v:=v11) rfl (done (Z0 (Zq (Zd (Zg (Za (v:=vI (i10:Int)) rfl (Zo rfl rfl (Zc (v:=vI (ZHd.wrap ((i10:Int)+1))) rfl (done ?_)))))))))
   exact hK10 (s10++[r13]) _ _ ⟨v11,f14,(sl ⟨rfl,rfl,rfl,rfl,(tr rfl (congrArg _ (Z6 hi10 hN10))),trivial⟩),(hC.xM [0,3,4,5] rfl)⟩ h
  ·clear hC h
   rintro s10 e_ w18 K10 ⟨v10,f10,hS_,hC⟩ h
   rw [ue hS_]
   refine ZMn (sr (Za (v:=vI (r10.length:Int)) rfl (Za (v:=u11) rfl (Zb7 hC 2 rfl ZYl rfl (Zn rfl rfl (dn (Z2 rfl (decide_eq_false (by omega)) ?_)))))))
   refine ZM1 (Zh (Zh (Zy ?_)))
   refine Zd (sr (Za (v:=v10) rfl (Zc (v:=v10) rfl (dn (ZMv ?_)))))
   exact Zi rfl (Ze rfl) ⟨s10,v10,f10,rfl,h,(hC.getM 0 rfl),(Zcn hC 0 rfl),hC.below⟩ (.inl rfl)
  ·skip
   exact⟨.slice (some ⟨b10,0,none⟩) 0 0,((ZNm (ZFq (.slice (some ⟨b10,0,none⟩) 0 0)))++([]:List (List Nat)).flatten),(slq rfl),hC⟩
 refine Jy 3 9 rfl rfl (by kernel_rfl) ?_ ?_
 ·skip
  refine Zf [u0_0,vI a1] _ ZYn rfl rfl rfl (Zem a0.degrees a1 h _ (hC.getP 1 rfl)) ?_
  rintro _ w19 ⟨r15,u15,f15,rfl,h,hr13,hf16,hB13⟩
  refine rt ?_
  replace hC:=hC.push hB13 (ZM4 (ZTa 136 ((EA .u8).tr)) r15 [u15] f15) hr13 hf16
  obtain ⟨ho13,hf17⟩:=Xn (hC.getM 0 rfl).1
  subst hf17
  replace hC:=hC.recast (c:=own 136 8 u15 r15.length ((EA .u8).encs r15)) (fun _ h_=>h_) (fun _=>ho13)
  refine done (aK (by assumption) (Zb 13 255) ?_)
  refine Jy 8 9 rfl rfl (by kernel_rfl) ?_ ?_
  ·skip
   refine Zf [u0_0,vI (ZHd.wrap (a1+1))] _ ZYn rfl rfl rfl (Zem a0.degrees (ZHd.wrap (a1+1)) h _ (hC.getP 1 rfl)) ?_
   rintro _ w20 ⟨r16,u16,f16,rfl,h,hr14,hf18,hB14⟩
   refine rt ?_
   replace hC:=hC.push hB14 (ZM4 (ZTa 136 ((EA .u8).tr)) r16 [u16] f16) hr14 hf18
   obtain ⟨ho14,hf19⟩:=Xn (hC.getM 0 rfl).1
   subst hf19
   replace hC:=hC.recast (c:=own 136 8 u16 r16.length ((EA .u8).encs r16)) (fun _ h_=>h_) (fun _=>ho14)
   refine done (aK (by assumption) (Zb 13 511) (bA 10 (u15) rfl hM9 (Zb 13 1535) (bA 11 (u16) rfl hM9 (Zb 13 3583) (aO 9 rfl (Y4 (sz:=1) hC [] [] rfl (fun _=>Zbz _) rfl (by decide) fun b12 w21 hB_ hC=>?_)))))
   replace hC:=hC.pushM0 (Yj (ZTa 2 (eI.tr)) ([]:List (List Int)) [] []) (Zat _ _) rfl
   replace hC:=hC.gather (c:=ZM4 (ZTa 22 (ZTa 2 (eI.tr))) [] [.slice (some ⟨b12,0,none⟩) 0 0] ((ZNm (ZFq (.slice (some ⟨b12,0,none⟩) 0 0)))++([]:List (List Nat)).flatten)) (fun x_ hx_=>(ZE4.1 hx_).symm) (fun h1_ h2_ hd_=>Zah h2_ h1_ (fun b_ hb_ hb2_=>hd_ b_ hb2_ hb_))
   refine done (aK (by assumption) (Zb 13 4095) (Zz 12 (by decide) (by decide) (by kernel_rfl) (by kernel_rfl) rfl (Zc (v:=.slice (some ⟨b12,0,none⟩) 0 0) rfl (done (Z0 ?_)))))
   exact⟨rfl,_,rfl,⟨b12,u16,r16,u15,r15,(slq rfl),hC,h⟩⟩
  ·skip
   refine Y4 (sz:=1) hC [] [] rfl (fun _=>Zbz _) rfl (by decide) fun b13 w22 hB_ hC=>?_
   replace hC:=hC.pushM0 (Yj (ZTa 2 (eI.tr)) ([]:List (List Int)) [] []) (Zat _ _) rfl
   replace hC:=hC.gather (c:=ZM4 (ZTa 22 (ZTa 2 (eI.tr))) [] [.slice (some ⟨b13,0,none⟩) 0 0] ((ZNm (ZFq (.slice (some ⟨b13,0,none⟩) 0 0)))++([]:List (List Nat)).flatten)) (fun x_ hx_=>(ZE4.1 hx_).symm) (fun h1_ h2_ hd_=>Zah h2_ h1_ (fun b_ hb_ hb2_=>hd_ b_ hb2_ hb_))
   refine done (aK (by assumption) (Zb 13 767) (aO 8 rfl (Zf [u0_0,vI (ZHd.wrap (a1+1))] _ ZYn rfl rfl rfl (Zem a0.degrees (ZHd.wrap (a1+1)) h _ (hC.getP 1 rfl)) ?_)))
   rintro _ w23 ⟨r17,u17,f17,rfl,h,hr15,hf20,hB15⟩
   refine rt ?_
   replace hC:=hC.push hB15 (ZM4 (ZTa 136 ((EA .u8).tr)) r17 [u17] f17) hr15 hf20
   obtain ⟨ho15,hf21⟩:=Xn (hC.getM 0 rfl).1
   subst hf21
   replace hC:=hC.recast (c:=own 136 8 u17 r17.length ((EA .u8).encs r17)) (fun _ h_=>h_) (fun _=>ho15)
   refine done (aK (by assumption) (Zb 13 1023) (bA 10 (u15) rfl hM9 (Zb 13 2047) (bA 11 (u17) rfl hM9 (Zb 13 4095) (Zz 12 (by decide) (by decide) (by kernel_rfl) (by kernel_rfl) rfl (Zc (v:=.slice (some ⟨b13,0,none⟩) 0 0) rfl (done (Z0 ?_)))))))
   exact⟨rfl,_,rfl,⟨b13,u17,r17,u15,r15,(slq rfl),(hC.xM [1,0,2,3] rfl),h⟩⟩
 ·skip
  refine Y4 (sz:=1) hC [] [] rfl (fun _=>Zbz _) rfl (by decide) fun b14 w24 hB_ hC=>?_
  replace hC:=hC.pushM0 (Yj (ZTa 2 (eI.tr)) ([]:List (List Int)) [] []) (Zat _ _) rfl
  replace hC:=hC.gather (c:=ZM4 (ZTa 22 (ZTa 2 (eI.tr))) [] [.slice (some ⟨b14,0,none⟩) 0 0] ((ZNm (ZFq (.slice (some ⟨b14,0,none⟩) 0 0)))++([]:List (List Nat)).flatten)) (fun x_ hx_=>(ZE4.1 hx_).symm) (fun h1_ h2_ hd_=>Zah h2_ h1_ (fun b_ hb_ hb2_=>hd_ b_ hb2_ hb_))
  refine done (aK (by assumption) (Zb 13 759) (aO 3 rfl (Zf [u0_0,vI a1] _ ZYn rfl rfl rfl (Zem a0.degrees a1 h _ (hC.getP 1 rfl)) ?_)))
  rintro _ w25 ⟨r18,u18,f18,rfl,h,hr16,hf22,hB16⟩
  refine rt ?_
  replace hC:=hC.push hB16 (ZM4 (ZTa 136 ((EA .u8).tr)) r18 [u18] f18) hr16 hf22
  obtain ⟨ho16,hf23⟩:=Xn (hC.getM 0 rfl).1
  subst hf23
  replace hC:=hC.recast (c:=own 136 8 u18 r18.length ((EA .u8).encs r18)) (fun _ h_=>h_) (fun _=>ho16)
  refine done (aK (by assumption) (Zb 13 767) (aO 8 rfl (Zf [u0_0,vI (ZHd.wrap (a1+1))] _ ZYn rfl rfl rfl (Zem a0.degrees (ZHd.wrap (a1+1)) h _ (hC.getP 1 rfl)) ?_)))
  rintro _ w26 ⟨r19,u19,f19,rfl,h,hr17,hf24,hB17⟩
  refine rt ?_
  replace hC:=hC.push hB17 (ZM4 (ZTa 136 ((EA .u8).tr)) r19 [u19] f19) hr17 hf24
  obtain ⟨ho17,hf25⟩:=Xn (hC.getM 0 rfl).1
  subst hf25
  replace hC:=hC.recast (c:=own 136 8 u19 r19.length ((EA .u8).encs r19)) (fun _ h_=>h_) (fun _=>ho17)
  refine done (aK (by assumption) (Zb 13 1023) (bA 10 (u18) rfl hM9 (Zb 13 2047) (bA 11 (u19) rfl hM9 (Zb 13 4095) (Zz 12 (by decide) (by decide) (by kernel_rfl) (by kernel_rfl) rfl (Zc (v:=.slice (some ⟨b14,0,none⟩) 0 0) rfl (done (Z0 ?_)))))))
  exact⟨rfl,_,rfl,⟨b14,u19,r19,u18,r18,(slq rfl),(hC.xM [2,0,1,3] rfl),h⟩⟩
def Zfp (a0:Alg) (a1:Int) (K:Int→Prop):Prop :=
 (if a1 < 0 then K 0 else Zh3 a0 a1 (fun r10=>Zh2 r10 (fun r11=>K (r11.length:Int))))
theorem ZBm (a0:Alg) (a1:Int)  {K:Int→Prop} (h:Zfp a0 a1 K) (w0:World) (q0:TAlg.rep a0 [u0_0,u0_1] fp0 w0) :
  Calls ZMq 146 #[.agg #[u0_0,u0_1],vI a1] w0 fun e w'=>∃ (r0:Int),
   e=.returned (vI r0)∧K r0∧Bel w0 w':=by
 unfold Zfp at h
 refine cof Tryz.func146 rfl 12 Tryz.ntmps146 ?_
 have hC:=ZM8 (X:=Nox) w0 [ZMm TAlg a0 [u0_0,u0_1] fp0] (al1 q0)
 replace hC:=hC.dAlg 0 rfl
 refine sr (Yg (v:=.agg #[u0_0,u0_1]) hC [u0_0,u0_1] rfl rfl fun b4 w6 hB_ hC=>Zc (v:=vI 0) rfl (dn (ZMn (sr (Za (v:=vI a1) rfl (Zn rfl rfl (dn ?_)))))))
 refine Zp rfl (fun hb7=>?_) (fun hb7=>?_)
 ·replace h:=ift h (ct hb7)
  refine sr (Zc (v:=vI 0) rfl (dn ?_))
  refine ZMv (Zk ?_)
  exact Zi rfl (Ze rfl) ⟨0,rfl,h,hC.below⟩ (.inl rfl)
 ·replace h:=Zj h (cf hb7)
  refine ZMr (Zd (sr (Yp hC 0 [u0_0,u0_1] rfl ag32 rfl rfl rfl (Za (v:=vI a1) rfl (Zf [.agg #[u0_0,u0_1],vI a1] _ Tryz.func176 rfl rfl rfl (ZBl a0 a1 h _ (Xs (hC.getP 1 rfl) (hC.getP 0 rfl))) ?_)))))
  rintro _ w10 ⟨r10,u10,f10,rfl,h,hr10,hf11,hB10⟩
  refine rt ?_
  replace hC:=hC.push hB10 (ZM4 (ZTa 22 (ZTa 2 (eI.tr))) r10 [u10] f10) hr10 hf11
  have hs10:=Zcn hC 0 rfl
  replace hC:=hC.thaw 0 rfl (ZMm (ZO5.sl) r10 [u10] f10) (fun h_=>ZXe _ h_.1) (fun _ hb_=>hb_)
  refine Zf [u10] _ Tryz.func55 rfl rfl rfl (ZBj r10 h _ (hC.getP 0 rfl)) ?_
  rintro _ w11 ⟨r11,u11,f11,rfl,h,hr11,hf10,hB11⟩
  refine rt ?_
  have hs11:∀ b,b∈f11→w0.heap.size≤b:=(fun b hb=>(hf10 b hb).elim (fun h_=>ZEy hC.size h_) (fun hb=>hs10 b hb))
  replace hC:=hC.pushR hB11 (ZMm (ZO5.sl) r11 [u11] f11) hr11 (fun b hb=>(hf10 b hb).elim .inl (fun hb=>.inr (⟨_,mg 0 rfl,hb⟩)))
  refine Zv hC 0 rfl ZT8 rfl (Zc (v:=vI (r11.length:Int)) rfl (dn (ZMv ?_)))
  exact Zi rfl (Ze rfl) ⟨(r11.length:Int),rfl,h,hC.below⟩ (.inl rfl)
def Zj6 (a0:Alg) (a1:Int) (K:List Int→Int→Prop):Prop :=
 Zj5 a0 a1 (fun r12=>(if r12≠0 then K [] r12 else Xh (fun (s10:(List Int)×Int×Int) nx10=>(if s10.2.2≤a1 then Zfp (⟨a0.degrees,a0.images⟩:Alg) s10.2.2 (fun r10=>Zc1 a0.degrees s10.2.2 (fun r11=>(Z7 (s10.1.length+1) 8∧nx10 (s10.1++[ZHd.wrap ((ZHd.wrap ((r11.length:Int) - r10)) - s10.2.1)],r10,ZHd.wrap (s10.2.2+1))))) else K s10.1 0)) ([],0,0)))
theorem ZBn (a0:Alg) (a1:Int)  {K:List Int→Int→Prop} (h:Zj6 a0 a1 K) (w0:World) (q0:TAlg.rep a0 [u0_0,u0_1] fp0 w0) :
  Calls ZMq 88 #[.agg #[u0_0,u0_1],vI a1] w0 fun e w'=>∃ (r0:List Int) (z0_0:Value) (fz0:List Nat) (r1:Int),
   e=.returned (.tuple #[z0_0,vI r1])∧K r0 r1∧(ZM4 (ZTa 2 (eI.tr)) r0 [z0_0] fz0).holds w'∧(∀ b,b∈fz0→w0.heap.size≤b)∧Bel w0 w':=by
 unfold Zj6 at h
 refine cof Tryz.func88 rfl 40 Tryz.ntmps88 ?_
 have hC:=ZM8 (X:=Nox) w0 [ZMm TAlg a0 [u0_0,u0_1] fp0] (al1 q0)
 replace hC:=hC.dAlg 0 rfl
 refine sr (Yg (v:=.agg #[u0_0,u0_1]) hC [u0_0,u0_1] rfl rfl fun b4 w6 hB_ hC=>Zc (v:=.slice none 0 0) rfl (Zc (v:=vI 0) rfl (dn (ZMn (sr (Yp hC 0 [u0_0,u0_1] rfl ag32 rfl rfl rfl (Za (v:=vI a1) rfl (Zf [.agg #[u0_0,u0_1],vI a1] _ Tryz.func145 rfl rfl rfl (ZBg a0 a1 h _ (Xs (hC.getP 1 rfl) (hC.getP 0 rfl))) ?_))))))))
 rintro _ w9 ⟨r12,rfl,h,hB10⟩
 refine rt ?_
 replace hC:=hC.grow hB10
 refine Zc (v:=vI r12) rfl (dn (sr (Za (v:=vI r12) rfl (Y2 rfl rfl (dn ?_)))))
 refine Zp rfl (fun hb10=>?_) (fun hb10=>?_)
 ·replace h:=ift h (ct hb10)
  refine sr (Za (v:=vI r12) rfl (Zc (v:=.slice none 0 0) rfl (Zc (v:=vI r12) rfl (dn ?_))))
  refine ZMv (Zk ?_)
  exact Ja rfl (Ze rfl) (Ze rfl) ⟨[],.slice none 0 0,[],r12,rfl,h,(Zda _ _ _),(fun b hb=>absurd hb (by simp)),hC.below⟩ (.inl rfl)
 ·replace h:=Zj h (cf hb10)
  refine ZMr (Zd (sr (Y4 (sz:=1) hC [] (eI.encs []) rfl (fun _=>Zm0  _) rfl (by decide) fun b10 w10 hB_ hC=>Zc (v:=.slice (some ⟨b10,0,none⟩) 0 0) rfl (Zc (v:=vI 0) rfl (dn (ZMn (sr (Zc (v:=vI 0) rfl (dn (ZMt ?_))))))))))
  refine X2 (S:=(List Int)×Int×Int) _ (fun s10 e_ w_=>∃ (v10:Value),Zt e_ [(1,vI a1),(2,vQ b4),(7,v10),(8,vI s10.2.1),(9,vI s10.2.2)]∧Ctx Nox w0 w_ [own 2 1 v10 s10.1.length (eI.encs s10.1),blk b4 32 [u0_0,u0_1]] [ZMm TForm.sl a0.images [u0_1] fp0,ZMm TInts a0.degrees [u0_0] fp0,ZMm TAlg a0 [u0_0,u0_1] fp0]) ?_ (s0:=([],0,0)) ?_ h
  ·clear hC h
   rintro s10 e_ w11 nx10 K10 ⟨v10,hS_,hC⟩ h hK10
   rw [ue hS_]
   refine ZMn (sr (Za (v:=vI s10.2.2) rfl (Za (v:=vI a1) rfl (Zbt rfl rfl (dn ?_)))))
   refine Zp rfl (fun hb11=>?_) (fun hb11=>?_)
   ·replace h:=ift h (ct hb11)
    refine ZMr (Zd (ZMn (ZMt (sr (Yp hC 1 [u0_0,u0_1] rfl ag32 rfl rfl rfl (Za (v:=vI s10.2.2) rfl (Zf [.agg #[u0_0,u0_1],vI s10.2.2] _ Tryz.func146 rfl rfl rfl (ZBm (⟨a0.degrees,a0.images⟩:Alg) s10.2.2 h _ (Xs (hC.getP 1 rfl) (hC.getP 0 rfl))) ?_)))))))
    rintro _ w12 ⟨r10,rfl,h,hB11⟩
    refine rt ?_
    replace hC:=hC.grow hB11
    refine Zc (v:=vI r10) rfl (dn (sr (Za (v:=v10) rfl (Zu 0 ZM7 rfl sc22.size rfl rfl (Z5 hC 1 (u0_0) rfl sc22 rfl rfl (Za (v:=vI s10.2.2) rfl (Zf [u0_0,vI s10.2.2] _ ZYn rfl rfl rfl (Zem a0.degrees s10.2.2 h _ (hC.getP 1 rfl)) ?_)))))))
    rintro _ w13 ⟨r11,u10,f10,rfl,h,hr10,hf10,hB12⟩
    refine rt ?_
    replace hC:=hC.push hB12 (ZM4 (ZTa 136 ((EA .u8).tr)) r11 [u10] f10) hr10 hf10
    obtain ⟨ho10,hf11⟩:=Xn (hC.getM 0 rfl).1
    subst hf11
    replace hC:=hC.recast (c:=own 136 8 u10 r11.length ((EA .u8).encs r11)) (fun _ h_=>h_) (fun _=>ho10)
    refine Zb7 hC 0 rfl ZYl rfl (Za (v:=vI r10) rfl (Jx rfl rfl (Za (v:=vI s10.2.1) rfl (Jx rfl rfl (Y4 (sz:=1) hC [(0,vI (ZHd.wrap ((ZHd.wrap ((r11.length:Int) - r10)) - s10.2.1)))] (eI.encs [ZHd.wrap ((ZHd.wrap ((r11.length:Int) - r10)) - s10.2.1)]) rfl (fun _=>Zrd (ZHd.wrap ((ZHd.wrap ((r11.length:Int) - r10)) - s10.2.1)) _) rfl (by decide) fun b11 w14 hB_ hC=>?_)))))
    obtain ⟨hm10,h⟩:=h
    refine J7 hC 2 ZM6 el2 rfl (by decide) (by decide) rfl (Za7 (hC.getM 0 rfl)) (fun q hq=>ZNq (E:=eI) _ q hq) rfl rfl hm10 fun v11 w15 hC=>?_
    replace hC:=Xb hC 2 ((s10.1++[ZHd.wrap ((ZHd.wrap ((r11.length:Int) - r10)) - s10.2.1)]).length) (eI.encs (s10.1++[ZHd.wrap ((ZHd.wrap ((r11.length:Int) - r10)) - s10.2.1)])) rfl (by simp) (by first | (simp [ZNf]; done) | simp [ZNf,Enc.encs])
    refine Zc (v:=v11) rfl (dn (Zg (Za (v:=vI r10) rfl (Zc (v:=vI r10) rfl (done (Zq (Zd (Zg (Za (v:=vI s10.2.2) rfl (Zo rfl rfl (Zc (v:=vI (ZHd.wrap (s10.2.2+1))) rfl (done ?_))))))))))))
    exact hK10 (s10.1++[ZHd.wrap ((ZHd.wrap ((r11.length:Int) - r10)) - s10.2.1)],r10,ZHd.wrap (s10.2.2+1)) _ _ ⟨v11,(slq rfl),(hC.xM [2,3] rfl)⟩ h
   ·replace h:=Zj h (cf hb11)
    refine ZM1 (Zh (Zh (Zy ?_)))
    refine Zd (sr (Za (v:=v10) rfl (Zc (v:=v10) rfl (Zc (v:=vI 0) rfl (dn (ZMv ?_))))))
    exact Ja rfl (Ze rfl) (Ze rfl) ⟨s10.1,v10,(ZNm (ZFq v10)),0,rfl,h,(Xy (hC.getM 0 rfl)),(Yz hC 0 rfl),hC.below⟩ (.inl rfl)
  ·skip
   exact⟨.slice (some ⟨b10,0,none⟩) 0 0,(slq rfl),hC⟩
def Zh4 (a0:Alg) (a1:Int) (K:Int→Int→Prop):Prop :=
 Zj6 a0 a1 (fun r10 r11=>(if r11≠0 then K 0 r11 else Yb (fun i10 (s10:Int×Int) nx10=>nx10 (ZHd.wrap (s10.1+(ZHd.wrap (s10.2 * (r10.getD i10 ZEx)))),ZHd.wrap (0 - s10.2))) (fun (s10:Int×Int)=>K s10.1 0) r10.length 0 (0,1)))
theorem ZBo (a0:Alg) (a1:Int)  {K:Int→Int→Prop} (h:Zh4 a0 a1 K) (w0:World) (q0:TAlg.rep a0 [u0_0,u0_1] fp0 w0) :
  Calls ZMq 33 #[.agg #[u0_0,u0_1],vI a1] w0 fun e w'=>∃ (r0:Int) (r1:Int),
   e=.returned (.tuple #[vI r0,vI r1])∧K r0 r1∧Bel w0 w':=by
 unfold Zh4 at h
 refine cof Tryz.func33 rfl 37 Tryz.ntmps33 ?_
 have hC:=ZM8 (X:=Nox) w0 [ZMm TAlg a0 [u0_0,u0_1] fp0] (al1 q0)
 replace hC:=hC.dAlg 0 rfl
 refine sr (Yg (v:=.agg #[u0_0,u0_1]) hC [u0_0,u0_1] rfl rfl fun b4 w6 hB_ hC=>Zc (v:=vI 0) rfl (Zc (v:=vI 0) rfl (dn (sr (Yp hC 0 [u0_0,u0_1] rfl ag32 rfl rfl rfl (Za (v:=vI a1) rfl (Zf [.agg #[u0_0,u0_1],vI a1] _ Tryz.func88 rfl rfl rfl (ZBn a0 a1 h _ (Xs (hC.getP 1 rfl) (hC.getP 0 rfl))) ?_)))))))
 rintro _ w9 ⟨r10,u10,f10,r11,rfl,h,hr10,hf10,hB10⟩
 refine rt ?_
 replace hC:=hC.push hB10 (ZM4 (ZTa 2 (eI.tr)) r10 [u10] f10) hr10 hf10
 obtain ⟨ho10,hf11⟩:=Xn (hC.getM 0 rfl).1
 subst hf11
 replace hC:=hC.recast (c:=own 2 1 u10 r10.length (eI.encs r10)) (fun _ h_=>h_) (fun _=>ho10)
 refine Za (v:=.tuple #[u10,vI r11]) rfl (Yr (v:=u10) rfl rfl (Yr (v:=vI r11) rfl rfl (Zc (v:=u10) rfl (Zc (v:=vI r11) rfl (dn (ZMn (sr (Za (v:=vI r11) rfl (Y2 rfl rfl (dn ?_))))))))))
 refine Zp rfl (fun hb10=>?_) (fun hb10=>?_)
 ·replace h:=ift h (ct hb10)
  refine sr (Za (v:=vI r11) rfl (Zc (v:=vI 0) rfl (Zc (v:=vI r11) rfl (dn ?_))))
  refine ZMv (Zk ?_)
  exact Ja rfl (Ze rfl) (Ze rfl) ⟨0,r11,rfl,h,hC.below⟩ (.inl rfl)
 ·replace h:=Zj h (cf hb10)
  refine ZMr (Zd (sr (Zc (v:=vI 0) rfl (Zc (v:=vI 1) rfl (dn (ZMn (sr (Zc (v:=vI 0) rfl (dn (ZMt ?_))))))))))
  have hN10:r10.length≤9223372036854775807:=Zis (hC.getM 0 rfl)
  refine Yn (S:=Int×Int) _ _ (fun i10 s10 e_ w_=>Zt e_ [(6,u10),(8,vI s10.1),(9,vI s10.2),(10,vI (i10:Int))]∧Ctx Nox w0 w_ [own 2 1 u10 r10.length (eI.encs r10)] [ZMm TForm.sl a0.images [u0_1] fp0,ZMm TInts a0.degrees [u0_0] fp0,ZMm TAlg a0 [u0_0,u0_1] fp0]) r10.length ?_ ?_ (s0:=(0,1)) ?_ h
  ·clear hC h
   rintro i10 s10 e_ w10 nx10 K10 hi10 ⟨hS_,hC⟩ h hK10
   rw [ue hS_]
   refine ZMn (sr (Za (v:=vI (i10:Int)) rfl (Za (v:=u10) rfl (Zb7 hC 0 rfl ZM6 rfl (Zn rfl rfl (dn (Yc rfl (decide_eq_true (by omega)) (ZMr (Zd (ZMn (ZMt (sr (Za (v:=vI s10.1) rfl (Za (v:=vI s10.2) rfl (Za (v:=u10) rfl (Za (v:=vI (i10:Int)) rfl ?_))))))))))))))))
   obtain ⟨Ad10,c10,hv10⟩:=Jp (hC.getM 0 rfl) (ZPl (ZGh _) hi10)
   refine Jz (i10 * 1) ZM6 sc2.size (tr rfl hv10) rfl (ZM3 _) (ZNl.2 hi10) rfl (Yl (vI (r10.getD i10 ZEx)) (Zb3 (hC.getM 0 rfl) hv10 i10 hi10) sc2 rfl (Js rfl rfl (Zo rfl rfl (Zc (v:=vI (ZHd.wrap (s10.1+(ZHd.wrap (s10.2 * (r10.getD i10 ZEx)))))) rfl (dn (Zg (Za (v:=vI s10.2) rfl (Zf4 rfl (Zc (v:=vI (ZHd.wrap (0 - s10.2))) rfl (done (Zq (Zd (Zg (Za (v:=vI (i10:Int)) rfl (Zo rfl rfl (Zc (v:=vI (ZHd.wrap ((i10:Int)+1))) rfl (done ?_)))))))))))))))))
   exact hK10 (ZHd.wrap (s10.1+(ZHd.wrap (s10.2 * (r10.getD i10 ZEx)))),ZHd.wrap (0 - s10.2)) _ _ ⟨(sl ⟨rfl,rfl,rfl,(tr rfl (congrArg _ (Z6 hi10 hN10))),trivial⟩),hC⟩ h
  ·clear hC h
   rintro s10 e_ w11 K10 ⟨hS_,hC⟩ h
   rw [ue hS_]
   refine ZMn (sr (Za (v:=vI (r10.length:Int)) rfl (Za (v:=u10) rfl (Zb7 hC 0 rfl ZM6 rfl (Zn rfl rfl (dn (Z2 rfl (decide_eq_false (by omega)) ?_)))))))
   refine ZM1 (Zh (Zh (Zy ?_)))
   refine Zd (sr (Za (v:=vI s10.1) rfl (Zc (v:=vI s10.1) rfl (Zc (v:=vI 0) rfl (dn (ZMv ?_))))))
   exact Ja rfl (Ze rfl) (Ze rfl) ⟨s10.1,0,rfl,h,hC.below⟩ (.inl rfl)
  ·skip
   exact⟨(slq rfl),(hC.xM [0] rfl)⟩
def Zj7 (a0:Int) (K:Bool→Prop):Prop :=
 Zd7 a0 0 20 (fun r4=>K r4)
theorem ZBp (a0:Int)  {K:Bool→Prop} (h:Zj7 a0 K) (w0:World)  :
  Calls ZMq 112 #[vI a0] w0 fun e w'=>∃ (r0:Bool),
   e=.returned (.bool r0)∧K r0∧Bel w0 w':=by
 unfold Zj7 at h
 refine cof Tryz.func112 rfl 5 Tryz.ntmps112 ?_
 have hC:=ZM8 (X:=Nox) w0 [] (by simp)
 refine sr (Zc (v:=.bool false) rfl (dn (sr (Za (v:=vI a0) rfl (Zf [vI a0,vI 0,vI 20] _ Tryz.func46 rfl rfl rfl (Zl2 a0 0 20 h _) ?_)))))
 rintro _ w3 ⟨r4,rfl,h,hB5⟩
 refine rt ?_
 replace hC:=hC.grow hB5
 refine Zc (v:=.bool r4) rfl (dn (ZMv ?_))
 exact Zi rfl (Ze rfl) ⟨r4,rfl,h,hC.below⟩ (.inl rfl)
def Zj8 (a0:Alg) (a1:Int) (K:List Int→Int→Prop):Prop :=
 Zhh a0 [] (fun r11=>Zj7 a1 (fun r14=>Zea (!r14) 2 (fun r12=>Zhl [r11,r12] (fun r10=>(if r10=0 then Xh (fun (s11:Int) nx10=>(if s11 < ZHd.wrap (a1+2) then Zej a0.degrees s11 120 (fun r15 r13=>(if¬ (r13=true) then K [] 3 else nx10 (ZHd.wrap (s11+1)))) else(∃ (C:Cx),Xh (fun (s10:(List Int)×Int) nx11=>(if s10.2 < ZHd.wrap (a1+1) then(Zhy C (⟨a0.degrees,a0.images⟩:Alg) s10.2∧(Z7 (s10.1.length+1) 8∧nx11 (s10.1++[((C.KL s10.2).length:Int)],ZHd.wrap (s10.2+1)))) else K s10.1 0)) ([],0)))) 0 else K [] r10)))))
theorem ZBq (a0:Alg) (a1:Int)  {K:List Int→Int→Prop} (h:Zj8 a0 a1 K) (w0:World) (q0:TAlg.rep a0 [u0_0,u0_1] fp0 w0) :
  Calls ZMq 89 #[.agg #[u0_0,u0_1],vI a1] w0 fun e w'=>∃ (r0:List Int) (z0_0:Value) (fz0:List Nat) (r1:Int),
   e=.returned (.tuple #[z0_0,vI r1])∧K r0 r1∧(ZM4 (ZTa 2 (eI.tr)) r0 [z0_0] fz0).holds w'∧(∀ b,b∈fz0→w0.heap.size≤b)∧Bel w0 w':=by
 unfold Zj8 at h
 refine cof Tryz.func89 rfl 36 Tryz.ntmps89 ?_
 have hC:=ZM8 (X:=Nox) w0 [ZMm TAlg a0 [u0_0,u0_1] fp0] (al1 q0)
 replace hC:=hC.dAlg 0 rfl
 refine sr (Yg (v:=.agg #[u0_0,u0_1]) hC [u0_0,u0_1] rfl rfl fun b4 w6 hB_ hC=>Zc (v:=.slice none 0 0) rfl (Zc (v:=vI 0) rfl (dn (sr (Za (v:=vI a1) rfl (Zjy [vQ b4,vI a1] Tryz.func147 rfl rfl 25 Tryz.ntmps147 (ZMw rfl) rfl (sr (Zc (v:=.pointer none) rfl (Zc (v:=vI 0) rfl (dn (sr (Za (v:=vQ b4) rfl (Zjy [vQ b4] Tryz.func113 rfl rfl 7 Tryz.ntmps113 (ZMw rfl) rfl (sr (Zc (v:=.pointer none) rfl (dn (sr (Za (v:=vQ b4) rfl (Zf9 hC (vvI .i64) vvP fun b7 w9 hB_ hC=>J6 [(0,vQ b4),(1,.map (some b7))] rfl (ZBc b4 b7  _) (Yg (v:=.agg #[vQ b4,.map (some b7)]) hC [vQ b4,.map (some b7)] rfl rfl fun b10 w10 hB_ hC=>Zc (v:=vQ b10) rfl (dn (ZMv ?_))))))))))))))))))))))
 refine Zi (fn:=Tryz.f113) (v:=vQ b10) rfl (Ze rfl) ⟨_,rfl,?_⟩ (.inl rfl)
 refine Za (v:=vQ b4) rfl (Zf [vQ b4,.slice none 0 0] _ Tryz.func44 rfl rfl rfl (Zxo a0 [] h _ (Xs (hC.getP 1 rfl) (hC.getP 0 rfl)) (hC.getM 2 rfl) (Zk7 _ _)) ?_)
 rintro _ w11 ⟨r11,rfl,h,hB10⟩
 refine rt ?_
 replace hC:=hC.grow hB10
 refine Za (v:=vI a1) rfl (Zf [vI a1] _ Tryz.func112 rfl rfl rfl (ZBp a1 h _) ?_)
 rintro _ w12 ⟨r14,rfl,h,hB11⟩
 refine rt ?_
 replace hC:=hC.grow hB11
 refine Xu rfl (Zf [.bool (!r14),vI 2] _ Tryz.func45 rfl rfl rfl (Zl3 (!r14) 2 h _) ?_)
 rintro _ w13 ⟨r12,rfl,h,hB12⟩
 refine rt ?_
 replace hC:=hC.grow hB12
 refine Y4 (sz:=1) hC [(0,vI r11),(1,vI r12)] (eI.encs [r11,r12]) rfl (fun _=>ZBd r11 r12 _) rfl (by decide) fun b11 w14 hB_ hC=>Zf [.slice (some ⟨b11,0,none⟩) 2 2] _ Tryz.func43 rfl rfl rfl (Zxw [r11,r12] h _ (Y3 (hC.getM 0 rfl))) ?_
 rintro _ w15 ⟨r10,rfl,h,hB13⟩
 refine rt ?_
 replace hC:=hC.grow hB13
 refine Zc (v:=vQ b10) rfl (Zc (v:=vI r10) rfl (dn (ZMn (sr (Za (v:=vI r10) rfl (Jg rfl rfl (dn ?_)))))))
 refine Zp rfl (fun hb10=>?_) (fun hb10=>?_)
 ·replace h:=ift h (ct hb10)
  refine Zg (Za (v:=vQ b10) rfl (Za (v:=vI a1) rfl (Zjy [vQ b10,vI a1] Tryz.func189 rfl rfl 16 Tryz.ntmps189 (ZMw rfl) rfl (sr (Zc (v:=vI 0) rfl (dn (ZMn (sr (Za (v:=vI a1) rfl (Zo rfl rfl (Za (v:=vI 0) rfl (dn (ZMt ?_)))))))))))))
  refine X2 (S:=Int) _ (fun s11 e_ w_=>Zt e_ [(0,vQ b10),(7,vI (ZHd.wrap (a1+2))),(8,vI s11)]∧Ctx Nox w0 w_ [own 2 1 (.slice (some ⟨b11,0,none⟩) 2 2) ([r11,r12].length) (eI.encs [r11,r12]),blk b10 198 [vQ b4,.map (some b7)],Z1 (vvI .i64) vvP b7 ([]:List (Int×Nat)),blk b4 32 [u0_0,u0_1]] [ZMm TForm.sl a0.images [u0_1] fp0,ZMm TInts a0.degrees [u0_0] fp0,ZMm TAlg a0 [u0_0,u0_1] fp0]) ?_ (s0:=0) ?_ h
  ·clear hC h
   rintro s11 e_ w16 nx10 K10 ⟨hS_,hC⟩ h hK10
   rw [ue hS_]
   refine sr (Zn rfl rfl (dn (ZMn ?_)))
   refine Zp rfl (fun hb11=>?_) (fun hb11=>?_)
   ·replace h:=ift h (ct hb11)
    refine ZMr (Zd (ZMn (ZMt (sr (Za (v:=vI s11) rfl (Zc (v:=vI s11) rfl (dn (sr (Za (v:=vQ b10) rfl (Za (v:=vI s11) rfl (Zjy [vQ b10,vI s11] Tryz.func171 rfl rfl 20 Tryz.ntmps171 (ZMw rfl) rfl (sr (Zc (v:=.bool false) rfl (dn (sr (Za (v:=vQ b10) rfl (Xg rfl (Zu 0 Tryz.underlying198 rfl sc66.size rfl rfl (Z5 hC 1 (vQ b4) rfl sc66 rfl rfl (Xg rfl (Zu 0 ZM7 rfl sc22.size rfl rfl (Z5 hC 3 (u0_0) rfl sc22 rfl rfl (Za (v:=vI s11) rfl (Zf [u0_0,vI s11,vI 120] _ Tryz.func100 rfl rfl rfl (Zq0 a0.degrees s11 120 h _ (hC.getP 1 rfl)) ?_))))))))))))))))))))))))
    rintro _ w17 ⟨r15,u10,f10,r13,rfl,h,hr10,hf10,hB14⟩
    refine rt ?_
    replace hC:=hC.push hB14 (ZM4 (ZTa 73 ((EA .i64).tr)) r15 [u10] f10) hr10 hf10
    obtain ⟨ho10,hf11⟩:=Xn (hC.getM 0 rfl).1
    subst hf11
    replace hC:=hC.recast (c:=own 73 8 u10 r15.length ((EA .i64).encs r15)) (fun _ h_=>h_) (fun _=>ho10)
    refine Za (v:=.tuple #[u10,.bool r13]) rfl (Yr (v:=u10) rfl rfl (Yr (v:=.bool r13) rfl rfl (Zc (v:=u10) rfl (Zc (v:=.bool r13) rfl (dn (sr (Za (v:=.bool r13) rfl (Zc (v:=.bool r13) rfl (dn (ZMv ?_))))))))))
    refine Zi (fn:=Tryz.f171) (v:=.bool r13) rfl (Ze rfl) ⟨_,rfl,?_⟩ (.inl rfl)
    refine Xu rfl (dn ?_)
    refine Zp rfl (fun hb12=>?_) (fun hb12=>?_)
    ·replace h:=ift h (Xa (X3 hb12))
     refine sr (Zc (v:=vI 3) rfl (dn ?_))
     refine ZMv (Z4 (Zk (Zk (Z4 (Zk ?_)))))
     refine Zi (fn:=Tryz.f189) (v:=vI 3) rfl (Ze rfl) ⟨_,rfl,?_⟩ (.inl rfl)
     refine Zc (v:=vI 3) rfl (dn (sr (Za (v:=vQ b10) rfl (Za (v:=vI 3) rfl (Zc (v:=vQ b10) rfl (Zc (v:=vI 3) rfl (dn (ZMv ?_))))))))
     refine Ja (fn:=Tryz.f147) (v:=vQ b10) (u:=vI 3) rfl (Ze rfl) (Ze rfl) ⟨_,rfl,?_⟩ (.inl rfl)
     refine Za (v:=.tuple #[vQ b10,vI 3]) rfl (Yr (v:=vQ b10) rfl rfl (Yr (v:=vI 3) rfl rfl (Zc (v:=vQ b10) rfl (Zc (v:=vI 3) rfl (dn (ZMn (sr (Za (v:=vI 3) rfl (Y2 rfl rfl (dn (Yc rfl rfl (sr (Za (v:=vI 3) rfl (Zc (v:=.slice none 0 0) rfl (Zc (v:=vI 3) rfl (dn ?_))))))))))))))))
     refine ZMv (Zk ?_)
     exact Ja rfl (Ze rfl) (Ze rfl) ⟨[],.slice none 0 0,[],3,rfl,h,(Zda _ _ _),(fun b hb=>absurd hb (by simp)),hC.below⟩ (.inl rfl)
    ·replace h:=Zj h (not_not_intro ((X4 hb12)))
     refine ZMr (Zq (Zd (Zg (Zo rfl rfl (Za (v:=vI (ZHd.wrap (s11+1))) rfl (done ?_))))))
     exact hK10 (ZHd.wrap (s11+1)) _ _ ⟨(slq rfl),(hC.xM [1,2,3,4] rfl)⟩ h
   ·replace h:=Zj h (cf hb11)
    refine ZM1 (Zh (Zh (Zy ?_)))
    refine Zd (sr (Zc (v:=vI 0) rfl (dn (ZMv ?_))))
    refine Zi (fn:=Tryz.f189) (v:=vI 0) rfl (Ze rfl) ⟨_,rfl,?_⟩ (.inl rfl)
    refine Zc (v:=vI 0) rfl (dn (sr (Za (v:=vQ b10) rfl (Za (v:=vI 0) rfl (Zc (v:=vQ b10) rfl (Zc (v:=vI 0) rfl (dn (ZMv ?_))))))))
    refine Ja (fn:=Tryz.f147) (v:=vQ b10) (u:=vI 0) rfl (Ze rfl) (Ze rfl) ⟨_,rfl,?_⟩ (.inl rfl)
    refine Za (v:=.tuple #[vQ b10,vI 0]) rfl (Yr (v:=vQ b10) rfl rfl (Yr (v:=vI 0) rfl rfl (Zc (v:=vQ b10) rfl (Zc (v:=vI 0) rfl (dn (ZMn (sr (Za (v:=vI 0) rfl (Y2 rfl rfl (dn (Z2 rfl rfl (ZMr (Zd (sr (Y4 (sz:=1) hC [] (eI.encs []) rfl (fun _=>Zm0  _) rfl (by decide) fun b12 w18 hB_ hC=>Zc (v:=.slice (some ⟨b12,0,none⟩) 0 0) rfl (dn (ZMn (sr (Za (v:=vI a1) rfl (Zo rfl rfl (Za (v:=vI 0) rfl (dn (ZMt ?_)))))))))))))))))))))))
    replace hC:=hC.thaw 2 rfl (blk b10 198 [vQ b4,.map (some b7)]) id (fun _ hb_=>hb_)
    replace hC:=hC.sM [2,0,1,3] (M':=[Z1 (vvI .i64) vvP b7 ([]:List (Int×Nat)),own 2 1 (.slice (some ⟨b12,0,none⟩) 0 0) 0 (eI.encs []),own 2 1 (.slice (some ⟨b11,0,none⟩) 2 2) ([r11,r12].length) (eI.encs [r11,r12]),blk b4 32 [u0_0,u0_1]]) (by decide) rfl
    obtain ⟨C,h⟩:=h
    replace hC:=hC.recast (c:=cpx C 125 b7 [] []) (fun x_ hx_=>by simpa [cpx,Z1] using hx_) (fun h_=>Zz9 h_)
    refine X2 (S:=(List Int)×Int) _ (fun s10 e_ w_=>∃ (D402:List Lev),∃ (F403:List Nat),∃ (v10:Value),Zt e_ [(6,vQ b10),(8,v10),(20,vI (ZHd.wrap (a1+1))),(21,vI s10.2)]∧CpLe [] D402 [] F403∧Ctx Nox w0 w_ [cpx C 125 b7 D402 F403,own 2 1 v10 s10.1.length (eI.encs s10.1),blk b4 32 [u0_0,u0_1]] [blk b10 198 [vQ b4,.map (some b7)],ZMm TForm.sl a0.images [u0_1] fp0,ZMm TInts a0.degrees [u0_0] fp0,ZMm TAlg a0 [u0_0,u0_1] fp0]) ?_ (s0:=([],0)) ?_ h
    ·clear hC h
     rintro s10 e_ w19 nx11 K11 ⟨D402,F403,v10,hS_,hq10,hC⟩ h hK11
     rw [ue hS_]
     refine sr (Zn rfl rfl (dn (ZMn ?_)))
     refine Zp rfl (fun hb13=>?_) (fun hb13=>?_)
     ·replace h:=ift h (ct hb13)
      refine ZMr (Zd (ZMn (ZMt (sr (Za (v:=vI s10.2) rfl (Zc (v:=vI s10.2) rfl (dn (Zg (Za (v:=v10) rfl (Za (v:=vQ b10) rfl (Za (v:=vI s10.2) rfl ?_)))))))))))
      obtain ⟨ho11,h⟩:=h
      refine Zf [vQ b10,vI s10.2] _ Tryz.func79 rfl rfl rfl (ZA7 C (⟨a0.degrees,a0.images⟩:Alg) s10.2 ho11 _ (Xs (hC.getP 2 rfl) (hC.getP 1 rfl)) (hC.getM 2 rfl) (hC.getP 0 rfl) (hC.getM 0 rfl) (fun b_ hb hb2_=>(ZE4.1 hb).elim (fun hb=>hC.pdk 2 0 rfl rfl b_ hb hb2_) (fun hb=>hC.pdk 1 0 rfl rfl b_ hb hb2_)) (hC.mm 2 0 rfl rfl (by decide) _ (ZTg _)) (fun hx_=>hC.pdk 0 0 rfl rfl _ (ZTg _) hx_) (CpX.rest hq10 Zz8)) ?_
      rintro _ w20 ⟨b13,D414,F415,rfl,hat422,hle416,hx417,hf12,hB15⟩
      refine rt ?_
      replace hC:=hC.turnI 0 rfl hB15 hx417 hf12
      refine Xg rfl (Zu 5 Tryz.underlying125 rfl sc85.size rfl rfl ?_)
      obtain ⟨u12,u13,u14,u15,u16,u11,hb14,hr13,hr14,hr11⟩:=Zmx (hC.getM 0 rfl) hat422
      have hr12:=(hr11 rfl).2.2
      have hnhb429:=Zmz (hC.getM 0 rfl) hat422
      refine Yl (u11) (Jo (off:=5) (sz:=1) hb14 rfl) sc85 rfl ?_
      obtain ⟨Ad10,c10,hv10⟩:=Zc5 hr12
      refine Zc6 ZT8 (tr rfl hv10) (Y4 (sz:=1) hC [(0,vI ((C.KL s10.2).length:Int))] (eI.encs [((C.KL s10.2).length:Int)]) rfl (fun _=>Zrd ((C.KL s10.2).length:Int) _) rfl (by decide) fun b14 w21 hB_ hC=>?_)
      obtain ⟨hm10,h⟩:=h
      refine J7 hC 2 ZM6 el2 rfl (by decide) (by decide) rfl (Za7 (hC.getM 0 rfl)) (fun q hq=>ZNq (E:=eI) _ q hq) rfl rfl hm10 fun v11 w22 hC=>?_
      replace hC:=Xb hC 2 ((s10.1++[((C.KL s10.2).length:Int)]).length) (eI.encs (s10.1++[((C.KL s10.2).length:Int)])) rfl (by simp) (by first | (simp [ZNf]; done) | simp [ZNf,Enc.encs])
      refine Zc (v:=v11) rfl (done (Zq (Zd (Zg (Zo rfl rfl (Za (v:=vI (ZHd.wrap (s10.2+1))) rfl (done ?_)))))))
      exact hK11 (s10.1++[((C.KL s10.2).length:Int)],ZHd.wrap (s10.2+1)) _ _ ⟨D414,F415,v11,(slq rfl),(hq10.trans hle416),(hC.xM [1,2,3] rfl)⟩ h
     ·replace h:=Zj h (cf hb13)
      refine ZM1 (Zh (Zh (Zy ?_)))
      refine Zd (sr (Za (v:=v10) rfl (Zc (v:=v10) rfl (Zc (v:=vI 0) rfl (dn (ZMv ?_))))))
      exact Ja rfl (Ze rfl) (Ze rfl) ⟨s10.1,v10,(ZNm (ZFq v10)),0,rfl,h,(Xy (hC.getM 1 rfl)),(Yz hC 1 rfl),hC.below⟩ (.inl rfl)
    ·skip
     exact⟨[],[],.slice (some ⟨b12,0,none⟩) 0 0,(slq rfl),(CpX.refl _ _),(hC.xM [0,1,3] rfl)⟩
  ·skip
   exact⟨(slq rfl),hC⟩
 ·replace h:=Zj h (cf hb10)
  refine ZMr (Zd (sr (Za (v:=vQ b10) rfl (Za (v:=vI r10) rfl (Zc (v:=vQ b10) rfl (Zc (v:=vI r10) rfl (dn (ZMv ?_))))))))
  refine Ja (fn:=Tryz.f147) (v:=vQ b10) (u:=vI r10) rfl (Ze rfl) (Ze rfl) ⟨_,rfl,?_⟩ (.inl rfl)
  refine Za (v:=.tuple #[vQ b10,vI r10]) rfl (Yr (v:=vQ b10) rfl rfl (Yr (v:=vI r10) rfl rfl (Zc (v:=vQ b10) rfl (Zc (v:=vI r10) rfl (dn (ZMn (sr (Za (v:=vI r10) rfl (Y2 rfl rfl (dn (Yc rfl (Zzw hb10) (sr (Za (v:=vI r10) rfl (Zc (v:=.slice none 0 0) rfl (Zc (v:=vI r10) rfl (dn ?_))))))))))))))))
  refine ZMv (Zk ?_)
  exact Ja rfl (Ze rfl) (Ze rfl) ⟨[],.slice none 0 0,[],r10,rfl,h,(Zda _ _ _),(fun b hb=>absurd hb (by simp)),hC.below⟩ (.inl rfl)
def Zh5 (a0:Alg) (a1:Int) (K:Int→Int→Prop):Prop :=
 Zj8 a0 a1 (fun r10 r11=>(if r11≠0 then K 0 r11 else Yb (fun i10 (s10:Int) nx10=>nx10 (ZHd.wrap (s10+(ZHd.wrap ((r10.getD i10 ZEx) * (ZHd.wrap (1 - (ZHd.wrap (2 * (ZFo (i10:Int) 2)))))))))) (fun (s10:Int)=>K s10 0) r10.length 0 0))
theorem ZBr (a0:Alg) (a1:Int)  {K:Int→Int→Prop} (h:Zh5 a0 a1 K) (w0:World) (q0:TAlg.rep a0 [u0_0,u0_1] fp0 w0) :
  Calls ZMq 34 #[.agg #[u0_0,u0_1],vI a1] w0 fun e w'=>∃ (r0:Int) (r1:Int),
   e=.returned (.tuple #[vI r0,vI r1])∧K r0 r1∧Bel w0 w':=by
 unfold Zh5 at h
 refine cof Tryz.func34 rfl 37 Tryz.ntmps34 ?_
 have hC:=ZM8 (X:=Nox) w0 [ZMm TAlg a0 [u0_0,u0_1] fp0] (al1 q0)
 replace hC:=hC.dAlg 0 rfl
 refine sr (Yg (v:=.agg #[u0_0,u0_1]) hC [u0_0,u0_1] rfl rfl fun b4 w6 hB_ hC=>Zc (v:=vI 0) rfl (Zc (v:=vI 0) rfl (dn (sr (Yp hC 0 [u0_0,u0_1] rfl ag32 rfl rfl rfl (Za (v:=vI a1) rfl (Zf [.agg #[u0_0,u0_1],vI a1] _ Tryz.func89 rfl rfl rfl (ZBq a0 a1 h _ (Xs (hC.getP 1 rfl) (hC.getP 0 rfl))) ?_)))))))
 rintro _ w9 ⟨r10,u10,f10,r11,rfl,h,hr10,hf10,hB10⟩
 refine rt ?_
 replace hC:=hC.push hB10 (ZM4 (ZTa 2 (eI.tr)) r10 [u10] f10) hr10 hf10
 obtain ⟨ho10,hf11⟩:=Xn (hC.getM 0 rfl).1
 subst hf11
 replace hC:=hC.recast (c:=own 2 1 u10 r10.length (eI.encs r10)) (fun _ h_=>h_) (fun _=>ho10)
 refine Za (v:=.tuple #[u10,vI r11]) rfl (Yr (v:=u10) rfl rfl (Yr (v:=vI r11) rfl rfl (Zc (v:=u10) rfl (Zc (v:=vI r11) rfl (dn (ZMn (sr (Za (v:=vI r11) rfl (Y2 rfl rfl (dn ?_))))))))))
 refine Zp rfl (fun hb10=>?_) (fun hb10=>?_)
 ·replace h:=ift h (ct hb10)
  refine sr (Za (v:=vI r11) rfl (Zc (v:=vI 0) rfl (Zc (v:=vI r11) rfl (dn ?_))))
  refine ZMv (Zk ?_)
  exact Ja rfl (Ze rfl) (Ze rfl) ⟨0,r11,rfl,h,hC.below⟩ (.inl rfl)
 ·replace h:=Zj h (cf hb10)
  refine ZMr (Zd (sr (Zc (v:=vI 0) rfl (dn (ZMn (sr (Za (v:=u10) rfl (Zb7 hC 0 rfl ZM6 rfl (Za (v:=vI 0) rfl (dn (ZMt ?_)))))))))))
  have hN10:r10.length≤9223372036854775807:=Zis (hC.getM 0 rfl)
  refine Yn (S:=Int) _ _ (fun i10 s10 e_ w_=>Zt e_ [(8,vI s10),(20,u10),(21,vI (r10.length:Int)),(22,vI (i10:Int))]∧Ctx Nox w0 w_ [own 2 1 u10 r10.length (eI.encs r10)] [ZMm TForm.sl a0.images [u0_1] fp0,ZMm TInts a0.degrees [u0_0] fp0,ZMm TAlg a0 [u0_0,u0_1] fp0]) r10.length ?_ ?_ (s0:=0) ?_ h
  ·clear hC h
   rintro i10 s10 e_ w10 nx10 K10 hi10 ⟨hS_,hC⟩ h hK10
   rw [ue hS_]
   refine sr (Zn rfl rfl (dn (ZMn (Yc rfl (decide_eq_true (by omega)) (ZMr (Zd (ZMn (ZMt (sr (Za (v:=vI (i10:Int)) rfl ?_))))))))))
   obtain ⟨Ad10,c10,hv10⟩:=Jp (hC.getM 0 rfl) (ZPl (ZGh _) hi10)
   refine Jz (i10 * 1) ZM6 sc2.size (tr rfl hv10) rfl (ZM3 _) (ZNl.2 hi10) rfl (Yl (vI (r10.getD i10 ZEx)) (Zb3 (hC.getM 0 rfl) hv10 i10 hi10) sc2 rfl (Zc (v:=vI (i10:Int)) rfl (Zc (v:=vI (r10.getD i10 ZEx)) rfl (dn (Zg (Za (v:=vI s10) rfl (Za (v:=vI (r10.getD i10 ZEx)) rfl (Za (v:=vI (i10:Int)) rfl (Xr rfl rfl (by decide) (Js rfl rfl (Jx rfl rfl (Js rfl rfl (Zo rfl rfl (Zc (v:=vI (ZHd.wrap (s10+(ZHd.wrap ((r10.getD i10 ZEx) * (ZHd.wrap (1 - (ZHd.wrap (2 * (ZFo (i10:Int) 2)))))))))) rfl (done (Zq (Zd (Zg (Zo rfl rfl (Za (v:=vI (ZHd.wrap ((i10:Int)+1))) rfl (done ?_)))))))))))))))))))))
   exact hK10 (ZHd.wrap (s10+(ZHd.wrap ((r10.getD i10 ZEx) * (ZHd.wrap (1 - (ZHd.wrap (2 * (ZFo (i10:Int) 2))))))))) _ _ ⟨(sl ⟨rfl,rfl,rfl,(tr rfl (congrArg _ (Z6 hi10 hN10))),trivial⟩),hC⟩ h
  ·clear hC h
   rintro s10 e_ w11 K10 ⟨hS_,hC⟩ h
   rw [ue hS_]
   refine sr (Zn rfl rfl (dn (ZMn (Z2 rfl (decide_eq_false (by omega)) ?_))))
   refine ZM1 (Zh (Zh (Zy ?_)))
   refine Zd (sr (Za (v:=vI s10) rfl (Zc (v:=vI s10) rfl (Zc (v:=vI 0) rfl (dn (ZMv ?_))))))
   exact Ja rfl (Ze rfl) (Ze rfl) ⟨s10,0,rfl,h,hC.below⟩ (.inl rfl)
  ·skip
   exact⟨(slq rfl),(hC.xM [0] rfl)⟩
def Zj9 (a0:Alg) (a1:Int) (K:Bool→Prop):Prop :=
 Zhj a0 1048576 (fun r17=>(if r17 < 0 then K true else Zee a0 (fun r13=>Zh4 r13 a1 (fun r11 r14=>Zee a0 (fun r10=>Zh5 r10 a1 (fun r12 r15=>(if r12≠r11 then K false else(if r15≠r14 then K false else Zee a0 (fun r16=>Zfg r10 r16 (fun r18=>(if¬ (r18=true) then K false else K true)))))))))))
theorem ZBs (a0:Alg) (a1:Int)  {K:Bool→Prop} (h:Zj9 a0 a1 K) (w0:World) (q0:TAlg.rep a0 [u0_0,u0_1] fp0 w0) :
  Calls ZMq 8 #[.agg #[u0_0,u0_1],vI a1] w0 fun e w'=>∃ (r0:Bool),
   e=.returned (.bool r0)∧K r0∧Bel w0 w':=by
 unfold Zj9 at h
 refine cof Tryz.func8 rfl 44 Tryz.ntmps8 ?_
 have hC:=ZM8 (X:=Nox) w0 [ZMm TAlg a0 [u0_0,u0_1] fp0] (al1 q0)
 replace hC:=hC.dAlg 0 rfl
 refine sr (Yg (v:=.agg #[u0_0,u0_1]) hC [u0_0,u0_1] rfl rfl fun b4 w6 hB_ hC=>Zc (v:=.bool false) rfl (dn (sr (Zc (v:=vI 1048576) rfl (dn (sr (Yp hC 0 [u0_0,u0_1] rfl Zj4 rfl rfl rfl (Za (v:=vI 1048576) rfl (Zf [.agg #[u0_0,u0_1],vI 1048576] _ Tryz.func10 rfl rfl rfl (Zxt a0 1048576 h _ (Xs (hC.getP 1 rfl) (hC.getP 0 rfl))) ?_)))))))))
 rintro _ w9 ⟨r17,rfl,h,hB10⟩
 refine rt ?_
 replace hC:=hC.grow hB10
 refine Zc (v:=vI r17) rfl (dn (ZMn (sr (Za (v:=vI r17) rfl (Zn rfl rfl (dn ?_))))))
 refine Zp rfl (fun hb11=>?_) (fun hb11=>?_)
 ·replace h:=ift h (ct hb11)
  refine sr (Zc (v:=.bool true) rfl (dn ?_))
  refine ZMv (Zk ?_)
  exact Zi rfl (Ze rfl) ⟨true,rfl,h,hC.below⟩ (.inl rfl)
 ·replace h:=Zj h (cf hb11)
  refine ZMr (Zd (sr (Yp hC 0 [u0_0,u0_1] rfl Zj4 rfl rfl rfl (Zf [.agg #[u0_0,u0_1]] _ Tryz.func12 rfl rfl rfl (Zl9 a0 h _ (Xs (hC.getP 1 rfl) (hC.getP 0 rfl))) ?_))))
  rintro _ w10 ⟨r13,u12,u13,f10,rfl,h,hr10,hf10,hB11⟩
  refine rt ?_
  replace hC:=hC.push hB11 (ZM4 (Ze5 2 162 55) r13 [u12,u13] f10) hr10 hf10
  obtain ⟨f11,ho10,ho11,hs10,hs11,hd10⟩:=Zlq (hC.getM 0 rfl)
  replace hC:=hC.split (a:=own 2 1 u12 r13.degrees.length (eI.encs r13.degrees)) (b:=ZM4 (ZTa 55 (Yt 162)) r13.images [u13] f11) hs10 hs11 ⟨ho10,ho11,hd10⟩
  refine Za (v:=vI a1) rfl (Zf [.agg #[u12,u13],vI a1] _ Tryz.func33 rfl rfl rfl (ZBo r13 a1 h _ (Xs (Y3 (hC.getM 0 rfl)) (ZXe _ (hC.getM 1 rfl).1))) ?_)
  rintro _ w11 ⟨r11,r14,rfl,h,hB12⟩
  refine rt ?_
  replace hC:=hC.grow hB12
  refine Za (v:=.tuple #[vI r11,vI r14]) rfl (Yr (v:=vI r11) rfl rfl (Yr (v:=vI r14) rfl rfl (Zc (v:=vI r11) rfl (Zc (v:=vI r14) rfl (dn (sr (Yp hC 2 [u0_0,u0_1] rfl Zj4 rfl rfl rfl (Zf [.agg #[u0_0,u0_1]] _ Tryz.func12 rfl rfl rfl (Zl9 a0 h _ (Xs (hC.getP 1 rfl) (hC.getP 0 rfl))) ?_))))))))
  rintro _ w12 ⟨r10,u10,u11,f12,rfl,h,hr11,hf11,hB13⟩
  refine rt ?_
  replace hC:=hC.push hB13 (ZM4 (Ze5 2 162 55) r10 [u10,u11] f12) hr11 hf11
  obtain ⟨f13,ho12,ho13,hs12,hs13,hd11⟩:=Zlq (hC.getM 0 rfl)
  replace hC:=hC.split (a:=own 2 1 u10 r10.degrees.length (eI.encs r10.degrees)) (b:=ZM4 (ZTa 55 (Yt 162)) r10.images [u11] f13) hs12 hs13 ⟨ho12,ho13,hd11⟩
  refine Yk hC [.slice none 0 0,.slice none 0 0] z32 rfl fun b10 w13 hB_ hC=>Zx (v:=.agg #[u10,u11]) hC 0 [u10,u11] [u10,u11] rfl ag32.size rfl rfl rfl rfl (Xk (Xx (hC.getM 1 rfl)) (Xk (Zdz (ZXe _ (hC.getM 2 rfl).1)) rfl)) (ZMw rfl) rfl fun w14 hC=>dn (sr (Yp hC 0 [u10,u11] rfl ag32 rfl rfl rfl (Za (v:=vI a1) rfl (Zf [.agg #[u10,u11],vI a1] _ Tryz.func34 rfl rfl rfl (ZBr r10 a1 h _ (Xs (Y3 (hC.getM 1 rfl)) (ZXe _ (hC.getM 2 rfl).1))) ?_))))
  rintro _ w15 ⟨r12,r15,rfl,h,hB14⟩
  refine rt ?_
  replace hC:=hC.grow hB14
  refine Za (v:=.tuple #[vI r12,vI r15]) rfl (Yr (v:=vI r12) rfl rfl (Yr (v:=vI r15) rfl rfl (Zc (v:=vI r12) rfl (Zc (v:=vI r15) rfl (dn (ZMn (sr (Za (v:=vI r12) rfl (Za (v:=vI r11) rfl (Y2 rfl rfl (Za (v:=.bool (decide (r12≠r11))) rfl ?_)))))))))))
  refine Y5 (decide (r12≠r11)) (fun hb10=>?_) (fun hb10=>?_)
  ·replace h:=ift h (ct hb10)
   refine Zm (b:=true) 3 34 rfl (tr rfl (congrArg _ hb10)) (by decide) (Zm (b:=true) 3 34 rfl (tr rfl (congrArg _ hb10)) (by decide) (Zm (b:=true) 3 34 rfl (tr rfl (congrArg _ hb10)) (by decide) (Z3 (v:=.bool true) (b:=true) (tr rfl (congrArg _ hb10)) rfl (dn (Yc rfl rfl (sr (Zc (v:=.bool false) rfl (dn ?_))))))))
   refine ZMv (Zk ?_)
   exact Zi rfl (Ze rfl) ⟨false,rfl,h,hC.below⟩ (.inl rfl)
  ·replace h:=Zj h (cf hb10)
   refine Zl 3 34 rfl rfl hb10 (Za (v:=vI r15) rfl (Zl 3 34 rfl rfl hb10 (Za (v:=vI r14) rfl (Zl 3 34 rfl rfl hb10 (Y2 rfl rfl (Z3 (v:=.bool (decide (r15≠r14))) (b:=false) (tr rfl (congrArg _ hb10)) rfl (dn ?_)))))))
   refine Zp rfl (fun hb12=>?_) (fun hb12=>?_)
   ·replace h:=ift h (ct hb12)
    refine sr (Zc (v:=.bool false) rfl (dn ?_))
    refine ZMv (Zk ?_)
    exact Zi rfl (Ze rfl) ⟨false,rfl,h,hC.below⟩ (.inl rfl)
   ·replace h:=Zj h (cf hb12)
    refine ZMr (Zd (ZMn (ZMn ?_)))
    refine cwd 3 Yi [0,0,2,7,15] [0,1] [] (fun hM10 hM11 w16 hB_=>?_)
    replace hC:=hC.grow hB_
    refine bL 0 (.agg #[u10,u11]) rfl rfl hM10 (fun _ hB_=>by exact Xf (hC.grow hB_) 0 [u10,u11] rfl ag32 rfl rfl rfl) (Zb 5 1) (bL 1 (.agg #[u0_0,u0_1]) rfl rfl hM10 (fun _ hB_=>by exact Xf (hC.grow hB_) 5 [u0_0,u0_1] rfl Zj4 rfl rfl rfl) (Zb 5 3) (aO 2 rfl (Zf [.agg #[u0_0,u0_1]] _ Tryz.func12 rfl rfl rfl (Zl9 a0 h _ (Xs (hC.getP 1 rfl) (hC.getP 0 rfl))) ?_)))
    rintro _ w17 ⟨r16,u14,u15,f14,rfl,h,hr12,hf12,hB15⟩
    refine rt ?_
    replace hC:=hC.push hB15 (ZM4 (Ze5 2 162 55) r16 [u14,u15] f14) hr12 hf12
    obtain ⟨f15,ho14,ho15,hs14,hs15,hd12⟩:=Zlq (hC.getM 0 rfl)
    replace hC:=hC.split (a:=own 2 1 u14 r16.degrees.length (eI.encs r16.degrees)) (b:=ZM4 (ZTa 55 (Yt 162)) r16.images [u15] f15) hs14 hs15 ⟨ho14,ho15,hd12⟩
    refine done (aK (by assumption) (Zb 5 7) (Zz 3 (by decide) (by decide) (by kernel_rfl) (by kernel_rfl) rfl (Zf [.agg #[u10,u11],.agg #[u14,u15]] _ Tryz.func15 rfl rfl rfl (Zxv r10 r16 h _ (Xs (Y3 (hC.getM 3 rfl)) (ZXe _ (hC.getM 4 rfl).1)) (Xs (Y3 (hC.getM 0 rfl)) (ZXe _ (hC.getM 1 rfl).1))) ?_)))
    rintro _ w18 ⟨r18,rfl,h,hB16⟩
    refine rt ?_
    replace hC:=hC.grow hB16
    refine Xu rfl (done (Z0 (Zd ?_)))
    refine Zp rfl (fun hb13=>?_) (fun hb13=>?_)
    ·replace h:=ift h (Xa (X3 hb13))
     refine sr (Zc (v:=.bool false) rfl (dn ?_))
     refine ZMv (Zk ?_)
     exact Zi rfl (Ze rfl) ⟨false,rfl,h,hC.below⟩ (.inl rfl)
    ·replace h:=Zj h (not_not_intro ((X4 hb13)))
     refine ZMr (Zd (sr (Zc (v:=.bool true) rfl (dn (ZMv ?_)))))
     exact Zi rfl (Ze rfl) ⟨true,rfl,h,hC.below⟩ (.inl rfl)
end Go.Proofs.YtaagfepgbofmlaaGreat
namespace Go.Proofs.YtaagfepgbofmlaaGreat
open Go Vc
end Go.Proofs.YtaagfepgbofmlaaGreat
namespace Go.Proofs.YtaagfepgbofmlaaGreat
open Go Vc
theorem Zrf {a b:Int} {K:Int→Prop} (h:K (if a≠0 then a else b)):Zhl [a,b] K:=by
  simp only [Zhl,Yb,List.length_cons,List.length_nil,List.getD_cons_zero,List.getD_cons_succ]
  split
  · rename_i q; rwa [if_pos q] at h
  · rename_i q
    rw [if_neg q] at h
    split
    · exact h
    · rename_i q2
      have q2:b=0:=ZQk.1 q2
      rwa [q2] at h
end Go.Proofs.YtaagfepgbofmlaaGreat
namespace Go.Proofs.YtaagfepgbofmlaaGreat
open Go Vc
def Zad (g:Int→List A8):Nat→List A8
  | 0=>[]
  | k+1=>g k++Zad g k
def X1 (d n:Int):Int:=if d % 2=1 then(if 1 < (if 20 < n / d then 20 else n / d) then 1 else(if 20 < n / d then 20 else n / d)) else(if 20 < n / d then 20 else n / d)
def Xp (ds:List Int):Nat→Nat→A8→Int→List A8
  | 0,_,m,n=>if n=0 then [m] else []
  | f+1,i,m,n=>Zad (fun k=>Xp ds f (i+1) (m.set i k) (n - k * ds.getD i ZEx)) ((X1 (ds.getD i ZEx) n).toNat+1)
theorem Zka {d n:Int} (hd:1≤d) (hn:0≤n):0≤X1 d n∧X1 d n≤20∧X1 d n * d≤n:=by
  have h0:0≤n / d:=ZY3 hn (by omega)
  have h1:n / d * d≤n:=Int.ediv_mul_le n (by omega)
  have key:∀ x:Int,0≤x→x≤n / d→x * d≤n:=fun x _ hx=>ZYu (ZYp hx (by omega)) h1
  have hb:0≤X1 d n∧X1 d n≤20∧X1 d n≤n / d:=by
    unfold X1
    generalize n / d=q at *
    repeat' split
    all_goals omega
  exact⟨hb.1,hb.2.1,key _ hb.1 hb.2.2⟩
theorem Zrg {c:Nat} {g rest l:List A8} (hl:l.length≤c+1):l++g.take ((c+1) - l.length)++rest.take ((c+1) - (l++g.take ((c+1) - l.length)).length)=l++(g++rest).take ((c+1) - l.length):=by
  rw [List.append_assoc,List.take_append,ZE8,ZTn]
  congr 3
  omega
theorem set_set {m:A8} {i:Nat} {a b:Int} (hi:i < 8):(m.set i a).set i b=m.set i b:=by
  refine A8.ext_get fun q hq=>?_
  rw [ZPe hi,ZPe hi,ZPe hi]
  split <;> rfl
theorem ZBt {k:Int} (h:0≤k∧k≤20):ZMz.wrap k=k:=Zln _ (by omega)
theorem Zrh {d n:Int} (hn:0≤n):ZTb n d=n / d:=ZZm hn
theorem ZBu {ds : List Int} (hd : OkDeg ds) : ∀ (f F i : Nat) (m : A8) (n : Int) (l : List A8) (K : List A8 → Prop), i + f = ds.length → f < F → (0 ≤ n ∧ n ≤ 40) → l.length ≤ 400 → K (l ++ (Xp ds f i m n).take (401 - l.length)) → f_spec_l01Fill F ds m i n l K := by
  intro f
  induction f with
  | zero =>
    intro F i m n l K hi hF hn hl h
    obtain ⟨F,rfl⟩:∃ G,F=G+1:=⟨F - 1,by omega⟩
    rw [f_spec_l01Fill.eq_2,if_pos (by omega)]
    unfold Xp at h
    split
    · rename_i q
      rw [if_pos q] at h
      refine⟨by unfold Z7; omega,?_⟩
      rwa [ZFw (by simp; omega)] at h
    · rename_i q
      rw [if_neg q] at h
      simpa using h
  | succ f ih =>
    intro F i m n l K hi hF hn hl h
    obtain ⟨F,rfl⟩:∃ G,F=G+1:=⟨F - 1,by omega⟩
    have h8:=hd.1
    have hdi:=hd.2 i (by omega)
    obtain ⟨t0,t20,tn⟩:=Zka (d:=ds.getD i ZEx) (n:=n) hdi.1 hn.1
    have hq0:0≤n / ds.getD i ZEx:=ZY3 hn.1 (by omega)
    have hq1:n / ds.getD i ZEx≤n:=Int.ediv_le_self _ hn.1
    rw [f_spec_l01Fill.eq_2,if_neg (by omega)]
    rw [ZY4,Zrh hn.1,i64_in (n / ds.getD i ZEx) (by omega),i64_in ((i:Int)+1) (by omega)]
    have loop:∀ (t:Int),X1 (ds.getD i ZEx) n=t→Xh (fun (s80:A8×(List A8)×Int) next82=>(if s80.2.2≥0 then(if(s80.2.1.length:Int)≤400 then((0≤(i:Int)∧(i:Int) < 8)∧((0≤(i:Int)∧(i:Int) < (ds.length:Int))∧f_spec_l01Fill F ds (s80.1.set i (ZMz.wrap s80.2.2)) ((i:Int)+1) (ZHd.wrap (n - (ZHd.wrap (s80.2.2 * (ds.getD i ZEx))))) s80.2.1 (fun r105=>next82 (s80.1.set i (ZMz.wrap s80.2.2),r105,ZHd.wrap (s80.2.2 - 1))))) else K s80.2.1) else K s80.2.1)) (m,l,t):=by
      rintro t rfl
      rw [Xp] at h
      refine Jd (fun (s:A8×List A8×Int)=>(∀ b,s.1.set i b=m.set i b)∧s.2.1.length≤401∧(-1≤s.2.2∧s.2.2≤X1 (ds.getD i ZEx) n)∧s.2.1++(Zad (fun k=>Xp ds f (i+1) (m.set i k) (n - k * ds.getD i ZEx)) (s.2.2+1).toNat).take (401 - s.2.1.length)=l++(Zad (fun k=>Xp ds f (i+1) (m.set i k) (n - k * ds.getD i ZEx)) ((X1 (ds.getD i ZEx) n).toNat+1)).take (401 - l.length)) (fun s=>(s.2.2+1).toNat) ?_ ⟨fun _=>rfl,by dsimp only; omega,by dsimp only; omega,by dsimp only; rw [show (X1 (ds.getD i ZEx) n+1).toNat=(X1 (ds.getD i ZEx) n).toNat+1 by omega]⟩
      rintro ⟨x,y,k⟩ next ⟨k1,k2,k3,k4⟩ hx
      dsimp only at k1 k2 k3 k4 hx ⊢
      split
      · rename_i hk
        have hkd0:0≤k * ds.getD i ZEx:=ZT9 hk (by omega)
        have hkd:k * ds.getD i ZEx≤n:=ZYu (ZYp k3.2 (by omega)) tn
        split
        · rename_i hy
          refine⟨by omega,by omega,?_⟩
          rw [ZBt ⟨hk,by omega⟩,i64_in (k * ds.getD i ZEx) (by omega),i64_in (n - k * ds.getD i ZEx) (by omega),i64_in (k - 1) (by omega),k1 k]
          have e:((i:Int)+1)=((i+1:Nat):Int):=by omega
          rw [e]
          refine ih F (i+1) _ _ _ _ (by omega) (by omega) (by omega) (by omega) (hx _ ⟨fun b=>by dsimp only; rw [set_set (by omega)],?_,by dsimp only; omega,?_⟩ (by dsimp only; omega))
          · dsimp only; rw [ZE8,ZTn]; omega
          · dsimp only
            rw [← k4,show (k+1).toNat=k.toNat+1 by omega,Zad,show (k - 1+1).toNat=k.toNat by omega,show ((k.toNat:Nat):Int)=k by omega]
            exact Zrg (c:=400) k2
        · rename_i hy
          have e:y.length=401:=by omega
          rw [← k4,e] at h
          simpa using h
      · rename_i hk
        rw [← k4,show (k+1).toNat=0 by omega] at h
        simpa [Zad] using h
    have ht:ZFo (ds.getD i ZEx) 2=ds.getD i ZEx % 2:=ZPg (by omega)
    rw [ht]
    refine⟨by omega,by omega,by omega,?_⟩
    split
    · rename_i q
      refine loop _ ?_
      unfold X1
      rw [if_pos (by omega)]
      clear loop h ih
      generalize n / ds.getD i ZEx=q at *
      repeat' split
      all_goals omega
    · rename_i q
      refine loop _ ?_
      unfold X1
      rw [if_neg (by omega)]
theorem ZBv {ds : List Int} (hd : OkDeg ds) (c : Nat) (hc : c ≤ 1000) : ∀ (f F i : Nat) (m : A8) (n : Int) (l : List A8) (K : List A8 → Prop), i + f = ds.length → f < F → (0 ≤ n ∧ n ≤ 40) → l.length ≤ (c + 1) → K (l ++ (Xp ds f i m n).take ((c + 1) - l.length)) → f_impl_lister_from F (ds, (c : Int), l) i m n K := by
  intro f
  induction f with
  | zero =>
    intro F i m n l K hi hF hn hl h
    obtain ⟨F,rfl⟩:∃ G,F=G+1:=⟨F - 1,by omega⟩
    rw [f_impl_lister_from.eq_2]
    dsimp only
    unfold Xp at h
    split
    · rename_i q
      rw [show (c+1) - l.length=0 by omega] at h
      simpa using h
    · rename_i q
      rw [if_pos (by omega)]
      split
      · rename_i q
        rw [if_pos q] at h
        refine⟨by unfold Z7; omega,?_⟩
        rwa [ZFw (by simp; omega)] at h
      · rename_i q
        rw [if_neg q] at h
        simpa using h
  | succ f ih =>
    intro F i m n l K hi hF hn hl h
    obtain ⟨F,rfl⟩:∃ G,F=G+1:=⟨F - 1,by omega⟩
    have h8:=hd.1
    have hdi:=hd.2 i (by omega)
    obtain ⟨t0,t20,tn⟩:=Zka (d:=ds.getD i ZEx) (n:=n) hdi.1 hn.1
    have hq0:0≤n / ds.getD i ZEx:=ZY3 hn.1 (by omega)
    have hq1:n / ds.getD i ZEx≤n:=Int.ediv_le_self _ hn.1
    rw [f_impl_lister_from.eq_2]
    dsimp only
    split
    · rename_i q
      rw [show (c+1) - l.length=0 by omega] at h
      simpa using h
    rw [if_neg (by omega)]
    rw [ZY4,Zrh hn.1,i64_in (n / ds.getD i ZEx) (by omega),i64_in ((i:Int)+1) (by omega)]
    have loop:∀ (t:Int),X1 (ds.getD i ZEx) n=t→Xh (fun (s65:A8×(List A8)×Int) next67=>(if s65.2.2≥0 then((0≤(i:Int)∧(i:Int) < 8)∧f_impl_lister_from F (ds,(c:Int),s65.2.1) ((i:Int)+1) (s65.1.set i s65.2.2) (ZHd.wrap (n - (ZHd.wrap (s65.2.2 * (ds.getD i ZEx))))) (fun m79=>next67 (s65.1.set i s65.2.2,m79,ZHd.wrap (s65.2.2 - 1)))) else K s65.2.1)) (m,l,t):=by
      rintro t rfl
      rw [Xp] at h
      refine Jd (fun (s:A8×List A8×Int)=>(∀ b,s.1.set i b=m.set i b)∧s.2.1.length≤(c+1)∧(-1≤s.2.2∧s.2.2≤X1 (ds.getD i ZEx) n)∧s.2.1++(Zad (fun k=>Xp ds f (i+1) (m.set i k) (n - k * ds.getD i ZEx)) (s.2.2+1).toNat).take ((c+1) - s.2.1.length)=l++(Zad (fun k=>Xp ds f (i+1) (m.set i k) (n - k * ds.getD i ZEx)) ((X1 (ds.getD i ZEx) n).toNat+1)).take ((c+1) - l.length)) (fun s=>(s.2.2+1).toNat) ?_ ⟨fun _=>rfl,by dsimp only; omega,by dsimp only; omega,by dsimp only; rw [show (X1 (ds.getD i ZEx) n+1).toNat=(X1 (ds.getD i ZEx) n).toNat+1 by omega]⟩
      rintro ⟨x,y,k⟩ next ⟨k1,k2,k3,k4⟩ hx
      dsimp only at k1 k2 k3 k4 hx ⊢
      split
      · rename_i hk
        have hkd0:0≤k * ds.getD i ZEx:=ZT9 hk (by omega)
        have hkd:k * ds.getD i ZEx≤n:=ZYu (ZYp k3.2 (by omega)) tn
        refine⟨by omega,?_⟩
        rw [i64_in (k * ds.getD i ZEx) (by omega),i64_in (n - k * ds.getD i ZEx) (by omega),i64_in (k - 1) (by omega),k1 k]
        have e:((i:Int)+1)=((i+1:Nat):Int):=by omega
        rw [e]
        refine ih F (i+1) _ _ _ _ (by omega) (by omega) (by omega) k2 (hx _ ⟨fun b=>by dsimp only; rw [set_set (by omega)],?_,by dsimp only; omega,?_⟩ (by dsimp only; omega))
        · dsimp only; rw [ZE8,ZTn]; omega
        · dsimp only
          rw [← k4,show (k+1).toNat=k.toNat+1 by omega,Zad,show (k - 1+1).toNat=k.toNat by omega,show ((k.toNat:Nat):Int)=k by omega]
          exact Zrg k2
      · rename_i hk
        rw [← k4,show (k+1).toNat=0 by omega] at h
        simpa [Zad] using h
    have ht:ZFo (ds.getD i ZEx) 2=ds.getD i ZEx % 2:=ZPg (by omega)
    rw [ht]
    refine⟨by omega,by omega,?_⟩
    split
    · rename_i q
      refine loop _ ?_
      unfold X1
      rw [if_pos q]
    · rename_i q
      refine loop _ ?_
      unfold X1
      rw [if_neg q]
def Zh6 (p:A8):Prop:=∀ q,q < 8→0≤p.get q∧p.get q≤20
theorem Zkb {g:Int→List A8} {p:A8}:∀ {t:Nat}, p∈Zad g t→∃ k:Nat,k < t∧p∈g k:=by
  intro t
  induction t with
  | zero=>intro h; simp [Zad] at h
  | succ t ih =>
    intro h
    rw [Zad] at h
    rcases ZE4.1 h with h | h
    · exact⟨t,by omega,h⟩
    · obtain ⟨k,hk,hp⟩:=ih h
      exact⟨k,by omega,hp⟩
theorem ZBw {ds:List Int} (hd:OkDeg ds):∀ (f i:Nat) (m:A8) (n:Int),i+f=ds.length→0≤n→Zh6 m→∀ p,p∈Xp ds f i m n→Zh6 p:=by
  intro f
  induction f with
  | zero =>
    intro i m n hi hn hm p hp
    unfold Xp at hp
    split at hp
    · rw [ZF6.1 hp]; exact hm
    · simp at hp
  | succ f ih =>
    intro i m n hi hn hm p hp
    have h8:=hd.1
    have hdi:=hd.2 i (by omega)
    obtain ⟨t0,t20,tn⟩:=Zka (d:=ds.getD i ZEx) (n:=n) hdi.1 hn
    rw [Xp] at hp
    obtain ⟨k,hk,hp⟩:=Zkb hp
    have hkd:(k:Int) * ds.getD i ZEx≤n:=ZYu (ZYp (by omega) (by omega)) tn
    refine ih (i+1) _ _ (by omega) (by omega) (fun q hq=>?_) p hp
    rw [ZPe (by omega)]
    split
    · omega
    · exact hm q hq
def mons (ds:List Int) (n:Int):List A8:=if n < 0 then [] else Xp ds ds.length 0 ZMs n
theorem ZBx {ds:List Int} (hd:OkDeg ds) {n:Int}:∀ p,p∈mons ds n→Zh6 p:=fun p hp=>by
  unfold mons at hp
  split at hp
  · simp at hp
  · exact ZBw hd _ _ _ _ (by omega) (by omega) (fun q hq=>by rw [ZYy]; omega) p hp
def Fits (ds:List Int) (n:Int):Prop:=(mons ds n).length≤120
instance (ds:List Int) (n:Int):Decidable (Fits ds n):=inferInstanceAs (Decidable (_≤_))
theorem kb {K:List A8→Bool→Prop} {a c:List A8} {b d:Bool} (h:K a b) (e1:c=a) (e2:d=b):K c d:=by rw [e1,e2]; exact h
theorem Zri {ds:List Int} (hd:OkDeg ds) {n:Int} (hn:n≤40) {K:List A8→Bool→Prop} (h1:Fits ds n→K (mons ds n) true) (h2:¬ Fits ds n→∀ l,K l false):Zej ds n 120 K:=by
  unfold Zej
  by_cases h0:n≥0
  · rw [if_pos h0]
    have h8:=hd.1
    have e:mons ds n=Xp ds ds.length 0 ZMs n:=by unfold mons; rw [if_neg (by omega)]
    refine ZBv hd 120 (by omega) ds.length 9 0 ZMs n [] _ (by omega) (by omega) (by omega) (by simp) ?_
    rw [← e]
    have et:([]:List A8)++(mons ds n).take (120+1 - ([]:List A8).length)=(mons ds n).take 121:=by simp
    by_cases hf:Fits ds n
    · have hf':(mons ds n).length≤120:=hf
      exact kb (h1 hf) (by rw [et,ZFw (by omega)]) (decide_eq_true (by rw [et,ZTn]; omega))
    · have hf':¬ (mons ds n).length≤120:=hf
      exact kb (h2 hf _) rfl (decide_eq_false (by rw [et,ZTn]; omega))
  · rw [if_neg h0]
    have e:mons ds n=[]:=by unfold mons; rw [if_pos (by omega)]
    have:=h1 (by unfold Fits; rw [e]; simp)
    rw [e] at this
    exact this
theorem Zkc {ds:List Int} (hd:OkDeg ds) {n:Int} (hn:0≤n∧n≤40) {K:List A8→Prop} (h:K ((mons ds n).take 401)):Zc1 ds n K:=by
  unfold Zc1
  have h8:=hd.1
  have e:mons ds n=Xp ds ds.length 0 ZMs n:=by unfold mons; rw [if_neg (by omega)]
  rw [e] at h
  exact ZBu hd ds.length 9 0 ZMs n [] _ (by omega) (by omega) hn (by simp) h
end Go.Proofs.YtaagfepgbofmlaaGreat
namespace Go.Proofs.YtaagfepgbofmlaaGreat
open Go Vc
end Go.Proofs.YtaagfepgbofmlaaGreat
namespace Go.Proofs.YtaagfepgbofmlaaGreat
open Go Vc
end Go.Proofs.YtaagfepgbofmlaaGreat
namespace Go.Proofs.YtaagfepgbofmlaaGreat
open Go Vc
end Go.Proofs.YtaagfepgbofmlaaGreat
namespace Go.Proofs.YtaagfepgbofmlaaGreat
open Go Vc
theorem Zdp:∀ (l xs ys:List Int) (x y:Int),y < x→Jj (l++x::xs) (l++y::ys) < 0:=by
  intro l
  induction l with
  | nil=>intro xs ys x y h; simp only [List.nil_append,Jj]; split <;> (try split) <;> omega
  | cons a l ih=>intro xs ys x y h; simp only [List.cons_append,Jj]; split <;> (try split) <;> first | omega | exact ih xs ys x y h
theorem ZBy {a b:A8} {i:Nat} (hi:i < 8) (h:∀ q,q < i→a.get q=b.get q) (hg:b.get i < a.get i):pcmp a b < 0:=by
  have hl:∀ c:A8,c.list=[c.get 0,c.get 1,c.get 2,c.get 3,c.get 4,c.get 5,c.get 6,c.get 7]:=fun _=>rfl
  unfold pcmp
  rw [hl a,hl b]
  match i,hi with
  | 0,_=>exact Zdp [] _ _ _ _ hg
  | 1,_=>rw [h 0 (by omega)]; exact Zdp [_] _ _ _ _ hg
  | 2,_=>rw [h 0 (by omega),h 1 (by omega)]; exact Zdp [_,_] _ _ _ _ hg
  | 3,_=>rw [h 0 (by omega),h 1 (by omega),h 2 (by omega)]; exact Zdp [_,_,_] _ _ _ _ hg
  | 4,_=>rw [h 0 (by omega),h 1 (by omega),h 2 (by omega),h 3 (by omega)]; exact Zdp [_,_,_,_] _ _ _ _ hg
  | 5,_=>rw [h 0 (by omega),h 1 (by omega),h 2 (by omega),h 3 (by omega),h 4 (by omega)]; exact Zdp [_,_,_,_,_] _ _ _ _ hg
  | 6,_=>rw [h 0 (by omega),h 1 (by omega),h 2 (by omega),h 3 (by omega),h 4 (by omega),h 5 (by omega)]; exact Zdp [_,_,_,_,_,_] _ _ _ _ hg
  | 7,_=>rw [h 0 (by omega),h 1 (by omega),h 2 (by omega),h 3 (by omega),h 4 (by omega),h 5 (by omega),h 6 (by omega)]; exact Zdp [_,_,_,_,_,_,_] _ _ _ _ hg
theorem Zm2 {ds:List Int}:∀ (f i:Nat) (m:A8) (n:Int),i+f=ds.length→ds.length≤8→∀ p,p∈Xp ds f i m n→∀ q,q < i→p.get q=m.get q:=by
  intro f
  induction f with
  | zero =>
    intro i m n hi h8 p hp q hq
    unfold Xp at hp
    split at hp
    · rw [ZF6.1 hp]
    · simp at hp
  | succ f ih =>
    intro i m n hi h8 p hp q hq
    rw [Xp] at hp
    obtain ⟨k,hk,hp⟩:=Zkb hp
    have:=ih (i+1) _ _ (by omega) h8 p hp q (by omega)
    rw [this,ZPe (by omega),if_neg (by omega)]
theorem ZBz {ds:List Int} {f i:Nat} {m:A8} {n k:Int} (hi:i+(f+1)=ds.length) (h8:ds.length≤8) {p:A8} (hp:p∈Xp ds f (i+1) (m.set i k) n):p.get i=k:=by
  have:=Zm2 f (i+1) (m.set i k) n (by omega) h8 p hp i (by omega)
  rw [this,ZPe (by omega),if_pos rfl]
theorem ZB0 {g:Int→List A8} {i:Nat} (hi:i < 8) (hag:∀ k k':Int,∀ a,a∈g k→∀ b,b∈g k'→∀ q,q < i→a.get q=b.get q) (hat:∀ k:Int,∀ a,a∈g k→a.get i=k) (hs:∀ k:Int,(g k).Pairwise (fun a b=>pcmp a b < 0)) :
    ∀ t,(Zad g t).Pairwise (fun a b=>pcmp a b < 0):=by
  intro t
  induction t with
  | zero=>exact ZQq
  | succ t ih =>
    rw [Zad]
    refine ZQr.2 ⟨hs _,ih,fun a ha b hb=>?_⟩
    obtain ⟨k,hk,hb⟩:=Zkb hb
    refine ZBy hi (hag _ _ a ha b hb) ?_
    rw [hat _ a ha,hat _ b hb]; omega
theorem ZB1 {ds:List Int} (h8:ds.length≤8):∀ (f i:Nat) (m:A8) (n:Int),i+f=ds.length→(Xp ds f i m n).Pairwise (fun a b=>pcmp a b < 0):=by
  intro f
  induction f with
  | zero =>
    intro i m n hi
    unfold Xp
    split
    · exact ZU4 _ _
    · exact ZQq
  | succ f ih =>
    intro i m n hi
    rw [Xp]
    refine ZB0 (i:=i) (by omega) (fun k k' a ha b hb q hq=>?_) (fun k a ha=>ZBz hi h8 ha) (fun k=>ih (i+1) _ _ (by omega)) _
    have e1:=Zm2 f (i+1) _ _ (by omega) h8 a ha q (by omega)
    have e2:=Zm2 f (i+1) _ _ (by omega) h8 b hb q (by omega)
    rw [e1,e2,ZPe (by omega),ZPe (by omega),if_neg (by omega),if_neg (by omega)]
theorem Zkd {ds:List Int} (h8:ds.length≤8) (n:Int):(mons ds n).Pairwise (fun a b=>pcmp a b < 0):=by
  unfold mons
  split
  · exact ZQq
  · exact ZB1 h8 _ _ _ _ (by omega)
def Zbh (ds:List Int) (p:A8):Nat→Nat→Int
  | 0,_=>0
  | r+1,j=>ds.getD j ZEx * p.get j+Zbh ds p r (j+1)
theorem Zrj {ds:List Int} (hd:OkDeg ds) {p:A8} (hp:∀ i,i < 8→0≤p.get i):∀ r j,j+r=ds.length→0≤Zbh ds p r j:=by
  intro r
  induction r with
  | zero=>intro j _; exact Int.le_refl _
  | succ r ih =>
    intro j hj
    have h8:=hd.1
    have:=ih (j+1) (by omega)
    have h1:=ZT9 (a:=ds.getD j ZEx) (b:=p.get j) (by have:=hd.2 j (by omega); omega) (hp j (by omega))
    simp only [Zbh]; omega
theorem ZB2 {g:Int→List A8} {p:A8} {k:Nat} (hp:p∈g k):∀ t,k < t→p∈Zad g t:=by
  intro t
  induction t with
  | zero=>intro h; omega
  | succ t ih =>
    intro h
    rw [Zad]
    by_cases e:k=t
    · subst e; exact ZFi _ hp
    · exact ZFj _ (ih (by omega))
theorem ZB3 {ds : List Int} (hd : OkDeg ds) {p : A8} (hp : ∀ i, i < 8 → 0 ≤ p.get i) (hm : OkMono ds p) : ∀ (f i : Nat) (m : A8) (n : Int), i + f = ds.length → (∀ q, q < 8 → m.get q = if q < i then p.get q else 0) → Zbh ds p f i = n → p ∈ Xp ds f i m n := by
  intro f
  induction f with
  | zero =>
    intro i m n hi hag hn
    unfold Xp
    simp only [Zbh] at hn
    rw [if_pos hn.symm,ZF6]
    refine A8.ext_get fun q hq=>?_
    rw [hag q hq]
    split
    · rfl
    · exact(hm q hq).2 (by omega)
  | succ f ih =>
    intro i m n hi hag hn
    have h8:=hd.1
    have hdi:=hd.2 i (by omega)
    have hpi:=hp i (by omega)
    have hmi:=(hm i (by omega)).1 (by omega)
    simp only [Zbh] at hn
    have hr:=Zrj hd hp f (i+1) (by omega)
    rw [Xp]
    have hk:p.get i≤n / ds.getD i ZEx:=Int.le_ediv_of_mul_le (by omega) (by rw [ZYq]; omega)
    have htop:p.get i≤X1 (ds.getD i ZEx) n:=by
      unfold X1
      by_cases o:ds.getD i ZEx % 2=1
      · have h1:=hmi.2 (by rw [ZPg (by omega)]; omega)
        rw [if_pos o]
        generalize n / ds.getD i ZEx=t at *
        repeat' split
        all_goals omega
      · rw [if_neg o]
        generalize n / ds.getD i ZEx=t at *
        repeat' split
        all_goals omega
    refine ZB2 (k:=(p.get i).toNat) ?_ _ (by omega)
    have e:(((p.get i).toNat:Nat):Int)=p.get i:=by omega
    rw [e]
    refine ih (i+1) _ _ (by omega) (fun q hq=>?_) ?_
    · rw [ZPe (by omega)]
      by_cases c:q=i
      · subst c; rw [if_pos rfl,if_pos (by omega)]
      · rw [if_neg c,hag q hq]
        by_cases c2:q < i
        · rw [if_pos c2,if_pos (by omega)]
        · rw [if_neg c2,if_neg (by omega)]
    · rw [ZYq (p.get i)]; omega
theorem ZB4 (ds:List Int) (p:A8):∀ (r j:Nat),Zbh ds p (r+1) j=Zbh ds p r j+ds.getD (j+r) ZEx * p.get (j+r):=by
  intro r
  induction r with
  | zero=>intro j; simp [Zbh]
  | succ r ih =>
    intro j
    rw [Zbh,ih (j+1),show j+1+r=j+(r+1) by omega]
    simp only [Zbh]; omega
theorem Zrk (ds:List Int) (p:A8):∀ k,Zbh ds p k 0=wtU ds p k:=by
  intro k
  induction k with
  | zero=>rfl
  | succ k ih=>rw [ZB4,ih,Nat.zero_add,wtU]
theorem Zrl {ds:List Int} (hd:OkDeg ds) {p:A8} (hp:∀ i,i < 8→0≤p.get i) (hm:OkMono ds p):p∈mons ds (wtU ds p ds.length):=by
  have h0:=Zrj hd hp ds.length 0 (by omega)
  rw [Zrk] at h0
  unfold mons
  rw [if_neg (by omega)]
  exact ZB3 hd hp hm _ _ _ _ (by omega) (fun q hq=>by rw [ZYy,if_neg (by omega)]) (Zrk ds p _)
def Zke (m:A8) (i:Nat):A8:=A8.mkf fun j=>if i < j then m.get j else if j=i then m.get i - 1 else 0
theorem Zm3 (ds:List Int) (a b:A8):∀ k,wtU ds (a.add b) k=wtU ds a k+wtU ds b k:=by
  intro k
  induction k with
  | zero=>rfl
  | succ k ih=>simp only [wtU]; rw [ih,ZYr,Int.mul_add]; omega
theorem ZB5 (ds : List Int) (m : A8) (j : Nat) : ∀ k, k ≤ 8 → wtU ds ((Xv m j).add (Zke m j)) k = wtU ds m k - if j < k then ds.getD j ZEx else 0 := by
  intro k
  induction k with
  | zero=>intro _; simp [wtU]
  | succ k ih =>
    intro hk
    simp only [wtU]
    rw [ih (by omega),ZYr,Xv,Zke,ZYs _ (by omega),ZYs _ (by omega)]
    by_cases c1:k < j
    · rw [if_pos c1,if_neg (by omega),if_neg (by omega),if_neg (by omega),if_neg (by omega),Int.add_zero]; omega
    · by_cases c2:k=j
      · subst c2
        rw [if_neg (by omega),if_neg (by omega),if_neg (by omega),if_pos rfl,if_pos (by omega),ZO6,Int.mul_sub,Int.mul_one]; omega
      · rw [if_neg c1,if_pos (by omega),if_pos (by omega),if_pos (by omega),ZO6]; omega
theorem Zrm {ds:List Int} (hd:OkDeg ds) {y:A8} (hp:∀ q,q < 8→0≤y.get q):∀ k,k≤ds.length→0≤wtU ds y k∧∀ q,q < k→y.get q≤wtU ds y k:=by
  intro k
  induction k with
  | zero=>intro _; exact⟨Int.le_refl _,fun q hq=>by omega⟩
  | succ k ih =>
    intro hk
    have h8:=hd.1
    obtain ⟨i1,i2⟩:=ih (by omega)
    have hdk:=hd.2 k (by omega)
    have hy:=hp k (by omega)
    have hm:y.get k≤ds.getD k ZEx * y.get k:=by
      have:=ZYp (a:=1) (b:=ds.getD k ZEx) (c:=y.get k) (by omega) hy
      rwa [Int.one_mul] at this
    simp only [wtU]
    refine⟨by omega,fun q hq=>?_⟩
    by_cases c:q=k
    · subst c; omega
    · have:=i2 q (by omega); omega
theorem ZB6 {ds:List Int} {m:A8} {i:Nat} {k:Int} (hi:i < 8):∀ j,j≤i→wtU ds (m.set i k) j=wtU ds m j:=by
  intro j
  induction j with
  | zero=>intro _; rfl
  | succ j ih=>intro hj; simp only [wtU]; rw [ih (by omega),ZPe hi,if_neg (by omega)]
theorem Zrn {ds : List Int} (hd : OkDeg ds) : ∀ (f i : Nat) (m : A8) (n : Int), i + f = ds.length → 0 ≤ n → (∀ q, q < 8 → i ≤ q → m.get q = 0) → (∀ q, q < i → m.get q ≤ 20 ∧ (ZFo (ds.getD q ZEx) 2 ≠ 0 → m.get q ≤ 1)) → ∀ p, p ∈ Xp ds f i m n → OkMono ds p ∧ wtU ds p ds.length = wtU ds m i + n := by
  intro f
  induction f with
  | zero =>
    intro i m n hi hn h0 h1 p hp
    unfold Xp at hp
    split at hp
    · rename_i e
      rw [ZF6.1 hp]
      refine⟨fun q hq=>⟨fun hl=>h1 q (by omega),fun hl=>h0 q hq (by omega)⟩,?_⟩
      rw [show ds.length=i by omega,e,Int.add_zero]
    · simp at hp
  | succ f ih =>
    intro i m n hi hn h0 h1 p hp
    have h8:=hd.1
    have hdi:=hd.2 i (by omega)
    obtain ⟨t0,t20,tn⟩:=Zka (d:=ds.getD i ZEx) (n:=n) hdi.1 hn
    rw [Xp] at hp
    obtain ⟨k,hk,hp⟩:=Zkb hp
    have hkt:(k:Int)≤X1 (ds.getD i ZEx) n:=by omega
    have hkd:(k:Int) * ds.getD i ZEx≤n:=ZYu (ZYp hkt (by omega)) tn
    have odd1:ZFo (ds.getD i ZEx) 2≠0→(k:Int)≤1:=fun o=>by
      rw [ZPg (by omega)] at o
      have:X1 (ds.getD i ZEx) n≤1:=by
        unfold X1
        rw [if_pos (by omega)]
        clear hkt hkd hp t0 t20 tn hk
        generalize n / ds.getD i ZEx=q at *
        repeat' split
        all_goals omega
      omega
    obtain ⟨r1,r2⟩:=ih (i+1) (m.set i k) (n - k * ds.getD i ZEx) (by omega) (by omega) (fun q hq hq2=>by rw [ZPe (by omega),if_neg (by omega)]; exact h0 q hq (by omega)) (fun q hq=>by
      rw [ZPe (by omega)]
      by_cases e:q=i
      · subst e; rw [if_pos rfl]; exact⟨by omega,odd1⟩
      · rw [if_neg e]; exact h1 q (by omega)) p hp
    refine⟨r1,?_⟩
    rw [r2,wtU,ZB6 (by omega) i (ZEw _),ZPe (by omega),if_pos rfl,ZYq (k:Int)]
    omega
theorem Zkf {ds:List Int} (hd:OkDeg ds) {n:Int} {p:A8} (h:p∈mons ds n):OkMono ds p∧wtU ds p ds.length=n∧Zh6 p:=by
  refine⟨?_,?_,ZBx hd p h⟩ <;> (unfold mons at h; split at h; · simp at h)
  · exact(Zrn hd _ _ _ _ (by omega) (by omega) (fun q hq _=>ZYy ..) (fun q hq=>by omega) p h).1
  · have:=(Zrn hd _ _ _ _ (by omega) (by omega) (fun q hq _=>ZYy ..) (fun q hq=>by omega) p h).2
    rw [this]; simp [wtU]
theorem ZB7 {p:A8} (h:Zh6 p):Zal .u8 p:=fun x hx=>by
  obtain ⟨i,hi,rfl⟩:=A8.mem_list.1 hx
  have:=h i hi
  simp only [Fit,Lit.wf,Bool.and_eq_true,decide_eq_true_eq]
  simp [IntKind.min,IntKind.max,IntKind.signed,IntKind.bits]
  omega
theorem ZB8 {m:A8} {j:Nat}:(leftA m j).add (backA m j)=(Xv m j).add (Zke m j):=A8.ext_get fun q hq=>by
  rw [ZYr,ZYr,leftA,backA,Xv,Zke,ZYs _ hq,ZYs _ hq,ZYs _ hq,ZYs _ hq]
  by_cases a:q < j
  · rw [if_pos a,if_pos a,if_neg (by omega),if_neg (by omega),if_neg (by omega)]
  · by_cases b:q=j
    · subst b; rw [if_neg a,if_pos rfl,if_neg (by omega)]; omega
    · rw [if_neg a,if_neg b,if_pos (by omega),if_neg a]
theorem ZB9 {ds:List Int} {imgs:List (List Term)} {y m:A8} (h8:ds.length≤8) (hm:OkMono ds m) (h:DMono ds imgs y m):∃ j u,j < ds.length∧0 < m.get j∧u∈imgs.getD j ZEx∧wtU ds y ds.length=wtU ds m ds.length - ds.getD j ZEx+wtU ds u.mono ds.length:=by
  obtain ⟨j,u,h1,h2,h3,rfl,_,_⟩:=h
  have hj:j < ds.length:=Nat.lt_of_not_le fun z=>by have:=(hm j h1).2 z; omega
  refine⟨j,u,hj,h2,h3,?_⟩
  have e:=ZB5 ds m j ds.length h8
  rw [← ZB8,Zm3,if_pos hj] at e
  rw [Zm3,Zm3]
  omega
theorem ZCa {ds:List Int} {imgs:List (List Term)} {y m:A8} (h8:ds.length≤8) (hm:OkMono ds m) (pm:∀ i,i < 8→0≤m.get i∧m.get i≤20) (hI:∀ j u,u∈imgs.getD j ZEx→OkMono ds u.mono∧∀ i,i < 8→0≤u.mono.get i∧u.mono.get i≤20) (h:DMono ds imgs y m):X7 ds y∧∀ q,q < 8→0≤y.get q:=by
  obtain ⟨j,u,h1,h2,h3,rfl,c1,c2⟩:=h
  obtain ⟨lb,bb,lbb⟩:=Zmm pm h2
  obtain ⟨wl,wb⟩:=Zmg hm h1 h2
  obtain ⟨ou,bu⟩:=hI j u h3
  have w1:=Zjt wl ou.wk (fun q hq=>(lb q hq).1) (fun q hq=>(bu q hq).1) (fun q hq=>by have:=lb q hq; have:=bu q hq; omega) c1
  have b1:∀ q,q < 8→0≤((leftA m j).add u.mono).get q∧((leftA m j).add u.mono).get q≤40:=fun q hq=>by rw [ZYr]; have:=lb q hq; have:=bu q hq; omega
  exact⟨Zjt w1 wb (fun q hq=>(b1 q hq).1) (fun q hq=>(bb q hq).1) (fun q hq=>by have:=b1 q hq; have:=bb q hq; omega) c2,fun q hq=>by rw [ZYr]; have:=b1 q hq; have:=bb q hq; omega⟩
theorem Zm4:∀ {l:List Term}, Canon l→∀ {t:Term}, t∈l→coT l t.mono=t.factor
  | [],_,t,ht=>by simp at ht
  | s :: l, hc, t, ht => by
    rcases ZEt.1 ht with e | ht'
    · rw [e]; exact hc.at_head
    · rw [Zcs,if_neg (Zbx (hc.head t ht')),ZO6]; exact Zm4 hc.tail ht'
theorem Zro {l:List A8} (hs:l.Pairwise (fun a b=>pcmp a b < 0)) {k:Nat} {a b:A8} (ha:a∈l.take k) (hb:b∈l.drop k):pcmp a b < 0:=by
  rw [← ZIs k l] at hs
  exact(ZQr.1 hs).2.2 a ha b hb
theorem Zrp {α:Type} [Inhabited α] {l:List α} {k:Nat} (hk:k < l.length):l.drop k=l.getD k ZEx::l.drop (k+1):=by
  rw [List.drop_eq_getElem_cons hk]; simp [ZFf,hk]
theorem ZCb {f : List Term} {l : List A8} {K : List Int → Prop} (hc : Canon f) (hs : l.Pairwise (fun a b => pcmp a b < 0)) (hin : ∀ t, t ∈ f → t.mono ∈ l) (hl : l.length ≤ 1000000) (h : K (l.map (coT f))) : Zep ⟨f⟩ l K := by
  have hfl:f.length≤1000000:=by
    have hn:(f.map Term.mono).Nodup:=by
      refine ZUc.2 (hc.1.imp fun q=>Zbx q)
    have:=hn.length_le_of_subset (l₂:=l) (fun x hx=>by obtain ⟨t,ht,rfl⟩:=ZF9.1 hx; exact hin t ht)
    rw [List.length_map] at this; omega
  unfold Zep
  dsimp only
  refine⟨by omega,?_⟩
  rw [ZY4]
  refine Jd (fun (s:List Int×Int×Int)=>(0≤s.2.1∧s.2.1≤f.length)∧(0≤s.2.2∧s.2.2≤l.length)∧s.1.length=l.length∧(∀ j,j < l.length→s.1.getD j ZEx=if j < s.2.2.toNat then coT f (l.getD j ZEx) else 0)∧(∀ t,t∈f.take s.2.1.toNat→t.mono∈l.take s.2.2.toNat)∧∀ t,t∈f.drop s.2.1.toNat→t.mono∈l.drop s.2.2.toNat) (fun s=>l.length - s.2.2.toNat) ?_ ⟨by dsimp only; omega,by dsimp only; omega,by simp,fun j hj=>by simp [ZFf,hj],by simp,by simpa using hin⟩
  rintro ⟨out,at1,k⟩ next ⟨g1,g2,g3,g4,g5,g6⟩ hn
  dsimp only at g1 g2 g3 g4 g5 g6 hn ⊢
  have fin:(∀ j,j < l.length→¬ j < k.toNat→coT f (l.getD j ZEx)=0)→K out:=fun q=>by
    have e:out=l.map (coT f):=by
      refine List.ext_getElem (by simp [g3]) fun j h1 h2=>?_
      have hj:j < l.length:=by omega
      have:=g4 j hj
      rw [show out.getD j ZEx=out[j] by simp [ZFf,h1]] at this
      rw [this,List.getElem_map,show l[j]=l.getD j ZEx by simp [ZFf,hj]]
      split
      · rfl
      · rename_i z; exact(q j hj z).symm
    rw [e]; exact h
  by_cases hk:k < (l.length:Int)
  · have hkn:k.toNat < l.length:=by omega
    refine Yw hk ?_
    have ki:(k+1).toNat=k.toNat+1:=by omega
    by_cases ha:at1 < (f.length:Int)
    · have han:at1.toNat < f.length:=by omega
      have ai:(at1+1).toNat=at1.toNat+1:=by omega
      refine Yw ha ⟨⟨g1.1,ha⟩,⟨g2.1,hk⟩,?_⟩
      rw [i64_in (k+1) (by omega),i64_in (at1+1) (by omega)]
      have hdl:=Zrp hkn
      have hdf:=Zrp han
      have hlk:l.getD k.toNat ZEx∈l.drop k.toNat:=by rw [hdl]; simp
      have hfa:f.getD at1.toNat ZEx∈f.drop at1.toNat:=by rw [hdf]; simp
      have hfm:f.getD at1.toNat ZEx∈f:=ZZp hfa
      have tk:∀ t,t∈f.take at1.toNat→t.mono≠l.getD k.toNat ZEx:=fun t ht=>Zbx (Zro hs (g5 t ht) hlk)
      have t2:∀ t,t∈f.drop (at1.toNat+1)→pcmp (f.getD at1.toNat ZEx).mono t.mono < 0:=fun t ht=>by
        have hp:=hc.1.sublist (List.drop_sublist at1.toNat f)
        rw [hdf] at hp
        exact(ZFk.1 hp).1 t ht
      have step:∀ t:Term,t.mono∈l.drop k.toNat→t.mono≠l.getD k.toNat ZEx→t.mono∈l.drop (k.toNat+1):=fun t h1 h2=>by
        rw [hdl] at h1
        rcases ZEt.1 h1 with q | q
        · exact absurd q h2
        · exact q
      have takeS:∀ t:Term,t.mono∈l.take k.toNat→t.mono∈l.take (k.toNat+1):=fun t h1=>by
        rw [X0 hkn]; exact ZFi _ h1
      by_cases q:(f.getD at1.toNat ZEx).mono=l.getD k.toNat ZEx
      · refine Yw q ⟨⟨g1.1,ha⟩,⟨g2.1,by rw [g3]; exact hk⟩,hn _ ⟨by dsimp only; omega,by dsimp only; omega,by dsimp only; rw [List.length_set]; exact g3,fun j hj=>?_,fun t ht=>?_,fun t ht=>?_⟩ (by dsimp only; omega)⟩
        · dsimp only
          rw [Zmi (by omega),ki]
          by_cases e:j=k.toNat
          · subst e
            rw [if_pos rfl,if_pos (by omega),← q,Zm4 hc hfm]
          · rw [if_neg e,g4 j hj]
            by_cases c:j < k.toNat
            · rw [if_pos c,if_pos (by omega)]
            · rw [if_neg c,if_neg (by omega)]
        · dsimp only at ht ⊢
          rw [ai,X0 han] at ht
          rw [ki]
          rcases ZE4.1 ht with z | z
          · exact takeS t (g5 t z)
          · obtain rfl:=ZF6.1 z
            rw [X0 hkn,q]; simp
        · dsimp only at ht ⊢
          rw [ai] at ht
          rw [ki]
          exact step t (g6 t (by rw [hdf]; exact ZTd _ ht)) (fun z=>Zbx (t2 t ht) (by rw [q,z]))
      · have hz : ∀ t, t ∈ f → t.mono ≠ l.getD k.toNat ZEx := fun t ht => by
          rw [← ZIs at1.toNat f] at ht
          rcases ZE4.1 ht with z | z
          · exact tk t z
          · rw [hdf] at z
            rcases ZEt.1 z with rfl | z
            · exact q
            · intro e
              have h1:=step _ (g6 _ hfa) q
              have h2:pcmp (l.getD k.toNat ZEx) (f.getD at1.toNat ZEx).mono < 0:=by
                have hp:=hs.sublist (List.drop_sublist k.toNat l)
                rw [hdl] at hp
                exact(ZFk.1 hp).1 _ h1
              have h3:=t2 t z
              rw [e] at h3
              exact Zl5 h2 h3
        refine Xc q (hn _ ⟨by dsimp only; omega,by dsimp only; omega,g3,fun j hj=>?_,fun t ht=>?_,fun t ht=>?_⟩ (by dsimp only; omega))
        · dsimp only
          rw [g4 j hj,ki]
          by_cases e:j=k.toNat
          · subst e
            rw [if_neg (by omega),if_pos (by omega),Zcu hz]
          · by_cases c:j < k.toNat
            · rw [if_pos c,if_pos (by omega)]
            · rw [if_neg c,if_neg (by omega)]
        · dsimp only at ht ⊢
          rw [ki]; exact takeS t (g5 t ht)
        · dsimp only at ht ⊢
          rw [ki]; exact step t (g6 t ht) (hz t (ZZp ht))
    · refine Xc ha (fin fun j hj hjk=>Zcu fun t ht=>?_)
      have:t∈f.take at1.toNat:=by rw [ZFw (by omega)]; exact ht
      refine Zbx (Zro hs (g5 t this) ?_)
      rw [List.mem_iff_getElem]
      exact⟨j - k.toNat,by rw [List.length_drop]; omega,by rw [List.getElem_drop]; simp [ZFf,hj,show k.toNat+(j - k.toNat)=j by omega]⟩
  · exact Xc hk (fin fun j hj hjk=>by omega)
theorem ZCc {ds:List Int} (hd:OkDeg ds) {y:A8} (hp:∀ q,q < 8→0≤y.get q):∀ k,k≤ds.length→∀ q,q < k→2≤ds.getD q ZEx→2 * y.get q≤wtU ds y k:=by
  intro k
  induction k with
  | zero=>intro _ q hq; omega
  | succ k ih =>
    intro hk q hq h2
    have h8:=hd.1
    have hdk:=hd.2 k (by omega)
    have hy:=hp k (by omega)
    have h0:=(Zrm hd hp k (by omega)).1
    simp only [wtU]
    by_cases c:q=k
    · subst c
      have:=ZYp h2 hy
      omega
    · have:=ih (by omega) q (by omega) h2
      have:=ZT9 (a:=ds.getD k ZEx) (b:=y.get k) (by omega) hy
      omega
theorem ZCd {ds : List Int} (hd : OkDeg ds) {y : A8} (hw : X7 ds y) (hp : ∀ q, q < 8 → 0 ≤ y.get q) (h : wtU ds y ds.length ≤ 40) : OkMono ds y := fun q hq =>
  ⟨fun z=>⟨by
    have h1:=(Zrm hd hp ds.length (ZEw _))
    have hdq:=hd.2 q z
    by_cases o:ZFo (ds.getD q ZEx) 2≠0
    · have:=((hw q hq).1 z).2 o; omega
    · have h2:2≤ds.getD q ZEx:=by
        rw [ZPg (by omega)] at o; omega
      have h3:=ZCc hd hp ds.length (ZEw _) q z h2
      omega,((hw q hq).1 z).2⟩,(hw q hq).2⟩
theorem ZCe {ds:List Int} (hd:OkDeg ds) {y:A8} {n:Int} (hw:X7 ds y) (hp:∀ q,q < 8→0≤y.get q) (h:wtU ds y ds.length=n) (hn:n≤40):y∈mons ds n:=by
  rw [← h]; exact Zrl hd hp (ZCd hd hw hp (by omega))
end Go.Proofs.YtaagfepgbofmlaaGreat
namespace Vc
abbrev Vec:=Nat→Int
inductive Sp (S:Vec→Prop):Vec→Prop
  | zero {u:Vec}:(∀ j,u j % 10007=0)→Sp S u
  | add {r v u:Vec} (k:Int):S r→Sp S v→(∀ j,u j % 10007=(v j+k * r j) % 10007)→Sp S u
theorem Zrq {a b c d:Int} (k:Int) (h1:a % 10007=b % 10007) (h2:c % 10007=d % 10007):(a+k * c) % 10007=(b+k * d) % 10007:=by
  rw [ZT1,ZTo k c,h1,h2,← ZTo,← ZT1]
theorem Sp.cong {S:Vec→Prop} {u v:Vec} (h:Sp S u) (e:∀ j,v j % 10007=u j % 10007):Sp S v:=by
  cases h with
  | zero z=>exact .zero fun j=>by rw [e,z]
  | add k hr hv q=>exact .add k hr hv fun j=>by rw [e,q]
theorem Sp.nil (S:Vec→Prop):Sp S (fun _=>0):=.zero fun _=>rfl
theorem Sp.gen {S:Vec→Prop} {r:Vec} (h:S r):Sp S r:=.add 1 h (Sp.nil S) fun j=>by simp
theorem Sp.sum {S:Vec→Prop} {u v:Vec} (k:Int) (hu:Sp S u) (hv:Sp S v):∀ {w:Vec}, (∀ j,w j % 10007=(u j+k * v j) % 10007)→Sp S w:=by
  induction hv with
  | @zero v z=>intro w e; exact hu.cong fun j=>by rw [e,ZT1,ZTo,z]; simp
  | @add r v' u' k' hr hv q ih =>
    intro w e
    refine .add (k * k') hr (ih (w:=fun j=>u j+k * v' j) fun _=>rfl) fun j=>?_
    rw [e,Zrq k rfl (q j)]
    congr 1
    rw [Int.mul_add,ZYt]
    omega
theorem Sp.mono {S T:Vec→Prop} (h:∀ r,S r→Sp T r) {u:Vec} (hu:Sp S u):Sp T u:=by
  induction hu with
  | zero z=>exact .zero z
  | add k hr hv q ih=>exact ih.sum k (h _ hr) q
def vec (a:List Int):Vec:=fun j=>a.getD j 0
def ld:List Int→Nat
  | []=>0
  | x::xs=>if x=0 then ld xs+1 else 0
theorem Zm5 (x:Int) (xs:List Int) (j:Nat):vec (x::xs) (j+1)=vec xs j:=rfl
theorem J3 {a:List Int} {j:Nat} (h:a.length≤j):vec a j=0:=by simp [vec,ZFf,List.getElem?_eq_none h]
theorem Zcd {a:List Int} {j:Nat} (h:j < a.length):vec a j=a[j]:=by simp [vec,ZFf,h]
theorem Jw:∀ {a:List Int} {q:Nat}, q < ld a→vec a q=0
  | [],q,h=>by simp [ld] at h
  | x :: xs, q, h => by
    unfold ld at h
    split at h
    · rename_i e
      cases q with
      | zero=>exact e
      | succ q=>rw [Zm5]; exact Jw (by omega)
    · omega
theorem Zfq:∀ {a:List Int}, ld a < a.length→vec a (ld a)≠0
  | [],h=>by simp at h
  | x :: xs, h => by
    unfold ld at h ⊢
    split
    · rename_i e
      rw [if_pos e] at h
      rw [Zm5]; exact Zfq (by simp at h; omega)
    · rename_i e; exact e
theorem Zrr {a:List Int} {k:Nat} (h:vec a k≠0):k < a.length:=Nat.lt_of_not_le fun z=>h (J3 z)
theorem Zdq {a:List Int} {k:Nat} (h1:∀ q,q < k→vec a q=0) (h2:vec a k≠0):ld a=k:=by
  have hk:=Zrr h2
  rcases ZY6 (ld a) k with q | q | q
  · exact absurd (h1 _ q) (Zfq (by omega))
  · exact q
  · exact absurd (Jw q) h2
structure RowOk (n:Nat) (a:List Int):Prop where
  len:a.length=n
  rng:∀ j,0≤vec a j∧vec a j≤10006
theorem RowOk.mod {n:Nat} {a:List Int} (h:RowOk n a) (j:Nat):vec a j % 10007=vec a j:=by have:=h.rng j; omega
theorem Zm6 {a b:List Int} (hl:a.length=b.length) (h:∀ j,vec a j=vec b j):a=b:=by
  refine List.ext_getElem hl fun i h1 h2=>?_
  have:=h i
  rwa [Zcd h1,Zcd h2] at this
theorem RowOk.ext {n:Nat} {a b:List Int} (ha:RowOk n a) (hb:RowOk n b) (h:∀ j,vec a j % 10007=vec b j % 10007):a=b :=
  Zm6 (ha.len.trans hb.len.symm) fun j=>by have:=h j; rwa [ha.mod,hb.mod] at this
def subR (k:Int) (a b:List Int):List Int:=List.zipWith (fun x y=>(x - k * y) % 10007) a b
theorem Zh7 {k:Int} {a b:List Int} (h:a.length=b.length):(subR k a b).length=a.length:=by simp [subR,h]
theorem Za3 {k:Int} {a b:List Int} (h:a.length=b.length) (j:Nat):vec (subR k a b) j=(vec a j - k * vec b j) % 10007:=by
  by_cases hj:j < a.length
  · rw [Zcd (by rw [Zh7 h]; exact hj),Zcd hj,Zcd (by omega)]
    simp [subR]
  · rw [J3 (by rw [Zh7 h]; omega),J3 (by omega),J3 (by omega)]; simp
theorem Zh8 {n:Nat} {k:Int} {a b:List Int} (ha:RowOk n a) (hb:RowOk n b):RowOk n (subR k a b):=by
  have h:=ha.len.trans hb.len.symm
  exact⟨by rw [Zh7 h,ha.len],fun j=>by rw [Za3 h]; omega⟩
theorem Zkg {n:Nat} {a b:List Int} (ha:RowOk n a) (hb:RowOk n b):subR 0 a b=a:=by
  have h:=ha.len.trans hb.len.symm
  refine(Zh8 ha hb).ext ha fun j=>?_
  rw [Za3 h]; simp
def Xd (k:Int) (a:List Int):List Int:=a.map fun x=>x * k % 10007
theorem Zbi (k:Int) (a:List Int) (j:Nat):vec (Xd k a) j=vec a j * k % 10007:=by
  by_cases hj:j < a.length
  · rw [Zcd (by simpa [Xd] using hj),Zcd hj]; simp [Xd]
  · rw [J3 (by simp [Xd]; omega),J3 (by omega)]; simp
theorem Zfr {n:Nat} {k:Int} {a:List Int} (ha:RowOk n a):RowOk n (Xd k a):=⟨by simp [Xd,ha.len],fun j=>by rw [Zbi]; omega⟩
def tt {α:Type} (f:α→Int):List α→Int
  | []=>0
  | a::l=>f a+tt f l
theorem Zkh {α:Type} {f:α→Int}:∀ {l:List α}, (∀ a,a∈l→f a=0)→tt f l=0
  | [],_=>rfl
  | a::l,h=>by simp only [tt]; rw [h a (by simp),Zkh fun b hb=>h b (by simp [hb])]; rfl
theorem Zm7 {α:Type} {f:α→Int}:∀ {l:List α}, (∀ a,a∈l→f a % 10007=0)→tt f l % 10007=0
  | [],_=>rfl
  | a :: l, h => by
    have h1:=h a (by simp)
    have h2:=Zm7 (f:=f) (l:=l) fun b hb=>h b (by simp [hb])
    simp only [tt]; omega
theorem Zrs {α:Type} {f g e:α→Int} (k:Int):∀ {l:List α}, (∀ a,a∈l→e a % 10007=(f a+k * g a) % 10007)→tt e l % 10007=(tt f l+k * tt g l) % 10007
  | [],_=>by simp [tt]
  | a :: l, h => by
    have h1:=h a (by simp)
    have h2:=Zrs (f:=f) (g:=g) (e:=e) k (l:=l) fun b hb=>h b (by simp [hb])
    simp only [tt,Int.mul_add]
    generalize k * g a=x at *
    generalize k * tt g l=y at *
    omega
structure Rref (n:Nat) (out:List (List Int)):Prop where
  ok:∀ a,a∈out→RowOk n a∧vec a (ld a)=1
  pw:out.Pairwise (fun a b=>ld a < ld b∧vec a (ld b)=0)
def gens (rows:List (List Int)):Vec→Prop:=fun v=>∃ a,a∈rows∧v=vec a
theorem Y8 {rows:List (List Int)} {a:List Int} (h:a∈rows):Sp (gens rows) (vec a):=.gen ⟨a,h,rfl⟩
def SpEq (a b:List (List Int)):Prop:=∀ u,Sp (gens a) u↔Sp (gens b) u
theorem SpEq.refl (a:List (List Int)):SpEq a a:=fun _=>Iff.rfl
theorem SpEq.symm {a b:List (List Int)} (h:SpEq a b):SpEq b a:=fun u=>(h u).symm
theorem SpEq.trans {a b c:List (List Int)} (h:SpEq a b) (h':SpEq b c):SpEq a c:=fun u=>(h u).trans (h' u)
theorem Zki {a b:List (List Int)} (h1:∀ x,x∈a→Sp (gens b) (vec x)) (h2:∀ x,x∈b→Sp (gens a) (vec x)):SpEq a b:=fun u =>
  ⟨Sp.mono fun r ⟨x,hx,e⟩=>e ▸ h1 x hx,Sp.mono fun r ⟨x,hx,e⟩=>e ▸ h2 x hx⟩
theorem Zrt {q:Nat}:∀ {out:List (List Int)}, (∀ a,a∈out→vec a (ld a)=1)→out.Pairwise (fun a b=>ld a < ld b∧vec a (ld b)=0)→∀ a,a∈out→tt (fun z=>vec a (ld z) * vec z q) out=vec a q
  | [],_,_,a,ha=>by simp at ha
  | z0 :: l, h1, hp, a, ha => by
    obtain ⟨p1,p2⟩:=ZFk.1 hp
    simp only [tt]
    rcases ZEt.1 ha with rfl | ha
    · rw [h1 a (by simp),Zkh fun z hz=>by rw [(p1 z hz).2,Int.zero_mul]]; omega
    · rw [Jw (p1 a ha).1,Int.zero_mul,ZO6]
      exact Zrt (fun b hb=>h1 b (by simp [hb])) p2 a ha
theorem Rref.comb {n:Nat} {out:List (List Int)} (h:Rref n out) {u:Vec} (hu:Sp (gens out) u) (q:Nat):u q % 10007=tt (fun z=>u (ld z) * vec z q) out % 10007:=by
  induction hu with
  | zero z=>rw [z,Zm7 fun a ha=>by rw [ZTo,z]; simp]
  | @add r v u k hr hv e ih =>
    obtain ⟨a,ha,rfl⟩:=hr
    rw [e,Zrq k ih (b:=tt (fun z=>v (ld z) * vec z q) out) (d:=tt (fun z=>vec a (ld z) * vec z q) out) (by rw [Zrt (fun b hb=>(h.ok b hb).2) h.pw a ha])]
    refine(Zrs k fun z hz=>?_).symm
    rw [ZTo,e,← ZTo,Int.add_mul,ZYt]
theorem Rref.leads {n:Nat} {out:List (List Int)} (h:Rref n out) {u:Vec} (hu:Sp (gens out) u) {q:Nat} (h0:∀ j,j < q→u j % 10007=0) (h1:u q % 10007≠0):∃ z,z∈out∧ld z=q:=by
  refine Classical.byContradiction fun no=>h1 ?_
  rw [h.comb hu]
  refine Zm7 fun z hz=>?_
  rcases ZY6 (ld z) q with c | c | c
  · rw [ZTo,h0 _ c]; simp
  · exact absurd ⟨z,hz,c⟩ no
  · rw [Jw c]; simp
theorem Rref.sep {n:Nat} {out:List (List Int)} (h:Rref n out):∀ {y z:List Int}, y∈out→z∈out→(y=z∨(ld y≠ld z∧vec z (ld y)=0)):=by
  have hp:=h.pw
  clear h
  induction out with
  | nil=>intro y z hy; simp at hy
  | cons x l ih =>
    obtain ⟨p1,p2⟩:=ZFk.1 hp
    intro y z hy hz
    rcases ZEt.1 hy with ey | hy'
    · rcases ZEt.1 hz with ez | hz'
      · exact .inl (ey.trans ez.symm)
      · have:=(p1 z hz').1; rw [ey]; exact .inr ⟨by omega,Jw this⟩
    · rcases ZEt.1 hz with ez | hz'
      · have:=p1 y hy'; rw [ez]; exact .inr ⟨by omega,this.2⟩
      · exact ih p2 hy' hz'
theorem Zru {α : Type} {R : α → α → Prop} (hR : ∀ a b, R a b → ¬ R b a) : ∀ {a b : List α}, a.Pairwise R → b.Pairwise R → (∀ x, x ∈ a ↔ x ∈ b) → a = b
  | [],[],_,_,_=>rfl
  | [],y::b,_,_,h=>absurd ((h y).2 (by simp)) (by simp)
  | x::a,[],_,_,h=>absurd ((h x).1 (by simp)) (by simp)
  | x :: a, y :: b, ha, hb, h => by
    obtain ⟨a1,a2⟩:=ZFk.1 ha
    obtain ⟨b1,b2⟩:=ZFk.1 hb
    have e:x=y:=by
      rcases ZEt.1 ((h x).1 (by simp)) with q | q
      · exact q
      · rcases ZEt.1 ((h y).2 (by simp)) with q' | q'
        · exact q'.symm
        · exact absurd (a1 y q') (hR _ _ (b1 x q))
    subst e
    have irr:∀ z,¬ R z z:=fun z hz=>hR z z hz hz
    rw [Zru hR a2 b2 fun z=>⟨fun hz=>?_,fun hz=>?_⟩]
    · rcases ZEt.1 ((h z).1 (by simp [hz])) with q | q
      · subst q; exact absurd (a1 z hz) (irr z)
      · exact q
    · rcases ZEt.1 ((h z).2 (by simp [hz])) with q | q
      · subst q; exact absurd (b1 z hz) (irr z)
      · exact q
theorem Zrv {p:Nat→Prop} [DecidablePred p]:∀ {n:Nat}, p n→∃ m,p m∧∀ j,j < m→¬ p j:=by
  intro n
  induction n using Nat.strongRecOn with
  | _ n ih =>
    intro hn
    by_cases h:∃ j,j < n∧p j
    · obtain ⟨j,hj,pj⟩:=h; exact ih j hj pj
    · exact⟨n,hn,fun j hj pj=>h ⟨j,hj,pj⟩⟩
theorem Rref.in_of {n:Nat} {a b:List (List Int)} (ha:Rref n a) (hb:Rref n b) (h:SpEq a b) {x:List Int} (hx:x∈a):x∈b:=by
  have lead:∀ {a b:List (List Int)}, Rref n a→Rref n b→SpEq a b→∀ x,x∈a→∃ z,z∈b∧ld z=ld x:=fun ha hb h x hx =>
    hb.leads ((h _).1 (Y8 hx)) (fun j hj=>by rw [Jw hj]; rfl) (by rw [(ha.ok x hx).2]; decide)
  obtain ⟨z,hz,ez⟩:=lead ha hb h x hx
  have:x=z:=by
    refine(ha.ok x hx).1.ext (hb.ok z hz).1 fun j=>?_
    refine ZZs fun nj=>?_
    have hd:Sp (gens b) (fun j=>vec x j - vec z j):=Sp.sum (-1) ((h _).1 (Y8 hx)) (Y8 hz) fun j=>by congr 1; omega
    have nj':(vec x j - vec z j) % 10007≠0:=by omega
    obtain ⟨q,h1,h2⟩:=Zrv (p:=fun j=>(vec x j - vec z j) % 10007≠0) nj'
    obtain ⟨y,hy,ey⟩:=hb.leads hd (q:=q) (fun j hj=>ZQk.1 (h2 j hj)) h1
    refine h1 ?_
    rw [← ey]
    rcases hb.sep hy hz with e | ⟨e1,e2⟩
    · subst e
      rw [(hb.ok y hy).2,ez,(ha.ok x hx).2]; rfl
    · obtain ⟨y',hy',ey'⟩:=lead hb ha h.symm y hy
      rcases ha.sep hy' hx with e | ⟨_,e4⟩
      · subst e; omega
      · rw [e2,← ey',e4]; rfl
  rw [this]; exact hz
theorem Rref.unique {n:Nat} {a b:List (List Int)} (ha:Rref n a) (hb:Rref n b) (h:SpEq a b):a=b :=
  Zru (R:=fun a b=>ld a < ld b∧vec a (ld b)=0) (fun a b h1 h2=>by omega) ha.pw hb.pw fun x=>⟨ha.in_of hb h,hb.in_of ha h.symm⟩
structure IsRref (n:Nat) (rows out:List (List Int)):Prop where
  red:Rref n out
  sp:SpEq rows out
theorem IsRref.unique {n:Nat} {rows a b:List (List Int)} (ha:IsRref n rows a) (hb:IsRref n rows b):a=b:=ha.red.unique hb.red (ha.sp.symm.trans hb.sp)
theorem Rref.nil (n:Nat):Rref n []:=⟨by simp,.nil⟩
theorem Zh9 {n:Nat} {a:List Int} (h:RowOk n a∧vec a (ld a)=1):ld a < n:=by
  have:=Zrr (a:=a) (k:=ld a) (by rw [h.2]; decide)
  rw [h.1.len] at this; exact this
structure Elim (n:Nat) (row z f:List Int):Prop where
  ok:RowOk n f
  ldq:Vc.ld f=Vc.ld z
  one:vec f (Vc.ld z)=1
  at0:vec f (Vc.ld row)=0
  oth:∀ q,vec row q=0→vec f q=vec z q
theorem elim {n:Nat} {row z:List Int} (hr:RowOk n row) (h1:vec row (ld row)=1) (hz:RowOk n z) (hz1:vec z (ld z)=1) (h0:vec row (ld z)=0):Elim n row z (subR (vec z (ld row)) z row):=by
  have hl:=hz.len.trans hr.len.symm
  have oth:∀ q,vec row q=0→vec (subR (vec z (ld row)) z row) q=vec z q:=fun q hq=>by rw [Za3 hl,hq,Int.mul_zero,Int.sub_zero,hz.mod]
  have one:vec (subR (vec z (ld row)) z row) (ld z)=1:=by rw [oth _ h0,hz1]
  refine⟨Zh8 hz hr,Zdq (fun q hq=>?_) (by rw [one]; decide),one,by rw [Za3 hl,h1]; simp,oth⟩
  rcases ZY6 q (ld row) with c | c | c
  · rw [oth _ (Jw c),Jw hq]
  · have:vec z (ld row)=0:=by rw [← c]; exact Jw hq
    rw [this,Zkg hz hr,Jw hq]
  · have:vec z (ld row)=0:=Jw (by omega)
    rw [this,Zkg hz hr,Jw hq]
theorem Rref.insert {n:Nat} {l1 l2:List (List Int)} {row:List Int} (h:Rref n (l1++l2)) (hr:RowOk n row) (h1:vec row (ld row)=1) (h0:∀ z,z∈l1++l2→vec row (ld z)=0) (hb:∀ z,z∈l1→ld z < ld row) (ha:∀ z,z∈l2→ld row < ld z) :
    Rref n (l1.map (fun z=>subR (vec z (ld row)) z row)++row::l2.map (fun z=>subR (vec z (ld row)) z row)):=by
  have he:∀ z,z∈l1++l2→Elim n row z (subR (vec z (ld row)) z row):=fun z hz=>elim hr h1 (h.ok z hz).1 (h.ok z hz).2 (h0 z hz)
  have m1:∀ {z}, z∈l1→z∈l1++l2:=fun q=>ZFi _ q
  have m2:∀ {z}, z∈l2→z∈l1++l2:=fun q=>ZFj _ q
  obtain ⟨p1,p2,p3⟩:=ZQr.1 h.pw
  have keep:∀ {y z}, y∈l1++l2→z∈l1++l2→(ld y < ld z∧vec y (ld z)=0)→(ld (subR (vec y (ld row)) y row) < ld (subR (vec z (ld row)) z row)∧vec (subR (vec y (ld row)) y row) (ld (subR (vec z (ld row)) z row))=0):=fun {y z} hy hz q=>by
    rw [(he y hy).ldq,(he z hz).ldq,(he y hy).oth _ (h0 z hz)]; exact q
  refine⟨fun a ha'=>?_,ZQr.2 ⟨?_,ZFk.2 ⟨?_,?_⟩,?_⟩⟩
  · have fin:∀ z,z∈l1++l2→RowOk n (subR (vec z (ld row)) z row)∧vec (subR (vec z (ld row)) z row) (ld (subR (vec z (ld row)) z row))=1:=fun z hz=>⟨(he z hz).ok,by rw [(he z hz).ldq]; exact(he z hz).one⟩
    rcases ZE4.1 ha' with q | q
    · obtain ⟨z,hz,rfl⟩:=ZF9.1 q; exact fin z (m1 hz)
    · rcases ZEt.1 q with rfl | q
      · exact⟨hr,h1⟩
      · obtain ⟨z,hz,rfl⟩:=ZF9.1 q; exact fin z (m2 hz)
  · exact ZUc.2 (p1.imp_of_mem fun ha hb q=>keep (m1 ha) (m1 hb) q)
  · intro f hf
    obtain ⟨z,hz,rfl⟩:=ZF9.1 hf
    rw [(he z (m2 hz)).ldq]
    exact⟨ha z hz,h0 z (m2 hz)⟩
  · exact ZUc.2 (p2.imp_of_mem fun ha hb q=>keep (m2 ha) (m2 hb) q)
  · intro f hf g hg
    obtain ⟨y,hy,rfl⟩:=ZF9.1 hf
    rcases ZEt.1 hg with rfl | hg
    · rw [(he y (m1 hy)).ldq]; exact⟨hb y hy,(he y (m1 hy)).at0⟩
    · obtain ⟨z,hz,rfl⟩:=ZF9.1 hg
      exact keep (m1 hy) (m2 hz) (p3 y hy z hz)
theorem Zrw {S:Vec→Prop} {k:Int} {a b:List Int} (h:a.length=b.length) (ha:Sp S (vec a)) (hb:Sp S (vec b)):Sp S (vec (subR k a b)) :=
  Sp.sum (-k) ha hb fun j=>by rw [Za3 h,ZYv,Int.neg_mul]; congr 1
theorem Zrx {S:Vec→Prop} {k:Int} {a b:List Int} (h:a.length=b.length) (ha:Sp S (vec (subR k a b))) (hb:Sp S (vec b)):Sp S (vec a) :=
  Sp.sum k ha hb fun j=>by
    rw [Za3 h]
    generalize k * vec b j=x
    omega
end Vc
namespace Vc
def at_ (w:List (List Int)) (i:Nat):List Int:=w.getD i []
theorem Zia {w:List (List Int)} {i:Nat} (h:i < w.length):at_ w i=w[i]:=by simp [at_,ZFf,h]
theorem Za4 {w:List (List Int)} {i:Nat} (h:i < w.length):at_ w i∈w:=by rw [Zia h]; exact List.getElem_mem h
theorem Zkj {w:List (List Int)} {a:List Int} (h:a∈w):∃ i,i < w.length∧at_ w i=a:=by
  obtain ⟨i,hi,e⟩:=List.getElem_of_mem h
  exact⟨i,hi,by rw [Zia hi,e]⟩
theorem Zfs {w:List (List Int)} {d:Nat} (hd:d < w.length) (x:List Int) (i:Nat):at_ (w.set d x) i=if i=d then x else at_ w i:=by
  unfold at_
  simp only [ZFf]
  by_cases e:i=d
  · subst e; rw [if_pos rfl,List.getElem?_set_self hd]; rfl
  · rw [if_neg e,List.getElem?_set_ne (fun z=>e z.symm)]
theorem Zib {w:List (List Int)} {d i:Nat} (h:i < d):at_ (w.take d) i=at_ w i:=by
  unfold at_; simp only [ZFf]; rw [List.getElem?_take,if_pos h]
theorem Zm8 {a b:List (List Int)} (h1:∀ i,i < a.length→Sp (gens b) (vec (at_ a i))) (h2:∀ i,i < b.length→Sp (gens a) (vec (at_ b i))):SpEq a b :=
  Zki (fun x hx=>by obtain ⟨i,hi,rfl⟩:=Zkj hx; exact h1 i hi) (fun x hx=>by obtain ⟨i,hi,rfl⟩:=Zkj hx; exact h2 i hi)
structure Inv (n:Nat) (rows work:List (List Int)) (d c:Nat):Prop where
  ok:∀ i,i < work.length→RowOk n (at_ work i)
  sp:SpEq rows work
  dl:d≤work.length
  piv:∀ i,i < d→ld (at_ work i) < c∧vec (at_ work i) (ld (at_ work i))=1
  clr:∀ i j,i < d→j < work.length→i≠j→vec (at_ work j) (ld (at_ work i))=0
  inc:∀ i j,i < j→j < d→ld (at_ work i) < ld (at_ work j)
  rest:∀ i q,d≤i→i < work.length→q < c→vec (at_ work i) q=0
theorem Inv.start {n:Nat} {rows:List (List Int)} (h:∀ a,a∈rows→RowOk n a):Inv n rows rows 0 0 :=
  ⟨fun i hi=>h _ (Za4 hi),SpEq.refl _,ZGh _,fun i hi=>absurd hi (by omega),fun i j hi=>absurd hi (by omega),fun i j _ hj=>absurd hj (by omega),fun i q _ _ hq=>absurd hq (by omega)⟩
theorem Inv.skip {n:Nat} {rows work:List (List Int)} {d c:Nat} (h:Inv n rows work d c) (hz:∀ i,d≤i→i < work.length→vec (at_ work i) c=0):Inv n rows work d (c+1) :=
  ⟨h.ok,h.sp,h.dl,fun i hi=>⟨Nat.lt_succ_of_lt (h.piv i hi).1,(h.piv i hi).2⟩,h.clr,h.inc,fun i q h1 h2 hq=>by
    rcases ZF1 q c with g | g
    · exact h.rest i q h1 h2 g
    · obtain rfl:q=c:=by omega
      exact hz i h1 h2⟩
def Zai (l:List (List Int)) (i j:Nat):List (List Int):=(l.set i (at_ l j)).set j (at_ l i)
theorem Zkk {l:List (List Int)} {d p:Nat} (hd:d < l.length) (hp:p < l.length) (i:Nat):at_ (Zai l d p) i=if i=p then at_ l d else if i=d then at_ l p else at_ l i:=by
  unfold Zai
  rw [Zfs (by simpa using hp)]
  split
  · rfl
  · rw [Zfs hd]
theorem Zic {l:List (List Int)} {d p:Nat}:(Zai l d p).length=l.length:=by simp [Zai]
structure Swept (d c:Nat) (w w3:List (List Int)):Prop where
  len:w3.length=w.length
  row:∀ j,j < w.length→at_ w3 j=if j=d then at_ w d else subR (vec (at_ w j) c) (at_ w j) (at_ w d)
theorem Inv.step {n : Nat} {rows work w3 : List (List Int)} {d c p : Nat} {by_ : Int} (h : Inv n rows work d c) (hdp : d ≤ p) (hp : p < work.length)
    (hby:vec (at_ work p) c * by_ % 10007=1) (hs:Swept d c ((Zai work d p).set d (Xd by_ (at_ (Zai work d p) d))) w3):Inv n rows w3 (d+1) (c+1):=by
  have hd:d < work.length:=by omega
  have hd1:d < (Zai work d p).length:=by rw [Zic]; exact hd
  generalize hw2:(Zai work d p).set d (Xd by_ (at_ (Zai work d p) d))=w2 at hs
  have l2:w2.length=work.length:=by rw [← hw2,List.length_set,Zic]
  have l3:w3.length=work.length:=by rw [hs.len,l2]
  have e1:at_ (Zai work d p) d=at_ work p:=by
    rw [Zkk hd hp]
    by_cases q:d=p
    · subst q; rw [if_pos rfl]
    · rw [if_neg q,if_pos rfl]
  have a2:∀ i,at_ w2 i=if i=d then Xd by_ (at_ work p) else if i=p then at_ work d else at_ work i:=fun i=>by
    rw [← hw2,Zfs hd1,e1,Zkk hd hp]
    by_cases q:i=d
    · rw [if_pos q,if_pos q]
    · rw [if_neg q,if_neg q]
      by_cases q2:i=p
      · rw [if_pos q2,if_neg q]
      · rw [if_neg q2,if_neg q]
  have hr:at_ w2 d=Xd by_ (at_ work p):=by rw [a2,if_pos rfl]
  have rok:RowOk n (at_ w2 d):=by rw [hr]; exact Zfr (h.ok p hp)
  have rc:vec (at_ w2 d) c=1:=by rw [hr,Zbi,hby]
  have rl:∀ q,q < c→vec (at_ w2 d) q=0:=fun q hq=>by rw [hr,Zbi,h.rest p q hdp hp hq]; simp
  have rld:ld (at_ w2 d)=c:=Zdq rl (by rw [rc]; decide)
  have ok2:∀ i,i < work.length→RowOk n (at_ w2 i):=fun i hi=>by
    rw [a2]; split
    · exact Zfr (h.ok p hp)
    · split
      · exact h.ok d hd
      · exact h.ok i hi
  have a3:∀ j,j < work.length→at_ w3 j=if j=d then at_ w2 d else subR (vec (at_ w2 j) c) (at_ w2 j) (at_ w2 d):=fun j hj=>hs.row j (by omega)
  have a3d:at_ w3 d=at_ w2 d:=by rw [a3 d hd,if_pos rfl]
  have a3n:∀ j,j < work.length→j≠d→at_ w3 j=subR (vec (at_ w2 j) c) (at_ w2 j) (at_ w2 d):=fun j hj hn=>by rw [a3 j hj,if_neg hn]
  have len2:∀ j,j < work.length→(at_ w2 j).length=(at_ w2 d).length:=fun j hj=>(ok2 j hj).len.trans rok.len.symm
  -- a row at which the row d has nothing keeps its number
  have keep:∀ j q,j < work.length→j≠d→vec (at_ w2 d) q=0→vec (at_ w3 j) q=vec (at_ w2 j) q:=fun j q hj hn hq=>by
    rw [a3n j hj hn,Za3 (len2 j hj),hq,Int.mul_zero,Int.sub_zero,(ok2 j hj).mod]
  have atc:∀ j,j < work.length→j≠d→vec (at_ w3 j) c=0:=fun j hj hn=>by rw [a3n j hj hn,Za3 (len2 j hj),rc]; simp
  have low2:∀ i,i < d→at_ w2 i=at_ work i:=fun i hi=>by rw [a2,if_neg (by omega),if_neg (by omega)]
  have el:∀ i,i < d→Elim n (at_ w2 d) (at_ work i) (at_ w3 i):=fun i hi=>by
    have hi':i < work.length:=by omega
    have hpv:=h.piv i hi
    have:=elim rok (by rw [rld,rc]) (h.ok i hi') hpv.2 (rl _ hpv.1)
    rw [rld] at this
    rw [a3n i hi' (by omega),low2 i hi]; exact this
  have ldi:∀ i,i < d→ld (at_ w3 i)=ld (at_ work i):=fun i hi=>(el i hi).ldq
  refine⟨fun i hi=>?_,h.sp.trans ?_,by omega,fun i hi=>?_,fun i j hi hj hij=>?_,fun i j hij hj=>?_,fun i q hi hil hq=>?_⟩
  · rw [l3] at hi
    rw [a3 i hi]; split
    · exact rok
    · exact Zh8 (ok2 i hi) rok
  · have s1 : SpEq work w2 := by
      refine Zm8 (fun i hi=>?_) (fun i hi=>?_)
      · have back:Sp (gens w2) (vec (at_ work p)):=by
          refine Sp.sum (vec (at_ work p) c) (Sp.nil _) (Y8 (Za4 (w:=w2) (i:=d) (by omega))) fun j=>?_
          rw [hr,Zbi,ZO6,ZTo,ZYv,← ZTo]
          have:vec (at_ work p) c * (vec (at_ work p) j * by_)=vec (at_ work p) j * (vec (at_ work p) c * by_):=by
            rw [← ZYt,ZYq (vec (at_ work p) c),ZYt]
          rw [this,ZTo,hby]; simp
        by_cases q:i=p
        · rw [q]; exact back
        · by_cases q2:i=d
          · have:at_ work i=at_ w2 p:=by rw [a2,if_neg (by omega),if_pos rfl,q2]
            rw [this]; exact Y8 (Za4 (by omega))
          · have:at_ work i=at_ w2 i:=by rw [a2,if_neg q2,if_neg q]
            rw [this]; exact Y8 (Za4 (by omega))
      · rw [l2] at hi
        rw [a2]; split
        · refine Sp.sum by_ (Sp.nil _) (Y8 (Za4 hp)) fun j=>?_
          rw [Zbi,ZYv,ZO6,ZYq]
        · split
          · exact Y8 (Za4 hd)
          · exact Y8 (Za4 hi)
    have s2:SpEq w2 w3:=by
      have g3:Sp (gens w3) (vec (at_ w2 d)):=by rw [← a3d]; exact Y8 (Za4 (by omega))
      have g2:Sp (gens w2) (vec (at_ w2 d)):=Y8 (Za4 (by omega))
      refine Zm8 (fun i hi=>?_) (fun i hi=>?_)
      · rw [l2] at hi
        by_cases q:i=d
        · rw [q]; exact g3
        · refine Zrx (k:=vec (at_ w2 i) c) (len2 i hi) ?_ g3
          rw [← a3n i hi q]; exact Y8 (Za4 (by omega))
      · rw [l3] at hi
        by_cases q:i=d
        · rw [q,a3d]; exact g2
        · rw [a3n i hi q]
          exact Zrw (len2 i hi) (Y8 (Za4 (by omega))) g2
    exact s1.trans s2
  · by_cases q:i=d
    · rw [q,a3d,rld]; exact⟨by omega,rc⟩
    · have hi':i < d:=by omega
      rw [ldi i hi']
      exact⟨Nat.lt_succ_of_lt (h.piv i hi').1,(el i hi').one⟩
  · rw [l3] at hj
    by_cases q:i=d
    · subst q; rw [a3d,rld]; exact atc j hj (fun z=>hij z.symm)
    · have hi':i < d:=by omega
      rw [ldi i hi']
      have hpv:=h.piv i hi'
      by_cases qj:j=d
      · rw [qj,a3d]; exact rl _ hpv.1
      · rw [keep j _ hj qj (rl _ hpv.1),a2,if_neg qj]
        split
        · exact h.clr i d hi' hd (by omega)
        · exact h.clr i j hi' hj hij
  · by_cases q:j=d
    · have hi':i < d:=by omega
      rw [q,a3d,rld,ldi i hi']; exact(h.piv i hi').1
    · rw [ldi i (by omega),ldi j (by omega)]; exact h.inc i j hij (by omega)
  · rw [l3] at hil
    have qd:i≠d:=by omega
    by_cases qc:q=c
    · rw [qc]; exact atc i hil qd
    · rw [keep i q hil qd (rl q (by omega)),a2,if_neg qd]
      split
      · exact h.rest d q (ZEw _) hd (by omega)
      · exact h.rest i q (by omega) hil (by omega)
theorem Inv.fin {n : Nat} {rows work : List (List Int)} {d c : Nat} (h : Inv n rows work d c) (he : d = work.length ∨ n ≤ c) : IsRref n rows (work.take d) := by
  have hd:=h.dl
  have lt:(work.take d).length=d:=by rw [ZTn]; omega
  refine⟨⟨fun a ha=>?_,?_⟩,h.sp.trans (Zm8 (fun i hi=>?_) (fun i hi=>?_))⟩
  · obtain ⟨i,hi,rfl⟩:=Zkj ha
    rw [Zib (by omega)]
    exact⟨h.ok i (by omega),(h.piv i (by omega)).2⟩
  · rw [List.pairwise_iff_getElem]
    intro i j hi hj hij
    rw [← Zia hi,← Zia hj,Zib (by omega),Zib (by omega)]
    exact⟨h.inc i j hij (by omega),h.clr j i (by omega) (by omega) (by omega)⟩
  · by_cases q:i < d
    · rw [← Zib q]; exact Y8 (Za4 (by omega))
    · refine .zero fun j=>?_
      rcases he with e | e
      · omega
      · rcases ZF1 j n with g | g
        · rw [h.rest i j (by omega) hi (by omega)]; rfl
        · rw [J3 (by rw [(h.ok i hi).len]; exact g)]; rfl
  · rw [Zib (by omega)]; exact Y8 (Za4 (by omega))
theorem Rref.split_at {n : Nat} {out : List (List Int)} (h : Rref n out) (k : Nat) : ∃ l1 l2, out = l1 ++ l2 ∧ (∀ z, z ∈ l1 → ld z < k) ∧ ∀ z, z ∈ l2 → k ≤ ld z := by
  have hp:=h.pw
  clear h
  induction out with
  | nil=>exact⟨[],[],rfl,by simp,by simp⟩
  | cons x l ih =>
    obtain ⟨p1,p2⟩:=ZFk.1 hp
    by_cases q:ld x < k
    · obtain ⟨l1,l2,e,h1,h2⟩:=ih p2
      exact⟨x::l1,l2,by rw [e]; rfl,fun z hz=>by
        rcases ZEt.1 hz with rfl | hz
        · exact q
        · exact h1 z hz,h2⟩
    · exact⟨[],x::l,rfl,by simp,fun z hz=>by
        rcases ZEt.1 hz with rfl | hz
        · omega
        · have:=(p1 z hz).1; omega⟩
structure IsBy (n:Nat) (out:List (List Int)) (row r:List Int):Prop where
  ok:RowOk n r
  clr:∀ z,z∈out→vec r (ld z)=0
  df:Sp (gens out) (fun j=>vec row j - vec r j)
theorem IsBy.nil {n:Nat} {row:List Int} (h:RowOk n row):IsBy n [] row row:=⟨h,by simp,.zero fun j=>by simp⟩
theorem IsBy.step {n:Nat} {l1 l2:List (List Int)} {z row r:List Int} (hR:Rref n (l1++z::l2)) (h:IsBy n l1 row r):IsBy n (l1++[z]) row (subR (vec r (ld z)) r z):=by
  have hz:=hR.ok z (by simp)
  have hl:=h.ok.len.trans hz.1.len.symm
  obtain ⟨_,_,p3⟩:=ZQr.1 hR.pw
  refine⟨Zh8 h.ok hz.1,fun y hy=>?_,Sp.sum (vec r (ld z)) (h.df.mono fun v ⟨x,hx,e⟩=>.gen ⟨x,by simp [hx],e⟩) (Y8 (a:=z) (by simp)) fun j=>?_⟩
  · rw [Za3 hl]
    rcases ZE4.1 hy with hy | hy
    · rw [h.clr y hy,Jw (p3 y hy z (by simp)).1]; simp
    · obtain rfl:=ZF6.1 hy
      rw [hz.2]; simp
  · rw [Za3 hl]
    generalize vec r (ld z) * vec z j=x
    omega
theorem IsBy.same {n:Nat} {l1 l2:List (List Int)} {z row r:List Int} (hR:Rref n (l1++z::l2)) (h:IsBy n l1 row r) (h0:vec r (ld z)=0):IsBy n (l1++[z]) row r:=by
  have:=h.step hR
  rwa [h0,Zkg h.ok (hR.ok z (by simp)).1] at this
theorem IsBy.unique {n:Nat} {out:List (List Int)} {row a b:List Int} (hR:Rref n out) (ha:IsBy n out row a) (hb:IsBy n out row b):a=b:=by
  refine ha.ok.ext hb.ok fun j=>?_
  refine ZZs fun nj=>?_
  have hd:Sp (gens out) (fun j=>vec a j - vec b j):=Sp.sum (-1) hb.df ha.df fun j=>by congr 1; omega
  have nj':(vec a j - vec b j) % 10007≠0:=by omega
  obtain ⟨q,h1,h2⟩:=Zrv (p:=fun j=>(vec a j - vec b j) % 10007≠0) nj'
  obtain ⟨y,hy,ey⟩:=hR.leads hd (q:=q) (fun j hj=>ZQk.1 (h2 j hj)) h1
  refine h1 ?_
  rw [← ey,ha.clr y hy,hb.clr y hy]; rfl
theorem IsRref.zero (n:Nat):IsRref n [] []:=⟨Rref.nil n,SpEq.refl _⟩
theorem Zid {S:Vec→Prop} {a b:Vec} (hd:Sp S (fun j=>a j - b j)):Sp S a↔Sp S b :=
  ⟨fun h=>Sp.sum (-1) h hd fun j=>by congr 1; omega,fun h=>Sp.sum 1 h hd fun j=>by congr 1; omega⟩
theorem IsRref.put0 {n:Nat} {rows out:List (List Int)} {row r:List Int} (h:IsRref n rows out) (hb:IsBy n out row r) (h0:∀ j,vec r j=0):IsRref n (rows++[row]) out:=by
  refine⟨h.red,Zki (fun x hx=>?_) (fun x hx=>?_)⟩
  · rcases ZE4.1 hx with hx | hx
    · exact(h.sp _).1 (Y8 hx)
    · obtain rfl:=ZF6.1 hx
      exact(Zid hb.df).2 (.zero fun j=>by rw [h0]; rfl)
  · exact((h.sp _).2 (Y8 hx)).mono fun v ⟨y,hy,e⟩=>.gen ⟨y,by simp [hy],e⟩
theorem IsRref.put {n : Nat} {rows l1 l2 : List (List Int)} {row r : List Int} {k : Int} (h : IsRref n rows (l1 ++ l2)) (hb : IsBy n (l1 ++ l2) row r) (hk : vec r (ld r) * k % 10007 = 1) (h1 : ∀ z, z ∈ l1 → ld z < ld r) (h2 : ∀ z, z ∈ l2 → ld r ≤ ld z) :
    IsRref n (rows++[row]) (l1.map (fun z=>subR (vec z (ld r)) z (Xd k r))++Xd k r::l2.map (fun z=>subR (vec z (ld r)) z (Xd k r))):=by
  have rok:RowOk n (Xd k r):=Zfr hb.ok
  have r1:vec (Xd k r) (ld r)=1:=by rw [Zbi,hk]
  have rl:ld (Xd k r)=ld r:=Zdq (fun q hq=>by rw [Zbi,Jw hq]; simp) (by rw [r1]; decide)
  have rz:∀ z,z∈l1++l2→vec (Xd k r) (ld z)=0:=fun z hz=>by rw [Zbi,hb.clr z hz]; simp
  have n0:vec r (ld r)≠0:=fun z=>by rw [z] at hk; simp at hk
  have ins:=h.red.insert rok (by rw [rl]; exact r1) rz (fun z hz=>by rw [rl]; exact h1 z hz) (fun z hz=>by
    rw [rl]
    have:=h2 z hz
    have:=hb.clr z (ZFj _ hz)
    rcases ZF1 (ld r) (ld z) with g | g
    · exact g
    · rw [show ld z=ld r by omega] at this; exact absurd this n0)
  rw [rl] at ins
  refine⟨ins,Zki (fun x hx=>?_) (fun x hx=>?_)⟩
  · generalize hT:l1.map (fun z=>subR (vec z (ld r)) z (Xd k r))++Xd k r::l2.map (fun z=>subR (vec z (ld r)) z (Xd k r))=T at *
    have gr:Sp (gens T) (vec (Xd k r)):=Y8 (by rw [← hT]; simp)
    have gz:∀ z,z∈l1++l2→Sp (gens T) (vec z):=fun z hz=>by
      refine Zrx (k:=vec z (ld r)) ((h.red.ok z hz).1.len.trans rok.len.symm) (Y8 ?_) gr
      rw [← hT]
      rcases ZE4.1 hz with q | q
      · exact ZFi _ (ZF9.2 ⟨z,q,rfl⟩)
      · exact ZFj _ (ZTd _ (ZF9.2 ⟨z,q,rfl⟩))
    have up:∀ {v}, Sp (gens (l1++l2)) v→Sp (gens T) v:=fun q=>q.mono fun v ⟨y,hy,e⟩=>e ▸ gz y hy
    rcases ZE4.1 hx with hx | hx
    · exact up ((h.sp _).1 (Y8 hx))
    · obtain rfl:=ZF6.1 hx
      refine(Zid (up hb.df)).2 (Sp.sum (vec r (ld r)) (Sp.nil _) gr fun j=>?_)
      rw [Zbi,ZO6,ZTo,ZYv,← ZTo]
      have:vec r (ld r) * (vec r j * k)=vec r j * (vec r (ld r) * k):=by
        rw [← ZYt,ZYq (vec r (ld r)),ZYt]
      rw [this,ZTo,hk]; simp
  · generalize hR:rows++[row]=R
    have up:∀ {v}, Sp (gens rows) v→Sp (gens R) v:=fun q=>q.mono fun v ⟨y,hy,e⟩=>.gen ⟨y,by rw [← hR]; simp [hy],e⟩
    have gz:∀ z,z∈l1++l2→Sp (gens R) (vec z):=fun z hz=>up ((h.sp _).2 (Y8 hz))
    have grow:Sp (gens R) (vec r):=by
      refine(Zid (hb.df.mono fun v ⟨y,hy,e⟩=>e ▸ gz y hy)).1 (Y8 (by rw [← hR]; simp))
    have gr:Sp (gens R) (vec (Xd k r)):=Sp.sum k (Sp.nil _) grow fun j=>by rw [Zbi,ZYv,ZO6,ZYq]
    have fin:∀ z,z∈l1++l2→Sp (gens R) (vec (subR (vec z (ld r)) z (Xd k r))):=fun z hz=>Zrw ((h.red.ok z hz).1.len.trans rok.len.symm) (gz z hz) gr
    rcases ZE4.1 hx with q | q
    · obtain ⟨z,hz,rfl⟩:=ZF9.1 q; exact fin z (ZFi _ hz)
    · rcases ZEt.1 q with rfl | q
      · exact gr
      · obtain ⟨z,hz,rfl⟩:=ZF9.1 q; exact fin z (ZFj _ hz)
end Vc
namespace Go.Proofs.YtaagfepgbofmlaaGreat
open Go Vc
def goN:Nat→Nat→Nat→Nat→Nat
  | 0,_,o,_=>o
  | f+1,x,o,k=>if k=0 then o else goN f (x * x % 10007) (if k % 2=1 then o * x % 10007 else o) (k / 2)
def Zbj (x:Nat):Nat:=goN 14 x 1 10005
def chk (a:Nat):Bool:=(List.range 101).all fun b=>(101 * a+b == 0) || Nat.blt 10006 (101 * a+b) || (101 * a+b) * Zbj (101 * a+b) % 10007 == 1
theorem ZCf:(List.range 100).all chk=true:=by decide +kernel
theorem ZCg {x:Nat} (h1:1≤x) (h2:x≤10006):x * Zbj x % 10007=1:=by
  have h:=List.all_eq_true.1 ZCf (x / 101) (List.mem_range.2 (by omega))
  have h':=List.all_eq_true.1 h (x % 101) (List.mem_range.2 (by omega))
  have e:101 * (x / 101)+x % 101=x:=Nat.div_add_mod x 101
  rw [e] at h'
  simp only [Bool.or_eq_true,beq_iff_eq] at h'
  rcases h' with (q | q) | q
  · omega
  · rw [Nat.blt_eq] at q; omega
  · exact q
theorem ZCh (f x o:Nat):goN f x o 0=o:=by
  cases f with
  | zero=>rfl
  | succ f=>rw [goN,if_pos rfl]
theorem ZCi {f x o k:Nat} (hk:k≠0):goN (f+1) x o k=goN f (x * x % 10007) (if k % 2=1 then o * x % 10007 else o) (k / 2):=by
  rw [goN,if_neg hk]
theorem ZCj:∀ (f x o k:Nat),o≤10006→goN f x o k≤10006:=by
  intro f
  induction f with
  | zero=>intro x o k h; exact h
  | succ f ih =>
    intro x o k h
    rw [goN]
    split
    · exact h
    · refine ih _ _ _ ?_
      split
      · omega
      · exact h
theorem Zry (x:Nat):Zbj x≤10006:=ZCj _ _ _ _ (by omega)
theorem ZCk {a b:Nat} (ha:a≤10006) (hb:b≤10006):a * b≤100120036:=Nat.mul_le_mul ha hb
theorem Zrz {a b:Nat} (ha:a≤10006) (hb:b≤10006):ZFo (ZHd.wrap ((a:Int) * (b:Int))) 10007=((a * b % 10007:Nat):Int):=by
  have h:=ZCk ha hb
  rw [show (a:Int) * (b:Int)=((a * b:Nat):Int) by simp,i64_in _ (by omega),ZPg (by omega)]
  rfl
def InvSt (x:Nat) (X O k:Int):Prop:=∃ (f x' o' k':Nat),X=x'∧O=o'∧k=k'∧x'≤10006∧o'≤10006∧(k' < 2 ^ f∧k'≤10005)∧goN f x' o' k'=Zbj x
theorem InvSt.start {x:Nat} (hx:x≤10006):InvSt x x 1 10005:=⟨14,x,1,10005,rfl,rfl,rfl,hx,by omega,⟨by decide,by omega⟩,rfl⟩
theorem InvSt.step {x:Nat} {X O k:Int} (h:InvSt x X O k) (hk:k > 0) :
    InvSt x (ZFo (ZHd.wrap (X * X)) 10007) (if ZFo k 2=1 then ZFo (ZHd.wrap (O * X)) 10007 else O) (ZHd.wrap (ZTb k 2))∧(ZHd.wrap (ZTb k 2)).toNat < k.toNat:=by
  obtain ⟨f,x',o',k',rfl,rfl,rfl,h1,h2,⟨h3,h5⟩,h4⟩:=h
  have hk0:k'≠0:=by omega
  cases f with
  | zero=>simp at h3; omega
  | succ f =>
    rw [ZCi hk0] at h4
    have e1:ZTb (k':Int) 2=((k' / 2:Nat):Int):=by rw [ZZm (by omega)]; rfl
    have e2:(ZFo (k':Int) 2=1)↔k' % 2=1:=by rw [ZPg (by omega)]; omega
    rw [e1,Zrz h1 h1,i64_in ((k' / 2:Nat):Int) (by omega)]
    refine⟨⟨f,_,if k' % 2=1 then o' * x' % 10007 else o',k' / 2,rfl,?_,rfl,by omega,?_,⟨?_,by omega⟩,h4⟩,by omega⟩
    · by_cases q:k' % 2=1
      · rw [if_pos q,if_pos (e2.2 q),Zrz h2 h1]
      · rw [if_neg q,if_neg (fun z=>q (e2.1 z))]
    · split <;> omega
    · rw [Nat.pow_succ] at h3; omega
theorem InvSt.done {x:Nat} {X O k:Int} (h:InvSt x X O k) (hk:¬ k > 0):O=Zbj x:=by
  obtain ⟨f,x',o',k',rfl,rfl,rfl,h1,h2,⟨h3,h5⟩,h4⟩:=h
  obtain rfl:k'=0:=by omega
  rw [ZCh] at h4; rw [h4]
theorem ZCl {x:Nat} (hx:x≤10006) {K:Int→Prop} (h:K (Zbj x)):Zhs (x:Int) K:=by
  unfold Zhs
  refine Jd (fun (s:Int×Int×Int)=>InvSt x s.1 s.2.1 s.2.2) (fun s=>s.2.2.toNat) ?_ (InvSt.start hx)
  rintro ⟨X,O,k⟩ next g hn
  dsimp only at g hn ⊢
  by_cases hk:k > 0
  · refine Yw hk ?_
    obtain ⟨g1,g2⟩:=g.step hk
    by_cases q:ZFo k 2=1
    · rw [if_pos q] at g1
      exact Yw q (hn _ g1 g2)
    · rw [if_neg q] at g1
      exact Xc q (hn _ g1 g2)
  · refine Xc hk ?_
    rw [g.done hk]; exact h
theorem ZCm {x:Nat} (hx:x≤10006) {K:Int→Prop} (h:K (Zbj x)):Zeo (x:Int) K:=by
  unfold Zeo
  refine Jd (fun (s:Int×Int×Int)=>InvSt x s.2.1 s.1 s.2.2) (fun s=>s.2.2.toNat) ?_ (InvSt.start hx)
  rintro ⟨O,X,k⟩ next g hn
  dsimp only at g hn ⊢
  by_cases hk:k > 0
  · refine Yw hk ?_
    obtain ⟨g1,g2⟩:=g.step hk
    by_cases q:ZFo k 2=1
    · rw [if_pos q] at g1
      exact Yw q (hn _ g1 g2)
    · rw [if_neg q] at g1
      exact Xc q (hn _ g1 g2)
  · refine Xc hk ?_
    rw [g.done hk]; exact h
end Go.Proofs.YtaagfepgbofmlaaGreat
