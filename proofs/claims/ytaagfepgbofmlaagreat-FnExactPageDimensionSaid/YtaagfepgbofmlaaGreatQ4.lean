import Derived.Test.YtaagfepgbofmlaaGreatQ3
set_option linter.unusedSectionVars false
set_option linter.unusedSimpArgs false
set_option linter.unusedVariables false
open Go renaming wp_seq→ZKw,wp_block→ZK2,wp_skip→ZK0,wp_ret→ZK4,wp_exit→ZLa
open Go.Instr renaming buildSlice→ZXu
open Go.IntKind renaming i64→ZFm,u8→ZK8
open Go.Proofs.Tryz renaming underlying85→ZXp,prog→ZKz,underlying22→ZLf,underlying132→ZXq,func109→ZXt,func163→ZXw,func128→ZXx,underlying55→ZK3,func55→ZXy,underlying53→ZK6,f150→ZXz,underlying125→ZTq,func168→ZX1,func126→ZX2,func110→ZX3,underlying136→ZLe,underlying5→ZLx,underlying32→ZLg,func150→ZX4,func125→ZLm,func170→ZX7,func71→ZX8,underlying2→ZL5,underlying162→ZLb,func164→ZYc,func169→ZYe
open Go.Value renaming ownBlock→ZD0,int→ZN5
open Inhabited renaming default→ZC7
open Int renaming tdiv→ZTa,natCast_nonneg→ZLc,ofNat_lt→ZLv,tmod→ZDy,toNat_of_nonneg→ZN6
open List renaming mem_append→ZDd,replicate→ZC2,toArray→ZKu,length_eq_one_iff→ZLt,mem_cons→ZC3,not_mem_nil→ZFc,length_nil→ZX6,mem_append_left→ZDr,pairwise_singleton→ZYi,mem_singleton_self→ZTj
open Nat renaming le_trans→ZDa,lt_of_le_of_lt→ZOj,zero_le→ZEp,le_of_ble_eq_true→ZK5
open Option renaming toList→ZLw
open Vc renaming TInts→ZNz,ETerm→ZKx,TForm→ZLi,Form→ZKy
open Vc.A8 renaming enc→ZKt
open Vc.Ctx renaming start→ZLh
open Vc.Enc renaming encs_append→ZLo,encs_one'→ZL1,encs→ZTn,encs_len→ZYb
open Vc.Tr renaming sl→ZTe,item→ZLd,trep→ZXr
open Vc.Ty renaming item→ZKv,allItem→ZXs
set_option maxRecDepth 4000
set_option maxHeartbeats 4000000
namespace Go.Proofs.YtaagfepgbofmlaaGreat
open Go Go.RowKit Vc
variable {b0 bp0 b1 bp1 b2 bp2 b3 bp3 b4 bp4 b5 bp5 b6 bp6 b7 bp7 mb0:Nat} {u0_0 u0_1 u0_2 u0_3 u0_4 u0_5 u1_0 u1_1 u1_2 u1_3 u1_4 u1_5 u2_0 u2_1 u2_2 u2_3 u2_4 u2_5 u3_0 u3_1 u3_2 u3_3 u3_4 u3_5 u4_0 u4_1 u4_2 u4_3 u4_4 u4_5 u5_0 u5_1 u5_2 u5_3 u5_4 u5_5 u6_0 u6_1 u6_2 u6_3 u6_4 u6_5 u7_0 u7_1 u7_2 u7_3 u7_4 u7_5:Value} {fp0 fp1 fp2 fp3 fp4 fp5 fp6 fp7 fp0_0 fp0_1 fp0_2 fp0_3 fp0_4 fp0_5 fp1_0 fp1_1 fp1_2 fp1_3 fp1_4 fp1_5 F0:List Nat} {D0:List Lev}
theorem sc85:ScaT ZKz 85:=⟨⟨_,ZXp,rfl⟩,by kernel_rfl⟩
theorem Zak (w:World):(ZXu 85 0 #[]).run ZKz w=.ok (.slice (some ⟨w.heap.size,0,none⟩) 0 0) (w.alloc (.cells (ZKu []) 22)):=by kernel_rfl
theorem Zad (x0:Value) (hx0:Zef x0) (w:World):(ZXu 85 1 #[(0,x0)]).run ZKz w=.ok (.slice (some ⟨w.heap.size,0,none⟩) 1 1) (w.alloc (.cells (ZKu [x0]) 22)):=by obtain ⟨_,_,_,rfl⟩:=hx0; kernel_rfl
theorem J2:J4 ZKz 22 (.slice none 0 0) 1 24:=by unfold J4; kernel_rfl
def Zkr (C:Cx) (a0:Alg) (a1:Int) (K:Prop):Prop :=
 (Zcr C a0.degrees a1∧((Zcr C a0.degrees (ZFm.wrap (a1+1))∧Yc (fun i10 (s10:(List (List Int))) nx10=>Zdz a0 (Yt ([]:List (A8×Int)) ((C.LV a1).getD i10 ZC7) 1) (fun r11=>Zew (⟨C.LV (ZFm.wrap (a1+1)),C.PL (ZFm.wrap (a1+1))⟩:Vc.Lvl) r11 (fun r10=>(Zy (s10.length+1) 24∧nx10 (s10++[r10]))))) (fun (s10:(List (List Int)))=>(s10=C.MX a1∧K)) ((C.LV a1).length) 0 [])∧K))
theorem Zze (C:Cx) (a0:Alg) (a1:Int)  {K:Prop} (h:Zkr C a0 a1 K) (w0:World) (q0:TAlg.rep a0 [u0_0,u0_1] fp0 w0) (qb0:(blk b0 32 [u0_0,u0_1]).holds w0) (qbp0:(blk bp0 198 [vQ b0,.map (some mb0)]).holds w0) (qx0:(cpx C 125 mb0 D0 F0).holds w0) (dq0:∀ b,b∈fp0→b∉(cpx C 125 mb0 D0 F0).fp) (db0:b0∉(cpx C 125 mb0 D0 F0).fp) (dbp0:bp0∉(cpx C 125 mb0 D0 F0).fp) :
  Calls ZKz 135 #[vQ bp0,vI a1] w0 fun e w'=>∃ (zb0:Nat) (Dz:List Lev) (Fz:List Nat),
   e=.returned (vvP zb0)∧K∧LvAt Dz a1 zb0 true false∧CpLe D0 Dz F0 Fz∧(cpx C 125 mb0 Dz Fz).holds w'∧(∀ x,x∈(cpx C 125 mb0 Dz Fz).fp→x∈(cpx C 125 mb0 D0 F0).fp∨w0.heap.size≤x)∧BelO ((cpx C 125 mb0 D0 F0).fp) w0 w':=by
 unfold Zkr at h
 refine cof Tryz.func135 rfl 55 Tryz.ntmps135 ?_
 have hC:=Ctx.startL w0 ((cpx C 125 mb0 D0 F0).fp) [cpx C 125 mb0 D0 F0] [ZKv TAlg a0 [u0_0,u0_1] fp0,blk b0 32 [u0_0,u0_1],blk bp0 198 [vQ b0,.map (some mb0)]] (al1 qx0) (alc q0 (alc qb0 (al1 qbp0))) (al1 (fun b_ hb_=>hb_)) (ZYi _ _) (alc (fun b_ hb_=>dq0 b_ hb_) (alc (Zdt db0) (al1 (Zdt dbp0))))
 replace hC:=hC.dAlg 0 rfl
 refine sr (Zd (v:=.pointer none) rfl (dn (sr (Za (v:=vQ bp0) rfl (Za (v:=vI a1) rfl ?_)))))
 obtain ⟨ho10,h⟩:=h
 refine Zg [vQ bp0,vI a1] _ Tryz.func115 rfl rfl rfl (Zia C a0 a1 ho10 _ (Yp (hC.getP 1 rfl) (hC.getP 0 rfl)) (hC.getP 3 rfl) (hC.getP 4 rfl) (hC.getM 0 rfl) (fun b_ hb hb2_=>(ZDd.1 hb).elim (fun hb=>hC.pd _ (List.mem_of_getElem? (i:=1) rfl) b_ hb _ (List.mem_of_getElem? (i:=0) rfl) hb2_) (fun hb=>hC.pd _ (List.mem_of_getElem? (i:=0) rfl) b_ hb _ (List.mem_of_getElem? (i:=0) rfl) hb2_)) (fun hx_=>hC.pd _ (List.mem_of_getElem? (i:=3) rfl) _ (ZTj _) _ (List.mem_of_getElem? (i:=0) rfl) hx_) (fun hx_=>hC.pd _ (List.mem_of_getElem? (i:=4) rfl) _ (ZTj _) _ (List.mem_of_getElem? (i:=0) rfl) hx_)) (fun ret7 w9 hR8=>?_)
 obtain ⟨b10,D10,F11,rfl,hat18,hle12,hx13,hf10,hB10⟩:=hR8
 refine⟨_,rfl,?_⟩
 replace hC:=hC.turnI 0 rfl (hB10.belO Zb6) hx13 hf10
 refine Zd (v:=vvP b10) rfl (dn (ZKw (sr (Za (v:=vvP b10) rfl (Xl rfl (Z1 2 ZTq rfl sc85.size rfl rfl ?_))))))
 obtain ⟨u12,u13,u11,u14,u15,u16,hb10,Ad10,n27,c10,hv10,hmd30⟩:=Zyw (hC.getM 0 rfl) hat18
 refine Yo (u11) (Za4 (off:=2) (sz:=1) hb10 rfl) sc85 rfl ?_
 rcases Ad10 with _ | Ad11
 ·replace h:=h.1
  refine Zkk true ZXp (tr rfl hv10) rfl rfl (dn (Z6 rfl rfl (sr (Za (v:=vvP b10) rfl (Yh (sz:=1) hC [] [] rfl (fun _=>Zak _) rfl (by decide) fun b11 w11 hB_ hC=>?_)))))
  replace hC:=hC.pushM0 (Ya (ZTe 2 (eI.tr)) ([]:List (List Int)) [] []) (Jb _ _) rfl
  replace hC:=hC.gather (c:=ZLd (ZTe 22 (ZTe 2 (eI.tr))) [] [.slice (some ⟨b11,0,none⟩) 0 0] ((ZLw (ZD0 (.slice (some ⟨b11,0,none⟩) 0 0)))++([]:List (List Nat)).flatten)) (fun x_ hx_=>(ZDd.1 hx_).symm) (fun h1_ h2_ hd_=>X3 h2_ h1_ (fun b_ hb_ hb2_=>hd_ b_ hb2_ hb_))
  refine Xl rfl (Z1 2 ZTq rfl sc85.size rfl rfl ?_)
  replace hC:=hC.sM [1,0] (M':=[cpx C 125 mb0 D10 F11,ZLd (ZTe 22 (ZTe 2 (eI.tr))) [] [.slice (some ⟨b11,0,none⟩) 0 0] ((ZLw (ZD0 (.slice (some ⟨b11,0,none⟩) 0 0)))++([]:List (List Nat)).flatten)]) (by decide) rfl
  obtain ⟨D36,D37,ev38,rfl,hn10,hb11,hz41,hC⟩:=hC.focus hat18
  replace hC:=hC.derive 0 rfl (ZKv ((EA .i64).ty.sl) (C.LV a1) [ev38.vl] F11) (fun h_=>Zys h_ (by simp) hn10) (fun _ h_=>h_)
  refine Z4 (v:=.slice (some ⟨b11,0,none⟩) 0 0) hC 0 [.slice (some ⟨b11,0,none⟩) 0 0] [ev38.vl,.map (some ev38.pb),.slice (some ⟨b11,0,none⟩) 0 0,ev38.vc,ev38.vd,ev38.vk] rfl sc85.size rfl rfl (Zl9 (ZXr _ (hC.getM 3 rfl).1)) rfl (Xr (Zdq (ZXr _ (hC.getM 3 rfl).1)) rfl) (ZK5 rfl) rfl fun w12 hC=>dn (sr (Za (v:=vQ bp0) rfl (Za (v:=vI a1) rfl (Zq rfl rfl ?_))))
  replace hC:=hC.sM [2,1,0,3] (M':=[Yd (vvI .i64) vvP mb0 ((D36++ev38::D37).map Lev.key),lvB 125 (D36++D37),blk b10 125 [ev38.vl,.map (some ev38.pb),.slice (some ⟨b11,0,none⟩) 0 0,ev38.vc,ev38.vd,ev38.vk],ZLd (ZTe 22 (ZTe 2 (eI.tr))) [] [.slice (some ⟨b11,0,none⟩) 0 0] ((ZLw (ZD0 (.slice (some ⟨b11,0,none⟩) 0 0)))++([]:List (List Nat)).flatten)]) (by decide) rfl
  replace hC:=hC.sP [1,6,5,4,0,2,3] (Ps':=[cpP C (D36++ev38::D37) F11,blk bp0 198 [vQ b0,.map (some mb0)],blk b0 32 [u0_0,u0_1],ZKv TAlg a0 [u0_0,u0_1] fp0,ZKv ((EA .i64).ty.sl) (C.LV a1) [ev38.vl] F11,ZKv ZLi.sl a0.images [u0_1] fp0,ZKv TInts a0.degrees [u0_0] fp0]) rfl
  obtain ⟨ho11,h⟩:=h
  have hz58:=hC.size
  refine Zzd ho11 hC rfl rfl (fun ev49 D50 F51 w13 hn11 hm10 hz55 hnw57 hC hB13=>?_)
  have hv12:ev49∈((D36++D37))++D50:=Zyx hm10 (fun q_=>Zyy a1 (hn11.symm.trans ((congrArg Lev.n q_).trans hn10)))
  refine Zd (v:=vvP ev49.b) rfl (dn (sr (Za (v:=vQ b10) rfl (Xl rfl (Z1 0 ZTq rfl sc122.size rfl rfl (Yb hC 2 (ev38.vl) rfl sc122 rfl rfl ?_))))))
  obtain ⟨Ad12,c11,hv13⟩:=Zu (hC.getP 4 rfl)
  refine Zt Tryz.underlying122 (tr rfl hv13) (Za (v:=vI 0) rfl (dn (ZK2 ?_)))
  have hN10:(C.LV a1).length≤9223372036854775807:=Y2 (hC.getP 4 rfl)
  refine Yk (S:=(List (List Int))) _ _ (fun i10 s10 e_ w_=>∃ (v10:Value),∃ (f10:List Nat),Zv e_ [(0,vQ bp0),(5,vQ b10),(6,vvP ev49.b),(28,ev38.vl),(29,vI ((C.LV a1).length:Int)),(30,vI (i10:Int))]∧Ctx (fun c_=>c_∈(cpx C 125 mb0 D0 F0).fp) w0 w_ [Yd (vvI .i64) vvP mb0 (((D36++ev38::D37)++D50).map Lev.key),lvB 125 ((D36++D37)++D50),blk b10 125 [ev38.vl,.map (some ev38.pb),v10,ev38.vc,ev38.vd,ev38.vk],ZLd (ZTe 22 (ZTe 2 (eI.tr))) s10 [v10] f10] [cpP C ((D36++ev38::D37)++D50) (F11++F51),blk bp0 198 [vQ b0,.map (some mb0)],blk b0 32 [u0_0,u0_1],ZKv TAlg a0 [u0_0,u0_1] fp0,ZKv ((EA .i64).ty.sl) (C.LV a1) [ev38.vl] F11,ZKv ZLi.sl a0.images [u0_1] fp0,ZKv TInts a0.degrees [u0_0] fp0]) ((C.LV a1).length) ?_ ?_ (s0:=[]) ?_ h
  ·clear hC h
   rintro i10 s10 e_ w14 nx10 K10 hi10 ⟨v10,f10,hS_,hC⟩ h hK10
   rw [ue hS_]
   refine sr (Zp rfl rfl (dn (ZKw (Z6 rfl (decide_eq_true (by omega)) (ZK0 (Ze (ZKw (ZK2 (sr ?_)))))))))
   obtain ⟨Ad13,c12,hv11⟩:=Zx (hC.getP 4 rfl) i10 hi10
   refine Yn (len:=(C.LV a1).length) Tryz.underlying122 ag73.size (tr rfl hv11) rfl (ZLc _) (ZLv.2 hi10) (Ji (ZKt .i64 ((C.LV a1).getD i10 ZC7)) (Ye (hC.getP 4 rfl) hv11 i10 hi10) ag73 rfl rfl (Ys hC (ZKt .i64 A8.zero) z73 rfl fun b15 w15 hB_ hC=>Z4 (v:=.agg (ZKu (ZKt .i64 ((C.LV a1).getD i10 ZC7)))) hC 0 (ZKt .i64 ((C.LV a1).getD i10 ZC7)) (ZKt .i64 ((C.LV a1).getD i10 ZC7)) rfl ag73.size rfl rfl rfl rfl rfl (ZK5 rfl) rfl fun w16 hC=>dn ?_))
   refine Zl2 17 Yl [0,0,2,6,14,0,0,64,192,448,0,0,3072,7168,16320,32736,65504,131070,262143,524287,1048575] [4,9,11] [0,1,2,3,5,6,7,8,13] (by kernel_rfl) (by kernel_rfl) (by kernel_rfl) (fun hM11 hM10 w10 hB_=>?_)
   replace hC:=hC.grow hB_
   have hN_:w10.heap.size≤w10.heap.size:=Nat.le_refl _
   refine bMR (Xf _) 0 (vQ b10) rfl hM10 (Zc 21 1) (bMR (Xf _) 1 (vQ b10) rfl hM10 (Zc 21 3) (Zw (Xf _) 2 (vQ b10) rfl rfl (by kernel_rfl) (hM10 2 rfl) (fun w_=>.inl ⟨rfl,by exact Zau rfl⟩) (l9:=(Zc 21 7)) (by kernel_rfl) (Zw (Xf _) 3 (.pointer (some ⟨b10,2,none⟩)) rfl rfl (by kernel_rfl) (hM10 3 rfl) (fun w_=>.inl ⟨rfl,by exact Yr 2 ZTq rfl sc85.size rfl rfl⟩) (l9:=(Zc 21 15)) (by kernel_rfl) (Za7 (Xf _) 4 (v10) rfl rfl (by kernel_rfl) (hM11 4 rfl) (fun w_ hB_=>.inl ⟨rfl,by exact Yg (hC.grow (Zcj hB_)) 3 (v10) rfl sc85 rfl rfl⟩) (l9:=(Zc 21 31)) (by kernel_rfl) (bMR (Xf _) 5 (vvP ev49.b) rfl hM10 (Zc 21 63) (bMR (Xf _) 6 (vQ bp0) rfl hM10 (Zc 21 127) (Zw (Xf _) 7 (vQ bp0) rfl rfl (by kernel_rfl) (hM10 7 rfl) (fun w_=>.inl ⟨rfl,by exact Zau rfl⟩) (l9:=(Zc 21 255)) (by kernel_rfl) (Zw (Xf _) 8 (vQ bp0) rfl rfl (by kernel_rfl) (hM10 8 rfl) (fun w_=>.inl ⟨rfl,by exact Yr 0 Tryz.underlying198 rfl sc66.size rfl rfl⟩) (l9:=(Zc 21 511)) (by kernel_rfl) (Za7 (Xf _) 9 (vQ b0) rfl rfl (by kernel_rfl) (hM11 9 rfl) (fun w_ hB_=>.inl ⟨rfl,by exact Zc3 (vQ b0) ((hC.grow (Zcj hB_)).getP 1 rfl) sc66 rfl rfl⟩) (l9:=(Zc 21 1023)) (by kernel_rfl) (Za7 (Xf _) 11 (.agg (ZKu (ZKt .i64 ((C.LV a1).getD i10 ZC7)))) rfl rfl (by kernel_rfl) (hM11 11 rfl) (fun w_ hB_=>.inl ⟨rfl,by exact Xc (hC.grow (Zcj hB_)) 0 (ZKt .i64 ((C.LV a1).getD i10 ZC7)) rfl ag73 rfl rfl rfl⟩) (l9:=(Zc 21 3071)) (by kernel_rfl) ?_))))))))))
   refine aO 10 rfl (Zds hC (kvA .i64) (vvI .i64) fun b13 w17 hn_ hB_ hC=>?_)
   have hnb_b197:=ZDa hN_ hn_
   refine done ?_
   refine Xd (Jk hN_ (by assumption)) hN_ (l9:=(Zc 21 4095)) (by kernel_rfl) (fun hN_=>?_)
   refine aO 12 rfl ?_
   refine Zap hC 0 ((C.LV a1).getD i10 ZC7) 1 rfl Jt Tryz.underlying115 rfl rfl rfl (fun w18 hBB_ hC=>?_) (.inr rfl)
   refine done ?_
   refine Xd (Zab hN_ hnb_b197 hBB_) hN_ (l9:=(Zc 21 8191)) (by kernel_rfl) (fun hN_=>?_)
   refine bMR (Xf _) 13 (.map (some b13)) rfl hM10 (Zc 21 16383) (aO 14 rfl ?_)
   refine Zg [vQ b0,.map (some b13)] _ Tryz.func154 rfl rfl rfl (Zmu a0 (Yt ([]:List (A8×Int)) ((C.LV a1).getD i10 ZC7) 1) h _ (Yp (hC.getP 6 rfl) (hC.getP 5 rfl)) (hC.getP 2 rfl) (hC.getM 0 rfl)) (fun ret10 w19 hR10=>?_)
   obtain ⟨r11,b14,rfl,h,hr10,hf11,hB11⟩:=hR10
   refine⟨_,rfl,?_⟩
   replace hC:=hC.push hB11 (mapS b14 r11) hr10 (fun b_ hb_=>by obtain rfl:=List.mem_singleton.1 hb_; exact hf11)
   refine done ?_
   refine Xd (Jk hN_ (by assumption)) hN_ (l9:=(Zc 21 32767)) (by kernel_rfl) (fun hN_=>?_)
   refine aO 15 rfl ?_
   refine Zg [vvP ev49.b,.map (some b14)] _ Tryz.func85 rfl rfl rfl (Zq9 (⟨C.LV (ZFm.wrap (a1+1)),C.PL (ZFm.wrap (a1+1))⟩:Vc.Lvl) r11 h _ (Zq6 (hC.getP 0 rfl) hm10 hn11) (Zkn (hC.getM 4 rfl) hv12) (hC.getM 0 rfl)) (fun ret11 w20 hR11=>?_)
   obtain ⟨r10,u10,f11,rfl,h,hr11,hf12,hB12⟩:=hR11
   refine⟨_,rfl,?_⟩
   replace hC:=hC.push hB12 (ZLd (ZTe 2 (eI.tr)) r10 [u10] f11) hr11 hf12
   obtain ⟨ho12,hf13⟩:=Y6 (hC.getM 0 rfl).1
   subst hf13
   replace hC:=hC.recast (c:=own 2 1 u10 r10.length (eI.encs r10)) (fun _ h_=>h_) (fun _=>ho12)
   refine done ?_
   refine Xd (Jk hN_ (by assumption)) hN_ (l9:=(Zc 21 65535)) (by kernel_rfl) (fun hN_=>?_)
   refine aO 16 rfl (Yh (sz:=1) hC [(0,u10)] [u10] rfl (fun _=>Zad u10 (Zbc (hC.getM 0 rfl)) _) rfl (by decide) fun b12 w21 hB_ hC=>?_)
   replace hC:=hC.pushM0 (Ya (ZTe 2 (eI.tr)) [] [] []) (Jb _ _) rfl
   replace hC:=hC.sM [2,0,1,3,4,5,6,7,8,9] (M':=[own 2 1 u10 r10.length (eI.encs r10),Ya (ZTe 2 (eI.tr)) [] [] [],own 22 1 (.slice (some ⟨b12,0,none⟩) 1 1) 1 [u10],mapS b14 r11,mapS b13 (Yt ([]:List (A8×Int)) ((C.LV a1).getD i10 ZC7) 1),blk b15 73 (ZKt .i64 ((C.LV a1).getD i10 ZC7)),Yd (vvI .i64) vvP mb0 (((D36++ev38::D37)++D50).map Lev.key),lvB 125 ((D36++D37)++D50),blk b10 125 [ev38.vl,.map (some ev38.pb),v10,ev38.vc,ev38.vd,ev38.vk],ZLd (ZTe 22 (ZTe 2 (eI.tr))) s10 [v10] f10]) (by decide) rfl
   replace hC:=hC.gather (c:=Ya (ZTe 2 (eI.tr)) [r10] [u10] [(ZLw (ZD0 u10))]) (fun x_ hx_=>Zbk hx_) (fun h1_ h2_ hd_=>Zbb (c:=[u10]) (id (Xq h1_)) h2_ hd_)
   replace hC:=hC.sM [1,0,2,3,4,5,6,7,8] (M':=[own 22 1 (.slice (some ⟨b12,0,none⟩) 1 1) 1 [u10],Ya (ZTe 2 (eI.tr)) [r10] [u10] [(ZLw (ZD0 u10))],mapS b14 r11,mapS b13 (Yt ([]:List (A8×Int)) ((C.LV a1).getD i10 ZC7) 1),blk b15 73 (ZKt .i64 ((C.LV a1).getD i10 ZC7)),Yd (vvI .i64) vvP mb0 (((D36++ev38::D37)++D50).map Lev.key),lvB 125 ((D36++D37)++D50),blk b10 125 [ev38.vl,.map (some ev38.pb),v10,ev38.vc,ev38.vd,ev38.vk],ZLd (ZTe 22 (ZTe 2 (eI.tr))) s10 [v10] f10]) (by decide) rfl
   replace hC:=hC.gather (c:=ZLd (ZTe 22 (ZTe 2 (eI.tr))) [r10] [.slice (some ⟨b12,0,none⟩) 1 1] ((ZLw (ZD0 (.slice (some ⟨b12,0,none⟩) 1 1)))++([(ZLw (ZD0 u10))]:List (List Nat)).flatten)) (fun x_ hx_=>ZDd.1 hx_) (fun h1_ h2_ hd_=>X3 h1_ h2_ hd_)
   refine done ?_
   refine Xd (Jk hN_ (by assumption)) hN_ (l9:=(Zc 21 131071)) (by kernel_rfl) (fun hN_=>?_)
   refine aO 17 rfl ?_
   replace hC:=hC.sM [7,0,1,2,3,4,5,6] (M':=[ZLd (ZTe 22 (ZTe 2 (eI.tr))) s10 [v10] f10,ZLd (ZTe 22 (ZTe 2 (eI.tr))) [r10] [.slice (some ⟨b12,0,none⟩) 1 1] ((ZLw (ZD0 (.slice (some ⟨b12,0,none⟩) 1 1)))++([(ZLw (ZD0 u10))]:List (List Nat)).flatten),mapS b14 r11,mapS b13 (Yt ([]:List (A8×Int)) ((C.LV a1).getD i10 ZC7) 1),blk b15 73 (ZKt .i64 ((C.LV a1).getD i10 ZC7)),Yd (vvI .i64) vvP mb0 (((D36++ev38::D37)++D50).map Lev.key),lvB 125 ((D36++D37)++D50),blk b10 125 [ev38.vl,.map (some ev38.pb),v10,ev38.vc,ev38.vd,ev38.vk]]) (by decide) rfl
   obtain ⟨hm11,h⟩:=h
   refine Za8 hC ZXp J2 rfl (by decide) (by decide) rfl rfl hm11 fun v11 f12 w22 hC=>done (Zgk (by decide) (l9:=(Zc 21 262143)) (by kernel_rfl) (Z7 18 (by decide) (by decide) (by kernel_rfl) (by kernel_rfl) rfl (Xl rfl (Z1 2 ZTq rfl sc85.size rfl rfl (Z4 (v:=v11) hC 6 [v11] [ev38.vl,.map (some ev38.pb),v11,ev38.vc,ev38.vd,ev38.vk] rfl sc85.size rfl rfl (Zl9 (ZXr _ (hC.getM 0 rfl).1)) rfl (Xr (Zdq (ZXr _ (hC.getM 0 rfl).1)) rfl) (ZK5 rfl) rfl fun w23 hC=>done (Z8 (Zr (Ze (Zh ?_)))))))))
   refine Zq rfl rfl (Za (v:=vI (ZFm.wrap ((i10:Int)+1))) rfl (done ?_))
   exact hK10 (s10++[r10]) _ _ ⟨v11,f12,(sl ⟨rfl,rfl,rfl,rfl,rfl,(tr rfl (congrArg _ (Z5 hi10 hN10))),trivial⟩),(hC.xM [4,5,6,0] rfl)⟩ h
  ·clear hC h
   rintro s10 e_ w24 K10 ⟨v10,f10,hS_,hC⟩ h
   rw [ue hS_]
   refine sr (Zp rfl rfl (dn (ZKw (Z2 rfl (decide_eq_false (by omega)) ?_))))
   refine ZLa (Zj (Zj (Z0 ?_)))
   refine Ze (sr (Za (v:=vQ b10) rfl (Zd (v:=vQ b10) rfl (dn (ZK4 ?_)))))
   obtain ⟨hmx234,h⟩:=h
   obtain ⟨D235,F236,hle237,hat238,hx239,hf14⟩:=Zyz (n:=a1) (hC.getM 0 rfl) (hC.getM 1 rfl) (hC.getM 2 rfl) (hC.getP 0 rfl) (hmx234 ▸ (hC.getM 3 rfl)) hn10 hb11 (hC.mm 0 2 rfl rfl (by decide)) (hC.mm 0 1 rfl rfl (by decide)) (hC.mm 0 3 rfl rfl (by decide)) (hC.mm 2 1 rfl rfl (by decide)) (hC.mm 2 3 rfl rfl (by decide)) (hC.mm 1 3 rfl rfl (by decide)) (fun x_ hx_ hy_=>hC.pd _ (List.mem_of_getElem? (i:=0) rfl) x_ hx_ _ (List.mem_of_getElem? (i:=0) rfl) hy_) (fun x_ hx_ hy_=>hC.pd _ (List.mem_of_getElem? (i:=0) rfl) x_ hx_ _ (List.mem_of_getElem? (i:=2) rfl) hy_) (fun x_ hx_ hy_=>hC.pd _ (List.mem_of_getElem? (i:=0) rfl) x_ hx_ _ (List.mem_of_getElem? (i:=1) rfl) hy_) hnw57
   refine Zi (fn:=Tryz.f135) rfl ?_ ⟨b10,D235,F236,rfl,h,hat238,(hle12.trans hle237),hx239,(fun x_ hx_=>((hf14 x_ hx_).elim (hC.anyX 0 rfl x_) (fun q_=>q_.elim (hC.anyX 2 rfl x_) (fun q_=>q_.elim (hC.anyX 1 rfl x_) (fun q_=>q_.elim (hz41 x_) (fun q_=>q_.elim (fun q_=>.inl (ZDa hz58 (hz55 x_ q_))) (hC.anyX 3 rfl x_)))))).symm),hC.belO⟩ (.inl rfl)
   exact Zf rfl
  ·skip
   exact⟨.slice (some ⟨b11,0,none⟩) 0 0,((ZLw (ZD0 (.slice (some ⟨b11,0,none⟩) 0 0)))++([]:List (List Nat)).flatten),(sl ⟨rfl,rfl,rfl,rfl,rfl,rfl,trivial⟩),hC⟩
 ·replace h:=h.2
  refine Zkk false ZXp (tr rfl hv10) rfl rfl ?_
  have hat32:=hmd30 _ rfl
  refine dn (Z2 rfl rfl (ZK0 (Ze (sr (Za (v:=vvP b10) rfl (Zd (v:=vvP b10) rfl (dn (ZK4 ?_))))))))
  refine Zi (fn:=Tryz.f135) rfl ?_ ⟨b10,D10,F11,rfl,h,hat32,hle12,(hC.getM 0 rfl),(fun x_ hx_=>(hC.anyX 0 rfl x_ hx_).symm),hC.belO⟩ (.inl rfl)
  exact Zf rfl
end Go.Proofs.YtaagfepgbofmlaaGreat
namespace Go.Proofs.YtaagfepgbofmlaaGreat
open Go Go.RowKit Vc
def Zks (C:Cx) (a:Alg) (n:Int):Prop:=Zkr C a n True
theorem Zzf (C:Cx) (a:Alg) (n:Int) {cb ab mb:Nat} {u0 u1:Value} {fpA:List Nat} {D:List Lev} {F:List Nat} (h:Zks C a n) (w0:World)
    (q0:TAlg.rep a [u0,u1] fpA w0) (qa:(blk ab 32 [u0,u1]).holds w0) (qc:(blk cb 198 [.pointer (some ⟨ab,0,none⟩),.map (some mb)]).holds w0) (qx:(cpx C 125 mb D F).holds w0)
    (dq:∀ b,b∈fpA→b∉(cpx C 125 mb D F).fp) (da:ab∉(cpx C 125 mb D F).fp) (dc:cb∉(cpx C 125 mb D F).fp) :
    Calls ZKz 135 #[.pointer (some ⟨cb,0,none⟩),.int .i64 n] w0 fun e w'=>∃ (b:Nat) (D':List Lev) (F':List Nat),
      e=.returned (vvP b)∧LvAt D' n b true false∧CpLe D D' F F'∧(cpx C 125 mb D' F').holds w'∧(∀ x,x∈(cpx C 125 mb D' F').fp→x∈(cpx C 125 mb D F).fp∨w0.heap.size≤x)∧BelO (cpx C 125 mb D F).fp w0 w':=by
  refine(Zze C a n h w0 q0 qa qc qx dq da dc).mono ?_
  rintro e w' ⟨b,D',F',h1,_,h2⟩
  exact⟨b,D',F',h1,h2⟩
end Go.Proofs.YtaagfepgbofmlaaGreat
set_option maxRecDepth 4000
set_option maxHeartbeats 4000000
namespace Go.Proofs.YtaagfepgbofmlaaGreat
open Go Go.RowKit Vc
variable {b0 bp0 b1 bp1 b2 bp2 b3 bp3 b4 bp4 b5 bp5 b6 bp6 b7 bp7 mb0:Nat} {u0_0 u0_1 u0_2 u0_3 u0_4 u0_5 u1_0 u1_1 u1_2 u1_3 u1_4 u1_5 u2_0 u2_1 u2_2 u2_3 u2_4 u2_5 u3_0 u3_1 u3_2 u3_3 u3_4 u3_5 u4_0 u4_1 u4_2 u4_3 u4_4 u4_5 u5_0 u5_1 u5_2 u5_3 u5_4 u5_5 u6_0 u6_1 u6_2 u6_3 u6_4 u6_5 u7_0 u7_1 u7_2 u7_3 u7_4 u7_5:Value} {fp0 fp1 fp2 fp3 fp4 fp5 fp6 fp7 fp0_0 fp0_1 fp0_2 fp0_3 fp0_4 fp0_5 fp1_0 fp1_1 fp1_2 fp1_3 fp1_4 fp1_5 F0:List Nat} {D0:List Lev}
theorem Zns (x0:A8) (w:World):(ZXu 132 1 #[(0,.agg (ZKu (ZKt .u8 x0)))]).run ZKz w=.ok (.slice (some ⟨w.heap.size,0,none⟩) 1 1) (w.alloc (.cells (ZKu ((EA .u8).encs [x0])) 136)):=by kernel_rfl
theorem Znt:J4 ZKz 136 (.agg (ZKu (ZKt .u8 A8.zero))) 8 8:=by unfold J4; kernel_rfl
theorem Zrc  (w:World):(ZXu 132 0 #[]).run ZKz w=.ok (.slice (some ⟨w.heap.size,0,none⟩) 0 0) (w.alloc (.cells (ZKu ((EA .u8).encs [])) 136)):=by kernel_rfl
theorem Zzg:ZKz.eqGuardType ZKz.depth 136=false:=by kernel_rfl
theorem Zzh:KeyT ZKz 136 (kvA .u8):=Zma ZLe ZLx sc5
theorem Zdg  (w:World):(ZXu 22 0 #[]).run ZKz w=.ok (.slice (some ⟨w.heap.size,0,none⟩) 0 0) (w.alloc (.cells (ZKu ((EI .i64).encs [])) 2)):=by kernel_rfl
theorem Zib (x0:Int) (w:World):(ZXu 22 1 #[(0,.int .i64 x0)]).run ZKz w=.ok (.slice (some ⟨w.heap.size,0,none⟩) 1 1) (w.alloc (.cells (ZKu ((EI .i64).encs [x0])) 2)):=by kernel_rfl
theorem Znu (x0:Int) (x1:Int) (w:World):(ZXu 22 2 #[(0,.int .i64 x0),(1,.int .i64 x1)]).run ZKz w=.ok (.slice (some ⟨w.heap.size,0,none⟩) 2 2) (w.alloc (.cells (ZKu ((EI .i64).encs [x0,x1])) 2)):=by kernel_rfl
theorem sc4:ScaT ZKz 4:=⟨⟨_,Tryz.underlying4,rfl⟩,by kernel_rfl⟩
theorem Zzi (x0:Value) (x1:Value) (hx0:Zef x0) (hx1:Zef x1) (w:World):(ZXu 85 2 #[(0,x0),(1,x1)]).run ZKz w=.ok (.slice (some ⟨w.heap.size,0,none⟩) 2 2) (w.alloc (.cells (ZKu [x0,x1]) 22)):=by obtain ⟨_,_,_,rfl⟩:=hx0; obtain ⟨_,_,_,rfl⟩:=hx1; kernel_rfl
theorem Zzj  (w:World):(ZXu 200 0 #[]).run ZKz w=.ok (.slice (some ⟨w.heap.size,0,none⟩) 0 0) (w.alloc (.cells (ZKu ((EI .i64).encs [])) 3)):=by kernel_rfl
theorem Zzk (x0:Int) (w:World):(ZXu 200 1 #[(0,.int .i64 x0)]).run ZKz w=.ok (.slice (some ⟨w.heap.size,0,none⟩) 1 1) (w.alloc (.cells (ZKu ((EI .i64).encs [x0])) 3)):=by kernel_rfl
theorem el3:J4 ZKz 3 (.int .i64 0) 1 8:=by unfold J4; kernel_rfl
theorem Zrd (x0:Nat) (x1:Nat) (w:World):(Instr.build 198 #[(0,.pointer (some ⟨x0,0,none⟩)),(1,.map (some x1))]).run ZKz w=.ok (.agg #[.pointer (some ⟨x0,0,none⟩),.map (some x1)]) w:=by kernel_rfl
theorem Zkt:AggT ZKz 25 2:=⟨⟨_,Tryz.underlying25,rfl⟩,by kernel_rfl⟩
def Zd2 (a0:List Int) (a1:Int) (K:Bool→Prop):Prop :=
 ((0≤a1∧a1 < (a0.length:Int))∧K (decide (a0.getD a1.toNat ZC7≠0)))
theorem Zzl (a0:List Int) (a1:Int)  {K:Bool→Prop} (h:Zd2 a0 a1 K) (w0:World) (q0:ZNz.rep a0 [u0_0] fp0 w0) (qb1:(blk b1 3 [vI a1]).holds w0) :
  Calls ZKz 142 #[u0_0,vQ b1] w0 fun e w'=>∃ (r0:Bool),
   e=.returned (.bool r0)∧K r0∧Bel w0 w':=by
 unfold Zd2 at h
 refine cof Tryz.func142 rfl 9 Tryz.ntmps142 ?_
 have hC:=ZLh (X:=Nox) w0 [ZKv TInts a0 [u0_0] fp0,blk b1 3 [vI a1]] (alc q0 (al1 qb1))
 refine sr (Zd (v:=.bool false) rfl (dn (sr (Za (v:=u0_0) rfl (Zce (vI a1) (hC.getP 1 rfl) sc3 rfl rfl ?_)))))
 obtain ⟨⟨h0_3,h1_4⟩,h⟩:=h
 obtain ⟨Ad5,c6,hv7⟩:=Zx (hC.getP 0 rfl) a1.toNat (show a1.toNat < a0.length by omega)
 refine Yn (len:=a0.length) ZLf sc2.size (tr rfl hv7) rfl h0_3 h1_4 (Yo (vI (a0.getD a1.toNat ZC7)) (Ye (hC.getP 0 rfl) hv7 a1.toNat (show a1.toNat < a0.length by omega)) sc2 rfl (Y5 rfl rfl (Zd (v:=.bool (decide (a0.getD a1.toNat ZC7≠0))) rfl (dn (ZK4 ?_)))))
 refine Zi (fn:=Tryz.f142) rfl ?_ ⟨decide (a0.getD a1.toNat ZC7≠0),rfl,h,hC.below⟩ (.inl rfl)
 exact Zf rfl
def Zcs (a0:A8) (K:Int→Prop):Prop :=
 Yc (fun i10 (s10:Int) nx10=>nx10 (ZFm.wrap (s10+(ZFm.wrap (a0.get i10))))) (fun (s10:Int)=>K s10) 8 0 0
theorem Zku (a0:A8)  {K:Int→Prop} (h:Zcs a0 K) (w0:World)  :
  Calls ZKz 168 #[.agg (ZKu (ZKt .u8 a0))] w0 fun e w'=>∃ (r0:Int),
   e=.returned (vI r0)∧K r0∧Bel w0 w':=by
 unfold Zcs at h
 refine cof ZX1 rfl 16 Tryz.ntmps168 ?_
 have hC:=ZLh (X:=Nox) w0 [] (by simp)
 refine sr (Yi (v:=.agg (ZKu (ZKt .u8 a0))) hC (ZKt .u8 a0) rfl rfl fun b1 w3 hB_ hC=>Zd (v:=vI 0) rfl (dn (sr (Zd (v:=vI 0) rfl (dn (ZKw (sr (Zd (v:=vI 0) rfl (dn (ZK2 ?_))))))))))
 refine Yk (S:=Int) _ _ (fun i10 s10 e_ w_=>Zv e_ [(1,vQ b1),(3,vI s10),(4,vI (i10:Int))]∧Ctx Nox w0 w_ [blk b1 136 (ZKt .u8 a0)] []) 8 ?_ ?_ (s0:=0) ?_ h
 ·clear hC h
  rintro i10 s10 e_ w10 nx10 K10 hi10 ⟨hS_,hC⟩ h hK10
  rw [ue hS_]
  refine ZKw (sr (Za (v:=vI (i10:Int)) rfl (Zp rfl rfl (dn (Z6 rfl (decide_eq_true (by omega)) (ZK0 (Ze (ZKw (ZK2 (Zh (Za (v:=vI s10) rfl ?_)))))))))))
  refine Za (v:=vI (i10:Int)) rfl (Xx i10 ZLe sc5.size rfl rfl (ZLc _) (by omega) (by omega) (Yb hC 0 (.int .u8 (a0.get i10)) rfl sc5 rfl (A8.enc_get _ _ hi10) (Zjb ZLx ZL5 rfl (Zq rfl rfl (Zd (v:=vI (ZFm.wrap (s10+(ZFm.wrap (a0.get i10))))) rfl (done (Zr (Ze (Zh (Za (v:=vI (i10:Int)) rfl (Zq rfl rfl ?_)))))))))))
  refine Zd (v:=vI (ZFm.wrap ((i10:Int)+1))) rfl (done ?_)
  exact hK10 (ZFm.wrap (s10+(ZFm.wrap (a0.get i10)))) _ _ ⟨(sl ⟨rfl,rfl,(tr rfl (congrArg _ (Z5 hi10 (by decide)))),trivial⟩),hC⟩ h
 ·clear hC h
  rintro s10 e_ w11 K10 ⟨hS_,hC⟩ h
  rw [ue hS_]
  refine ZKw (sr (Za (v:=vI 8) rfl (Zp rfl rfl (dn (Z2 rfl (decide_eq_false (by omega)) ?_)))))
  refine ZLa (Zj (Zj (Z0 ?_)))
  refine Ze (sr (Za (v:=vI s10) rfl (Zd (v:=vI s10) rfl (dn (ZK4 ?_)))))
  refine Zi (fn:=Tryz.f168) rfl ?_ ⟨s10,rfl,h,hC.below⟩ (.inl rfl)
  exact Zf rfl
 ·skip
  exact⟨(sl ⟨rfl,rfl,rfl,trivial⟩),hC⟩
def Zic (a0:ZKy) (K:Int→Prop):Prop :=
 X5 (fun (s10:Int×Int) nx10=>(if s10.2 < (a0.terms.length:Int) then((0≤s10.2∧s10.2 < (a0.terms.length:Int))∧Zcs ((a0.terms.getD s10.2.toNat ZC7).mono) (fun r10=>(if s10.2=0 then nx10 (r10,ZFm.wrap (s10.2+1)) else(if r10 < s10.1 then nx10 (r10,ZFm.wrap (s10.2+1)) else nx10 (s10.1,ZFm.wrap (s10.2+1)))))) else K s10.1)) (0,0)
theorem Zzm (a0:ZKy)  {K:Int→Prop} (h:Zic a0 K) (w0:World) (q0:ZLi.rep a0 [u0_0] fp0 w0) :
  Calls ZKz 122 #[.agg #[u0_0]] w0 fun e w'=>∃ (r0:Int),
   e=.returned (vI r0)∧K r0∧Bel w0 w':=by
 unfold Zic at h
 refine cof Tryz.func122 rfl 29 Tryz.ntmps122 ?_
 have hC:=ZLh (X:=Nox) w0 [ZKv TForm a0 [u0_0] fp0] (al1 q0)
 have hp2:=(hC.getP 0 rfl)
 replace hC:=hC.derive 0 rfl (ZKv ZKx.ty.sl a0.terms [u0_0] fp0) (fun _=>(Xm hp2)) (fun _ hb_=>hb_)
 refine sr (Yi (v:=.agg #[u0_0]) hC [u0_0] rfl rfl fun b4 w6 hB_ hC=>Zd (v:=vI 0) rfl (dn (sr (Zd (v:=vI 0) rfl (dn (ZKw (sr (Zd (v:=vI 0) rfl (dn (ZK2 ?_))))))))))
 refine Jh (S:=Int×Int) _ (fun s10 e_ w_=>Zv e_ [(1,vQ b4),(3,vI s10.1),(4,vI s10.2)]∧Ctx Nox w0 w_ [blk b4 55 [u0_0]] [ZKv ZKx.ty.sl a0.terms [u0_0] fp0,ZKv TForm a0 [u0_0] fp0]) ?_ (s0:=(0,0)) ?_ h
 ·clear hC h
  rintro s10 e_ w10 nx10 K10 ⟨hS_,hC⟩ h hK10
  rw [ue hS_]
  refine ZKw (sr (Za (v:=vI s10.2) rfl (Z1 0 ZK3 rfl sc53.size rfl rfl (Yb hC 0 (u0_0) rfl sc53 rfl rfl ?_))))
  obtain ⟨Ad10,c10,hv11⟩:=Zu (hC.getP 0 rfl)
  refine Zt ZK6 (tr rfl hv11) (Zp rfl rfl (dn ?_))
  refine Zs rfl (fun hb11=>?_) (fun hb11=>?_)
  ·replace h:=ift h (ct hb11)
   refine ZK0 (Ze (ZKw (ZK2 (sr (Z1 0 ZK3 rfl sc53.size rfl rfl (Yb hC 0 (u0_0) rfl sc53 rfl rfl (Za (v:=vI s10.2) rfl ?_)))))))
   obtain ⟨⟨h10,h11⟩,h⟩:=h
   obtain ⟨Ad11,c11,hv10⟩:=Zx (hC.getP 0 rfl) s10.2.toNat (show s10.2.toNat < a0.terms.length by omega)
   refine Yn (len:=a0.terms.length) ZK6 ag162.size (tr rfl hv10) rfl h10 h11 (Zea (s10.2.toNat * 9+0) ZLb rfl ag136.size rfl rfl (Ji (ZKt .u8 ((a0.terms.getD s10.2.toNat ZC7).mono)) (J1 (o:=0) (k:=8) (Ye (hC.getP 0 rfl) hv10 s10.2.toNat (show s10.2.toNat < a0.terms.length by omega)) rfl) ag136 rfl rfl ?_))
   refine Zg [.agg (ZKu (ZKt .u8 ((a0.terms.getD s10.2.toNat ZC7).mono)))] _ ZX1 rfl rfl rfl (Zku ((a0.terms.getD s10.2.toNat ZC7).mono) h _) (fun ret10 w11 hR10=>?_)
   obtain ⟨r10,rfl,h,hB10⟩:=hR10
   refine⟨_,rfl,?_⟩
   replace hC:=hC.grow hB10
   refine Zd (v:=vI r10) rfl (dn (sr (Za (v:=vI s10.2) rfl (Xu rfl rfl (Za (v:=.bool (decide (s10.2=0))) rfl ?_)))))
   refine Y8 (decide (s10.2=0)) (fun hb10=>?_) (fun hb10=>?_)
   ·replace h:=ift h (ct hb10)
    refine Zk (b:=true) 2 22 rfl (tr rfl (congrArg _ hb10)) (by decide) (Zk (b:=true) 2 22 rfl (tr rfl (congrArg _ hb10)) (by decide) (Zk (b:=true) 2 22 rfl (tr rfl (congrArg _ hb10)) (by decide) (Z3 (v:=.bool true) (b:=true) (tr rfl (congrArg _ hb10)) rfl (dn (Z6 rfl rfl (Zh (Za (v:=vI r10) rfl (Zd (v:=vI r10) rfl (done (Zr (Ze ?_)))))))))))
    refine Zh (Za (v:=vI s10.2) rfl (Zq rfl rfl (Zd (v:=vI (ZFm.wrap (s10.2+1))) rfl (done ?_))))
    exact hK10 (r10,ZFm.wrap (s10.2+1)) _ _ ⟨(sl ⟨rfl,rfl,rfl,trivial⟩),hC⟩ h
   ·replace h:=Zl h (cf hb10)
    refine Zm 2 22 rfl rfl hb10 (Za (v:=vI r10) rfl (Zm 2 22 rfl rfl hb10 (Za (v:=vI s10.1) rfl (Zm 2 22 rfl rfl hb10 (Zp rfl rfl (Z3 (v:=.bool (decide (r10 < s10.1))) (b:=false) (tr rfl (congrArg _ hb10)) rfl (dn ?_)))))))
    refine Zs rfl (fun hb12=>?_) (fun hb12=>?_)
    ·replace h:=ift h (ct hb12)
     refine Zh (Za (v:=vI r10) rfl (Zd (v:=vI r10) rfl (done (Zr (Ze (Zh (Za (v:=vI s10.2) rfl (Zq rfl rfl (Zd (v:=vI (ZFm.wrap (s10.2+1))) rfl (done ?_))))))))))
     exact hK10 (r10,ZFm.wrap (s10.2+1)) _ _ ⟨(sl ⟨rfl,rfl,rfl,trivial⟩),hC⟩ h
    ·replace h:=Zl h (cf hb12)
     refine ZK0 (Zr (Ze (Zh (Za (v:=vI s10.2) rfl (Zq rfl rfl (Zd (v:=vI (ZFm.wrap (s10.2+1))) rfl (done ?_)))))))
     exact hK10 (s10.1,ZFm.wrap (s10.2+1)) _ _ ⟨(sl ⟨rfl,rfl,rfl,trivial⟩),hC⟩ h
  ·replace h:=Zl h (cf hb11)
   refine ZLa (Zj (Zj (Z0 ?_)))
   refine Ze (sr (Za (v:=vI s10.1) rfl (Zd (v:=vI s10.1) rfl (dn (ZK4 ?_)))))
   refine Zi (fn:=Tryz.f122) rfl ?_ ⟨s10.1,rfl,h,hC.below⟩ (.inl rfl)
   exact Zf rfl
 ·skip
  exact⟨(sl ⟨rfl,rfl,rfl,trivial⟩),hC⟩
def Zid (a0:Alg) (K:Bool→Prop):Prop :=
 X5 (fun (s10:Int) nx10=>(if s10 < (a0.images.length:Int) then((0≤s10∧s10 < (a0.images.length:Int))∧Zic (a0.images.getD s10.toNat ZC7) (fun r10=>(if r10=1 then K false else nx10 (ZFm.wrap (s10+1))))) else K true)) 0
theorem Zzn (a0:Alg)  {K:Bool→Prop} (h:Zid a0 K) (w0:World) (q0:TAlg.rep a0 [u0_0,u0_1] fp0 w0) :
  Calls ZKz 70 #[.agg #[u0_0,u0_1]] w0 fun e w'=>∃ (r0:Bool),
   e=.returned (.bool r0)∧K r0∧Bel w0 w':=by
 unfold Zid at h
 refine cof Tryz.func70 rfl 18 Tryz.ntmps70 ?_
 have hC:=ZLh (X:=Nox) w0 [ZKv TAlg a0 [u0_0,u0_1] fp0] (al1 q0)
 replace hC:=hC.dAlg 0 rfl
 refine sr (Yi (v:=.agg #[u0_0,u0_1]) hC [u0_0,u0_1] rfl rfl fun b4 w6 hB_ hC=>Zd (v:=.bool false) rfl (dn (ZKw (sr (Zd (v:=vI 0) rfl (dn (ZK2 ?_)))))))
 refine Jh (S:=Int) _ (fun s10 e_ w_=>Zv e_ [(1,vQ b4),(3,vI s10)]∧Ctx Nox w0 w_ [blk b4 32 [u0_0,u0_1]] [ZKv ZLi.sl a0.images [u0_1] fp0,ZKv TInts a0.degrees [u0_0] fp0,ZKv TAlg a0 [u0_0,u0_1] fp0]) ?_ (s0:=0) ?_ h
 ·clear hC h
  rintro s10 e_ w10 nx10 K10 ⟨hS_,hC⟩ h hK10
  rw [ue hS_]
  refine ZKw (sr (Za (v:=vI s10) rfl (Z1 1 ZLg rfl sc30.size rfl rfl (Yb hC 0 (u0_1) rfl sc30 rfl rfl ?_))))
  obtain ⟨Ad10,c10,hv11⟩:=Zu (hC.getP 0 rfl)
  refine Zt Tryz.underlying30 (tr rfl hv11) (Zp rfl rfl (dn ?_))
  refine Zs rfl (fun hb10=>?_) (fun hb10=>?_)
  ·replace h:=ift h (ct hb10)
   refine ZK0 (Ze (ZKw (ZK2 (sr (Z1 1 ZLg rfl sc30.size rfl rfl (Yb hC 0 (u0_1) rfl sc30 rfl rfl (Za (v:=vI s10) rfl ?_)))))))
   obtain ⟨⟨h10,h11⟩,h⟩:=h
   obtain ⟨Ad11,c11,hv10⟩:=Zx (hC.getP 0 rfl) s10.toNat (show s10.toNat < a0.images.length by omega)
   refine Yn (len:=a0.images.length) Tryz.underlying30 ag55.size (tr rfl hv10) rfl h10 h11 ?_
   obtain ⟨cs_,hl10,hc10,hr10⟩:=Xh (hC.getP 0 rfl) hv10 s10.toNat (show s10.toNat < a0.images.length by omega)
   obtain ⟨u10,rfl⟩:=ZLt.1 hl10
   clear hl10
   rw [Xg _ _ (show s10.toNat < a0.images.length by omega)] at hr10
   have hp10:=hr10
   replace hC:=hC.derive 0 rfl (ZKv ZKx.ty.sl ((a0.images.getD s10.toNat ZC7).terms) [u10] fp0) (fun _=>(Xm hp10)) (fun _ hb_=>hb_)
   refine Ji [u10] hc10 ag55 rfl rfl ?_
   refine Zg [.agg #[u10]] _ Tryz.func122 rfl rfl rfl (Zzm (a0.images.getD s10.toNat ZC7) h _ (Y3 (hC.getP 0 rfl))) (fun ret10 w11 hR10=>?_)
   obtain ⟨r10,rfl,h,hB10⟩:=hR10
   refine⟨_,rfl,?_⟩
   replace hC:=hC.grow hB10
   refine Xu rfl rfl (dn ?_)
   refine Zs rfl (fun hb11=>?_) (fun hb11=>?_)
   ·replace h:=ift h (ct hb11)
    refine sr (Zd (v:=.bool false) rfl (dn ?_))
    refine ZK4 (Z9 (Zn (Zn (Z9 (Zn ?_)))))
    refine Zi (fn:=Tryz.f70) rfl ?_ ⟨false,rfl,h,hC.below⟩ (.inl rfl)
    exact Zf rfl
   ·replace h:=Zl h (cf hb11)
    refine ZK0 (Zr (Ze (Zh (Za (v:=vI s10) rfl (Zq rfl rfl (Zd (v:=vI (ZFm.wrap (s10+1))) rfl (done ?_)))))))
    exact hK10 (ZFm.wrap (s10+1)) _ _ ⟨(sl ⟨rfl,rfl,trivial⟩),(hC.sP [1,2,3] rfl)⟩ h
  ·replace h:=Zl h (cf hb10)
   refine ZLa (Zj (Zj (Z0 ?_)))
   refine Ze (sr (Zd (v:=.bool true) rfl (dn (ZK4 ?_))))
   refine Zi (fn:=Tryz.f70) rfl ?_ ⟨true,rfl,h,hC.below⟩ (.inl rfl)
   exact Zf rfl
 ·skip
  exact⟨(sl ⟨rfl,rfl,trivial⟩),hC⟩
def Zie (a0:Alg) (K:Int→Prop):Prop :=
 Zfm a0 (fun r10=>(if¬ (r10=true) then K 1 else Zid a0 (fun r11=>(if¬ (r11=true) then K 5 else K 0))))
theorem Zzo (a0:Alg)  {K:Int→Prop} (h:Zie a0 K) (w0:World) (q0:TAlg.rep a0 [u0_0,u0_1] fp0 w0) :
  Calls ZKz 58 #[.agg #[u0_0,u0_1]] w0 fun e w'=>∃ (r0:Int),
   e=.returned (vI r0)∧K r0∧Bel w0 w':=by
 unfold Zie at h
 refine cof Tryz.func58 rfl 11 Tryz.ntmps58 ?_
 have hC:=ZLh (X:=Nox) w0 [ZKv TAlg a0 [u0_0,u0_1] fp0] (al1 q0)
 replace hC:=hC.dAlg 0 rfl
 refine sr (Yi (v:=.agg #[u0_0,u0_1]) hC [u0_0,u0_1] rfl rfl fun b4 w6 hB_ hC=>Zd (v:=vI 0) rfl (dn (ZKw (ZK2 (sr (Yw hC 0 [u0_0,u0_1] rfl ag32 rfl rfl rfl ?_))))))
 refine Zg [.agg #[u0_0,u0_1]] _ Tryz.func92 rfl rfl rfl (Zpz a0 h _ (Yp (hC.getP 1 rfl) (hC.getP 0 rfl))) (fun ret7 w9 hR8=>?_)
 obtain ⟨r10,rfl,h,hB10⟩:=hR8
 refine⟨_,rfl,?_⟩
 replace hC:=hC.grow hB10
 refine Xe rfl (Zd (v:=.bool (!r10)) rfl (dn ?_))
 refine Zs rfl (fun hb10=>?_) (fun hb10=>?_)
 ·replace h:=ift h (Y4 (Xj hb10))
  refine sr (Zd (v:=vI 1) rfl (dn ?_))
  refine ZK4 (Z9 (Zn ?_))
  refine Zi (fn:=Tryz.f58) rfl ?_ ⟨1,rfl,h,hC.below⟩ (.inl rfl)
  exact Zf rfl
 ·replace h:=Zl h (not_not_intro ((Xk hb10)))
  refine sr (Yw hC 0 [u0_0,u0_1] rfl ag32 rfl rfl rfl ?_)
  refine Zg [.agg #[u0_0,u0_1]] _ Tryz.func70 rfl rfl rfl (Zzn a0 h _ (Yp (hC.getP 1 rfl) (hC.getP 0 rfl))) (fun ret10 w10 hR10=>?_)
  obtain ⟨r11,rfl,h,hB11⟩:=hR10
  refine⟨_,rfl,?_⟩
  replace hC:=hC.grow hB11
  refine Xe rfl (Zd (v:=.bool (!r11)) rfl (dn ?_))
  refine Zs rfl (fun hb11=>?_) (fun hb11=>?_)
  ·replace h:=ift h (Y4 (Xj hb11))
   refine sr (Zd (v:=vI 5) rfl (dn ?_))
   refine ZK4 (Z9 (Zn ?_))
   refine Zi (fn:=Tryz.f58) rfl ?_ ⟨5,rfl,h,hC.below⟩ (.inl rfl)
   exact Zf rfl
  ·replace h:=Zl h (not_not_intro ((Xk hb11)))
   refine ZK0 (Zr (Ze (sr (Zd (v:=vI 0) rfl (dn (ZK4 ?_))))))
   refine Zi (fn:=Tryz.f58) rfl ?_ ⟨0,rfl,h,hC.below⟩ (.inl rfl)
   exact Zf rfl
def f_spec_l01Fill (fu_:Nat) (a0:List Int) (a1:A8) (a2:Int) (a3:Int) (a4:List A8) (K:List A8→Prop):Prop :=
 match fu_ with
 | 0=>False
 | fu_+1=>(if a2=(a0.length:Int) then(if a3=0 then(Zy (a4.length+1) 8∧K (a4++[a1])) else K a4) else((0≤a2∧a2 < (a0.length:Int))∧((a0.getD a2.toNat ZC7)≠0∧((0≤a2∧a2 < (a0.length:Int))∧(if ZDy (a0.getD a2.toNat ZC7) 2≠0 then X5 (fun (s10:A8×(List A8)×Int) nx10=>(if s10.2.2≥0 then(if(s10.2.1.length:Int)≤400 then((0≤a2∧a2 < 8)∧((0≤a2∧a2 < (a0.length:Int))∧f_spec_l01Fill fu_ a0 (s10.1.set a2.toNat (ZK8.wrap s10.2.2)) (ZFm.wrap (a2+1)) (ZFm.wrap (a3 - (ZFm.wrap (s10.2.2 * (a0.getD a2.toNat ZC7))))) s10.2.1 (fun r10=>nx10 (s10.1.set a2.toNat (ZK8.wrap s10.2.2),r10,ZFm.wrap (s10.2.2 - 1))))) else K s10.2.1) else K s10.2.1)) (a1,a4,(if 20 < (if 1 < ZFm.wrap (ZTa a3 (a0.getD a2.toNat ZC7)) then 1 else ZFm.wrap (ZTa a3 (a0.getD a2.toNat ZC7))) then 20 else(if 1 < ZFm.wrap (ZTa a3 (a0.getD a2.toNat ZC7)) then 1 else ZFm.wrap (ZTa a3 (a0.getD a2.toNat ZC7))))) else X5 (fun (s11:A8×(List A8)×Int) nx11=>(if s11.2.2≥0 then(if(s11.2.1.length:Int)≤400 then((0≤a2∧a2 < 8)∧((0≤a2∧a2 < (a0.length:Int))∧f_spec_l01Fill fu_ a0 (s11.1.set a2.toNat (ZK8.wrap s11.2.2)) (ZFm.wrap (a2+1)) (ZFm.wrap (a3 - (ZFm.wrap (s11.2.2 * (a0.getD a2.toNat ZC7))))) s11.2.1 (fun r11=>nx11 (s11.1.set a2.toNat (ZK8.wrap s11.2.2),r11,ZFm.wrap (s11.2.2 - 1))))) else K s11.2.1) else K s11.2.1)) (a1,a4,(if 20 < ZFm.wrap (ZTa a3 (a0.getD a2.toNat ZC7)) then 20 else ZFm.wrap (ZTa a3 (a0.getD a2.toNat ZC7)))))))))
theorem Zzp (fu_:Nat):∀ (a0:List Int) (a1:A8) (a2:Int) (a3:Int) (a4:List A8) {u4_0:Value} {u0_0:Value} {fp0:List Nat} {K:List A8→Prop} (h:f_spec_l01Fill fu_ a0 a1 a2 a3 a4 K) (w0:World) (q0:ZNz.rep a0 [u0_0] fp0 w0) (qo4:(own 136 8 u4_0 a4.length ((EA .u8).encs a4)).holds w0) (do0:∀ b,b∈fp0→b∉ZLw (ZD0 u4_0)),
  Calls ZKz 150 #[u0_0,.agg (ZKu (ZKt .u8 a1)),vI a2,vI a3,u4_0] w0 fun e w'=>∃ (r0:List A8) (z0_0:Value),
   e=.returned (z0_0)∧K r0∧(own 136 8 z0_0 r0.length ((EA .u8).encs r0)).holds w'∧(∀ b,b∈ZLw (ZD0 z0_0)→b∈ZLw (ZD0 u4_0)∨w0.heap.size≤b)∧BelO (ZLw (ZD0 u4_0)) w0 w':=by
 induction fu_ with
 | zero =>
  intro a0 a1 a2 a3 a4 u4_0 u0_0 fp0 K h w0 q0 qo4 do0
  exact False.elim h
 | succ fu_ ih_ =>
  intro a0 a1 a2 a3 a4 u4_0 u0_0 fp0 K h w0 q0 qo4 do0
  rw [f_spec_l01Fill.eq_2] at h
  refine cof ZX4 rfl 68 Tryz.ntmps150 ?_
  have hC:=Ctx.startL w0 (ZLw (ZD0 u4_0)) [own 136 8 u4_0 a4.length ((EA .u8).encs a4)] [ZKv TInts a0 [u0_0] fp0] (by simp only [ZC3,ZFc,or_false,forall_eq_or_imp,forall_eq]; exact qo4) (by simp only [ZC3,ZFc,or_false,forall_eq_or_imp,forall_eq]; exact q0) (by simp only [ZC3,ZFc,or_false,forall_eq_or_imp,forall_eq]; exact(fun b_ hb_=>hb_)) (ZYi _ _) (by simp only [ZC3,ZFc,or_false,forall_eq_or_imp,forall_eq]; exact do0)
  refine sr (Yi (v:=.agg (ZKu (ZKt .u8 a1))) hC (ZKt .u8 a1) rfl rfl fun b3 w5 hB_ hC=>Zd (v:=.slice none 0 0) rfl (dn (ZKw (sr (Za (v:=vI a2) rfl (Za (v:=u0_0) rfl ?_))))))
  obtain ⟨Ad6,c7,hv8⟩:=Zu (hC.getP 0 rfl)
  refine Zt ZLf (tr rfl hv8) (Xu rfl rfl (dn ?_))
  refine Zs rfl (fun hb9=>?_) (fun hb9=>?_)
  ·replace h:=ift h (ct hb9)
   refine ZKw (sr (Za (v:=vI a3) rfl (Xu rfl rfl (dn ?_))))
   refine Zs rfl (fun hb12=>?_) (fun hb12=>?_)
   ·replace h:=ift h (ct hb12)
    refine sr (Za (v:=u4_0) rfl (Yw hC 0 (ZKt .u8 a1) rfl ag136 rfl rfl rfl (Yh (sz:=8) hC [(0,.agg (ZKu (ZKt .u8 a1)))] ((EA .u8).encs [a1]) rfl (fun _=>Zns a1 _) rfl (by decide) fun b10 w10 hB_ hC=>?_)))
    obtain ⟨hm10,h⟩:=h
    refine Jf hC 2 ZXq Znt rfl (by decide) (by decide) rfl (Zag (hC.getM 0 rfl)) (fun q hq=>ZL1 (E:=(EA .u8)) _ q hq) rfl rfl hm10 fun v12 w11 hC=>?_
    replace hC:=Y9 hC 2 ((a4++[a1]).length) ((EA .u8).encs (a4++[a1])) rfl (by simp) (by first | (simp [ZLo]; done) | simp [ZLo,ZTn])
    refine Zd (v:=v12) rfl (dn ?_)
    refine ZK4 (Zn (Zn ?_))
    refine Zi (fn:=ZXz) rfl ?_ ⟨a4++[a1],v12,rfl,h,(hC.getM 2 rfl),(fun b_ hb_=>(hC.mfp _ (List.mem_of_getElem? (i:=2) rfl) b_ hb_).symm),hC.belO⟩ (.inl rfl)
    exact Zf rfl
   ·replace h:=Zl h (cf hb12)
    refine ZK0 (Ze (sr (Za (v:=u4_0) rfl (Zd (v:=u4_0) rfl (dn ?_)))))
    refine ZK4 (Zn ?_)
    refine Zi (fn:=ZXz) rfl ?_ ⟨a4,u4_0,rfl,h,(hC.getM 1 rfl),(fun b_ hb_=>(hC.mfp _ (List.mem_of_getElem? (i:=1) rfl) b_ hb_).symm),hC.belO⟩ (.inl rfl)
    exact Zf rfl
  ·replace h:=Zl h (cf hb9)
   refine ZK0 (Ze (sr (Za (v:=vI a3) rfl (Za (v:=u0_0) rfl (Za (v:=vI a2) rfl ?_)))))
   obtain ⟨⟨h10,h11⟩,h⟩:=h
   obtain ⟨Ad12,c10,hv10⟩:=Zx (hC.getP 0 rfl) a2.toNat (show a2.toNat < a0.length by omega)
   refine Yn (len:=a0.length) ZLf sc2.size (tr rfl hv10) rfl h10 h11 (Yo (vI (a0.getD a2.toNat ZC7)) (Ye (hC.getP 0 rfl) hv10 a2.toNat (show a2.toNat < a0.length by omega)) sc2 rfl ?_)
   obtain ⟨h12,h⟩:=h
   refine Ze7 rfl rfl h12 (Zd (v:=vI (ZFm.wrap (ZTa a3 (a0.getD a2.toNat ZC7)))) rfl (dn (ZKw (sr (Za (v:=u0_0) rfl (Za (v:=vI a2) rfl ?_))))))
   obtain ⟨⟨h13,h14⟩,h⟩:=h
   obtain ⟨Ad13,c11,hv11⟩:=Zx (hC.getP 0 rfl) a2.toNat (show a2.toNat < a0.length by omega)
   refine Yn (len:=a0.length) ZLf sc2.size (tr rfl hv11) rfl h13 h14 (Yo (vI (a0.getD a2.toNat ZC7)) (Ye (hC.getP 0 rfl) hv11 a2.toNat (show a2.toNat < a0.length by omega)) sc2 rfl (Ja rfl rfl (by decide) (Y5 rfl rfl (dn ?_))))
   refine Zs rfl (fun hb13=>?_) (fun hb13=>?_)
   ·replace h:=ift h (ct hb13)
    refine Zh (Za (v:=vI (ZFm.wrap (ZTa a3 (a0.getD a2.toNat ZC7)))) rfl (Zh7 rfl rfl (Zd (v:=vI (if 1 < ZFm.wrap (ZTa a3 (a0.getD a2.toNat ZC7)) then 1 else ZFm.wrap (ZTa a3 (a0.getD a2.toNat ZC7)))) rfl (dn (ZKw (sr (Za (v:=vI (if 1 < ZFm.wrap (ZTa a3 (a0.getD a2.toNat ZC7)) then 1 else ZFm.wrap (ZTa a3 (a0.getD a2.toNat ZC7)))) rfl (Zh7 rfl rfl (Zd (v:=vI (if 20 < (if 1 < ZFm.wrap (ZTa a3 (a0.getD a2.toNat ZC7)) then 1 else ZFm.wrap (ZTa a3 (a0.getD a2.toNat ZC7))) then 20 else(if 1 < ZFm.wrap (ZTa a3 (a0.getD a2.toNat ZC7)) then 1 else ZFm.wrap (ZTa a3 (a0.getD a2.toNat ZC7))))) rfl (dn (ZK2 ?_)))))))))))
    refine Jh (S:=A8×(List A8)×Int) _ (fun s10 e_ w_=>∃ (v10:Value),Zv e_ [(0,u0_0),(2,vI a2),(3,vI a3),(4,v10),(6,vQ b3),(12,vI s10.2.2)]∧Ctx (fun c_=>c_∈ZLw (ZD0 u4_0)) w0 w_ [blk b3 136 (ZKt .u8 s10.1),own 136 8 v10 s10.2.1.length ((EA .u8).encs s10.2.1)] [ZKv TInts a0 [u0_0] fp0]) ?_ (s0:=(a1,a4,(if 20 < (if 1 < ZFm.wrap (ZTa a3 (a0.getD a2.toNat ZC7)) then 1 else ZFm.wrap (ZTa a3 (a0.getD a2.toNat ZC7))) then 20 else(if 1 < ZFm.wrap (ZTa a3 (a0.getD a2.toNat ZC7)) then 1 else ZFm.wrap (ZTa a3 (a0.getD a2.toNat ZC7)))))) ?_ h
    ·clear hC h
     rintro s10 e_ w12 nx10 K10 ⟨v10,hS_,hC⟩ h hK10
     rw [ue hS_]
     refine ZKw (sr (Za (v:=vI s10.2.2) rfl (J7 rfl rfl (Za (v:=.bool (decide (s10.2.2≥0))) rfl ?_))))
     refine Y8 (decide (s10.2.2≥0)) (fun hb10=>?_) (fun hb10=>?_)
     ·replace h:=ift h (ct hb10)
      refine Zm 2 42 rfl rfl hb10 (Za (v:=v10) rfl (Zm 2 42 rfl rfl hb10 ?_))
      obtain ⟨Ad14,c12,hv14⟩:=X1 (hC.getM 1 rfl)
      refine Zt ZXq (tr rfl hv14) (Zm 2 42 rfl rfl hb10 (Zcb rfl rfl (Z3 (v:=.bool (decide ((s10.2.1.length:Int)≤400))) (b:=true) (tr rfl (congrArg _ hb10)) rfl (dn ?_))))
      refine Zs rfl (fun hb14=>?_) (fun hb14=>?_)
      ·replace h:=ift h (ct hb14)
       refine ZK0 (Ze (ZKw (ZK2 (sr (Za (v:=vI a2) rfl (Za (v:=vI s10.2.2) rfl (Zjb ZL5 ZLx rfl ?_)))))))
       obtain ⟨⟨h15,h16⟩,h⟩:=h
       refine Xx a2.toNat ZLe sc5.size rfl rfl h15 h16 (by omega) (Z4 (v:=.int .u8 (ZK8.wrap s10.2.2)) hC 0 [.int .u8 (ZK8.wrap s10.2.2)] (ZKt .u8 (s10.1.set a2.toNat (ZK8.wrap s10.2.2))) rfl sc5.size rfl rfl rfl rfl rfl (show a2.toNat < 8 by omega) (A8.enc_set _ _ _ (show a2.toNat < 8 by omega)) fun w13 hC=>dn ?_)
       refine Yq 13 Yl [0,0,0,4,0,0,0,0,192,448,992,2032,0,8191,16383] [1,8,9] [0,2,3,4,5,6,7,10,11,12] (by kernel_rfl) (by kernel_rfl) (by kernel_rfl) (fun hM12 hM10 w14 hB_=>?_)
       replace hC:=hC.grow hB_
       refine bM 0 (u0_0) rfl hM10 (Zc 15 1) (bL 1 (.agg (ZKu (ZKt .u8 (s10.1.set a2.toNat (ZK8.wrap s10.2.2))))) rfl rfl hM12 (fun _ hB_=>by exact Xc (hC.grow hB_) 0 (ZKt .u8 (s10.1.set a2.toNat (ZK8.wrap s10.2.2))) rfl ag136 rfl rfl rfl) (Zc 15 3) (bM 2 (vI a2) rfl hM10 (Zc 15 7) (bF 3 (vI (ZFm.wrap (a2+1))) rfl rfl hM10 (fun _=>by exact Zbx rfl rfl) (Zc 15 15) (bM 4 (vI a3) rfl hM10 (Zc 15 31) (bM 5 (vI s10.2.2) rfl hM10 (Zc 15 63) (bM 6 (u0_0) rfl hM10 (Zc 15 127) (bM 7 (vI a2) rfl hM10 (Zc 15 255) ?_)))))))
       obtain ⟨⟨h17,h18⟩,h⟩:=h
       obtain ⟨Ad10,c13,hv12⟩:=Zx (hC.getP 0 rfl) a2.toNat (show a2.toNat < a0.length by omega)
       refine bL 8 (.pointer (some (Ad10.add (a2.toNat * 1)))) rfl rfl hM12 (fun _ hB_=>by exact Y1 (len:=a0.length) ZLf sc2.size (by exact tr rfl hv12) rfl h17 h18) (Zc 15 511) (bL 9 (vI (a0.getD a2.toNat ZC7)) rfl rfl hM12 (fun _ hB_=>by exact Xp (vI (a0.getD a2.toNat ZC7)) (Ye ((hC.grow hB_).getP 0 rfl) hv12 a2.toNat (show a2.toNat < a0.length by omega)) sc2 rfl) (Zc 15 1023) (bF 10 (vI (ZFm.wrap (s10.2.2 * (a0.getD a2.toNat ZC7)))) rfl rfl hM10 (fun _=>by exact Zc1 rfl rfl) (Zc 15 2047) (bF 11 (vI (ZFm.wrap (a3 - (ZFm.wrap (s10.2.2 * (a0.getD a2.toNat ZC7)))))) rfl rfl hM10 (fun _=>by exact Zc0 rfl rfl) (Zc 15 4095) (bM 12 (v10) rfl hM10 (Zc 15 8191) (Z7 13 (by decide) (by decide) (by kernel_rfl) (by kernel_rfl) rfl ?_)))))
       refine Zg [u0_0,.agg (ZKu (ZKt .u8 (s10.1.set a2.toNat (ZK8.wrap s10.2.2)))),vI (ZFm.wrap (a2+1)),vI (ZFm.wrap (a3 - (ZFm.wrap (s10.2.2 * (a0.getD a2.toNat ZC7))))),v10] _ ZX4 rfl rfl rfl (ih_ a0 (s10.1.set a2.toNat (ZK8.wrap s10.2.2)) (ZFm.wrap (a2+1)) (ZFm.wrap (a3 - (ZFm.wrap (s10.2.2 * (a0.getD a2.toNat ZC7))))) s10.2.1 h _ (hC.getP 0 rfl) (hC.getM 1 rfl) (fun b_ hb_ hb2_=>hC.pd _ (List.mem_of_getElem? (i:=0) rfl) b_ hb_ _ (List.mem_of_getElem? (i:=1) rfl) hb2_)) (fun ret10 w15 hR10=>?_)
       obtain ⟨r10,v13,rfl,h,hr10,hf10,hB10⟩:=hR10
       refine⟨_,rfl,?_⟩
       replace hC:=hC.turnO 1 rfl hB10 hr10 hf10
       refine Zd (v:=v13) rfl (done (Z8 (Zr (Ze (Zh (Za (v:=vI s10.2.2) rfl (X0 rfl rfl (Zd (v:=vI (ZFm.wrap (s10.2.2 - 1))) rfl (done ?_)))))))))
       exact hK10 (s10.1.set a2.toNat (ZK8.wrap s10.2.2),r10,ZFm.wrap (s10.2.2 - 1)) _ _ ⟨v13,(sl ⟨rfl,rfl,rfl,rfl,rfl,rfl,trivial⟩),hC⟩ h
      ·replace h:=Zl h (cf hb14)
       refine ZLa (Zj (Zj (Z0 ?_)))
       refine Ze (sr (Za (v:=v10) rfl (Zd (v:=v10) rfl (dn (ZK4 ?_)))))
       refine Zi (fn:=ZXz) rfl ?_ ⟨s10.2.1,v10,rfl,h,(hC.getM 1 rfl),(fun b_ hb_=>(hC.mfp _ (List.mem_of_getElem? (i:=1) rfl) b_ hb_).symm),hC.belO⟩ (.inl rfl)
       exact Zf rfl
     ·replace h:=Zl h (cf hb10)
      refine Zk (b:=false) 2 42 rfl (tr rfl (congrArg _ hb10)) (by decide) (Zk (b:=false) 2 42 rfl (tr rfl (congrArg _ hb10)) (by decide) (Zk (b:=false) 2 42 rfl (tr rfl (congrArg _ hb10)) (by decide) (Z3 (v:=.bool false) (b:=false) (tr rfl (congrArg _ hb10)) rfl (dn (Z2 rfl rfl ?_)))))
      refine ZLa (Zj (Zj (Z0 ?_)))
      refine Ze (sr (Za (v:=v10) rfl (Zd (v:=v10) rfl (dn (ZK4 ?_)))))
      refine Zi (fn:=ZXz) rfl ?_ ⟨s10.2.1,v10,rfl,h,(hC.getM 1 rfl),(fun b_ hb_=>(hC.mfp _ (List.mem_of_getElem? (i:=1) rfl) b_ hb_).symm),hC.belO⟩ (.inl rfl)
      exact Zf rfl
    ·skip
     exact⟨u4_0,(sl ⟨rfl,rfl,rfl,rfl,rfl,rfl,trivial⟩),hC⟩
   ·replace h:=Zl h (cf hb13)
    refine ZK0 (Ze (ZKw (sr (Za (v:=vI (ZFm.wrap (ZTa a3 (a0.getD a2.toNat ZC7)))) rfl (Zh7 rfl rfl (Zd (v:=vI (if 20 < ZFm.wrap (ZTa a3 (a0.getD a2.toNat ZC7)) then 20 else ZFm.wrap (ZTa a3 (a0.getD a2.toNat ZC7)))) rfl (dn (ZK2 ?_))))))))
    refine Jh (S:=A8×(List A8)×Int) _ (fun s11 e_ w_=>∃ (v11:Value),Zv e_ [(0,u0_0),(2,vI a2),(3,vI a3),(4,v11),(6,vQ b3),(12,vI s11.2.2)]∧Ctx (fun c_=>c_∈ZLw (ZD0 u4_0)) w0 w_ [blk b3 136 (ZKt .u8 s11.1),own 136 8 v11 s11.2.1.length ((EA .u8).encs s11.2.1)] [ZKv TInts a0 [u0_0] fp0]) ?_ (s0:=(a1,a4,(if 20 < ZFm.wrap (ZTa a3 (a0.getD a2.toNat ZC7)) then 20 else ZFm.wrap (ZTa a3 (a0.getD a2.toNat ZC7))))) ?_ h
    ·clear hC h
     rintro s11 e_ w16 nx11 K11 ⟨v11,hS_,hC⟩ h hK11
     rw [ue hS_]
     refine ZKw (sr (Za (v:=vI s11.2.2) rfl (J7 rfl rfl (Za (v:=.bool (decide (s11.2.2≥0))) rfl ?_))))
     refine Y8 (decide (s11.2.2≥0)) (fun hb11=>?_) (fun hb11=>?_)
     ·replace h:=ift h (ct hb11)
      refine Zm 2 42 rfl rfl hb11 (Za (v:=v11) rfl (Zm 2 42 rfl rfl hb11 ?_))
      obtain ⟨Ad15,c14,hv15⟩:=X1 (hC.getM 1 rfl)
      refine Zt ZXq (tr rfl hv15) (Zm 2 42 rfl rfl hb11 (Zcb rfl rfl (Z3 (v:=.bool (decide ((s11.2.1.length:Int)≤400))) (b:=true) (tr rfl (congrArg _ hb11)) rfl (dn ?_))))
      refine Zs rfl (fun hb15=>?_) (fun hb15=>?_)
      ·replace h:=ift h (ct hb15)
       refine ZK0 (Ze (ZKw (ZK2 (sr (Za (v:=vI a2) rfl (Za (v:=vI s11.2.2) rfl (Zjb ZL5 ZLx rfl ?_)))))))
       obtain ⟨⟨h19,h20⟩,h⟩:=h
       refine Xx a2.toNat ZLe sc5.size rfl rfl h19 h20 (by omega) (Z4 (v:=.int .u8 (ZK8.wrap s11.2.2)) hC 0 [.int .u8 (ZK8.wrap s11.2.2)] (ZKt .u8 (s11.1.set a2.toNat (ZK8.wrap s11.2.2))) rfl sc5.size rfl rfl rfl rfl rfl (show a2.toNat < 8 by omega) (A8.enc_set _ _ _ (show a2.toNat < 8 by omega)) fun w17 hC=>dn ?_)
       refine Yq 13 Yl [0,0,0,4,0,0,0,0,192,448,992,2032,0,8191,16383] [1,8,9] [0,2,3,4,5,6,7,10,11,12] (by kernel_rfl) (by kernel_rfl) (by kernel_rfl) (fun hM13 hM11 w18 hB_=>?_)
       replace hC:=hC.grow hB_
       refine bM 0 (u0_0) rfl hM11 (Zc 15 1) (bL 1 (.agg (ZKu (ZKt .u8 (s11.1.set a2.toNat (ZK8.wrap s11.2.2))))) rfl rfl hM13 (fun _ hB_=>by exact Xc (hC.grow hB_) 0 (ZKt .u8 (s11.1.set a2.toNat (ZK8.wrap s11.2.2))) rfl ag136 rfl rfl rfl) (Zc 15 3) (bM 2 (vI a2) rfl hM11 (Zc 15 7) (bF 3 (vI (ZFm.wrap (a2+1))) rfl rfl hM11 (fun _=>by exact Zbx rfl rfl) (Zc 15 15) (bM 4 (vI a3) rfl hM11 (Zc 15 31) (bM 5 (vI s11.2.2) rfl hM11 (Zc 15 63) (bM 6 (u0_0) rfl hM11 (Zc 15 127) (bM 7 (vI a2) rfl hM11 (Zc 15 255) ?_)))))))
       obtain ⟨⟨h21,h22⟩,h⟩:=h
       obtain ⟨Ad11,c15,hv13⟩:=Zx (hC.getP 0 rfl) a2.toNat (show a2.toNat < a0.length by omega)
       refine bL 8 (.pointer (some (Ad11.add (a2.toNat * 1)))) rfl rfl hM13 (fun _ hB_=>by exact Y1 (len:=a0.length) ZLf sc2.size (by exact tr rfl hv13) rfl h21 h22) (Zc 15 511) (bL 9 (vI (a0.getD a2.toNat ZC7)) rfl rfl hM13 (fun _ hB_=>by exact Xp (vI (a0.getD a2.toNat ZC7)) (Ye ((hC.grow hB_).getP 0 rfl) hv13 a2.toNat (show a2.toNat < a0.length by omega)) sc2 rfl) (Zc 15 1023) (bF 10 (vI (ZFm.wrap (s11.2.2 * (a0.getD a2.toNat ZC7)))) rfl rfl hM11 (fun _=>by exact Zc1 rfl rfl) (Zc 15 2047) (bF 11 (vI (ZFm.wrap (a3 - (ZFm.wrap (s11.2.2 * (a0.getD a2.toNat ZC7)))))) rfl rfl hM11 (fun _=>by exact Zc0 rfl rfl) (Zc 15 4095) (bM 12 (v11) rfl hM11 (Zc 15 8191) (Z7 13 (by decide) (by decide) (by kernel_rfl) (by kernel_rfl) rfl ?_)))))
       refine Zg [u0_0,.agg (ZKu (ZKt .u8 (s11.1.set a2.toNat (ZK8.wrap s11.2.2)))),vI (ZFm.wrap (a2+1)),vI (ZFm.wrap (a3 - (ZFm.wrap (s11.2.2 * (a0.getD a2.toNat ZC7))))),v11] _ ZX4 rfl rfl rfl (ih_ a0 (s11.1.set a2.toNat (ZK8.wrap s11.2.2)) (ZFm.wrap (a2+1)) (ZFm.wrap (a3 - (ZFm.wrap (s11.2.2 * (a0.getD a2.toNat ZC7))))) s11.2.1 h _ (hC.getP 0 rfl) (hC.getM 1 rfl) (fun b_ hb_ hb2_=>hC.pd _ (List.mem_of_getElem? (i:=0) rfl) b_ hb_ _ (List.mem_of_getElem? (i:=1) rfl) hb2_)) (fun ret11 w19 hR11=>?_)
       obtain ⟨r11,v14,rfl,h,hr11,hf11,hB11⟩:=hR11
       refine⟨_,rfl,?_⟩
       replace hC:=hC.turnO 1 rfl hB11 hr11 hf11
       refine Zd (v:=v14) rfl (done (Z8 (Zr (Ze (Zh (Za (v:=vI s11.2.2) rfl (X0 rfl rfl (Zd (v:=vI (ZFm.wrap (s11.2.2 - 1))) rfl (done ?_)))))))))
       exact hK11 (s11.1.set a2.toNat (ZK8.wrap s11.2.2),r11,ZFm.wrap (s11.2.2 - 1)) _ _ ⟨v14,(sl ⟨rfl,rfl,rfl,rfl,rfl,rfl,trivial⟩),hC⟩ h
      ·replace h:=Zl h (cf hb15)
       refine ZLa (Zj (Zj (Z0 ?_)))
       refine Ze (sr (Za (v:=v11) rfl (Zd (v:=v11) rfl (dn (ZK4 ?_)))))
       refine Zi (fn:=ZXz) rfl ?_ ⟨s11.2.1,v11,rfl,h,(hC.getM 1 rfl),(fun b_ hb_=>(hC.mfp _ (List.mem_of_getElem? (i:=1) rfl) b_ hb_).symm),hC.belO⟩ (.inl rfl)
       exact Zf rfl
     ·replace h:=Zl h (cf hb11)
      refine Zk (b:=false) 2 42 rfl (tr rfl (congrArg _ hb11)) (by decide) (Zk (b:=false) 2 42 rfl (tr rfl (congrArg _ hb11)) (by decide) (Zk (b:=false) 2 42 rfl (tr rfl (congrArg _ hb11)) (by decide) (Z3 (v:=.bool false) (b:=false) (tr rfl (congrArg _ hb11)) rfl (dn (Z2 rfl rfl ?_)))))
      refine ZLa (Zj (Zj (Z0 ?_)))
      refine Ze (sr (Za (v:=v11) rfl (Zd (v:=v11) rfl (dn (ZK4 ?_)))))
      refine Zi (fn:=ZXz) rfl ?_ ⟨s11.2.1,v11,rfl,h,(hC.getM 1 rfl),(fun b_ hb_=>(hC.mfp _ (List.mem_of_getElem? (i:=1) rfl) b_ hb_).symm),hC.belO⟩ (.inl rfl)
      exact Zf rfl
    ·skip
     exact⟨u4_0,(sl ⟨rfl,rfl,rfl,rfl,rfl,rfl,trivial⟩),hC⟩
def Zfz (a0:List Int) (a1:Int) (K:List A8→Prop):Prop :=
 f_spec_l01Fill 9 a0 A8.zero 0 a1 [] (fun r6=>K r6)
theorem Zre (a0:List Int) (a1:Int)  {K:List A8→Prop} (h:Zfz a0 a1 K) (w0:World) (q0:ZNz.rep a0 [u0_0] fp0 w0) :
  Calls ZKz 94 #[u0_0,vI a1] w0 fun e w'=>∃ (r0:List A8) (z0_0:Value) (fz0:List Nat),
   e=.returned (z0_0)∧K r0∧(ZLd (ZTe 136 ((EA .u8).tr)) r0 [z0_0] fz0).holds w'∧(∀ b,b∈fz0→w0.heap.size≤b)∧Bel w0 w':=by
 unfold Zfz at h
 refine cof Tryz.func94 rfl 9 Tryz.ntmps94 ?_
 have hC:=ZLh (X:=Nox) w0 [ZKv TInts a0 [u0_0] fp0] (al1 q0)
 refine sr (Zd (v:=.slice none 0 0) rfl (dn (sr (Za (v:=u0_0) rfl (J0 [] rfl (Zmm   _) (Za (v:=vI a1) rfl ?_))))))
 replace hC:=hC.pushNil 136 8
 refine Zg [u0_0,.agg (ZKu (ZKt .u8 A8.zero)),vI 0,vI a1,.slice none 0 0] _ ZX4 rfl rfl rfl (Zzp 9 a0 A8.zero 0 a1 [] h _ (hC.getP 0 rfl) (hC.getM 0 rfl) (fun b_ hb_ hb2_=>hC.pd _ (List.mem_of_getElem? (i:=0) rfl) b_ hb_ _ (List.mem_of_getElem? (i:=0) rfl) hb2_)) (fun ret3 w5 hR4=>?_)
 obtain ⟨r6,v7,rfl,h,hr8,hf9,hB10⟩:=hR4
 refine⟨_,rfl,?_⟩
 replace hC:=hC.turnO 0 rfl hB10 hr8 hf9
 refine Zd (v:=v7) rfl (dn (ZK4 ?_))
 refine Zi (fn:=Tryz.f94) rfl ?_ ⟨r6,v7,(ZLw (ZD0 v7)),rfl,h,(Xq (hC.getM 0 rfl)),(Xi hC 0 rfl),hC.below⟩ (.inl rfl)
 exact Zf rfl
def Zif (a0:Alg) (a1:Int) (a2:Int) (K:Bool→Prop):Prop :=
 X5 (fun (s10:Int) nx10=>(if s10≤a2 then Zfz a0.degrees s10 (fun r10=>(if(r10.length:Int) > 120 then K false else nx10 (ZFm.wrap (s10+1)))) else K true)) (if a1 < 0 then 0 else a1)
theorem Zzq (a0:Alg) (a1:Int) (a2:Int)  {K:Bool→Prop} (h:Zif a0 a1 a2 K) (w0:World) (q0:TAlg.rep a0 [u0_0,u0_1] fp0 w0) :
  Calls ZKz 108 #[.agg #[u0_0,u0_1],vI a1,vI a2] w0 fun e w'=>∃ (r0:Bool),
   e=.returned (.bool r0)∧K r0∧Bel w0 w':=by
 unfold Zif at h
 refine cof Tryz.func108 rfl 21 Tryz.ntmps108 ?_
 have hC:=ZLh (X:=Nox) w0 [ZKv TAlg a0 [u0_0,u0_1] fp0] (al1 q0)
 replace hC:=hC.dAlg 0 rfl
 refine sr (Yi (v:=.agg #[u0_0,u0_1]) hC [u0_0,u0_1] rfl rfl fun b4 w6 hB_ hC=>Zd (v:=.bool false) rfl (dn (ZKw (sr (Za (v:=vI a1) rfl (Zx8 rfl rfl (Zd (v:=vI (if a1 < 0 then 0 else a1)) rfl (dn (ZK2 ?_)))))))))
 refine Jh (S:=Int) _ (fun s10 e_ w_=>Zv e_ [(2,vI a2),(3,vQ b4),(7,vI s10)]∧Ctx Nox w0 w_ [blk b4 32 [u0_0,u0_1]] [ZKv ZLi.sl a0.images [u0_1] fp0,ZKv TInts a0.degrees [u0_0] fp0,ZKv TAlg a0 [u0_0,u0_1] fp0]) ?_ (s0:=(if a1 < 0 then 0 else a1)) ?_ h
 ·clear hC h
  rintro s10 e_ w10 nx10 K10 ⟨hS_,hC⟩ h hK10
  rw [ue hS_]
  refine ZKw (sr (Za (v:=vI s10) rfl (Za (v:=vI a2) rfl (Zcb rfl rfl (dn ?_)))))
  refine Zs rfl (fun hb10=>?_) (fun hb10=>?_)
  ·replace h:=ift h (ct hb10)
   refine ZK0 (Ze (ZKw (ZK2 (sr (Z1 0 ZLg rfl sc22.size rfl rfl (Yb hC 0 (u0_0) rfl sc22 rfl rfl (Za (v:=vI s10) rfl ?_)))))))
   refine Zg [u0_0,vI s10] _ Tryz.func94 rfl rfl rfl (Zre a0.degrees s10 h _ (hC.getP 1 rfl)) (fun ret10 w11 hR10=>?_)
   obtain ⟨r10,u10,f10,rfl,h,hr10,hf10,hB10⟩:=hR10
   refine⟨_,rfl,?_⟩
   replace hC:=hC.push hB10 (ZLd (ZTe 136 ((EA .u8).tr)) r10 [u10] f10) hr10 hf10
   obtain ⟨ho10,hf11⟩:=Y6 (hC.getM 0 rfl).1
   subst hf11
   replace hC:=hC.recast (c:=own 136 8 u10 r10.length ((EA .u8).encs r10)) (fun _ h_=>h_) (fun _=>ho10)
   obtain ⟨Ad10,c10,hv10⟩:=X1 (hC.getM 0 rfl)
   refine Zt ZXq (tr rfl hv10) (Jg rfl rfl (dn ?_))
   refine Zs rfl (fun hb11=>?_) (fun hb11=>?_)
   ·replace h:=ift h (ct hb11)
    refine sr (Zd (v:=.bool false) rfl (dn ?_))
    refine ZK4 (Z9 (Zn (Zn (Z9 (Zn ?_)))))
    refine Zi (fn:=Tryz.f108) rfl ?_ ⟨false,rfl,h,hC.below⟩ (.inl rfl)
    exact Zf rfl
   ·replace h:=Zl h (cf hb11)
    refine ZK0 (Zr (Ze (Zh (Za (v:=vI s10) rfl (Zq rfl rfl (Zd (v:=vI (ZFm.wrap (s10+1))) rfl (done ?_)))))))
    exact hK10 (ZFm.wrap (s10+1)) _ _ ⟨(sl ⟨rfl,rfl,rfl,trivial⟩),(hC.xM [1] rfl)⟩ h
  ·replace h:=Zl h (cf hb10)
   refine ZLa (Zj (Zj (Z0 ?_)))
   refine Ze (sr (Zd (v:=.bool true) rfl (dn (ZK4 ?_))))
   refine Zi (fn:=Tryz.f108) rfl ?_ ⟨true,rfl,h,hC.below⟩ (.inl rfl)
   exact Zf rfl
 ·skip
  exact⟨(sl ⟨rfl,rfl,rfl,trivial⟩),hC⟩
def Zig (a0:Alg) (a1:Int) (K:Int→Prop):Prop :=
 Zfm a0 (fun r10=>(if¬ (r10=true) then K 1 else Zc7 a1 0 20 (fun r11=>(if¬ (r11=true) then K 2 else Zif a0 (ZFm.wrap (a1 - 1)) (ZFm.wrap (a1+1)) (fun r12=>(if¬ (r12=true) then K 3 else K 0))))))
theorem Zzr (a0:Alg) (a1:Int)  {K:Int→Prop} (h:Zig a0 a1 K) (w0:World) (q0:TAlg.rep a0 [u0_0,u0_1] fp0 w0) :
  Calls ZKz 60 #[.agg #[u0_0,u0_1],vI a1] w0 fun e w'=>∃ (r0:Int),
   e=.returned (vI r0)∧K r0∧Bel w0 w':=by
 unfold Zig at h
 refine cof Tryz.func60 rfl 21 Tryz.ntmps60 ?_
 have hC:=ZLh (X:=Nox) w0 [ZKv TAlg a0 [u0_0,u0_1] fp0] (al1 q0)
 replace hC:=hC.dAlg 0 rfl
 refine sr (Yi (v:=.agg #[u0_0,u0_1]) hC [u0_0,u0_1] rfl rfl fun b4 w6 hB_ hC=>Zd (v:=vI 0) rfl (dn (ZKw (ZK2 (sr (Yw hC 0 [u0_0,u0_1] rfl ag32 rfl rfl rfl ?_))))))
 refine Zg [.agg #[u0_0,u0_1]] _ Tryz.func92 rfl rfl rfl (Zpz a0 h _ (Yp (hC.getP 1 rfl) (hC.getP 0 rfl))) (fun ret7 w9 hR8=>?_)
 obtain ⟨r10,rfl,h,hB10⟩:=hR8
 refine⟨_,rfl,?_⟩
 replace hC:=hC.grow hB10
 refine Xe rfl (Zd (v:=.bool (!r10)) rfl (dn ?_))
 refine Zs rfl (fun hb10=>?_) (fun hb10=>?_)
 ·replace h:=ift h (Y4 (Xj hb10))
  refine sr (Zd (v:=vI 1) rfl (dn ?_))
  refine ZK4 (Z9 (Zn ?_))
  refine Zi (fn:=Tryz.f60) rfl ?_ ⟨1,rfl,h,hC.below⟩ (.inl rfl)
  exact Zf rfl
 ·replace h:=Zl h (not_not_intro ((Xk hb10)))
  refine sr (Za (v:=vI a1) rfl ?_)
  refine Zg [vI a1,vI 0,vI 20] _ Tryz.func59 rfl rfl rfl (Zgx a1 0 20 h _) (fun ret10 w10 hR10=>?_)
  obtain ⟨r11,rfl,h,hB11⟩:=hR10
  refine⟨_,rfl,?_⟩
  replace hC:=hC.grow hB11
  refine Xe rfl (Zd (v:=.bool (!r11)) rfl (dn ?_))
  refine Zs rfl (fun hb11=>?_) (fun hb11=>?_)
  ·replace h:=ift h (Y4 (Xj hb11))
   refine sr (Zd (v:=vI 2) rfl (dn ?_))
   refine ZK4 (Z9 (Zn ?_))
   refine Zi (fn:=Tryz.f60) rfl ?_ ⟨2,rfl,h,hC.below⟩ (.inl rfl)
   exact Zf rfl
  ·replace h:=Zl h (not_not_intro ((Xk hb11)))
   refine sr (Yw hC 0 [u0_0,u0_1] rfl ag32 rfl rfl rfl (Za (v:=vI a1) rfl (X0 rfl rfl (Za (v:=vI a1) rfl (Zq rfl rfl ?_)))))
   refine Zg [.agg #[u0_0,u0_1],vI (ZFm.wrap (a1 - 1)),vI (ZFm.wrap (a1+1))] _ Tryz.func108 rfl rfl rfl (Zzq a0 (ZFm.wrap (a1 - 1)) (ZFm.wrap (a1+1)) h _ (Yp (hC.getP 1 rfl) (hC.getP 0 rfl))) (fun ret11 w11 hR11=>?_)
   obtain ⟨r12,rfl,h,hB12⟩:=hR11
   refine⟨_,rfl,?_⟩
   replace hC:=hC.grow hB12
   refine Xe rfl (Zd (v:=.bool (!r12)) rfl (dn ?_))
   refine Zs rfl (fun hb12=>?_) (fun hb12=>?_)
   ·replace h:=ift h (Y4 (Xj hb12))
    refine sr (Zd (v:=vI 3) rfl (dn ?_))
    refine ZK4 (Z9 (Zn ?_))
    refine Zi (fn:=Tryz.f60) rfl ?_ ⟨3,rfl,h,hC.below⟩ (.inl rfl)
    exact Zf rfl
   ·replace h:=Zl h (not_not_intro ((Xk hb12)))
    refine ZK0 (Zr (Ze (sr (Zd (v:=vI 0) rfl (dn (ZK4 ?_))))))
    refine Zi (fn:=Tryz.f60) rfl ?_ ⟨0,rfl,h,hC.below⟩ (.inl rfl)
    exact Zf rfl
def Zbe (a0:List Int) (K:Int→Prop):Prop :=
 Yc (fun i10 (s10:Unit) nx10=>(if a0.getD i10 ZC7≠0 then K (i10:Int) else nx10 ())) (fun (s10:Unit)=>K (-1)) a0.length 0 ()
theorem Zkv (a0:List Int)  {K:Int→Prop} (h:Zbe a0 K) (w0:World) (q0:ZNz.rep a0 [u0_0] fp0 w0) :
  Calls ZKz 126 #[u0_0] w0 fun e w'=>∃ (r0:Int),
   e=.returned (vI r0)∧K r0∧Bel w0 w':=by
 unfold Zbe at h
 refine cof ZX2 rfl 16 Tryz.ntmps126 ?_
 have hC:=ZLh (X:=Nox) w0 [ZKv TInts a0 [u0_0] fp0] (al1 q0)
 refine sr (Zd (v:=vI 0) rfl (dn (ZKw (sr (Zd (v:=vI 0) rfl (dn (ZK2 ?_)))))))
 have hN10:a0.length≤9223372036854775807:=Y2 (hC.getP 0 rfl)
 refine Yk (S:=Unit) _ _ (fun i10 s10 e_ w_=>Zv e_ [(0,u0_0),(3,vI (i10:Int))]∧Ctx Nox w0 w_ [] [ZKv TInts a0 [u0_0] fp0]) a0.length ?_ ?_ (s0:=()) ?_ h
 ·clear hC h
  rintro i10 s10 e_ w10 nx10 K10 hi10 ⟨hS_,hC⟩ h hK10
  rw [ue hS_]
  refine ZKw (sr (Za (v:=vI (i10:Int)) rfl (Za (v:=u0_0) rfl ?_)))
  obtain ⟨Ad10,c10,hv11⟩:=Zu (hC.getP 0 rfl)
  refine Zt ZLf (tr rfl hv11) (Zp rfl rfl (dn (Z6 rfl (decide_eq_true (by omega)) (ZK0 (Ze (ZKw (ZK2 (sr (Za (v:=u0_0) rfl (Za (v:=vI (i10:Int)) rfl ?_))))))))))
  obtain ⟨Ad11,c11,hv10⟩:=Zx (hC.getP 0 rfl) i10 hi10
  refine Yn (len:=a0.length) ZLf sc2.size (tr rfl hv10) rfl (ZLc _) (ZLv.2 hi10) (Yo (vI (a0.getD i10 ZC7)) (Ye (hC.getP 0 rfl) hv10 i10 hi10) sc2 rfl (Y5 rfl rfl (dn ?_)))
  refine Zs rfl (fun hb10=>?_) (fun hb10=>?_)
  ·replace h:=ift h (ct hb10)
   refine sr (Za (v:=vI (i10:Int)) rfl (Zd (v:=vI (i10:Int)) rfl (dn ?_)))
   refine ZK4 (Z9 (Zn (Zn (Z9 (Zn ?_)))))
   refine Zi (fn:=Tryz.f126) rfl ?_ ⟨(i10:Int),rfl,h,hC.below⟩ (.inl rfl)
   exact Zf rfl
  ·replace h:=Zl h (cf hb10)
   refine ZK0 (Zr (Ze (Zh (Za (v:=vI (i10:Int)) rfl (Zq rfl rfl (Zd (v:=vI (ZFm.wrap ((i10:Int)+1))) rfl (done ?_)))))))
   exact hK10 () _ _ ⟨(sl ⟨rfl,(tr rfl (congrArg _ (Z5 hi10 hN10))),trivial⟩),hC⟩ h
 ·clear hC h
  rintro s10 e_ w11 K10 ⟨hS_,hC⟩ h
  rw [ue hS_]
  refine ZKw (sr (Za (v:=vI (a0.length:Int)) rfl (Za (v:=u0_0) rfl ?_)))
  obtain ⟨Ad12,c12,hv12⟩:=Zu (hC.getP 0 rfl)
  refine Zt ZLf (tr rfl hv12) (Zp rfl rfl (dn (Z2 rfl (decide_eq_false (by omega)) ?_)))
  refine ZLa (Zj (Zj (Z0 ?_)))
  refine Ze (sr (Zd (v:=vI (-1)) rfl (dn (ZK4 ?_))))
  refine Zi (fn:=Tryz.f126) rfl ?_ ⟨(-1),rfl,h,hC.below⟩ (.inl rfl)
  exact Zf rfl
 ·skip
  exact⟨(sl ⟨rfl,rfl,trivial⟩),hC⟩
def Jl (a0:List Int) (a1:List Int) (a2:Int) (K:List Int→Prop):Prop :=
 ((0≤(a0.length:Int)∧(a0.length:Int) * 8≤281474976710656)∧Yc (fun i10 (s10:(List Int)) nx10=>((0≤(i10:Int)∧(i10:Int) < (a1.length:Int))∧Jd (ZFm.wrap ((a0.getD i10 ZC7) - (ZFm.wrap (a2 * (a1.getD i10 ZC7))))) (fun r10=>((0≤(i10:Int)∧(i10:Int) < (s10.length:Int))∧nx10 (s10.set i10 r10))))) (fun (s10:(List Int))=>K s10) a0.length 0 (ZC2 ((a0.length:Int).toNat) (0:Int)))
theorem Zex (a0:List Int) (a1:List Int) (a2:Int)  {K:List Int→Prop} (h:Jl a0 a1 a2 K) (w0:World) (q0:ZNz.rep a0 [u0_0] fp0 w0) (q1:ZNz.rep a1 [u1_0] fp1 w0) :
  Calls ZKz 163 #[u0_0,u1_0,vI a2] w0 fun e w'=>∃ (r0:List Int) (z0_0:Value) (fz0:List Nat),
   e=.returned (z0_0)∧K r0∧(ZLd (ZTe 2 (eI.tr)) r0 [z0_0] fz0).holds w'∧(∀ b,b∈fz0→w0.heap.size≤b)∧Bel w0 w':=by
 unfold Jl at h
 refine cof ZXw rfl 34 Tryz.ntmps163 ?_
 have hC:=ZLh (X:=Nox) w0 [ZKv TInts a0 [u0_0] fp0,ZKv TInts a1 [u1_0] fp1] (alc q0 (al1 q1))
 refine sr (Zd (v:=.slice none 0 0) rfl (dn (sr (Za (v:=u0_0) rfl ?_))))
 obtain ⟨Ad3,c4,hv5⟩:=Zu (hC.getP 0 rfl)
 refine Zt ZLf (tr rfl hv5) ?_
 obtain ⟨hm8,h⟩:=h
 refine Zbz (sz:=1) hC (eI.encs (ZC2 ((a0.length:Int).toNat) (0:Int))) ZLf el2 (tr rfl (congrArg (ZN5 .i64) (ZN6 hm8.1).symm)) (tr rfl (congrArg (ZN5 .i64) (ZN6 hm8.1).symm)) (by omega) (by omega) (Zbh (E:=eI) _ _) fun v6 w7 hB_ hC=>?_
 replace hC:=Y9 hC 0 ((ZC2 ((a0.length:Int).toNat) (0:Int)).length) (eI.encs (ZC2 ((a0.length:Int).toNat) (0:Int))) rfl (by simp) rfl
 refine Zd (v:=v6) rfl (dn (ZKw (sr (Zd (v:=vI 0) rfl (dn (ZK2 ?_))))))
 have hN10:a0.length≤9223372036854775807:=Y2 (hC.getP 0 rfl)
 refine Yk (S:=(List Int)) _ _ (fun i10 s10 e_ w_=>∃ (v10:Value),Zv e_ [(0,u0_0),(1,u1_0),(2,vI a2),(7,v10),(8,vI (i10:Int))]∧Ctx Nox w0 w_ [own 2 1 v10 s10.length (eI.encs s10)] [ZKv TInts a0 [u0_0] fp0,ZKv TInts a1 [u1_0] fp1]) a0.length ?_ ?_ (s0:=(ZC2 ((a0.length:Int).toNat) (0:Int))) ?_ h
 ·clear hC h
  rintro i10 s10 e_ w10 nx10 K10 hi10 ⟨v10,hS_,hC⟩ h hK10
  rw [ue hS_]
  refine ZKw (sr (Za (v:=vI (i10:Int)) rfl (Za (v:=u0_0) rfl ?_)))
  obtain ⟨Ad12,c10,hv13⟩:=Zu (hC.getP 0 rfl)
  refine Zt ZLf (tr rfl hv13) (Zp rfl rfl (dn (Z6 rfl (decide_eq_true (by omega)) (ZK0 (Ze (ZKw (ZK2 ?_)))))))
  refine Yq 14 Yl [0,0,0,0,12,28,0,0,0,384,896,1984,4092,8188,16383,32767] [4,5,9,10] [0,1,2,3,6,7,8,11,12] (by kernel_rfl) (by kernel_rfl) (by kernel_rfl) (fun hM11 hM10 w11 hB_=>?_)
  replace hC:=hC.grow hB_
  refine bM 0 (v10) rfl hM10 (Zc 16 1) (bM 1 (vI (i10:Int)) rfl hM10 (Zc 16 3) (bM 2 (u0_0) rfl hM10 (Zc 16 7) (bM 3 (vI (i10:Int)) rfl hM10 (Zc 16 15) ?_)))
  obtain ⟨Ad10,c11,hv10⟩:=Zx (hC.getP 0 rfl) i10 hi10
  refine bL 4 (.pointer (some (Ad10.add (i10 * 1)))) rfl rfl hM11 (fun _ hB_=>by exact Y1 (len:=a0.length) ZLf sc2.size (by exact tr rfl hv10) rfl (ZLc _) (ZLv.2 hi10)) (Zc 16 31) (bL 5 (vI (a0.getD i10 ZC7)) rfl rfl hM11 (fun _ hB_=>by exact Xp (vI (a0.getD i10 ZC7)) (Ye ((hC.grow hB_).getP 0 rfl) hv10 i10 hi10) sc2 rfl) (Zc 16 63) (bM 6 (vI a2) rfl hM10 (Zc 16 127) (bM 7 (u1_0) rfl hM10 (Zc 16 255) (bM 8 (vI (i10:Int)) rfl hM10 (Zc 16 511) ?_))))
  obtain ⟨⟨h10,h11⟩,h⟩:=h
  obtain ⟨Ad11,c12,hv11⟩:=Zx (hC.getP 1 rfl) i10 (show i10 < a1.length by omega)
  refine bL 9 (.pointer (some (Ad11.add (i10 * 1)))) rfl rfl hM11 (fun _ hB_=>by exact Y1 (len:=a1.length) ZLf sc2.size (by exact tr rfl hv11) rfl h10 h11) (Zc 16 1023) (bL 10 (vI (a1.getD i10 ZC7)) rfl rfl hM11 (fun _ hB_=>by exact Xp (vI (a1.getD i10 ZC7)) (Ye ((hC.grow hB_).getP 1 rfl) hv11 i10 (show i10 < a1.length by omega)) sc2 rfl) (Zc 16 2047) (bF 11 (vI (ZFm.wrap (a2 * (a1.getD i10 ZC7)))) rfl rfl hM10 (fun _=>by exact Zc1 rfl rfl) (Zc 16 4095) (bF 12 (vI (ZFm.wrap ((a0.getD i10 ZC7) - (ZFm.wrap (a2 * (a1.getD i10 ZC7)))))) rfl rfl hM10 (fun _=>by exact Zc0 rfl rfl) (Zc 16 8191) (aO 13 rfl ?_))))
  refine Zg [vI (ZFm.wrap ((a0.getD i10 ZC7) - (ZFm.wrap (a2 * (a1.getD i10 ZC7)))))] _ ZLm rfl rfl rfl (Zbm (ZFm.wrap ((a0.getD i10 ZC7) - (ZFm.wrap (a2 * (a1.getD i10 ZC7))))) h _) (fun ret10 w12 hR10=>?_)
  obtain ⟨r10,rfl,h,hB10⟩:=hR10
  refine⟨_,rfl,?_⟩
  replace hC:=hC.grow hB10
  refine done (aK (by assumption) (Zc 16 16383) (Z7 14 (by decide) (by decide) (by kernel_rfl) (by kernel_rfl) rfl ?_))
  obtain ⟨⟨h12,h13⟩,h⟩:=h
  obtain ⟨Ad13,c13,hv12⟩:=Xz (hC.getM 0 rfl) (ZOj (ZEp _) (show i10 < s10.length by omega))
  refine X6 (i10 * 1) ZLf sc2.size (tr rfl hv12) rfl h12 h13 rfl (Zcc (v:=vI r10) hC 0 [vI r10] (eI.encs (s10.set i10 r10)) rfl hv12 sc2.size rfl rfl rfl rfl rfl (by rw [ZYb]; exact Zav (sz:=1) (show i10 < s10.length by omega)) (Zcd _ _ _ (show i10 < s10.length by omega)) fun w13 hC=>?_)
  replace hC:=Y9 hC 0 ((s10.set i10 r10).length) (eI.encs (s10.set i10 r10)) rfl (by simp) rfl
  refine done (Z8 (Zr (Ze (Zh (Za (v:=vI (i10:Int)) rfl (Zq rfl rfl (Zd (v:=vI (ZFm.wrap ((i10:Int)+1))) rfl (done ?_))))))))
  exact hK10 (s10.set i10 r10) _ _ ⟨v10,(sl ⟨rfl,rfl,rfl,rfl,(tr rfl (congrArg _ (Z5 hi10 hN10))),trivial⟩),hC⟩ h
 ·clear hC h
  rintro s10 e_ w14 K10 ⟨v10,hS_,hC⟩ h
  rw [ue hS_]
  refine ZKw (sr (Za (v:=vI (a0.length:Int)) rfl (Za (v:=u0_0) rfl ?_)))
  obtain ⟨Ad14,c14,hv14⟩:=Zu (hC.getP 0 rfl)
  refine Zt ZLf (tr rfl hv14) (Zp rfl rfl (dn (Z2 rfl (decide_eq_false (by omega)) ?_)))
  refine ZLa (Zj (Zj (Z0 ?_)))
  refine Ze (sr (Za (v:=v10) rfl (Zd (v:=v10) rfl (dn (ZK4 ?_)))))
  refine Zi (fn:=Tryz.f163) rfl ?_ ⟨s10,v10,(ZLw (ZD0 v10)),rfl,h,(Xq (hC.getM 0 rfl)),(Xi hC 0 rfl),hC.below⟩ (.inl rfl)
  exact Zf rfl
 ·skip
  exact⟨v6,(sl ⟨rfl,rfl,rfl,rfl,rfl,trivial⟩),hC⟩
def Zih (a0:List Int) (a1:List (List Int)) (K:List Int→Prop):Prop :=
 Yc (fun i10 (s10:(List Int)) nx10=>Zbe (a1.getD i10 ZC7) (fun r10=>((0≤r10∧r10 < (s10.length:Int))∧(if s10.getD r10.toNat ZC7≠0 then((0≤r10∧r10 < (s10.length:Int))∧Jl s10 (a1.getD i10 ZC7) (s10.getD r10.toNat ZC7) (fun r11=>nx10 r11)) else nx10 s10)))) (fun (s10:(List Int))=>K s10) a1.length 0 a0
theorem Zzs (a0:List Int) (a1:List (List Int))  {K:List Int→Prop} (h:Zih a0 a1 K) (w0:World) (q0:ZNz.rep a0 [u0_0] fp0 w0) (q1:(ZNz.sl).rep a1 [u1_0] fp1 w0) :
  Calls ZKz 127 #[u0_0,u1_0] w0 fun e w'=>∃ (r0:List Int) (z0_0:Value) (fz0:List Nat),
   e=.returned (z0_0)∧K r0∧ZNz.rep r0 [z0_0] fz0 w'∧(∀ b,b∈fz0→w0.heap.size≤b∨b∈(fp0++(fp1)))∧Bel w0 w':=by
 unfold Zih at h
 refine cof Tryz.func127 rfl 34 Tryz.ntmps127 ?_
 have hC:=ZLh (X:=Nox) w0 [ZKv TInts a0 [u0_0] fp0,ZKv (ZNz.sl) a1 [u1_0] fp1] (alc q0 (al1 q1))
 refine sr (Zd (v:=.slice none 0 0) rfl (dn (ZKw (sr (Zd (v:=vI 0) rfl (dn (ZK2 ?_)))))))
 have hN10:a1.length≤9223372036854775807:=Y2 (hC.getP 1 rfl)
 refine Yk (S:=(List Int)) _ _ (fun i10 s10 e_ w_=>∃ (v10:Value),∃ (f10:List Nat),Zv e_ [(0,v10),(1,u1_0),(5,vI (i10:Int))]∧(∀ b,b∈f10→w0.heap.size≤b∨b∈(fp0++(fp1)))∧Ctx Nox w0 w_ [] [ZKv TInts s10 [v10] f10,ZKv TInts a0 [u0_0] fp0,ZKv (ZNz.sl) a1 [u1_0] fp1]) a1.length ?_ ?_ (s0:=a0) ?_ h
 ·clear hC h
  rintro i10 s10 e_ w10 nx10 K10 hi10 ⟨v10,f10,hS_,hq10,hC⟩ h hK10
  rw [ue hS_]
  refine ZKw (sr (Za (v:=vI (i10:Int)) rfl (Za (v:=u1_0) rfl ?_)))
  obtain ⟨Ad12,c10,hv14⟩:=Zu (hC.getP 2 rfl)
  refine Zt ZXp (tr rfl hv14) (Zp rfl rfl (dn (Z6 rfl (decide_eq_true (by omega)) (ZK0 (Ze (ZKw (ZK2 (sr (Za (v:=u1_0) rfl (Za (v:=vI (i10:Int)) rfl ?_))))))))))
  obtain ⟨Ad13,c11,hv10⟩:=Zx (hC.getP 2 rfl) i10 hi10
  refine Yn (len:=a1.length) ZXp sc22.size (tr rfl hv10) rfl (ZLc _) (ZLv.2 hi10) ?_
  obtain ⟨cs_,hl10,hc10,hr10⟩:=Xh (hC.getP 2 rfl) hv10 i10 hi10
  obtain ⟨u12,rfl⟩:=ZLt.1 hl10
  clear hl10
  rw [Xg _ _ hi10] at hr10
  replace hC:=hC.derive 2 rfl (ZKv TInts (a1.getD i10 ZC7) [u12] fp1) (fun _=>hr10) (fun _ hb_=>hb_)
  refine Yo (u12) hc10 sc22 rfl ?_
  refine Zg [u12] _ ZX2 rfl rfl rfl (Zkv (a1.getD i10 ZC7) h _ (hC.getP 0 rfl)) (fun ret10 w11 hR10=>?_)
  obtain ⟨r10,rfl,h,hB10⟩:=hR10
  refine⟨_,rfl,?_⟩
  replace hC:=hC.grow hB10
  refine Zd (v:=vI r10) rfl (dn (sr (Za (v:=v10) rfl (Za (v:=vI r10) rfl ?_))))
  obtain ⟨⟨h10,h11⟩,h⟩:=h
  obtain ⟨Ad14,c12,hv11⟩:=Zx (hC.getP 1 rfl) r10.toNat (show r10.toNat < s10.length by omega)
  refine Yn (len:=s10.length) ZLf sc2.size (tr rfl hv11) rfl h10 h11 (Yo (vI (s10.getD r10.toNat ZC7)) (Ye (hC.getP 1 rfl) hv11 r10.toNat (show r10.toNat < s10.length by omega)) sc2 rfl (Y5 rfl rfl (dn ?_)))
  refine Zs rfl (fun hb10=>?_) (fun hb10=>?_)
  ·replace h:=ift h (ct hb10)
   refine Yq 9 Yl [0,0,0,6,14,0,0,96,224,511,1023] [3,4,7,8] [0,1,2,5,6] (by kernel_rfl) (by kernel_rfl) (by kernel_rfl) (fun hM11 hM10 w12 hB_=>?_)
   replace hC:=hC.grow hB_
   refine bM 0 (v10) rfl hM10 (Zc 11 1) (bM 1 (u1_0) rfl hM10 (Zc 11 3) (bM 2 (vI (i10:Int)) rfl hM10 (Zc 11 7) ?_))
   obtain ⟨Ad10,c13,hv12⟩:=Zx (hC.getP 3 rfl) i10 hi10
   refine bL 3 (.pointer (some (Ad10.add (i10 * 1)))) rfl rfl hM11 (fun _ hB_=>by exact Y1 (len:=a1.length) ZXp sc22.size (by exact tr rfl hv12) rfl (ZLc _) (ZLv.2 hi10)) (Zc 11 15) ?_
   obtain ⟨cs_,hl11,hc11,hr11⟩:=Xh (hC.getP 3 rfl) hv12 i10 hi10
   obtain ⟨u11,rfl⟩:=ZLt.1 hl11
   clear hl11
   rw [Xg _ _ hi10] at hr11
   replace hC:=hC.derive 3 rfl (ZKv TInts (a1.getD i10 ZC7) [u11] fp1) (fun _=>hr11) (fun _ hb_=>hb_)
   refine bL 4 (u11) rfl rfl hM11 (fun _ hB_=>by exact Xp (u11) (Za1 hB_ hc11) sc22 rfl) (Zc 11 31) (bM 5 (v10) rfl hM10 (Zc 11 63) (bM 6 (vI r10) rfl hM10 (Zc 11 127) ?_))
   obtain ⟨⟨h12,h13⟩,h⟩:=h
   obtain ⟨Ad11,c14,hv13⟩:=Zx (hC.getP 2 rfl) r10.toNat (show r10.toNat < s10.length by omega)
   refine bL 7 (.pointer (some (Ad11.add (r10.toNat * 1)))) rfl rfl hM11 (fun _ hB_=>by exact Y1 (len:=s10.length) ZLf sc2.size (by exact tr rfl hv13) rfl h12 h13) (Zc 11 255) (bL 8 (vI (s10.getD r10.toNat ZC7)) rfl rfl hM11 (fun _ hB_=>by exact Xp (vI (s10.getD r10.toNat ZC7)) (Ye ((hC.grow hB_).getP 2 rfl) hv13 r10.toNat (show r10.toNat < s10.length by omega)) sc2 rfl) (Zc 11 511) (Z7 9 (by decide) (by decide) (by kernel_rfl) (by kernel_rfl) rfl ?_))
   refine Zg [v10,u11,vI (s10.getD r10.toNat ZC7)] _ ZXw rfl rfl rfl (Zex s10 (a1.getD i10 ZC7) (s10.getD r10.toNat ZC7) h _ (hC.getP 2 rfl) (hC.getP 0 rfl)) (fun ret11 w13 hR11=>?_)
   obtain ⟨r11,u10,f11,rfl,h,hr12,hf10,hB11⟩:=hR11
   refine⟨_,rfl,?_⟩
   replace hC:=hC.push hB11 (ZLd (ZTe 2 (eI.tr)) r11 [u10] f11) hr12 hf10
   obtain ⟨ho10,hf11⟩:=Y6 (hC.getM 0 rfl).1
   subst hf11
   replace hC:=hC.recast (c:=own 2 1 u10 r11.length (eI.encs r11)) (fun _ h_=>h_) (fun _=>ho10)
   refine Zd (v:=u10) rfl (done (Z8 (Zr (Ze (Zh (Za (v:=vI (i10:Int)) rfl (Zq rfl rfl (Zd (v:=vI (ZFm.wrap ((i10:Int)+1))) rfl (done ?_)))))))))
   have hs10:=Xi hC 0 rfl
   replace hC:=hC.thaw 0 rfl (ZKv TInts r11 [u10] (ZLw (ZD0 u10))) Yv (fun _ hb_=>hb_)
   exact hK10 r11 _ _ ⟨u10,(ZLw (ZD0 u10)),(sl ⟨rfl,rfl,(tr rfl (congrArg _ (Z5 hi10 hN10))),trivial⟩),(fun b hb=>.inl (hs10 b hb)),(hC.sP [0,4,5] rfl)⟩ h
  ·replace h:=Zl h (cf hb10)
   refine ZK0 (Zr (Ze (Zh (Za (v:=vI (i10:Int)) rfl (Zq rfl rfl (Zd (v:=vI (ZFm.wrap ((i10:Int)+1))) rfl (done ?_)))))))
   exact hK10 s10 _ _ ⟨v10,f10,(sl ⟨rfl,rfl,(tr rfl (congrArg _ (Z5 hi10 hN10))),trivial⟩),hq10,(hC.sP [1,2,3] rfl)⟩ h
 ·clear hC h
  rintro s10 e_ w14 K10 ⟨v10,f10,hS_,hq10,hC⟩ h
  rw [ue hS_]
  refine ZKw (sr (Za (v:=vI (a1.length:Int)) rfl (Za (v:=u1_0) rfl ?_)))
  obtain ⟨Ad15,c15,hv15⟩:=Zu (hC.getP 2 rfl)
  refine Zt ZXp (tr rfl hv15) (Zp rfl rfl (dn (Z2 rfl (decide_eq_false (by omega)) ?_)))
  refine ZLa (Zj (Zj (Z0 ?_)))
  refine Ze (sr (Za (v:=v10) rfl (Zd (v:=v10) rfl (dn (ZK4 ?_)))))
  refine Zi (fn:=Tryz.f127) rfl ?_ ⟨s10,v10,f10,rfl,h,(hC.getP 0 rfl),(fun b hb=>hq10 b hb),hC.below⟩ (.inl rfl)
  exact Zf rfl
 ·skip
  exact⟨u0_0,fp0,(sl ⟨rfl,rfl,rfl,trivial⟩),(fun b hb=>.inr (ZDr _ hb)),(hC.sP [0,0,1] rfl)⟩
def Zey (a0:Int) (K:Int→Prop):Prop :=
 X5 (fun (s6:Int×Int×Int) next7=>(if s6.2.2 > 0 then(if ZDy s6.2.2 2=1 then next7 (ZDy (ZFm.wrap (s6.1 * s6.2.1)) 10007,ZDy (ZFm.wrap (s6.2.1 * s6.2.1)) 10007,ZFm.wrap (ZTa s6.2.2 2)) else next7 (s6.1,ZDy (ZFm.wrap (s6.2.1 * s6.2.1)) 10007,ZFm.wrap (ZTa s6.2.2 2))) else K s6.1)) (1,a0,10005)
theorem Zrf (a0:Int)  {K:Int→Prop} (h:Zey a0 K) (w0:World)  :
  Calls ZKz 164 #[vI a0] w0 fun e w'=>∃ (r0:Int),
   e=.returned (vI r0)∧K r0∧Bel w0 w':=by
 unfold Zey at h
 refine cof ZYc rfl 23 Tryz.ntmps164 ?_
 have hC:=ZLh (X:=Nox) w0 [] (by simp)
 refine sr (Zd (v:=vI 0) rfl (dn (sr (Za (v:=vI a0) rfl (Zd (v:=vI 1) rfl (Zd (v:=vI a0) rfl (dn (ZKw (sr (Zd (v:=vI 10005) rfl (dn ?_)))))))))))
 refine ZK2 ?_
 refine Jh (S:=Int×Int×Int) _ (fun s6 e_ w_=>Zv e_ [(3,vI s6.1),(4,vI s6.2.1),(5,vI s6.2.2)]∧Ctx Nox w0 w_ [] []) ?_ (s0:=(1,a0,10005)) ?_ h
 ·clear hC h
  rintro s6 e_ w10 next7 K8 ⟨hS_,hC⟩ h hK9
  rw [ue hS_]
  refine ZKw (sr (Za (v:=vI s6.2.2) rfl (Jg rfl rfl (dn ?_))))
  refine Zs rfl (fun hb10=>?_) (fun hb10=>?_)
  ·replace h:=ift h (ct hb10)
   refine ZK0 (Ze (ZKw (ZK2 (ZKw (sr (Za (v:=vI s6.2.2) rfl (Ja rfl rfl (by decide) (Xu rfl rfl (dn ?_)))))))))
   refine Zs rfl (fun hb11=>?_) (fun hb11=>?_)
   ·replace h:=ift h (ct hb11)
    refine Zh (Za (v:=vI s6.1) rfl (Za (v:=vI s6.2.1) rfl (Zao rfl rfl (Ja rfl rfl (by decide) (Zd (v:=vI (ZDy (ZFm.wrap (s6.1 * s6.2.1)) 10007)) rfl (dn (Zh (Za (v:=vI s6.2.1) rfl (Za (v:=vI s6.2.1) rfl (Zao rfl rfl (Ja rfl rfl (by decide) ?_)))))))))))
    refine Zd (v:=vI (ZDy (ZFm.wrap (s6.2.1 * s6.2.1)) 10007)) rfl (done (Zr (Ze (Zh (Za (v:=vI s6.2.2) rfl (Ze7 rfl rfl (by decide) (Zd (v:=vI (ZFm.wrap (ZTa s6.2.2 2))) rfl (done ?_))))))))
    exact hK9 (ZDy (ZFm.wrap (s6.1 * s6.2.1)) 10007,ZDy (ZFm.wrap (s6.2.1 * s6.2.1)) 10007,ZFm.wrap (ZTa s6.2.2 2)) _ _ ⟨(sl ⟨rfl,rfl,rfl,trivial⟩),hC⟩ h
   ·replace h:=Zl h (cf hb11)
    refine ZK0 (Ze (Zh (Za (v:=vI s6.2.1) rfl (Za (v:=vI s6.2.1) rfl (Zao rfl rfl (Ja rfl rfl (by decide) (Zd (v:=vI (ZDy (ZFm.wrap (s6.2.1 * s6.2.1)) 10007)) rfl (done (Zr (Ze (Zh ?_)))))))))))
    refine Za (v:=vI s6.2.2) rfl (Ze7 rfl rfl (by decide) (Zd (v:=vI (ZFm.wrap (ZTa s6.2.2 2))) rfl (done ?_)))
    exact hK9 (s6.1,ZDy (ZFm.wrap (s6.2.1 * s6.2.1)) 10007,ZFm.wrap (ZTa s6.2.2 2)) _ _ ⟨(sl ⟨rfl,rfl,rfl,trivial⟩),hC⟩ h
  ·replace h:=Zl h (cf hb10)
   refine ZLa (Zj (Zj (Z0 ?_)))
   refine Ze (sr (Za (v:=vI s6.1) rfl (Zd (v:=vI s6.1) rfl (dn (ZK4 ?_)))))
   refine Zi (fn:=Tryz.f164) rfl ?_ ⟨s6.1,rfl,h,hC.below⟩ (.inl rfl)
   exact Zf rfl
 ·skip
  exact⟨(sl ⟨rfl,rfl,rfl,trivial⟩),hC⟩
def Zii (a0:List (List Int)) (a1:List Int) (K:List (List Int)→Prop):Prop :=
 Zih a1 a0 (fun r6=>Zbe r6 (fun r10=>(if r10 < 0 then K a0 else((0≤r10∧r10 < (r6.length:Int))∧(((0≤(r6.length:Int)∧(r6.length:Int) * 8≤281474976710656)∧Zey (r6.getD r10.toNat ZC7) (fun r20=>Jd (ZFm.wrap (0 - r20)) (fun r21=>Jl (ZC2 ((r6.length:Int).toNat) (0:Int)) r6 r21 (fun r15=>Yc (fun i10 (s10:(List (List Int))×Bool) nx10=>(if¬ (s10.2=true) then Zbe (a0.getD i10 ZC7) (fun r18=>(if r18 > r10 then(Zy (s10.1.length+1) 24∧((0≤r10∧r10 < ((a0.getD i10 ZC7).length:Int))∧Jl (a0.getD i10 ZC7) r15 ((a0.getD i10 ZC7).getD r10.toNat ZC7) (fun r12=>(Zy ((s10.1++[r15]).length+1) 24∧nx10 ((s10.1++[r15])++[r12],true))))) else((0≤r10∧r10 < ((a0.getD i10 ZC7).length:Int))∧Jl (a0.getD i10 ZC7) r15 ((a0.getD i10 ZC7).getD r10.toNat ZC7) (fun r13=>(Zy (s10.1.length+1) 24∧nx10 (s10.1++[r13],s10.2)))))) else((0≤r10∧r10 < ((a0.getD i10 ZC7).length:Int))∧Jl (a0.getD i10 ZC7) r15 ((a0.getD i10 ZC7).getD r10.toNat ZC7) (fun r14=>(Zy (s10.1.length+1) 24∧nx10 (s10.1++[r14],s10.2)))))) (fun (s10:(List (List Int))×Bool)=>(if¬ (s10.2=true) then(Zy (s10.1.length+1) 24∧K (s10.1++[r15])) else K s10.1)) a0.length 0 ([],false)))))∧Zey (r6.getD r10.toNat ZC7) (fun r19=>(((0≤(r6.length:Int)∧(r6.length:Int) * 8≤281474976710656)∧Jd (ZFm.wrap (0 - r19)) (fun r22=>Jl (ZC2 ((r6.length:Int).toNat) (0:Int)) r6 r22 (fun r16=>Yc (fun i10 (s10:(List (List Int))×Bool) nx10=>(if¬ (s10.2=true) then Zbe (a0.getD i10 ZC7) (fun r18=>(if r18 > r10 then(Zy (s10.1.length+1) 24∧((0≤r10∧r10 < ((a0.getD i10 ZC7).length:Int))∧Jl (a0.getD i10 ZC7) r16 ((a0.getD i10 ZC7).getD r10.toNat ZC7) (fun r12=>(Zy ((s10.1++[r16]).length+1) 24∧nx10 ((s10.1++[r16])++[r12],true))))) else((0≤r10∧r10 < ((a0.getD i10 ZC7).length:Int))∧Jl (a0.getD i10 ZC7) r16 ((a0.getD i10 ZC7).getD r10.toNat ZC7) (fun r13=>(Zy (s10.1.length+1) 24∧nx10 (s10.1++[r13],s10.2)))))) else((0≤r10∧r10 < ((a0.getD i10 ZC7).length:Int))∧Jl (a0.getD i10 ZC7) r16 ((a0.getD i10 ZC7).getD r10.toNat ZC7) (fun r14=>(Zy (s10.1.length+1) 24∧nx10 (s10.1++[r14],s10.2)))))) (fun (s10:(List (List Int))×Bool)=>(if¬ (s10.2=true) then(Zy (s10.1.length+1) 24∧K (s10.1++[r16])) else K s10.1)) a0.length 0 ([],false))))∧Jd (ZFm.wrap (0 - r19)) (fun r23=>((0≤(r6.length:Int)∧(r6.length:Int) * 8≤281474976710656)∧Jl (ZC2 ((r6.length:Int).toNat) (0:Int)) r6 r23 (fun r17=>Yc (fun i10 (s10:(List (List Int))×Bool) nx10=>(if¬ (s10.2=true) then Zbe (a0.getD i10 ZC7) (fun r18=>(if r18 > r10 then(Zy (s10.1.length+1) 24∧((0≤r10∧r10 < ((a0.getD i10 ZC7).length:Int))∧Jl (a0.getD i10 ZC7) r17 ((a0.getD i10 ZC7).getD r10.toNat ZC7) (fun r12=>(Zy ((s10.1++[r17]).length+1) 24∧nx10 ((s10.1++[r17])++[r12],true))))) else((0≤r10∧r10 < ((a0.getD i10 ZC7).length:Int))∧Jl (a0.getD i10 ZC7) r17 ((a0.getD i10 ZC7).getD r10.toNat ZC7) (fun r13=>(Zy (s10.1.length+1) 24∧nx10 (s10.1++[r13],s10.2)))))) else((0≤r10∧r10 < ((a0.getD i10 ZC7).length:Int))∧Jl (a0.getD i10 ZC7) r17 ((a0.getD i10 ZC7).getD r10.toNat ZC7) (fun r14=>(Zy (s10.1.length+1) 24∧nx10 (s10.1++[r14],s10.2)))))) (fun (s10:(List (List Int))×Bool)=>(if¬ (s10.2=true) then(Zy (s10.1.length+1) 24∧K (s10.1++[r17])) else K s10.1)) a0.length 0 ([],false)))))))))))
theorem Zzt (a0:List (List Int)) (a1:List Int)  {K:List (List Int)→Prop} (h:Zii a0 a1 K) (w0:World) (q0:(ZNz.sl).rep a0 [u0_0] fp0 w0) (q1:ZNz.rep a1 [u1_0] fp1 w0) :
  Calls ZKz 106 #[u0_0,u1_0] w0 fun e w'=>∃ (r0:List (List Int)) (z0_0:Value) (fz0:List Nat),
   e=.returned (z0_0)∧K r0∧(ZNz.sl).rep r0 [z0_0] fz0 w'∧(∀ b,b∈fz0→w0.heap.size≤b∨b∈(fp0++(fp1)))∧Bel w0 w':=by
 unfold Zii at h
 refine cof Tryz.func106 rfl 74 Tryz.ntmps106 ?_
 have hC:=ZLh (X:=Nox) w0 [ZKv (ZNz.sl) a0 [u0_0] fp0,ZKv TInts a1 [u1_0] fp1] (alc q0 (al1 q1))
 refine sr (Zd (v:=.slice none 0 0) rfl (dn (sr (Za (v:=u1_0) rfl (Za (v:=u0_0) rfl ?_)))))
 refine Zg [u1_0,u0_0] _ Tryz.func127 rfl rfl rfl (Zzs a1 a0 h _ (hC.getP 1 rfl) (hC.getP 0 rfl)) (fun ret3 w5 hR4=>?_)
 obtain ⟨r6,u7,f8,rfl,h,hr9,hf10,hB10⟩:=hR4
 refine⟨_,rfl,?_⟩
 have hs26:∀ b,b∈f8→w0.heap.size≤b∨b∈(fp0++(fp1)):=(fun b hb=>(hf10 b hb).elim (fun h_=>.inl (ZDa hC.size h_)) (fun hb=>(ZDd.1 hb).elim (fun hb=>.inr (List.mem_append_right _ hb)) (fun hb=>.inr (ZDr _ hb))))
 replace hC:=hC.pushR hB10 (ZKv TInts r6 [u7] f8) hr9 (fun b hb=>(hf10 b hb).elim .inl (fun hb=>.inr ((ZDd.1 hb).elim (fun hb=>⟨_,List.mem_of_getElem? (i:=1) rfl,hb⟩) (fun hb=>⟨_,List.mem_of_getElem? (i:=0) rfl,hb⟩))))
 refine Zd (v:=u7) rfl (dn (sr (Za (v:=u7) rfl ?_)))
 refine Zg [u7] _ ZX2 rfl rfl rfl (Zkv r6 h _ (hC.getP 0 rfl)) (fun ret10 w10 hR10=>?_)
 obtain ⟨r10,rfl,h,hB11⟩:=hR10
 refine⟨_,rfl,?_⟩
 replace hC:=hC.grow hB11
 refine Zd (v:=vI r10) rfl (dn (ZKw (sr (Za (v:=vI r10) rfl (Zp rfl rfl (dn ?_))))))
 refine Zs rfl (fun hb11=>?_) (fun hb11=>?_)
 ·replace h:=ift h (ct hb11)
  refine sr (Za (v:=u0_0) rfl (Zd (v:=u0_0) rfl (dn ?_)))
  refine ZK4 (Zn ?_)
  refine Zi (fn:=Tryz.f106) rfl ?_ ⟨a0,u0_0,fp0,rfl,h,(hC.getP 1 rfl),(fun b hb=>.inr (ZDr _ hb)),hC.below⟩ (.inl rfl)
  exact Zf rfl
 ·replace h:=Zl h (cf hb11)
  refine ZK0 (Ze (ZKw ?_))
  refine Yq 11 Yl [0,1,3,0,0,0,48,112,240,496,1008,2047,4095] [1,6,7] [0,3,4,5,9] (by kernel_rfl) (by kernel_rfl) (by kernel_rfl) (fun hM17 hM13 w11 hB_=>?_)
  replace hC:=hC.grow hB_
  refine bM 0 (u7) rfl hM13 (Zc 13 1) ?_
  obtain ⟨Ad20,c10,hv21⟩:=Zu (hC.getP 0 rfl)
  refine bL 1 (vI (r6.length:Int)) rfl rfl hM17 (fun _ hB_=>by exact Zby ZLf (by exact tr rfl hv21)) (Zc 13 3) (bM 3 (u7) rfl hM13 (Zc 13 11) (bM 4 (u7) rfl hM13 (Zc 13 27) (bM 5 (vI r10) rfl hM13 (Zc 13 59) ?_)))
  obtain ⟨⟨h10,h11⟩,h⟩:=h
  obtain ⟨Ad10,c11,hv10⟩:=Zx (hC.getP 0 rfl) r10.toNat (show r10.toNat < r6.length by omega)
  refine bL 6 (.pointer (some (Ad10.add (r10.toNat * 1)))) rfl rfl hM17 (fun _ hB_=>by exact Y1 (len:=r6.length) ZLf sc2.size (by exact tr rfl hv10) rfl h10 h11) (Zc 13 123) (bL 7 (vI (r6.getD r10.toNat ZC7)) rfl rfl hM17 (fun _ hB_=>by exact Xp (vI (r6.getD r10.toNat ZC7)) (Ye ((hC.grow hB_).getP 0 rfl) hv10 r10.toNat (show r10.toNat < r6.length by omega)) sc2 rfl) (Zc 13 251) ?_)
  refine Zdp (fun e_ w_=>∃ (u10:Value),∃ (r11:List Int),Zv e_ [(0,u0_0),(1,u10),(5,vI r10)]∧Ctx Nox w0 w_ [own 2 1 u10 r11.length (eI.encs r11)] [ZKv (ZNz.sl) a0 [u0_0] fp0,ZKv TInts a1 [u1_0] fp1]∧(Yc (fun i10 (s10:(List (List Int))×Bool) nx10=>(if¬ (s10.2=true) then Zbe (a0.getD i10 ZC7) (fun r18=>(if r18 > r10 then(Zy (s10.1.length+1) 24∧((0≤r10∧r10 < ((a0.getD i10 ZC7).length:Int))∧Jl (a0.getD i10 ZC7) r11 ((a0.getD i10 ZC7).getD r10.toNat ZC7) (fun r12=>(Zy ((s10.1++[r11]).length+1) 24∧nx10 ((s10.1++[r11])++[r12],true))))) else((0≤r10∧r10 < ((a0.getD i10 ZC7).length:Int))∧Jl (a0.getD i10 ZC7) r11 ((a0.getD i10 ZC7).getD r10.toNat ZC7) (fun r13=>(Zy (s10.1.length+1) 24∧nx10 (s10.1++[r13],s10.2)))))) else((0≤r10∧r10 < ((a0.getD i10 ZC7).length:Int))∧Jl (a0.getD i10 ZC7) r11 ((a0.getD i10 ZC7).getD r10.toNat ZC7) (fun r14=>(Zy (s10.1.length+1) 24∧nx10 (s10.1++[r14],s10.2)))))) (fun (s10:(List (List Int))×Bool)=>(if¬ (s10.2=true) then(Zy (s10.1.length+1) 24∧K (s10.1++[r11])) else K s10.1)) a0.length 0 ([],false))) ?_ ?_
  ·clear hC h
   rintro e_ w12 ⟨u10,r11,hS_,hC,h⟩
   rw [ue hS_]
   refine Ze (sr (Yh (sz:=1) hC [] [] rfl (fun _=>Zak _) rfl (by decide) fun b15 w13 hB_ hC=>?_))
   replace hC:=hC.pushE (ZXs TInts [] [] []) (Znj _ _) rfl
   refine Zd (v:=.slice (some ⟨b15,0,none⟩) 0 0) rfl (Zd (v:=.bool false) rfl (dn (ZKw (sr (Zd (v:=vI 0) rfl (dn (ZK2 ?_)))))))
   have hs10:=Xi hC 1 rfl
   replace hC:=hC.thaw 1 rfl (ZKv TInts r11 [u10] (ZLw (ZD0 u10))) Yv (fun _ hb_=>hb_)
   have hN10:a0.length≤9223372036854775807:=Y2 (hC.getP 2 rfl)
   refine Yk (S:=(List (List Int))×Bool) _ _ (fun i10 s10 e_ w_=>∃ (v10:Value),∃ (cs10:List Value),∃ (f10:List Nat),Zv e_ [(0,u0_0),(1,u10),(5,vI r10),(6,v10),(7,.bool s10.2),(8,vI (i10:Int))]∧(∀ b,b∈f10→w0.heap.size≤b∨b∈(fp0++(fp1)))∧Ctx Nox w0 w_ [own 22 1 v10 s10.1.length cs10] [ZXs TInts s10.1 cs10 f10,ZKv TInts r11 [u10] (ZLw (ZD0 u10)),ZKv (ZNz.sl) a0 [u0_0] fp0,ZKv TInts a1 [u1_0] fp1]) a0.length ?_ ?_ (s0:=([],false)) ?_ h
   ·clear hC h
    rintro i10 s10 e_ w14 nx10 K10 hi10 ⟨v10,cs10,f10,hS_,hq10,hC⟩ h hK10
    rw [ue hS_]
    refine ZKw (sr (Za (v:=vI (i10:Int)) rfl (Za (v:=u0_0) rfl ?_)))
    obtain ⟨Ad21,c12,hv22⟩:=Zu (hC.getP 2 rfl)
    refine Zt ZXp (tr rfl hv22) (Zp rfl rfl (dn (Z6 rfl (decide_eq_true (by omega)) (ZK0 (Ze (ZKw (ZK2 (ZKw (sr (Za (v:=.bool s10.2) rfl (Xe rfl ?_)))))))))))
    refine Za (v:=.bool (!s10.2)) rfl ?_
    refine Y8 (!s10.2) (fun hb10=>?_) (fun hb10=>?_)
    ·replace h:=ift h (Y4 (Xj hb10))
     refine Zm 2 38 rfl rfl hb10 (Za (v:=u0_0) rfl (Zm 2 38 rfl rfl hb10 (Za (v:=vI (i10:Int)) rfl (Zm 2 38 rfl rfl hb10 ?_))))
     obtain ⟨Ad22,c13,hv11⟩:=Zx (hC.getP 2 rfl) i10 hi10
     refine Yn (len:=a0.length) ZXp sc22.size (tr rfl hv11) rfl (ZLc _) (ZLv.2 hi10) (Zm 2 38 rfl rfl hb10 ?_)
     obtain ⟨cs_,hl10,hc10,hr10⟩:=Xh (hC.getP 2 rfl) hv11 i10 hi10
     obtain ⟨u20,rfl⟩:=ZLt.1 hl10
     clear hl10
     rw [Xg _ _ hi10] at hr10
     replace hC:=hC.derive 2 rfl (ZKv TInts (a0.getD i10 ZC7) [u20] fp0) (fun _=>hr10) (fun _ hb_=>hb_)
     refine Yo (u20) hc10 sc22 rfl (Zm 2 38 rfl rfl hb10 ?_)
     refine Zg [u20] _ ZX2 rfl rfl rfl (Zkv (a0.getD i10 ZC7) h _ (hC.getP 0 rfl)) (fun ret11 w15 hR11=>?_)
     obtain ⟨r18,rfl,h,hB12⟩:=hR11
     refine⟨_,rfl,?_⟩
     replace hC:=hC.grow hB12
     refine Zm 2 38 rfl rfl hb10 (Za (v:=vI r10) rfl (Zm 2 38 rfl rfl hb10 (Jg rfl rfl (Z3 (v:=.bool (decide (r18 > r10))) (b:=true) (tr rfl (congrArg _ hb10)) rfl (dn ?_)))))
     refine Zs rfl (fun hb12=>?_) (fun hb12=>?_)
     ·replace h:=ift h (ct hb12)
      refine sr (Za (v:=v10) rfl (Za (v:=u10) rfl (Yh (sz:=1) hC [(0,u10)] [u10] rfl (fun _=>Zad u10 (Zci (hC.getP 2 rfl)) _) rfl (by decide) fun b10 w16 hB_ hC=>?_)))
      have hf11:=Xi hC 0 rfl
      replace hC:=hC.thaw 0 rfl (own 22 1 (.slice (some ⟨b10,0,none⟩) 1 1) 1 [u10]) id (fun _ hb_=>hb_)
      replace hC:=hC.joinP 0 3 rfl rfl (ZKv (ZNz.sl) [r11] [.slice (some ⟨b10,0,none⟩) 1 1] ((ZLw (ZD0 (.slice (some ⟨b10,0,none⟩) 1 1)))++(ZLw (ZD0 u10)))) (fun a_ b_=>Za6 a_ (Zd0 b_)) (fun c_ hc_=>ZDd.1 hc_)
      have hs11:∀ b,b∈((ZLw (ZD0 (.slice (some ⟨b10,0,none⟩) 1 1)))++(ZLw (ZD0 u10)))→w0.heap.size≤b:=(fun b hb=>(ZDd.1 hb).elim (fun hb=>hf11 b hb) (fun hb=>hs10 b hb))
      obtain ⟨cs11,hd10,ha10⟩:=Zes (hC.getP 0 rfl)
      replace hC:=hC.derive 0 rfl (ZXs TInts [r11] cs11 ((ZLw (ZD0 (.slice (some ⟨b10,0,none⟩) 1 1)))++(ZLw (ZD0 u10)))) (fun _=>ha10) (fun _ h_=>h_)
      obtain ⟨hm13,h⟩:=h
      refine Jf hC 0 ZXp J2 rfl (by decide) (by decide) rfl hd10 (fun q_ hq_=>ha10.2.2.1 q_ hq_) rfl rfl hm13 fun v12 w17 hC=>?_
      replace hC:=Y9 hC 0 ((s10.1++[r11]).length) (cs10++cs11) rfl (by simp) (by simp)
      have hs12:∀ b,b∈(f10++((ZLw (ZD0 (.slice (some ⟨b10,0,none⟩) 1 1)))++(ZLw (ZD0 u10))))→w0.heap.size≤b∨b∈(fp0++(fp1)):=(fun b hb=>(ZDd.1 hb).elim (fun hb=>hq10 b hb) (fun hb=>.inl (hs11 b hb)))
      replace hC:=hC.joinP 4 0 rfl rfl (ZXs TInts (s10.1++[r11]) (cs10++cs11) (f10++((ZLw (ZD0 (.slice (some ⟨b10,0,none⟩) 1 1)))++(ZLw (ZD0 u10))))) (fun a_ b_=>Zet a_ b_) (fun c_ hc_=>ZDd.1 hc_)
      refine Zd (v:=v12) rfl (dn (Zh (Zd (v:=.bool true) rfl (dn ?_))))
      refine Yq 15 Yl [0,0,0,6,14,0,0,0,192,448,0,1984,4032,8190,16382,32767,65535] [3,4,8,9,11,12] [0,1,2,5,6,7,10] (by kernel_rfl) (by kernel_rfl) (by kernel_rfl) (fun hM14 hM10 w18 hB_=>?_)
      replace hC:=hC.grow hB_
      refine bM 0 (v12) rfl hM10 (Zc 17 1) (bM 1 (u0_0) rfl hM10 (Zc 17 3) (bM 2 (vI (i10:Int)) rfl hM10 (Zc 17 7) ?_))
      obtain ⟨Ad11,c14,hv12⟩:=Zx (hC.getP 7 rfl) i10 hi10
      refine bL 3 (.pointer (some (Ad11.add (i10 * 1)))) rfl rfl hM14 (fun _ hB_=>by exact Y1 (len:=a0.length) ZXp sc22.size (by exact tr rfl hv12) rfl (ZLc _) (ZLv.2 hi10)) (Zc 17 15) ?_
      obtain ⟨cs_,hl11,hc11,hr11⟩:=Xh (hC.getP 7 rfl) hv12 i10 hi10
      obtain ⟨u14,rfl⟩:=ZLt.1 hl11
      clear hl11
      rw [Xg _ _ hi10] at hr11
      replace hC:=hC.derive 7 rfl (ZKv TInts (a0.getD i10 ZC7) [u14] fp0) (fun _=>hr11) (fun _ hb_=>hb_)
      refine bL 4 (u14) rfl rfl hM14 (fun _ hB_=>by exact Xp (u14) (Za1 hB_ hc11) sc22 rfl) (Zc 17 31) (bM 5 (u10) rfl hM10 (Zc 17 63) (bM 6 (u0_0) rfl hM10 (Zc 17 127) (bM 7 (vI (i10:Int)) rfl hM10 (Zc 17 255) ?_)))
      obtain ⟨Ad12,c15,hv13⟩:=Zx (hC.getP 8 rfl) i10 hi10
      refine bL 8 (.pointer (some (Ad12.add (i10 * 1)))) rfl rfl hM14 (fun _ hB_=>by exact Y1 (len:=a0.length) ZXp sc22.size (by exact tr rfl hv13) rfl (ZLc _) (ZLv.2 hi10)) (Zc 17 511) ?_
      obtain ⟨cs_,hl12,hc12,hr12⟩:=Xh (hC.getP 8 rfl) hv13 i10 hi10
      obtain ⟨u21,rfl⟩:=ZLt.1 hl12
      clear hl12
      rw [Xg _ _ hi10] at hr12
      replace hC:=hC.derive 8 rfl (ZKv TInts (a0.getD i10 ZC7) [u21] fp0) (fun _=>hr12) (fun _ hb_=>hb_)
      refine bL 9 (u21) rfl rfl hM14 (fun _ hB_=>by exact Xp (u21) (Za1 hB_ hc12) sc22 rfl) (Zc 17 1023) (bM 10 (vI r10) rfl hM10 (Zc 17 2047) ?_)
      obtain ⟨⟨h12,h13⟩,h⟩:=h
      obtain ⟨Ad13,c16,hv14⟩:=Zx (hC.getP 0 rfl) r10.toNat (show r10.toNat < (a0.getD i10 ZC7).length by omega)
      refine bL 11 (.pointer (some (Ad13.add (r10.toNat * 1)))) rfl rfl hM14 (fun _ hB_=>by exact Y1 (len:=(a0.getD i10 ZC7).length) ZLf sc2.size (by exact tr rfl hv14) rfl h12 h13) (Zc 17 4095) (bL 12 (vI ((a0.getD i10 ZC7).getD r10.toNat ZC7)) rfl rfl hM14 (fun _ hB_=>by exact Xp (vI ((a0.getD i10 ZC7).getD r10.toNat ZC7)) (Ye ((hC.grow hB_).getP 0 rfl) hv14 r10.toNat (show r10.toNat < (a0.getD i10 ZC7).length by omega)) sc2 rfl) (Zc 17 8191) (aO 13 rfl ?_))
      refine Zg [u14,u10,vI ((a0.getD i10 ZC7).getD r10.toNat ZC7)] _ ZXw rfl rfl rfl (Zex (a0.getD i10 ZC7) r11 ((a0.getD i10 ZC7).getD r10.toNat ZC7) h _ (hC.getP 1 rfl) (hC.getP 8 rfl)) (fun ret12 w19 hR12=>?_)
      obtain ⟨r12,u11,f11,rfl,h,hr17,hf12,hB13⟩:=hR12
      refine⟨_,rfl,?_⟩
      replace hC:=hC.push hB13 (ZLd (ZTe 2 (eI.tr)) r12 [u11] f11) hr17 hf12
      obtain ⟨ho10,hf13⟩:=Y6 (hC.getM 0 rfl).1
      subst hf13
      replace hC:=hC.recast (c:=own 2 1 u11 r12.length (eI.encs r12)) (fun _ h_=>h_) (fun _=>ho10)
      refine done (aK (by assumption) (Zc 17 16383) (aO 14 rfl ?_))
      have hs13:=Xi hC 0 rfl
      replace hC:=hC.thaw 0 rfl (ZKv TInts r12 [u11] (ZLw (ZD0 u11))) Yv (fun _ hb_=>hb_)
      refine Yh (sz:=1) hC [(0,u11)] [u11] rfl (fun _=>Zad u11 (Zci (hC.getP 0 rfl)) _) rfl (by decide) fun b12 w20 hB_ hC=>?_
      have hf14:=Xi hC 0 rfl
      replace hC:=hC.thaw 0 rfl (own 22 1 (.slice (some ⟨b12,0,none⟩) 1 1) 1 [u11]) id (fun _ hb_=>hb_)
      replace hC:=hC.joinP 0 1 rfl rfl (ZKv (ZNz.sl) [r12] [.slice (some ⟨b12,0,none⟩) 1 1] ((ZLw (ZD0 (.slice (some ⟨b12,0,none⟩) 1 1)))++(ZLw (ZD0 u11)))) (fun a_ b_=>Za6 a_ (Zd0 b_)) (fun c_ hc_=>ZDd.1 hc_)
      have hs14:∀ b,b∈((ZLw (ZD0 (.slice (some ⟨b12,0,none⟩) 1 1)))++(ZLw (ZD0 u11)))→w0.heap.size≤b:=(fun b hb=>(ZDd.1 hb).elim (fun hb=>hf14 b hb) (fun hb=>hs13 b hb))
      refine done (aK (by assumption) (Zc 17 32767) (Z7 15 (by decide) (by decide) (by kernel_rfl) (by kernel_rfl) rfl ?_))
      obtain ⟨cs12,hd11,ha11⟩:=Zes (hC.getP 0 rfl)
      replace hC:=hC.derive 0 rfl (ZXs TInts [r12] cs12 ((ZLw (ZD0 (.slice (some ⟨b12,0,none⟩) 1 1)))++(ZLw (ZD0 u11)))) (fun _=>ha11) (fun _ h_=>h_)
      obtain ⟨hm14,h⟩:=h
      refine Jf hC 0 ZXp J2 rfl (by decide) (by decide) rfl hd11 (fun q_ hq_=>ha11.2.2.1 q_ hq_) rfl rfl hm14 fun v13 w21 hC=>?_
      replace hC:=Y9 hC 0 (((s10.1++[r11])++[r12]).length) ((cs10++cs11)++cs12) rfl (by simp) (by simp)
      have hs15:∀ b,b∈((f10++((ZLw (ZD0 (.slice (some ⟨b10,0,none⟩) 1 1)))++(ZLw (ZD0 u10))))++((ZLw (ZD0 (.slice (some ⟨b12,0,none⟩) 1 1)))++(ZLw (ZD0 u11))))→w0.heap.size≤b∨b∈(fp0++(fp1)):=(fun b hb=>(ZDd.1 hb).elim (fun hb=>hs12 b hb) (fun hb=>.inl (hs14 b hb)))
      replace hC:=hC.joinP 6 0 rfl rfl (ZXs TInts ((s10.1++[r11])++[r12]) ((cs10++cs11)++cs12) ((f10++((ZLw (ZD0 (.slice (some ⟨b10,0,none⟩) 1 1)))++(ZLw (ZD0 u10))))++((ZLw (ZD0 (.slice (some ⟨b12,0,none⟩) 1 1)))++(ZLw (ZD0 u11))))) (fun a_ b_=>Zet a_ b_) (fun c_ hc_=>ZDd.1 hc_)
      refine Zd (v:=v13) rfl (done (Z8 (Zr (Ze (Zh (Za (v:=vI (i10:Int)) rfl (Zq rfl rfl (Zd (v:=vI (ZFm.wrap ((i10:Int)+1))) rfl (done ?_)))))))))
      exact hK10 ((s10.1++[r11])++[r12],true) _ _ ⟨v13,(cs10++cs11)++cs12,((f10++((ZLw (ZD0 (.slice (some ⟨b10,0,none⟩) 1 1)))++(ZLw (ZD0 u10))))++((ZLw (ZD0 (.slice (some ⟨b12,0,none⟩) 1 1)))++(ZLw (ZD0 u11)))),(sl ⟨rfl,rfl,rfl,rfl,rfl,(tr rfl (congrArg _ (Z5 hi10 hN10))),trivial⟩),hs15,(hC.sP [0,13,14,15] rfl)⟩ h
     ·replace h:=Zl h (cf hb12)
      refine ZK0 (Ze ?_)
      refine Yq 15 Yl [0,0,0,6,14,0,0,0,192,448,0,1984,4032,8190,16382,32767,65535] [3,4,8,9,11,12] [0,1,2,5,6,7,10] (by kernel_rfl) (by kernel_rfl) (by kernel_rfl) (fun hM15 hM11 w22 hB_=>?_)
      replace hC:=hC.grow hB_
      refine bM 0 (v10) rfl hM11 (Zc 17 1) (bM 1 (u0_0) rfl hM11 (Zc 17 3) (bM 2 (vI (i10:Int)) rfl hM11 (Zc 17 7) ?_))
      obtain ⟨Ad14,c17,hv15⟩:=Zx (hC.getP 3 rfl) i10 hi10
      refine bL 3 (.pointer (some (Ad14.add (i10 * 1)))) rfl rfl hM15 (fun _ hB_=>by exact Y1 (len:=a0.length) ZXp sc22.size (by exact tr rfl hv15) rfl (ZLc _) (ZLv.2 hi10)) (Zc 17 15) ?_
      obtain ⟨cs_,hl13,hc13,hr13⟩:=Xh (hC.getP 3 rfl) hv15 i10 hi10
      obtain ⟨u15,rfl⟩:=ZLt.1 hl13
      clear hl13
      rw [Xg _ _ hi10] at hr13
      replace hC:=hC.derive 3 rfl (ZKv TInts (a0.getD i10 ZC7) [u15] fp0) (fun _=>hr13) (fun _ hb_=>hb_)
      refine bL 4 (u15) rfl rfl hM15 (fun _ hB_=>by exact Xp (u15) (Za1 hB_ hc13) sc22 rfl) (Zc 17 31) (bM 5 (u10) rfl hM11 (Zc 17 63) (bM 6 (u0_0) rfl hM11 (Zc 17 127) (bM 7 (vI (i10:Int)) rfl hM11 (Zc 17 255) ?_)))
      obtain ⟨Ad15,c18,hv16⟩:=Zx (hC.getP 4 rfl) i10 hi10
      refine bL 8 (.pointer (some (Ad15.add (i10 * 1)))) rfl rfl hM15 (fun _ hB_=>by exact Y1 (len:=a0.length) ZXp sc22.size (by exact tr rfl hv16) rfl (ZLc _) (ZLv.2 hi10)) (Zc 17 511) ?_
      obtain ⟨cs_,hl14,hc14,hr14⟩:=Xh (hC.getP 4 rfl) hv16 i10 hi10
      obtain ⟨u22,rfl⟩:=ZLt.1 hl14
      clear hl14
      rw [Xg _ _ hi10] at hr14
      replace hC:=hC.derive 4 rfl (ZKv TInts (a0.getD i10 ZC7) [u22] fp0) (fun _=>hr14) (fun _ hb_=>hb_)
      refine bL 9 (u22) rfl rfl hM15 (fun _ hB_=>by exact Xp (u22) (Za1 hB_ hc14) sc22 rfl) (Zc 17 1023) (bM 10 (vI r10) rfl hM11 (Zc 17 2047) ?_)
      obtain ⟨⟨h14,h15⟩,h⟩:=h
      obtain ⟨Ad16,c19,hv17⟩:=Zx (hC.getP 0 rfl) r10.toNat (show r10.toNat < (a0.getD i10 ZC7).length by omega)
      refine bL 11 (.pointer (some (Ad16.add (r10.toNat * 1)))) rfl rfl hM15 (fun _ hB_=>by exact Y1 (len:=(a0.getD i10 ZC7).length) ZLf sc2.size (by exact tr rfl hv17) rfl h14 h15) (Zc 17 4095) (bL 12 (vI ((a0.getD i10 ZC7).getD r10.toNat ZC7)) rfl rfl hM15 (fun _ hB_=>by exact Xp (vI ((a0.getD i10 ZC7).getD r10.toNat ZC7)) (Ye ((hC.grow hB_).getP 0 rfl) hv17 r10.toNat (show r10.toNat < (a0.getD i10 ZC7).length by omega)) sc2 rfl) (Zc 17 8191) (aO 13 rfl ?_))
      refine Zg [u15,u10,vI ((a0.getD i10 ZC7).getD r10.toNat ZC7)] _ ZXw rfl rfl rfl (Zex (a0.getD i10 ZC7) r11 ((a0.getD i10 ZC7).getD r10.toNat ZC7) h _ (hC.getP 1 rfl) (hC.getP 4 rfl)) (fun ret13 w23 hR13=>?_)
      obtain ⟨r13,u12,f12,rfl,h,hr18,hf15,hB14⟩:=hR13
      refine⟨_,rfl,?_⟩
      replace hC:=hC.push hB14 (ZLd (ZTe 2 (eI.tr)) r13 [u12] f12) hr18 hf15
      obtain ⟨ho11,hf16⟩:=Y6 (hC.getM 0 rfl).1
      subst hf16
      replace hC:=hC.recast (c:=own 2 1 u12 r13.length (eI.encs r13)) (fun _ h_=>h_) (fun _=>ho11)
      refine done (aK (by assumption) (Zc 17 16383) (aO 14 rfl ?_))
      have hs16:=Xi hC 0 rfl
      replace hC:=hC.thaw 0 rfl (ZKv TInts r13 [u12] (ZLw (ZD0 u12))) Yv (fun _ hb_=>hb_)
      refine Yh (sz:=1) hC [(0,u12)] [u12] rfl (fun _=>Zad u12 (Zci (hC.getP 0 rfl)) _) rfl (by decide) fun b13 w24 hB_ hC=>?_
      have hf17:=Xi hC 0 rfl
      replace hC:=hC.thaw 0 rfl (own 22 1 (.slice (some ⟨b13,0,none⟩) 1 1) 1 [u12]) id (fun _ hb_=>hb_)
      replace hC:=hC.joinP 0 1 rfl rfl (ZKv (ZNz.sl) [r13] [.slice (some ⟨b13,0,none⟩) 1 1] ((ZLw (ZD0 (.slice (some ⟨b13,0,none⟩) 1 1)))++(ZLw (ZD0 u12)))) (fun a_ b_=>Za6 a_ (Zd0 b_)) (fun c_ hc_=>ZDd.1 hc_)
      have hs17:∀ b,b∈((ZLw (ZD0 (.slice (some ⟨b13,0,none⟩) 1 1)))++(ZLw (ZD0 u12)))→w0.heap.size≤b:=(fun b hb=>(ZDd.1 hb).elim (fun hb=>hf17 b hb) (fun hb=>hs16 b hb))
      refine done (aK (by assumption) (Zc 17 32767) (Z7 15 (by decide) (by decide) (by kernel_rfl) (by kernel_rfl) rfl ?_))
      obtain ⟨cs13,hd12,ha12⟩:=Zes (hC.getP 0 rfl)
      replace hC:=hC.derive 0 rfl (ZXs TInts [r13] cs13 ((ZLw (ZD0 (.slice (some ⟨b13,0,none⟩) 1 1)))++(ZLw (ZD0 u12)))) (fun _=>ha12) (fun _ h_=>h_)
      obtain ⟨hm15,h⟩:=h
      refine Jf hC 0 ZXp J2 rfl (by decide) (by decide) rfl hd12 (fun q_ hq_=>ha12.2.2.1 q_ hq_) rfl rfl hm15 fun v14 w25 hC=>?_
      replace hC:=Y9 hC 0 ((s10.1++[r13]).length) (cs10++cs13) rfl (by simp) (by simp)
      have hs18:∀ b,b∈(f10++((ZLw (ZD0 (.slice (some ⟨b13,0,none⟩) 1 1)))++(ZLw (ZD0 u12))))→w0.heap.size≤b∨b∈(fp0++(fp1)):=(fun b hb=>(ZDd.1 hb).elim (fun hb=>hq10 b hb) (fun hb=>.inl (hs17 b hb)))
      replace hC:=hC.joinP 7 0 rfl rfl (ZXs TInts (s10.1++[r13]) (cs10++cs13) (f10++((ZLw (ZD0 (.slice (some ⟨b13,0,none⟩) 1 1)))++(ZLw (ZD0 u12))))) (fun a_ b_=>Zet a_ b_) (fun c_ hc_=>ZDd.1 hc_)
      refine Zd (v:=v14) rfl (done (Z8 (Zr (Ze (Zh (Za (v:=vI (i10:Int)) rfl (Zq rfl rfl (Zd (v:=vI (ZFm.wrap ((i10:Int)+1))) rfl (done ?_)))))))))
      exact hK10 (s10.1++[r13],s10.2) _ _ ⟨v14,cs10++cs13,(f10++((ZLw (ZD0 (.slice (some ⟨b13,0,none⟩) 1 1)))++(ZLw (ZD0 u12)))),(sl ⟨rfl,rfl,rfl,rfl,rfl,(tr rfl (congrArg _ (Z5 hi10 hN10))),trivial⟩),hs18,(hC.sP [0,9,10,11] rfl)⟩ h
    ·replace h:=Zl h (not_not_intro ((Xk hb10)))
     refine Zk (b:=false) 2 38 rfl (tr rfl (congrArg _ hb10)) (by decide) (Zk (b:=false) 2 38 rfl (tr rfl (congrArg _ hb10)) (by decide) (Zk (b:=false) 2 38 rfl (tr rfl (congrArg _ hb10)) (by decide) (Zk (b:=false) 2 38 rfl (tr rfl (congrArg _ hb10)) (by decide) (Zk (b:=false) 2 38 rfl (tr rfl (congrArg _ hb10)) (by decide) (Zk (b:=false) 2 38 rfl (tr rfl (congrArg _ hb10)) (by decide) (Zk (b:=false) 2 38 rfl (tr rfl (congrArg _ hb10)) (by decide) (Z3 (v:=.bool false) (b:=false) (tr rfl (congrArg _ hb10)) rfl (dn (Z2 rfl rfl (ZK0 (Ze ?_)))))))))))
     refine Yq 15 Yl [0,0,0,6,14,0,0,0,192,448,0,1984,4032,8190,16382,32767,65535] [3,4,8,9,11,12] [0,1,2,5,6,7,10] (by kernel_rfl) (by kernel_rfl) (by kernel_rfl) (fun hM16 hM12 w26 hB_=>?_)
     replace hC:=hC.grow hB_
     refine bM 0 (v10) rfl hM12 (Zc 17 1) (bM 1 (u0_0) rfl hM12 (Zc 17 3) (bM 2 (vI (i10:Int)) rfl hM12 (Zc 17 7) ?_))
     obtain ⟨Ad17,c20,hv18⟩:=Zx (hC.getP 2 rfl) i10 hi10
     refine bL 3 (.pointer (some (Ad17.add (i10 * 1)))) rfl rfl hM16 (fun _ hB_=>by exact Y1 (len:=a0.length) ZXp sc22.size (by exact tr rfl hv18) rfl (ZLc _) (ZLv.2 hi10)) (Zc 17 15) ?_
     obtain ⟨cs_,hl15,hc15,hr15⟩:=Xh (hC.getP 2 rfl) hv18 i10 hi10
     obtain ⟨u16,rfl⟩:=ZLt.1 hl15
     clear hl15
     rw [Xg _ _ hi10] at hr15
     replace hC:=hC.derive 2 rfl (ZKv TInts (a0.getD i10 ZC7) [u16] fp0) (fun _=>hr15) (fun _ hb_=>hb_)
     refine bL 4 (u16) rfl rfl hM16 (fun _ hB_=>by exact Xp (u16) (Za1 hB_ hc15) sc22 rfl) (Zc 17 31) (bM 5 (u10) rfl hM12 (Zc 17 63) (bM 6 (u0_0) rfl hM12 (Zc 17 127) (bM 7 (vI (i10:Int)) rfl hM12 (Zc 17 255) ?_)))
     obtain ⟨Ad18,c21,hv19⟩:=Zx (hC.getP 3 rfl) i10 hi10
     refine bL 8 (.pointer (some (Ad18.add (i10 * 1)))) rfl rfl hM16 (fun _ hB_=>by exact Y1 (len:=a0.length) ZXp sc22.size (by exact tr rfl hv19) rfl (ZLc _) (ZLv.2 hi10)) (Zc 17 511) ?_
     obtain ⟨cs_,hl16,hc16,hr16⟩:=Xh (hC.getP 3 rfl) hv19 i10 hi10
     obtain ⟨u23,rfl⟩:=ZLt.1 hl16
     clear hl16
     rw [Xg _ _ hi10] at hr16
     replace hC:=hC.derive 3 rfl (ZKv TInts (a0.getD i10 ZC7) [u23] fp0) (fun _=>hr16) (fun _ hb_=>hb_)
     refine bL 9 (u23) rfl rfl hM16 (fun _ hB_=>by exact Xp (u23) (Za1 hB_ hc16) sc22 rfl) (Zc 17 1023) (bM 10 (vI r10) rfl hM12 (Zc 17 2047) ?_)
     obtain ⟨⟨h16,h17⟩,h⟩:=h
     obtain ⟨Ad19,c22,hv20⟩:=Zx (hC.getP 0 rfl) r10.toNat (show r10.toNat < (a0.getD i10 ZC7).length by omega)
     refine bL 11 (.pointer (some (Ad19.add (r10.toNat * 1)))) rfl rfl hM16 (fun _ hB_=>by exact Y1 (len:=(a0.getD i10 ZC7).length) ZLf sc2.size (by exact tr rfl hv20) rfl h16 h17) (Zc 17 4095) (bL 12 (vI ((a0.getD i10 ZC7).getD r10.toNat ZC7)) rfl rfl hM16 (fun _ hB_=>by exact Xp (vI ((a0.getD i10 ZC7).getD r10.toNat ZC7)) (Ye ((hC.grow hB_).getP 0 rfl) hv20 r10.toNat (show r10.toNat < (a0.getD i10 ZC7).length by omega)) sc2 rfl) (Zc 17 8191) (aO 13 rfl ?_))
     refine Zg [u16,u10,vI ((a0.getD i10 ZC7).getD r10.toNat ZC7)] _ ZXw rfl rfl rfl (Zex (a0.getD i10 ZC7) r11 ((a0.getD i10 ZC7).getD r10.toNat ZC7) h _ (hC.getP 1 rfl) (hC.getP 3 rfl)) (fun ret14 w27 hR14=>?_)
     obtain ⟨r14,u13,f13,rfl,h,hr19,hf18,hB15⟩:=hR14
     refine⟨_,rfl,?_⟩
     replace hC:=hC.push hB15 (ZLd (ZTe 2 (eI.tr)) r14 [u13] f13) hr19 hf18
     obtain ⟨ho12,hf19⟩:=Y6 (hC.getM 0 rfl).1
     subst hf19
     replace hC:=hC.recast (c:=own 2 1 u13 r14.length (eI.encs r14)) (fun _ h_=>h_) (fun _=>ho12)
     refine done (aK (by assumption) (Zc 17 16383) (aO 14 rfl ?_))
     have hs19:=Xi hC 0 rfl
     replace hC:=hC.thaw 0 rfl (ZKv TInts r14 [u13] (ZLw (ZD0 u13))) Yv (fun _ hb_=>hb_)
     refine Yh (sz:=1) hC [(0,u13)] [u13] rfl (fun _=>Zad u13 (Zci (hC.getP 0 rfl)) _) rfl (by decide) fun b14 w28 hB_ hC=>?_
     have hf20:=Xi hC 0 rfl
     replace hC:=hC.thaw 0 rfl (own 22 1 (.slice (some ⟨b14,0,none⟩) 1 1) 1 [u13]) id (fun _ hb_=>hb_)
     replace hC:=hC.joinP 0 1 rfl rfl (ZKv (ZNz.sl) [r14] [.slice (some ⟨b14,0,none⟩) 1 1] ((ZLw (ZD0 (.slice (some ⟨b14,0,none⟩) 1 1)))++(ZLw (ZD0 u13)))) (fun a_ b_=>Za6 a_ (Zd0 b_)) (fun c_ hc_=>ZDd.1 hc_)
     have hs20:∀ b,b∈((ZLw (ZD0 (.slice (some ⟨b14,0,none⟩) 1 1)))++(ZLw (ZD0 u13)))→w0.heap.size≤b:=(fun b hb=>(ZDd.1 hb).elim (fun hb=>hf20 b hb) (fun hb=>hs19 b hb))
     refine done (aK (by assumption) (Zc 17 32767) (Z7 15 (by decide) (by decide) (by kernel_rfl) (by kernel_rfl) rfl ?_))
     obtain ⟨cs14,hd13,ha13⟩:=Zes (hC.getP 0 rfl)
     replace hC:=hC.derive 0 rfl (ZXs TInts [r14] cs14 ((ZLw (ZD0 (.slice (some ⟨b14,0,none⟩) 1 1)))++(ZLw (ZD0 u13)))) (fun _=>ha13) (fun _ h_=>h_)
     obtain ⟨hm16,h⟩:=h
     refine Jf hC 0 ZXp J2 rfl (by decide) (by decide) rfl hd13 (fun q_ hq_=>ha13.2.2.1 q_ hq_) rfl rfl hm16 fun v15 w29 hC=>?_
     replace hC:=Y9 hC 0 ((s10.1++[r14]).length) (cs10++cs14) rfl (by simp) (by simp)
     have hs21:∀ b,b∈(f10++((ZLw (ZD0 (.slice (some ⟨b14,0,none⟩) 1 1)))++(ZLw (ZD0 u13))))→w0.heap.size≤b∨b∈(fp0++(fp1)):=(fun b hb=>(ZDd.1 hb).elim (fun hb=>hq10 b hb) (fun hb=>.inl (hs20 b hb)))
     replace hC:=hC.joinP 6 0 rfl rfl (ZXs TInts (s10.1++[r14]) (cs10++cs14) (f10++((ZLw (ZD0 (.slice (some ⟨b14,0,none⟩) 1 1)))++(ZLw (ZD0 u13))))) (fun a_ b_=>Zet a_ b_) (fun c_ hc_=>ZDd.1 hc_)
     refine Zd (v:=v15) rfl (done (Z8 (Zr (Ze (Zh (Za (v:=vI (i10:Int)) rfl (Zq rfl rfl (Zd (v:=vI (ZFm.wrap ((i10:Int)+1))) rfl (done ?_)))))))))
     exact hK10 (s10.1++[r14],s10.2) _ _ ⟨v15,cs10++cs14,(f10++((ZLw (ZD0 (.slice (some ⟨b14,0,none⟩) 1 1)))++(ZLw (ZD0 u13)))),(sl ⟨rfl,rfl,rfl,rfl,rfl,(tr rfl (congrArg _ (Z5 hi10 hN10))),trivial⟩),hs21,(hC.sP [0,8,9,10] rfl)⟩ h
   ·clear hC h
    rintro s10 e_ w30 K10 ⟨v10,cs10,f10,hS_,hq10,hC⟩ h
    rw [ue hS_]
    refine ZKw (sr (Za (v:=vI (a0.length:Int)) rfl (Za (v:=u0_0) rfl ?_)))
    obtain ⟨Ad23,c23,hv23⟩:=Zu (hC.getP 2 rfl)
    refine Zt ZXp (tr rfl hv23) (Zp rfl rfl (dn (Z2 rfl (decide_eq_false (by omega)) ?_)))
    refine ZLa (Zj (Zj (Z0 ?_)))
    refine Ze (ZKw (sr (Za (v:=.bool s10.2) rfl (Xe rfl (dn ?_)))))
    refine Zs rfl (fun hb13=>?_) (fun hb13=>?_)
    ·replace h:=ift h (Y4 (Xj hb13))
     refine Zh (Za (v:=v10) rfl (Za (v:=u10) rfl (Yh (sz:=1) hC [(0,u10)] [u10] rfl (fun _=>Zad u10 (Zci (hC.getP 1 rfl)) _) rfl (by decide) fun b11 w31 hB_ hC=>?_)))
     have hf21:=Xi hC 0 rfl
     replace hC:=hC.thaw 0 rfl (own 22 1 (.slice (some ⟨b11,0,none⟩) 1 1) 1 [u10]) id (fun _ hb_=>hb_)
     replace hC:=hC.joinP 0 2 rfl rfl (ZKv (ZNz.sl) [r11] [.slice (some ⟨b11,0,none⟩) 1 1] ((ZLw (ZD0 (.slice (some ⟨b11,0,none⟩) 1 1)))++(ZLw (ZD0 u10)))) (fun a_ b_=>Za6 a_ (Zd0 b_)) (fun c_ hc_=>ZDd.1 hc_)
     have hs22:∀ b,b∈((ZLw (ZD0 (.slice (some ⟨b11,0,none⟩) 1 1)))++(ZLw (ZD0 u10)))→w0.heap.size≤b:=(fun b hb=>(ZDd.1 hb).elim (fun hb=>hf21 b hb) (fun hb=>hs10 b hb))
     obtain ⟨cs15,hd14,ha14⟩:=Zes (hC.getP 0 rfl)
     replace hC:=hC.derive 0 rfl (ZXs TInts [r11] cs15 ((ZLw (ZD0 (.slice (some ⟨b11,0,none⟩) 1 1)))++(ZLw (ZD0 u10)))) (fun _=>ha14) (fun _ h_=>h_)
     obtain ⟨hm17,h⟩:=h
     refine Jf hC 0 ZXp J2 rfl (by decide) (by decide) rfl hd14 (fun q_ hq_=>ha14.2.2.1 q_ hq_) rfl rfl hm17 fun v11 w32 hC=>?_
     replace hC:=Y9 hC 0 ((s10.1++[r11]).length) (cs10++cs15) rfl (by simp) (by simp)
     have hs23:∀ b,b∈(f10++((ZLw (ZD0 (.slice (some ⟨b11,0,none⟩) 1 1)))++(ZLw (ZD0 u10))))→w0.heap.size≤b∨b∈(fp0++(fp1)):=(fun b hb=>(ZDd.1 hb).elim (fun hb=>hq10 b hb) (fun hb=>.inl (hs22 b hb)))
     replace hC:=hC.joinP 3 0 rfl rfl (ZXs TInts (s10.1++[r11]) (cs10++cs15) (f10++((ZLw (ZD0 (.slice (some ⟨b11,0,none⟩) 1 1)))++(ZLw (ZD0 u10))))) (fun a_ b_=>Zet a_ b_) (fun c_ hc_=>ZDd.1 hc_)
     refine Zd (v:=v11) rfl (dn (sr (Za (v:=v11) rfl (Zd (v:=v11) rfl (dn (ZK4 ?_))))))
     have hf22:=Xi hC 0 rfl
     replace hC:=hC.thaw 0 rfl (own 22 1 v11 ((s10.1++[r11]).length) (cs10++cs15)) id (fun _ hb_=>hb_)
     replace hC:=hC.joinP 0 1 rfl rfl (ZKv (ZNz.sl) (s10.1++[r11]) [v11] ((ZLw (ZD0 v11))++(f10++((ZLw (ZD0 (.slice (some ⟨b11,0,none⟩) 1 1)))++(ZLw (ZD0 u10)))))) (fun a_ b_=>Za6 a_ b_) (fun c_ hc_=>ZDd.1 hc_)
     have hs24:∀ b,b∈((ZLw (ZD0 v11))++(f10++((ZLw (ZD0 (.slice (some ⟨b11,0,none⟩) 1 1)))++(ZLw (ZD0 u10)))))→w0.heap.size≤b∨b∈(fp0++(fp1)):=(fun b hb=>(ZDd.1 hb).elim (fun hb=>.inl (hf22 b hb)) (fun hb=>hs23 b hb))
     refine Zi (fn:=Tryz.f106) rfl ?_ ⟨s10.1++[r11],v11,((ZLw (ZD0 v11))++(f10++((ZLw (ZD0 (.slice (some ⟨b11,0,none⟩) 1 1)))++(ZLw (ZD0 u10))))),rfl,h,(hC.getP 0 rfl),(fun b hb=>hs24 b hb),hC.below⟩ (.inl rfl)
     exact Zf rfl
    ·replace h:=Zl h (not_not_intro ((Xk hb13)))
     refine ZK0 (Ze (sr (Za (v:=v10) rfl (Zd (v:=v10) rfl (dn (ZK4 ?_))))))
     have hf23:=Xi hC 0 rfl
     replace hC:=hC.thaw 0 rfl (own 22 1 v10 s10.1.length cs10) id (fun _ hb_=>hb_)
     replace hC:=hC.joinP 0 1 rfl rfl (ZKv (ZNz.sl) s10.1 [v10] ((ZLw (ZD0 v10))++f10)) (fun a_ b_=>Za6 a_ b_) (fun c_ hc_=>ZDd.1 hc_)
     have hs25:∀ b,b∈((ZLw (ZD0 v10))++f10)→w0.heap.size≤b∨b∈(fp0++(fp1)):=(fun b hb=>(ZDd.1 hb).elim (fun hb=>.inl (hf23 b hb)) (fun hb=>hq10 b hb))
     refine Zi (fn:=Tryz.f106) rfl ?_ ⟨s10.1,v10,((ZLw (ZD0 v10))++f10),rfl,h,(hC.getP 0 rfl),(fun b hb=>hs25 b hb),hC.below⟩ (.inl rfl)
     exact Zf rfl
   ·skip
    exact⟨.slice (some ⟨b15,0,none⟩) 0 0,[],[],(sl ⟨rfl,rfl,rfl,rfl,rfl,rfl,trivial⟩),(fun b hb=>.inl ((fun b hb=>absurd hb (by simp)) b hb)),(hC.sP [1,0,2,3] rfl)⟩
  refine Jx 2 8 rfl rfl (by kernel_rfl) ?_ ?_
  ·skip
   replace h:=h.1
   obtain ⟨hm10,h⟩:=h
   refine Zbz (sz:=1) hC (eI.encs (ZC2 ((r6.length:Int).toNat) (0:Int))) ZLf el2 (tr rfl (congrArg (ZN5 .i64) (ZN6 hm10.1).symm)) (tr rfl (congrArg (ZN5 .i64) (ZN6 hm10.1).symm)) (by omega) (by omega) (Zbh (E:=eI) _ _) fun v16 w33 hB_ hC=>?_
   replace hC:=Y9 hC 0 ((ZC2 ((r6.length:Int).toNat) (0:Int)).length) (eI.encs (ZC2 ((r6.length:Int).toNat) (0:Int))) rfl (by simp) rfl
   refine done (aK (by assumption) (Zc 13 255) (aO 8 rfl ?_))
   refine Zg [vI (r6.getD r10.toNat ZC7)] _ ZYc rfl rfl rfl (Zrf (r6.getD r10.toNat ZC7) h _) (fun ret15 w34 hR15=>?_)
   obtain ⟨r20,rfl,h,hB16⟩:=hR15
   refine⟨_,rfl,?_⟩
   replace hC:=hC.grow hB16
   refine done (aK (by assumption) (Zc 13 511) (bF 9 (vI (ZFm.wrap (0 - r20))) rfl rfl hM13 (fun _=>by exact Zo2 rfl) (Zc 13 1023) (aO 10 rfl ?_)))
   refine Zg [vI (ZFm.wrap (0 - r20))] _ ZLm rfl rfl rfl (Zbm (ZFm.wrap (0 - r20)) h _) (fun ret16 w35 hR16=>?_)
   obtain ⟨r21,rfl,h,hB17⟩:=hR16
   refine⟨_,rfl,?_⟩
   replace hC:=hC.grow hB17
   refine done (aK (by assumption) (Zc 13 2047) (Z7 11 (by decide) (by decide) (by kernel_rfl) (by kernel_rfl) rfl ?_))
   refine Zg [v16,u7,vI r21] _ ZXw rfl rfl rfl (Zex (ZC2 ((r6.length:Int).toNat) (0:Int)) r6 r21 h _ (Yv (hC.getM 0 rfl)) (hC.getP 0 rfl)) (fun ret17 w36 hR17=>?_)
   obtain ⟨r15,u17,f14,rfl,h,hr20,hf24,hB18⟩:=hR17
   refine⟨_,rfl,?_⟩
   replace hC:=hC.push hB18 (ZLd (ZTe 2 (eI.tr)) r15 [u17] f14) hr20 hf24
   obtain ⟨ho13,hf25⟩:=Y6 (hC.getM 0 rfl).1
   subst hf25
   replace hC:=hC.recast (c:=own 2 1 u17 r15.length (eI.encs r15)) (fun _ h_=>h_) (fun _=>ho13)
   refine Zd (v:=u17) rfl (done (Z8 ?_))
   exact⟨rfl,_,rfl,⟨u17,r15,(sl ⟨rfl,rfl,rfl,trivial⟩),((hC.xM [0] rfl).sP [1,2] rfl),h⟩⟩
  ·skip
   replace h:=h.2
   refine Zg [vI (r6.getD r10.toNat ZC7)] _ ZYc rfl rfl rfl (Zrf (r6.getD r10.toNat ZC7) h _) (fun ret18 w37 hR18=>?_)
   obtain ⟨r19,rfl,h,hB19⟩:=hR18
   refine⟨_,rfl,?_⟩
   replace hC:=hC.grow hB19
   refine done (aK (by assumption) (Zc 13 507) (bF 9 (vI (ZFm.wrap (0 - r19))) rfl rfl hM13 (fun _=>by exact Zo2 rfl) (Zc 13 1019) ?_))
   refine Jx 2 10 rfl rfl (by kernel_rfl) ?_ ?_
   ·skip
    replace h:=h.1
    obtain ⟨hm11,h⟩:=h
    refine Zbz (sz:=1) hC (eI.encs (ZC2 ((r6.length:Int).toNat) (0:Int))) ZLf el2 (tr rfl (congrArg (ZN5 .i64) (ZN6 hm11.1).symm)) (tr rfl (congrArg (ZN5 .i64) (ZN6 hm11.1).symm)) (by omega) (by omega) (Zbh (E:=eI) _ _) fun v17 w38 hB_ hC=>?_
    replace hC:=Y9 hC 0 ((ZC2 ((r6.length:Int).toNat) (0:Int)).length) (eI.encs (ZC2 ((r6.length:Int).toNat) (0:Int))) rfl (by simp) rfl
    refine done (aK (by assumption) (Zc 13 1023) (aO 10 rfl ?_))
    refine Zg [vI (ZFm.wrap (0 - r19))] _ ZLm rfl rfl rfl (Zbm (ZFm.wrap (0 - r19)) h _) (fun ret19 w39 hR19=>?_)
    obtain ⟨r22,rfl,h,hB20⟩:=hR19
    refine⟨_,rfl,?_⟩
    replace hC:=hC.grow hB20
    refine done (aK (by assumption) (Zc 13 2047) (Z7 11 (by decide) (by decide) (by kernel_rfl) (by kernel_rfl) rfl ?_))
    refine Zg [v17,u7,vI r22] _ ZXw rfl rfl rfl (Zex (ZC2 ((r6.length:Int).toNat) (0:Int)) r6 r22 h _ (Yv (hC.getM 0 rfl)) (hC.getP 0 rfl)) (fun ret20 w40 hR20=>?_)
    obtain ⟨r16,u18,f15,rfl,h,hr21,hf26,hB21⟩:=hR20
    refine⟨_,rfl,?_⟩
    replace hC:=hC.push hB21 (ZLd (ZTe 2 (eI.tr)) r16 [u18] f15) hr21 hf26
    obtain ⟨ho14,hf27⟩:=Y6 (hC.getM 0 rfl).1
    subst hf27
    replace hC:=hC.recast (c:=own 2 1 u18 r16.length (eI.encs r16)) (fun _ h_=>h_) (fun _=>ho14)
    refine Zd (v:=u18) rfl (done (Z8 ?_))
    exact⟨rfl,_,rfl,⟨u18,r16,(sl ⟨rfl,rfl,rfl,trivial⟩),((hC.xM [0] rfl).sP [1,2] rfl),h⟩⟩
   ·skip
    replace h:=h.2
    refine Zg [vI (ZFm.wrap (0 - r19))] _ ZLm rfl rfl rfl (Zbm (ZFm.wrap (0 - r19)) h _) (fun ret21 w41 hR21=>?_)
    obtain ⟨r23,rfl,h,hB22⟩:=hR21
    refine⟨_,rfl,?_⟩
    replace hC:=hC.grow hB22
    refine done (aK (by assumption) (Zc 13 2043) (aO 2 rfl ?_))
    obtain ⟨hm12,h⟩:=h
    refine Zbz (sz:=1) hC (eI.encs (ZC2 ((r6.length:Int).toNat) (0:Int))) ZLf el2 (tr rfl (congrArg (ZN5 .i64) (ZN6 hm12.1).symm)) (tr rfl (congrArg (ZN5 .i64) (ZN6 hm12.1).symm)) (by omega) (by omega) (Zbh (E:=eI) _ _) fun v18 w42 hB_ hC=>?_
    replace hC:=Y9 hC 0 ((ZC2 ((r6.length:Int).toNat) (0:Int)).length) (eI.encs (ZC2 ((r6.length:Int).toNat) (0:Int))) rfl (by simp) rfl
    refine done (aK (by assumption) (Zc 13 2047) (Z7 11 (by decide) (by decide) (by kernel_rfl) (by kernel_rfl) rfl ?_))
    refine Zg [v18,u7,vI r23] _ ZXw rfl rfl rfl (Zex (ZC2 ((r6.length:Int).toNat) (0:Int)) r6 r23 h _ (Yv (hC.getM 0 rfl)) (hC.getP 0 rfl)) (fun ret22 w43 hR22=>?_)
    obtain ⟨r17,u19,f16,rfl,h,hr22,hf28,hB23⟩:=hR22
    refine⟨_,rfl,?_⟩
    replace hC:=hC.push hB23 (ZLd (ZTe 2 (eI.tr)) r17 [u19] f16) hr22 hf28
    obtain ⟨ho15,hf29⟩:=Y6 (hC.getM 0 rfl).1
    subst hf29
    replace hC:=hC.recast (c:=own 2 1 u19 r17.length (eI.encs r17)) (fun _ h_=>h_) (fun _=>ho15)
    refine Zd (v:=u19) rfl (done (Z8 ?_))
    exact⟨rfl,_,rfl,⟨u19,r17,(sl ⟨rfl,rfl,rfl,trivial⟩),((hC.xM [0] rfl).sP [1,2] rfl),h⟩⟩
def Zbq (a0:List (List Int)) (K:List (List Int)→Prop):Prop :=
 Yc (fun i10 (s10:(List (List Int))) nx10=>Zii s10 (a0.getD i10 ZC7) (fun r10=>nx10 r10)) (fun (s10:(List (List Int)))=>K s10) a0.length 0 []
theorem Zf0 (a0:List (List Int))  {K:List (List Int)→Prop} (h:Zbq a0 K) (w0:World) (q0:(ZNz.sl).rep a0 [u0_0] fp0 w0) :
  Calls ZKz 55 #[u0_0] w0 fun e w'=>∃ (r0:List (List Int)) (z0_0:Value) (fz0:List Nat),
   e=.returned (z0_0)∧K r0∧(ZNz.sl).rep r0 [z0_0] fz0 w'∧(∀ b,b∈fz0→w0.heap.size≤b∨b∈(fp0))∧Bel w0 w':=by
 unfold Zbq at h
 refine cof ZXy rfl 19 Tryz.ntmps55 ?_
 have hC:=ZLh (X:=Nox) w0 [ZKv (ZNz.sl) a0 [u0_0] fp0] (al1 q0)
 refine sr (Zd (v:=.slice none 0 0) rfl (dn (sr (Yh (sz:=1) hC [] [] rfl (fun _=>Zak _) rfl (by decide) fun b2 w3 hB_ hC=>?_))))
 replace hC:=hC.pushM0 (Ya (ZTe 2 (eI.tr)) ([]:List (List Int)) [] []) (Jb _ _) rfl
 replace hC:=hC.gather (c:=ZLd (ZTe 22 (ZTe 2 (eI.tr))) [] [.slice (some ⟨b2,0,none⟩) 0 0] ((ZLw (ZD0 (.slice (some ⟨b2,0,none⟩) 0 0)))++([]:List (List Nat)).flatten)) (fun x_ hx_=>(ZDd.1 hx_).symm) (fun h1_ h2_ hd_=>X3 h2_ h1_ (fun b_ hb_ hb2_=>hd_ b_ hb2_ hb_))
 refine Zd (v:=.slice (some ⟨b2,0,none⟩) 0 0) rfl (dn (ZKw (sr (Zd (v:=vI 0) rfl (dn (ZK2 ?_))))))
 have hs5:=Zai hC 0 rfl
 replace hC:=hC.thaw 0 rfl (ZKv (ZNz.sl) [] [.slice (some ⟨b2,0,none⟩) 0 0] ((ZLw (ZD0 (.slice (some ⟨b2,0,none⟩) 0 0)))++([]:List (List Nat)).flatten)) (fun h_=>ZXr _ h_.1) (fun _ hb_=>hb_)
 have hN10:a0.length≤9223372036854775807:=Y2 (hC.getP 1 rfl)
 refine Yk (S:=(List (List Int))) _ _ (fun i10 s10 e_ w_=>∃ (v10:Value),∃ (f10:List Nat),Zv e_ [(0,u0_0),(3,v10),(4,vI (i10:Int))]∧(∀ b,b∈f10→w0.heap.size≤b∨b∈(fp0))∧Ctx Nox w0 w_ [] [ZKv (ZNz.sl) s10 [v10] f10,ZKv (ZNz.sl) a0 [u0_0] fp0]) a0.length ?_ ?_ (s0:=[]) ?_ h
 ·clear hC h
  rintro i10 s10 e_ w10 nx10 K10 hi10 ⟨v10,f10,hS_,hq10,hC⟩ h hK10
  rw [ue hS_]
  refine ZKw (sr (Za (v:=vI (i10:Int)) rfl (Za (v:=u0_0) rfl ?_)))
  obtain ⟨Ad10,c10,hv11⟩:=Zu (hC.getP 1 rfl)
  refine Zt ZXp (tr rfl hv11) (Zp rfl rfl (dn (Z6 rfl (decide_eq_true (by omega)) (ZK0 (Ze (ZKw (ZK2 (Zh (Za (v:=v10) rfl (Za (v:=u0_0) rfl (Za (v:=vI (i10:Int)) rfl ?_)))))))))))
  obtain ⟨Ad11,c11,hv10⟩:=Zx (hC.getP 1 rfl) i10 hi10
  refine Yn (len:=a0.length) ZXp sc22.size (tr rfl hv10) rfl (ZLc _) (ZLv.2 hi10) ?_
  obtain ⟨cs_,hl10,hc10,hr10⟩:=Xh (hC.getP 1 rfl) hv10 i10 hi10
  obtain ⟨u10,rfl⟩:=ZLt.1 hl10
  clear hl10
  rw [Xg _ _ hi10] at hr10
  replace hC:=hC.derive 1 rfl (ZKv TInts (a0.getD i10 ZC7) [u10] fp0) (fun _=>hr10) (fun _ hb_=>hb_)
  refine Yo (u10) hc10 sc22 rfl ?_
  refine Zg [v10,u10] _ Tryz.func106 rfl rfl rfl (Zzt s10 (a0.getD i10 ZC7) h _ (hC.getP 1 rfl) (hC.getP 0 rfl)) (fun ret10 w11 hR10=>?_)
  obtain ⟨r10,u11,f11,rfl,h,hr11,hf10,hB10⟩:=hR10
  refine⟨_,rfl,?_⟩
  have hs10:∀ b,b∈f11→w0.heap.size≤b∨b∈(fp0):=(fun b hb=>(hf10 b hb).elim (fun h_=>.inl (ZDa hC.size h_)) (fun hb=>(ZDd.1 hb).elim (fun hb=>hq10 b hb) (fun hb=>.inr hb)))
  replace hC:=hC.pushR hB10 (ZKv (ZNz.sl) r10 [u11] f11) hr11 (fun b hb=>(hf10 b hb).elim .inl (fun hb=>.inr ((ZDd.1 hb).elim (fun hb=>⟨_,List.mem_of_getElem? (i:=1) rfl,hb⟩) (fun hb=>⟨_,List.mem_of_getElem? (i:=0) rfl,hb⟩))))
  refine Zd (v:=u11) rfl (done (Zr (Ze (Zh (Za (v:=vI (i10:Int)) rfl (Zq rfl rfl (Zd (v:=vI (ZFm.wrap ((i10:Int)+1))) rfl (done ?_))))))))
  exact hK10 r10 _ _ ⟨u11,f11,(sl ⟨rfl,rfl,(tr rfl (congrArg _ (Z5 hi10 hN10))),trivial⟩),hs10,(hC.sP [0,3] rfl)⟩ h
 ·clear hC h
  rintro s10 e_ w12 K10 ⟨v10,f10,hS_,hq10,hC⟩ h
  rw [ue hS_]
  refine ZKw (sr (Za (v:=vI (a0.length:Int)) rfl (Za (v:=u0_0) rfl ?_)))
  obtain ⟨Ad12,c12,hv12⟩:=Zu (hC.getP 1 rfl)
  refine Zt ZXp (tr rfl hv12) (Zp rfl rfl (dn (Z2 rfl (decide_eq_false (by omega)) ?_)))
  refine ZLa (Zj (Zj (Z0 ?_)))
  refine Ze (sr (Za (v:=v10) rfl (Zd (v:=v10) rfl (dn (ZK4 ?_)))))
  refine Zi (fn:=Tryz.f55) rfl ?_ ⟨s10,v10,f10,rfl,h,(hC.getP 0 rfl),(fun b hb=>hq10 b hb),hC.below⟩ (.inl rfl)
  exact Zf rfl
 ·skip
  exact⟨.slice (some ⟨b2,0,none⟩) 0 0,((ZLw (ZD0 (.slice (some ⟨b2,0,none⟩) 0 0)))++([]:List (List Nat)).flatten),(sl ⟨rfl,rfl,rfl,trivial⟩),(fun b hb=>.inl (hs5 b hb)),hC⟩
def Zb7 (a0:Alg) (a1:Int) (a2:Int) (K:List A8→Prop):Prop :=
 (if a2≥0 then Zfz a0.degrees a2 (fun r10=>Yc (fun i10 (s10:(List A8)) nx10=>Zcs (r10.getD i10 ZC7) (fun r11=>(if r11≥a1 then(Zy (s10.length+1) 8∧nx10 (s10++[r10.getD i10 ZC7])) else nx10 s10))) (fun (s10:(List A8))=>K s10) r10.length 0 []) else Yc (fun i11 (s11:(List A8)) nx11=>Zcs ([].getD i11 ZC7) (fun r12=>(if r12≥a1 then(Zy (s11.length+1) 8∧nx11 (s11++[[].getD i11 ZC7])) else nx11 s11))) (fun (s11:(List A8))=>K s11) (([]:List A8).length) 0 [])
theorem Zct (a0:Alg) (a1:Int) (a2:Int)  {K:List A8→Prop} (h:Zb7 a0 a1 a2 K) (w0:World) (q0:TAlg.rep a0 [u0_0,u0_1] fp0 w0) :
  Calls ZKz 109 #[.agg #[u0_0,u0_1],vI a1,vI a2] w0 fun e w'=>∃ (r0:List A8) (z0_0:Value) (fz0:List Nat),
   e=.returned (z0_0)∧K r0∧(ZLd (ZTe 136 ((EA .u8).tr)) r0 [z0_0] fz0).holds w'∧(∀ b,b∈fz0→w0.heap.size≤b)∧Bel w0 w':=by
 unfold Zb7 at h
 refine cof ZXt rfl 39 Tryz.ntmps109 ?_
 have hC:=ZLh (X:=Nox) w0 [ZKv TAlg a0 [u0_0,u0_1] fp0] (al1 q0)
 replace hC:=hC.dAlg 0 rfl
 refine sr (Yi (v:=.agg #[u0_0,u0_1]) hC [u0_0,u0_1] rfl rfl fun b4 w6 hB_ hC=>Zd (v:=.slice none 0 0) rfl (dn (sr (Yh (sz:=8) hC [] ((EA .u8).encs []) rfl (fun _=>Zrc  _) rfl (by decide) fun b7 w8 hB_ hC=>Yh (sz:=8) hC [] ((EA .u8).encs []) rfl (fun _=>Zrc  _) rfl (by decide) fun b10 w10 hB_ hC=>Zd (v:=.slice (some ⟨b7,0,none⟩) 0 0) rfl (Zd (v:=.slice (some ⟨b10,0,none⟩) 0 0) rfl (dn (ZKw (sr ?_))))))))
 refine Za (v:=vI a2) rfl (J7 rfl rfl (dn ?_))
 refine Zs rfl (fun hb10=>?_) (fun hb10=>?_)
 ·replace h:=ift h (ct hb10)
  refine Zh (Z1 0 ZLg rfl sc22.size rfl rfl (Yb hC 2 (u0_0) rfl sc22 rfl rfl (Za (v:=vI a2) rfl ?_)))
  refine Zg [u0_0,vI a2] _ Tryz.func94 rfl rfl rfl (Zre a0.degrees a2 h _ (hC.getP 1 rfl)) (fun ret10 w11 hR10=>?_)
  obtain ⟨r10,u10,f10,rfl,h,hr10,hf10,hB10⟩:=hR10
  refine⟨_,rfl,?_⟩
  replace hC:=hC.push hB10 (ZLd (ZTe 136 ((EA .u8).tr)) r10 [u10] f10) hr10 hf10
  obtain ⟨ho10,hf11⟩:=Y6 (hC.getM 0 rfl).1
  subst hf11
  replace hC:=hC.recast (c:=own 136 8 u10 r10.length ((EA .u8).encs r10)) (fun _ h_=>h_) (fun _=>ho10)
  refine Zd (v:=u10) rfl (dn (ZKw (sr (Zd (v:=vI 0) rfl (dn (ZK2 ?_))))))
  have hN10:r10.length≤9223372036854775807:=Zdm (hC.getM 0 rfl)
  refine Yk (S:=(List A8)) _ _ (fun i10 s10 e_ w_=>∃ (v10:Value),Zv e_ [(1,vI a1),(7,u10),(8,v10),(9,vI (i10:Int))]∧Ctx Nox w0 w_ [own 136 8 u10 r10.length ((EA .u8).encs r10),own 136 8 v10 s10.length ((EA .u8).encs s10)] [ZKv ZLi.sl a0.images [u0_1] fp0,ZKv TInts a0.degrees [u0_0] fp0,ZKv TAlg a0 [u0_0,u0_1] fp0]) r10.length ?_ ?_ (s0:=[]) ?_ h
  ·clear hC h
   rintro i10 s10 e_ w12 nx10 K10 hi10 ⟨v10,hS_,hC⟩ h hK10
   rw [ue hS_]
   refine ZKw (sr (Za (v:=vI (i10:Int)) rfl (Za (v:=u10) rfl ?_)))
   obtain ⟨Ad10,c10,hv14⟩:=X1 (hC.getM 0 rfl)
   refine Zt ZXq (tr rfl hv14) (Zp rfl rfl (dn (Z6 rfl (decide_eq_true (by first | omega | (simp only [ZX6] at *; omega))) (ZK0 (Ze (ZKw (ZK2 (sr (Za (v:=u10) rfl (Za (v:=vI (i10:Int)) rfl ?_))))))))))
   obtain ⟨Ad11,c11,hv10⟩:=Xz (hC.getM 0 rfl) (ZOj (ZEp _) hi10)
   refine X6 (i10 * 8) ZXq ag136.size (tr rfl hv10) rfl (ZLc _) (ZLv.2 hi10) rfl (Ji (ZKt .u8 (r10.getD i10 ZC7)) (Zah (hC.getM 0 rfl) hv10 i10 hi10) ag136 rfl rfl ?_)
   refine Zg [.agg (ZKu (ZKt .u8 (r10.getD i10 ZC7)))] _ ZX1 rfl rfl rfl (Zku (r10.getD i10 ZC7) h _) (fun ret11 w13 hR11=>?_)
   obtain ⟨r11,rfl,h,hB11⟩:=hR11
   refine⟨_,rfl,?_⟩
   replace hC:=hC.grow hB11
   refine Za (v:=vI a1) rfl (J7 rfl rfl (dn ?_))
   refine Zs rfl (fun hb11=>?_) (fun hb11=>?_)
   ·replace h:=ift h (ct hb11)
    refine Zh (Za (v:=v10) rfl (Za (v:=u10) rfl (Za (v:=vI (i10:Int)) rfl ?_)))
    obtain ⟨Ad12,c12,hv11⟩:=Xz (hC.getM 0 rfl) (ZOj (ZEp _) hi10)
    refine X6 (i10 * 8) ZXq ag136.size (tr rfl hv11) rfl (ZLc _) (ZLv.2 hi10) rfl (Ji (ZKt .u8 (r10.getD i10 ZC7)) (Zah (hC.getM 0 rfl) hv11 i10 hi10) ag136 rfl rfl (Yh (sz:=8) hC [(0,.agg (ZKu (ZKt .u8 (r10.getD i10 ZC7))))] ((EA .u8).encs [r10.getD i10 ZC7]) rfl (fun _=>Zns (r10.getD i10 ZC7) _) rfl (by decide) fun b11 w14 hB_ hC=>?_))
    obtain ⟨hm10,h⟩:=h
    refine Jf hC 2 ZXq Znt rfl (by decide) (by decide) rfl (Zag (hC.getM 0 rfl)) (fun q hq=>ZL1 (E:=(EA .u8)) _ q hq) rfl rfl hm10 fun v12 w15 hC=>?_
    replace hC:=Y9 hC 2 ((s10++[r10.getD i10 ZC7]).length) ((EA .u8).encs (s10++[r10.getD i10 ZC7])) rfl (by simp) (by first | (simp [ZLo]; done) | simp [ZLo,ZTn])
    refine Zd (v:=v12) rfl (done (Zr (Ze (Zh (Za (v:=vI (i10:Int)) rfl (Zq rfl rfl (Zd (v:=vI (ZFm.wrap ((i10:Int)+1))) rfl (done ?_))))))))
    exact hK10 (s10++[r10.getD i10 ZC7]) _ _ ⟨v12,(sl ⟨rfl,rfl,rfl,(tr rfl (congrArg _ (Z5 hi10 hN10))),trivial⟩),(hC.xM [1,2] rfl)⟩ h
   ·replace h:=Zl h (cf hb11)
    refine ZK0 (Zr (Ze (Zh (Za (v:=vI (i10:Int)) rfl (Zq rfl rfl (Zd (v:=vI (ZFm.wrap ((i10:Int)+1))) rfl (done ?_)))))))
    exact hK10 s10 _ _ ⟨v10,(sl ⟨rfl,rfl,rfl,(tr rfl (congrArg _ (Z5 hi10 hN10))),trivial⟩),hC⟩ h
  ·clear hC h
   rintro s10 e_ w16 K10 ⟨v10,hS_,hC⟩ h
   rw [ue hS_]
   refine ZKw (sr (Za (v:=vI (r10.length:Int)) rfl (Za (v:=u10) rfl ?_)))
   obtain ⟨Ad13,c13,hv15⟩:=X1 (hC.getM 0 rfl)
   refine Zt ZXq (tr rfl hv15) (Zp rfl rfl (dn (Z2 rfl (decide_eq_false (by first | omega | (simp only [ZX6] at *; omega))) ?_)))
   refine ZLa (Zj (Zj (Z0 ?_)))
   refine Ze (sr (Za (v:=v10) rfl (Zd (v:=v10) rfl (dn (ZK4 ?_)))))
   refine Zi (fn:=Tryz.f109) rfl ?_ ⟨s10,v10,(ZLw (ZD0 v10)),rfl,h,(Xq (hC.getM 1 rfl)),(Xi hC 1 rfl),hC.below⟩ (.inl rfl)
   exact Zf rfl
  ·skip
   exact⟨.slice (some ⟨b10,0,none⟩) 0 0,(sl ⟨rfl,rfl,rfl,rfl,trivial⟩),(hC.xM [0,1] rfl)⟩
 ·replace h:=Zl h (cf hb10)
  refine ZK0 (Ze (ZKw (sr (Zd (v:=vI 0) rfl (dn (ZK2 ?_))))))
  have hN11:([]:List A8).length≤9223372036854775807:=Zdm (hC.getM 1 rfl)
  refine Yk (S:=(List A8)) _ _ (fun i11 s11 e_ w_=>∃ (v11:Value),Zv e_ [(1,vI a1),(7,.slice (some ⟨b7,0,none⟩) 0 0),(8,v11),(9,vI (i11:Int))]∧Ctx Nox w0 w_ [own 136 8 v11 s11.length ((EA .u8).encs s11),own 136 8 (.slice (some ⟨b7,0,none⟩) 0 0) 0 ((EA .u8).encs [])] [ZKv ZLi.sl a0.images [u0_1] fp0,ZKv TInts a0.degrees [u0_0] fp0,ZKv TAlg a0 [u0_0,u0_1] fp0]) (([]:List A8).length) ?_ ?_ (s0:=[]) ?_ h
  ·clear hC h
   rintro i11 s11 e_ w17 nx11 K11 hi11 ⟨v11,hS_,hC⟩ h hK11
   rw [ue hS_]
   refine ZKw (sr (Za (v:=vI (i11:Int)) rfl (Za (v:=.slice (some ⟨b7,0,none⟩) 0 0) rfl ?_)))
   obtain ⟨Ad14,c14,hv16⟩:=X1 (hC.getM 1 rfl)
   refine Zt ZXq (tr rfl hv16) (Zp rfl rfl (dn (Z6 rfl (decide_eq_true (by first | omega | (simp only [ZX6] at *; omega))) (ZK0 (Ze (ZKw (ZK2 (sr (Za (v:=.slice (some ⟨b7,0,none⟩) 0 0) rfl (Za (v:=vI (i11:Int)) rfl ?_))))))))))
   obtain ⟨Ad15,c15,hv12⟩:=Xz (hC.getM 1 rfl) (ZOj (ZEp _) hi11)
   refine X6 (i11 * 8) ZXq ag136.size (tr rfl hv12) rfl (ZLc _) (ZLv.2 hi11) rfl (Ji (ZKt .u8 ([].getD i11 ZC7)) (Zah (hC.getM 1 rfl) hv12 i11 hi11) ag136 rfl rfl ?_)
   refine Zg [.agg (ZKu (ZKt .u8 ([].getD i11 ZC7)))] _ ZX1 rfl rfl rfl (Zku ([].getD i11 ZC7) h _) (fun ret12 w18 hR12=>?_)
   obtain ⟨r12,rfl,h,hB12⟩:=hR12
   refine⟨_,rfl,?_⟩
   replace hC:=hC.grow hB12
   refine Za (v:=vI a1) rfl (J7 rfl rfl (dn ?_))
   refine Zs rfl (fun hb12=>?_) (fun hb12=>?_)
   ·replace h:=ift h (ct hb12)
    refine Zh (Za (v:=v11) rfl (Za (v:=.slice (some ⟨b7,0,none⟩) 0 0) rfl (Za (v:=vI (i11:Int)) rfl ?_)))
    obtain ⟨Ad16,c16,hv13⟩:=Xz (hC.getM 1 rfl) (ZOj (ZEp _) hi11)
    refine X6 (i11 * 8) ZXq ag136.size (tr rfl hv13) rfl (ZLc _) (ZLv.2 hi11) rfl (Ji (ZKt .u8 ([].getD i11 ZC7)) (Zah (hC.getM 1 rfl) hv13 i11 hi11) ag136 rfl rfl (Yh (sz:=8) hC [(0,.agg (ZKu (ZKt .u8 ([].getD i11 ZC7))))] ((EA .u8).encs [[].getD i11 ZC7]) rfl (fun _=>Zns ([].getD i11 ZC7) _) rfl (by decide) fun b12 w19 hB_ hC=>?_))
    obtain ⟨hm11,h⟩:=h
    refine Jf hC 1 ZXq Znt rfl (by decide) (by decide) rfl (Zag (hC.getM 0 rfl)) (fun q hq=>ZL1 (E:=(EA .u8)) _ q hq) rfl rfl hm11 fun v13 w20 hC=>?_
    replace hC:=Y9 hC 1 ((s11++[[].getD i11 ZC7]).length) ((EA .u8).encs (s11++[[].getD i11 ZC7])) rfl (by simp) (by first | (simp [ZLo]; done) | simp [ZLo,ZTn])
    refine Zd (v:=v13) rfl (done (Zr (Ze (Zh (Za (v:=vI (i11:Int)) rfl (Zq rfl rfl (Zd (v:=vI (ZFm.wrap ((i11:Int)+1))) rfl (done ?_))))))))
    exact hK11 (s11++[[].getD i11 ZC7]) _ _ ⟨v13,(sl ⟨rfl,rfl,rfl,(tr rfl (congrArg _ (Z5 hi11 hN11))),trivial⟩),(hC.xM [1,2] rfl)⟩ h
   ·replace h:=Zl h (cf hb12)
    refine ZK0 (Zr (Ze (Zh (Za (v:=vI (i11:Int)) rfl (Zq rfl rfl (Zd (v:=vI (ZFm.wrap ((i11:Int)+1))) rfl (done ?_)))))))
    exact hK11 s11 _ _ ⟨v11,(sl ⟨rfl,rfl,rfl,(tr rfl (congrArg _ (Z5 hi11 hN11))),trivial⟩),hC⟩ h
  ·clear hC h
   rintro s11 e_ w21 K11 ⟨v11,hS_,hC⟩ h
   rw [ue hS_]
   refine ZKw (sr (Za (v:=vI (([]:List A8).length:Int)) rfl (Za (v:=.slice (some ⟨b7,0,none⟩) 0 0) rfl ?_)))
   obtain ⟨Ad17,c17,hv17⟩:=X1 (hC.getM 1 rfl)
   refine Zt ZXq (tr rfl hv17) (Zp rfl rfl (dn (Z2 rfl (decide_eq_false (by first | omega | (simp only [ZX6] at *; omega))) ?_)))
   refine ZLa (Zj (Zj (Z0 ?_)))
   refine Ze (sr (Za (v:=v11) rfl (Zd (v:=v11) rfl (dn (ZK4 ?_)))))
   refine Zi (fn:=Tryz.f109) rfl ?_ ⟨s11,v11,(ZLw (ZD0 v11)),rfl,h,(Xq (hC.getM 0 rfl)),(Xi hC 0 rfl),hC.below⟩ (.inl rfl)
   exact Zf rfl
  ·skip
   exact⟨.slice (some ⟨b10,0,none⟩) 0 0,(sl ⟨rfl,rfl,rfl,rfl,trivial⟩),(hC.xM [0,1] rfl)⟩
def Zbr (a0:ZKy) (a1:List A8) (K:List Int→Prop):Prop :=
 ((0≤(a1.length:Int)∧(a1.length:Int) * 8≤281474976710656)∧X5 (fun (s10:(List Int)×Int×Int) nx10=>(if s10.2.2 < (a1.length:Int) then(if s10.2.1 < (a0.terms.length:Int) then((0≤s10.2.1∧s10.2.1 < (a0.terms.length:Int))∧((0≤s10.2.2∧s10.2.2 < (a1.length:Int))∧(if(a0.terms.getD s10.2.1.toNat ZC7).mono=a1.getD s10.2.2.toNat ZC7 then((0≤s10.2.1∧s10.2.1 < (a0.terms.length:Int))∧((0≤s10.2.2∧s10.2.2 < (s10.1.length:Int))∧nx10 (s10.1.set s10.2.2.toNat ((a0.terms.getD s10.2.1.toNat ZC7).factor),ZFm.wrap (s10.2.1+1),ZFm.wrap (s10.2.2+1)))) else nx10 (s10.1,s10.2.1,ZFm.wrap (s10.2.2+1))))) else K s10.1) else K s10.1)) (ZC2 ((a1.length:Int).toNat) (0:Int),0,0))
theorem Zez (a0:ZKy) (a1:List A8)  {K:List Int→Prop} (h:Zbr a0 a1 K) (w0:World) (q0:ZLi.rep a0 [u0_0] fp0 w0) (q1:((EA .u8).ty.sl).rep a1 [u1_0] fp1 w0) :
  Calls ZKz 128 #[.agg #[u0_0],u1_0] w0 fun e w'=>∃ (r0:List Int) (z0_0:Value) (fz0:List Nat),
   e=.returned (z0_0)∧K r0∧(ZLd (ZTe 2 (eI.tr)) r0 [z0_0] fz0).holds w'∧(∀ b,b∈fz0→w0.heap.size≤b)∧Bel w0 w':=by
 unfold Zbr at h
 refine cof ZXx rfl 47 Tryz.ntmps128 ?_
 have hC:=ZLh (X:=Nox) w0 [ZKv TForm a0 [u0_0] fp0,ZKv ((EA .u8).ty.sl) a1 [u1_0] fp1] (alc q0 (al1 q1))
 have hp3:=(hC.getP 0 rfl)
 replace hC:=hC.derive 0 rfl (ZKv ZKx.ty.sl a0.terms [u0_0] fp0) (fun _=>(Xm hp3)) (fun _ hb_=>hb_)
 refine sr (Yi (v:=.agg #[u0_0]) hC [u0_0] rfl rfl fun b5 w7 hB_ hC=>Zd (v:=.slice none 0 0) rfl (dn (sr (Za (v:=u1_0) rfl ?_))))
 obtain ⟨Ad8,c9,hv14⟩:=Zu (hC.getP 2 rfl)
 refine Zt ZXq (tr rfl hv14) ?_
 obtain ⟨hm10,h⟩:=h
 refine Zbz (sz:=1) hC (eI.encs (ZC2 ((a1.length:Int).toNat) (0:Int))) ZLf el2 (tr rfl (congrArg (ZN5 .i64) (ZN6 hm10.1).symm)) (tr rfl (congrArg (ZN5 .i64) (ZN6 hm10.1).symm)) (by omega) (by omega) (Zbh (E:=eI) _ _) fun v11 w10 hB_ hC=>?_
 replace hC:=Y9 hC 0 ((ZC2 ((a1.length:Int).toNat) (0:Int)).length) (eI.encs (ZC2 ((a1.length:Int).toNat) (0:Int))) rfl (by simp) rfl
 refine Zd (v:=v11) rfl (Zd (v:=vI 0) rfl (dn (ZKw (sr (Zd (v:=vI 0) rfl (dn (ZK2 ?_)))))))
 refine Jh (S:=(List Int)×Int×Int) _ (fun s10 e_ w_=>∃ (v10:Value),Zv e_ [(1,u1_0),(2,vQ b5),(5,v10),(6,vI s10.2.1),(7,vI s10.2.2)]∧Ctx Nox w0 w_ [own 2 1 v10 s10.1.length (eI.encs s10.1),blk b5 55 [u0_0]] [ZKv ZKx.ty.sl a0.terms [u0_0] fp0,ZKv TForm a0 [u0_0] fp0,ZKv ((EA .u8).ty.sl) a1 [u1_0] fp1]) ?_ (s0:=(ZC2 ((a1.length:Int).toNat) (0:Int),0,0)) ?_ h
 ·clear hC h
  rintro s10 e_ w11 nx10 K10 ⟨v10,hS_,hC⟩ h hK10
  rw [ue hS_]
  refine ZKw (sr (Za (v:=vI s10.2.2) rfl (Za (v:=u1_0) rfl ?_)))
  obtain ⟨Ad12,c10,hv15⟩:=Zu (hC.getP 2 rfl)
  refine Zt ZXq (tr rfl hv15) (Zp rfl rfl (Za (v:=.bool (decide (s10.2.2 < (a1.length:Int)))) rfl ?_))
  refine Y8 (decide (s10.2.2 < (a1.length:Int))) (fun hb10=>?_) (fun hb10=>?_)
  ·replace h:=ift h (ct hb10)
   refine Zm 4 15 rfl rfl hb10 (Za (v:=vI s10.2.1) rfl (Zm 4 15 rfl rfl hb10 (Z1 0 ZK3 rfl sc53.size rfl rfl (Zm 4 15 rfl rfl hb10 (Yb hC 1 (u0_0) rfl sc53 rfl rfl (Zm 4 15 rfl rfl hb10 ?_))))))
   obtain ⟨Ad13,c11,hv16⟩:=Zu (hC.getP 0 rfl)
   refine Zt ZK6 (tr rfl hv16) (Zm 4 15 rfl rfl hb10 (Zp rfl rfl (Z3 (v:=.bool (decide (s10.2.1 < (a0.terms.length:Int)))) (b:=true) (tr rfl (congrArg _ hb10)) rfl (dn ?_))))
   refine Zs rfl (fun hb11=>?_) (fun hb11=>?_)
   ·replace h:=ift h (ct hb11)
    refine ZK0 (Ze (ZKw (ZK2 (ZKw ?_))))
    refine Yq 10 Yl [0,1,0,7,15,31,0,0,192,448,1023] [1,3,5,8,9] [0,2,4,6,7] (by kernel_rfl) (by kernel_rfl) (by kernel_rfl) (fun hM10 hM11 w12 hB_=>?_)
    replace hC:=hC.grow hB_
    refine bF 0 (vQ b5) rfl rfl hM11 (fun _=>by exact Yr 0 ZK3 rfl sc53.size rfl rfl) (Zc 11 1) (bL 1 (u0_0) rfl rfl hM10 (fun _ hB_=>by exact Yg (hC.grow hB_) 1 (u0_0) rfl sc53 rfl rfl) (Zc 11 3) (bM 2 (vI s10.2.1) rfl hM11 (Zc 11 7) ?_))
    obtain ⟨⟨h10,h11⟩,h⟩:=h
    obtain ⟨Ad10,c12,hv10⟩:=Zx (hC.getP 0 rfl) s10.2.1.toNat (show s10.2.1.toNat < a0.terms.length by omega)
    refine bL 3 (.pointer (some (Ad10.add (s10.2.1.toNat * 9)))) rfl rfl hM10 (fun _ hB_=>by exact Y1 (len:=a0.terms.length) ZK6 ag162.size (by exact tr rfl hv10) rfl h10 h11) (Zc 11 15) (bF 4 (.pointer (some (Ad10.add (s10.2.1.toNat * 9+0)))) rfl rfl hM11 (fun _=>by exact Za5 (s10.2.1.toNat * 9+0) ZLb rfl ag136.size rfl rfl) (Zc 11 31) (bL 5 (.agg (ZKu (ZKt .u8 ((a0.terms.getD s10.2.1.toNat ZC7).mono)))) rfl rfl hM10 (fun _ hB_=>by exact Jm (ZKt .u8 ((a0.terms.getD s10.2.1.toNat ZC7).mono)) (J1 (o:=0) (k:=8) (Ye ((hC.grow hB_).getP 0 rfl) hv10 s10.2.1.toNat (show s10.2.1.toNat < a0.terms.length by omega)) rfl) ag136 rfl rfl) (Zc 11 63) (bM 6 (u1_0) rfl hM11 (Zc 11 127) (bM 7 (vI s10.2.2) rfl hM11 (Zc 11 255) ?_))))
    obtain ⟨⟨h12,h13⟩,h⟩:=h
    obtain ⟨Ad11,c13,hv11⟩:=Zx (hC.getP 2 rfl) s10.2.2.toNat (show s10.2.2.toNat < a1.length by omega)
    refine bL 8 (.pointer (some (Ad11.add (s10.2.2.toNat * 8)))) rfl rfl hM10 (fun _ hB_=>by exact Y1 (len:=a1.length) ZXq ag136.size (by exact tr rfl hv11) rfl h12 h13) (Zc 11 511) (bL 9 (.agg (ZKu (ZKt .u8 (a1.getD s10.2.2.toNat ZC7)))) rfl rfl hM10 (fun _ hB_=>by exact Jm (ZKt .u8 (a1.getD s10.2.2.toNat ZC7)) (Ye ((hC.grow hB_).getP 2 rfl) hv11 s10.2.2.toNat (show s10.2.2.toNat < a1.length by omega)) ag136 rfl rfl) (Zc 11 1023) (Z7 10 (by decide) (by decide) (by kernel_rfl) (by kernel_rfl) rfl (Zx5 Zzh Zzg rfl rfl (done (Z8 (Ze ?_))))))
    refine Zs rfl (fun hb12=>?_) (fun hb12=>?_)
    ·replace h:=ift h (ct hb12)
     refine sr (Za (v:=v10) rfl (Za (v:=vI s10.2.2) rfl (Z1 0 ZK3 rfl sc53.size rfl rfl (Yb hC 1 (u0_0) rfl sc53 rfl rfl (Za (v:=vI s10.2.1) rfl ?_)))))
     obtain ⟨⟨h14,h15⟩,h⟩:=h
     obtain ⟨Ad14,c14,hv12⟩:=Zx (hC.getP 0 rfl) s10.2.1.toNat (show s10.2.1.toNat < a0.terms.length by omega)
     refine Yn (len:=a0.terms.length) ZK6 ag162.size (tr rfl hv12) rfl h14 h15 (Zea (s10.2.1.toNat * 9+8) ZLb rfl sc2.size rfl rfl (Yo (vI ((a0.terms.getD s10.2.1.toNat ZC7).factor)) (J1 (o:=8) (k:=1) (Ye (hC.getP 0 rfl) hv12 s10.2.1.toNat (show s10.2.1.toNat < a0.terms.length by omega)) rfl) sc2 rfl ?_))
     obtain ⟨⟨h16,h17⟩,h⟩:=h
     obtain ⟨Ad15,c15,hv13⟩:=Xz (hC.getM 0 rfl) (ZOj (ZEp _) (show s10.2.2.toNat < s10.1.length by omega))
     refine X6 (s10.2.2.toNat * 1) ZLf sc2.size (tr rfl hv13) rfl h16 h17 rfl (Zcc (v:=vI ((a0.terms.getD s10.2.1.toNat ZC7).factor)) hC 0 [vI ((a0.terms.getD s10.2.1.toNat ZC7).factor)] (eI.encs (s10.1.set s10.2.2.toNat ((a0.terms.getD s10.2.1.toNat ZC7).factor))) rfl hv13 sc2.size rfl rfl rfl rfl rfl (by rw [ZYb]; exact Zav (sz:=1) (show s10.2.2.toNat < s10.1.length by omega)) (Zcd _ _ _ (show s10.2.2.toNat < s10.1.length by omega)) fun w13 hC=>?_)
     replace hC:=Y9 hC 0 ((s10.1.set s10.2.2.toNat ((a0.terms.getD s10.2.1.toNat ZC7).factor)).length) (eI.encs (s10.1.set s10.2.2.toNat ((a0.terms.getD s10.2.1.toNat ZC7).factor))) rfl (by simp) rfl
     refine dn (Zh (Za (v:=vI s10.2.1) rfl (Zq rfl rfl (Zd (v:=vI (ZFm.wrap (s10.2.1+1))) rfl (done (Zr (Ze (Zh (Za (v:=vI s10.2.2) rfl (Zq rfl rfl (Zd (v:=vI (ZFm.wrap (s10.2.2+1))) rfl ?_)))))))))))
     refine done ?_
     exact hK10 (s10.1.set s10.2.2.toNat ((a0.terms.getD s10.2.1.toNat ZC7).factor),ZFm.wrap (s10.2.1+1),ZFm.wrap (s10.2.2+1)) _ _ ⟨v10,(sl ⟨rfl,rfl,rfl,rfl,rfl,trivial⟩),hC⟩ h
    ·replace h:=Zl h (cf hb12)
     refine ZK0 (Zr (Ze (Zh (Za (v:=vI s10.2.2) rfl (Zq rfl rfl (Zd (v:=vI (ZFm.wrap (s10.2.2+1))) rfl (done ?_)))))))
     exact hK10 (s10.1,s10.2.1,ZFm.wrap (s10.2.2+1)) _ _ ⟨v10,(sl ⟨rfl,rfl,rfl,rfl,rfl,trivial⟩),hC⟩ h
   ·replace h:=Zl h (cf hb11)
    refine ZLa (Zj (Zj (Z0 ?_)))
    refine Ze (sr (Za (v:=v10) rfl (Zd (v:=v10) rfl (dn (ZK4 ?_)))))
    refine Zi (fn:=Tryz.f128) rfl ?_ ⟨s10.1,v10,(ZLw (ZD0 v10)),rfl,h,(Xq (hC.getM 0 rfl)),(Xi hC 0 rfl),hC.below⟩ (.inl rfl)
    exact Zf rfl
  ·replace h:=Zl h (cf hb10)
   refine Zk (b:=false) 4 15 rfl (tr rfl (congrArg _ hb10)) (by decide) (Zk (b:=false) 4 15 rfl (tr rfl (congrArg _ hb10)) (by decide) (Zk (b:=false) 4 15 rfl (tr rfl (congrArg _ hb10)) (by decide) (Zk (b:=false) 4 15 rfl (tr rfl (congrArg _ hb10)) (by decide) (Zk (b:=false) 4 15 rfl (tr rfl (congrArg _ hb10)) (by decide) (Z3 (v:=.bool false) (b:=false) (tr rfl (congrArg _ hb10)) rfl (dn (Z2 rfl rfl ?_)))))))
   refine ZLa (Zj (Zj (Z0 ?_)))
   refine Ze (sr (Za (v:=v10) rfl (Zd (v:=v10) rfl (dn (ZK4 ?_)))))
   refine Zi (fn:=Tryz.f128) rfl ?_ ⟨s10.1,v10,(ZLw (ZD0 v10)),rfl,h,(Xq (hC.getM 0 rfl)),(Xi hC 0 rfl),hC.below⟩ (.inl rfl)
   exact Zf rfl
 ·skip
  exact⟨v11,(sl ⟨rfl,rfl,rfl,rfl,rfl,trivial⟩),hC⟩
def Zf1 (a0:List (List Int)) (a1:Int) (K:List (List Int)→Prop):Prop :=
 Yc (fun i10 (s11:(List (List Int))) nx11=>(Zy (0+(a0.getD i10 ZC7).length) 8∧((0≤(a0.length:Int)∧Zy ((a0.getD i10 ZC7).length+((a0.length:Int).toNat)) 8)∧((0≤ZFm.wrap (a1+(i10:Int))∧ZFm.wrap (a1+(i10:Int)) < (((a0.getD i10 ZC7)++ZC2 ((a0.length:Int).toNat) (0:Int)).length:Int))∧(Zy (s11.length+1) 24∧nx11 (s11++[((a0.getD i10 ZC7)++ZC2 ((a0.length:Int).toNat) (0:Int)).set ((ZFm.wrap (a1+(i10:Int))).toNat) 1])))))) (fun (s11:(List (List Int)))=>Zbq s11 (fun r10=>Yc (fun i11 (s10:(List (List Int))) nx10=>Zbe (r10.getD i11 ZC7) (fun r12=>(if r12≥a1 then((0≤a1∧a1≤((r10.getD i11 ZC7).length:Int))∧(Zy (0+((r10.getD i11 ZC7).drop a1.toNat).length) 8∧(Zy (s10.length+1) 24∧nx10 (s10++[(r10.getD i11 ZC7).drop a1.toNat])))) else nx10 s10))) (fun (s10:(List (List Int)))=>Zbq s10 (fun r11=>K r11)) r10.length 0 [])) a0.length 0 []
theorem Zrg (a0:List (List Int)) (a1:Int)  {K:List (List Int)→Prop} (h:Zf1 a0 a1 K) (w0:World) (q0:(ZNz.sl).rep a0 [u0_0] fp0 w0) :
  Calls ZKz 169 #[u0_0,vI a1] w0 fun e w'=>∃ (r0:List (List Int)) (z0_0:Value) (fz0:List Nat),
   e=.returned (z0_0)∧K r0∧(ZNz.sl).rep r0 [z0_0] fz0 w'∧(∀ b,b∈fz0→w0.heap.size≤b)∧Bel w0 w':=by
 unfold Zf1 at h
 refine cof ZYe rfl 65 Tryz.ntmps169 ?_
 have hC:=ZLh (X:=Nox) w0 [ZKv (ZNz.sl) a0 [u0_0] fp0] (al1 q0)
 refine sr (Zd (v:=.slice none 0 0) rfl (dn (sr (Za (v:=u0_0) rfl ?_))))
 obtain ⟨Ad2,c3,hv4⟩:=Zu (hC.getP 0 rfl)
 refine Zt ZXp (tr rfl hv4) (Zd (v:=vI (a0.length:Int)) rfl (dn (sr (Yh (sz:=1) hC [] [] rfl (fun _=>Zak _) rfl (by decide) fun b5 w6 hB_ hC=>?_))))
 replace hC:=hC.pushM0 (Ya (ZTe 2 (eI.tr)) ([]:List (List Int)) [] []) (Jb _ _) rfl
 replace hC:=hC.gather (c:=ZLd (ZTe 22 (ZTe 2 (eI.tr))) [] [.slice (some ⟨b5,0,none⟩) 0 0] ((ZLw (ZD0 (.slice (some ⟨b5,0,none⟩) 0 0)))++([]:List (List Nat)).flatten)) (fun x_ hx_=>(ZDd.1 hx_).symm) (fun h1_ h2_ hd_=>X3 h2_ h1_ (fun b_ hb_ hb2_=>hd_ b_ hb2_ hb_))
 refine Zd (v:=.slice (some ⟨b5,0,none⟩) 0 0) rfl (dn (ZKw (sr (Zd (v:=vI 0) rfl (dn (ZK2 ?_))))))
 have hN11:a0.length≤9223372036854775807:=Y2 (hC.getP 0 rfl)
 refine Yk (S:=(List (List Int))) _ _ (fun i10 s11 e_ w_=>∃ (v13:Value),∃ (f11:List Nat),Zv e_ [(0,u0_0),(1,vI a1),(5,vI (a0.length:Int)),(6,v13),(7,vI (i10:Int))]∧Ctx Nox w0 w_ [ZLd (ZTe 22 (ZTe 2 (eI.tr))) s11 [v13] f11] [ZKv (ZNz.sl) a0 [u0_0] fp0]) a0.length ?_ ?_ (s0:=[]) ?_ h
 ·clear hC h
  rintro i10 s11 e_ w10 nx11 K10 hi11 ⟨v13,f11,hS_,hC⟩ h hK11
  rw [ue hS_]
  refine ZKw (sr (Za (v:=vI (i10:Int)) rfl (Za (v:=vI (a0.length:Int)) rfl (Zp rfl rfl (dn (Z6 rfl (decide_eq_true (by omega)) (ZK0 (Ze (ZKw (ZK2 (sr ?_)))))))))))
  refine Yh (sz:=1) hC [] (eI.encs []) rfl (fun _=>Zdg  _) rfl (by decide) fun b13 w11 hB_ hC=>Za (v:=u0_0) rfl (Za (v:=vI (i10:Int)) rfl ?_)
  obtain ⟨Ad11,c11,hv10⟩:=Zx (hC.getP 0 rfl) i10 hi11
  refine Yn (len:=a0.length) ZXp sc22.size (tr rfl hv10) rfl (ZLc _) (ZLv.2 hi11) ?_
  obtain ⟨cs_,hl10,hc10,hr10⟩:=Xh (hC.getP 0 rfl) hv10 i10 hi11
  obtain ⟨u13,rfl⟩:=ZLt.1 hl10
  clear hl10
  rw [Xg _ _ hi11] at hr10
  replace hC:=hC.derive 0 rfl (ZKv TInts (a0.getD i10 ZC7) [u13] fp0) (fun _=>hr10) (fun _ hb_=>hb_)
  refine Yo (u13) hc10 sc22 rfl ?_
  obtain ⟨hm11,h⟩:=h
  refine Jf hC 0 ZLf el2 rfl (by decide) (by decide) rfl (Zjq (hC.getP 0 rfl)) (fun q hq=>ZL1 (E:=eI) _ q hq) rfl rfl hm11 fun v16 w12 hC=>?_
  replace hC:=Y9 hC 0 ((a0.getD i10 ZC7).length) (eI.encs (a0.getD i10 ZC7)) rfl (by simp) (by first | (simp [ZLo]; done) | simp [ZLo,ZTn])
  refine Za (v:=vI (a0.length:Int)) rfl ?_
  obtain ⟨hm10,h⟩:=h
  refine Zqr hC 0 ZLf Tryz.underlying3 el2 rfl rfl (by decide) rfl rfl (tr rfl (congrArg (ZN5 .i64) (ZN6 hm10.1).symm)) hm10.2 fun v10 w13 hC=>?_
  replace hC:=Y9 hC 0 (((a0.getD i10 ZC7)++ZC2 ((a0.length:Int).toNat) (0:Int)).length) (eI.encs ((a0.getD i10 ZC7)++ZC2 ((a0.length:Int).toNat) (0:Int))) rfl (by simp) (Zqu _ (a0.getD i10 ZC7) _)
  refine Zd (v:=v10) rfl (dn (sr (Za (v:=v10) rfl (Za (v:=vI a1) rfl (Za (v:=vI (i10:Int)) rfl (Zq rfl rfl ?_))))))
  obtain ⟨⟨h11,h12⟩,h⟩:=h
  obtain ⟨Ad12,c12,hv11⟩:=Xz (hC.getM 0 rfl) (ZOj (ZEp _) (show (ZFm.wrap (a1+(i10:Int))).toNat < ((a0.getD i10 ZC7)++ZC2 ((a0.length:Int).toNat) (0:Int)).length by omega))
  refine X6 ((ZFm.wrap (a1+(i10:Int))).toNat * 1) ZLf sc2.size (tr rfl hv11) rfl h11 h12 rfl (Zcc (v:=vI 1) hC 0 [vI 1] (eI.encs (((a0.getD i10 ZC7)++ZC2 ((a0.length:Int).toNat) (0:Int)).set ((ZFm.wrap (a1+(i10:Int))).toNat) 1)) rfl hv11 sc2.size rfl rfl rfl rfl rfl (by rw [ZYb]; exact Zav (sz:=1) (show (ZFm.wrap (a1+(i10:Int))).toNat < ((a0.getD i10 ZC7)++ZC2 ((a0.length:Int).toNat) (0:Int)).length by omega)) (Zcd _ _ _ (show (ZFm.wrap (a1+(i10:Int))).toNat < ((a0.getD i10 ZC7)++ZC2 ((a0.length:Int).toNat) (0:Int)).length by omega)) fun w14 hC=>?_)
  replace hC:=Y9 hC 0 ((((a0.getD i10 ZC7)++ZC2 ((a0.length:Int).toNat) (0:Int)).set ((ZFm.wrap (a1+(i10:Int))).toNat) 1).length) (eI.encs (((a0.getD i10 ZC7)++ZC2 ((a0.length:Int).toNat) (0:Int)).set ((ZFm.wrap (a1+(i10:Int))).toNat) 1)) rfl (by simp) rfl
  refine dn (Zh (Za (v:=v13) rfl (Za (v:=v10) rfl (Yh (sz:=1) hC [(0,v10)] [v10] rfl (fun _=>Zad v10 (Zbc (hC.getM 0 rfl)) _) rfl (by decide) fun b10 w15 hB_ hC=>?_))))
  replace hC:=hC.pushM0 (Ya (ZTe 2 (eI.tr)) [] [] []) (Jb _ _) rfl
  replace hC:=hC.sM [2,0,1,3] (M':=[own 2 1 v10 ((((a0.getD i10 ZC7)++ZC2 ((a0.length:Int).toNat) (0:Int)).set ((ZFm.wrap (a1+(i10:Int))).toNat) 1).length) (eI.encs (((a0.getD i10 ZC7)++ZC2 ((a0.length:Int).toNat) (0:Int)).set ((ZFm.wrap (a1+(i10:Int))).toNat) 1)),Ya (ZTe 2 (eI.tr)) [] [] [],own 22 1 (.slice (some ⟨b10,0,none⟩) 1 1) 1 [v10],ZLd (ZTe 22 (ZTe 2 (eI.tr))) s11 [v13] f11]) (by decide) rfl
  replace hC:=hC.gather (c:=Ya (ZTe 2 (eI.tr)) [((a0.getD i10 ZC7)++ZC2 ((a0.length:Int).toNat) (0:Int)).set ((ZFm.wrap (a1+(i10:Int))).toNat) 1] [v10] [(ZLw (ZD0 v10))]) (fun x_ hx_=>Zbk hx_) (fun h1_ h2_ hd_=>Zbb (c:=[v10]) (id (Xq h1_)) h2_ hd_)
  replace hC:=hC.sM [1,0,2] (M':=[own 22 1 (.slice (some ⟨b10,0,none⟩) 1 1) 1 [v10],Ya (ZTe 2 (eI.tr)) [((a0.getD i10 ZC7)++ZC2 ((a0.length:Int).toNat) (0:Int)).set ((ZFm.wrap (a1+(i10:Int))).toNat) 1] [v10] [(ZLw (ZD0 v10))],ZLd (ZTe 22 (ZTe 2 (eI.tr))) s11 [v13] f11]) (by decide) rfl
  replace hC:=hC.gather (c:=ZLd (ZTe 22 (ZTe 2 (eI.tr))) [((a0.getD i10 ZC7)++ZC2 ((a0.length:Int).toNat) (0:Int)).set ((ZFm.wrap (a1+(i10:Int))).toNat) 1] [.slice (some ⟨b10,0,none⟩) 1 1] ((ZLw (ZD0 (.slice (some ⟨b10,0,none⟩) 1 1)))++([(ZLw (ZD0 v10))]:List (List Nat)).flatten)) (fun x_ hx_=>ZDd.1 hx_) (fun h1_ h2_ hd_=>X3 h1_ h2_ hd_)
  replace hC:=hC.sM [1,0] (M':=[ZLd (ZTe 22 (ZTe 2 (eI.tr))) s11 [v13] f11,ZLd (ZTe 22 (ZTe 2 (eI.tr))) [((a0.getD i10 ZC7)++ZC2 ((a0.length:Int).toNat) (0:Int)).set ((ZFm.wrap (a1+(i10:Int))).toNat) 1] [.slice (some ⟨b10,0,none⟩) 1 1] ((ZLw (ZD0 (.slice (some ⟨b10,0,none⟩) 1 1)))++([(ZLw (ZD0 v10))]:List (List Nat)).flatten)]) (by decide) rfl
  obtain ⟨hm12,h⟩:=h
  refine Za8 hC ZXp J2 rfl (by decide) (by decide) rfl rfl hm12 fun v14 f14 w16 hC=>Zd (v:=v14) rfl (done (Zr (Ze (Zh (Za (v:=vI (i10:Int)) rfl (Zq rfl rfl (Zd (v:=vI (ZFm.wrap ((i10:Int)+1))) rfl (done ?_))))))))
  exact hK11 (s11++[((a0.getD i10 ZC7)++ZC2 ((a0.length:Int).toNat) (0:Int)).set ((ZFm.wrap (a1+(i10:Int))).toNat) 1]) _ _ ⟨v14,f14,(sl ⟨rfl,rfl,rfl,rfl,(tr rfl (congrArg _ (Z5 hi11 hN11))),trivial⟩),(hC.sP [1] rfl)⟩ h
 ·clear hC h
  rintro s11 e_ w17 K10 ⟨v13,f11,hS_,hC⟩ h
  rw [ue hS_]
  refine ZKw (sr (Za (v:=vI (a0.length:Int)) rfl (Za (v:=vI (a0.length:Int)) rfl (Zp rfl rfl (dn (Z2 rfl (decide_eq_false (by omega)) ?_))))))
  refine ZLa (Zj (Zj (Z0 ?_)))
  refine Ze (sr (Za (v:=v13) rfl ?_))
  have hs10:=Zai hC 0 rfl
  replace hC:=hC.thaw 0 rfl (ZKv (ZNz.sl) s11 [v13] f11) (fun h_=>ZXr _ h_.1) (fun _ hb_=>hb_)
  refine Zg [v13] _ ZXy rfl rfl rfl (Zf0 s11 h _ (hC.getP 0 rfl)) (fun ret10 w18 hR10=>?_)
  obtain ⟨r10,u10,f12,rfl,h,hr13,hf10,hB10⟩:=hR10
  refine⟨_,rfl,?_⟩
  have hs13:∀ b,b∈f12→w0.heap.size≤b:=(fun b hb=>(hf10 b hb).elim (fun h_=>ZDa hC.size h_) (fun hb=>hs10 b hb))
  replace hC:=hC.pushR hB10 (ZKv (ZNz.sl) r10 [u10] f12) hr13 (fun b hb=>(hf10 b hb).elim .inl (fun hb=>.inr (⟨_,List.mem_of_getElem? (i:=0) rfl,hb⟩)))
  refine Zd (v:=u10) rfl (dn (sr (Yh (sz:=1) hC [] [] rfl (fun _=>Zak _) rfl (by decide) fun b12 w19 hB_ hC=>?_)))
  replace hC:=hC.pushM0 (Ya (ZTe 2 (eI.tr)) ([]:List (List Int)) [] []) (Jb _ _) rfl
  replace hC:=hC.gather (c:=ZLd (ZTe 22 (ZTe 2 (eI.tr))) [] [.slice (some ⟨b12,0,none⟩) 0 0] ((ZLw (ZD0 (.slice (some ⟨b12,0,none⟩) 0 0)))++([]:List (List Nat)).flatten)) (fun x_ hx_=>(ZDd.1 hx_).symm) (fun h1_ h2_ hd_=>X3 h2_ h1_ (fun b_ hb_ hb2_=>hd_ b_ hb2_ hb_))
  refine Zd (v:=.slice (some ⟨b12,0,none⟩) 0 0) rfl (dn (ZKw (sr (Zd (v:=vI 0) rfl (dn (ZK2 ?_))))))
  have hN10:r10.length≤9223372036854775807:=Y2 (hC.getP 0 rfl)
  refine Yk (S:=(List (List Int))) _ _ (fun i11 s10 e_ w_=>∃ (v12:Value),∃ (f10:List Nat),Zv e_ [(1,vI a1),(6,u10),(9,v12),(10,vI (i11:Int))]∧Ctx Nox w0 w_ [ZLd (ZTe 22 (ZTe 2 (eI.tr))) s10 [v12] f10] [ZKv (ZNz.sl) r10 [u10] f12,ZKv (ZNz.sl) a0 [u0_0] fp0]) r10.length ?_ ?_ (s0:=[]) ?_ h
  ·clear hC h
   rintro i11 s10 e_ w20 nx10 K11 hi10 ⟨v12,f10,hS_,hC⟩ h hK10
   rw [ue hS_]
   refine ZKw (sr (Za (v:=vI (i11:Int)) rfl (Za (v:=u10) rfl ?_)))
   obtain ⟨Ad13,c13,hv15⟩:=Zu (hC.getP 0 rfl)
   refine Zt ZXp (tr rfl hv15) (Zp rfl rfl (dn (Z6 rfl (decide_eq_true (by omega)) (ZK0 (Ze (ZKw (ZK2 (sr (Za (v:=u10) rfl (Za (v:=vI (i11:Int)) rfl ?_))))))))))
   obtain ⟨Ad14,c14,hv12⟩:=Zx (hC.getP 0 rfl) i11 hi10
   refine Yn (len:=r10.length) ZXp sc22.size (tr rfl hv12) rfl (ZLc _) (ZLv.2 hi10) ?_
   obtain ⟨cs_,hl11,hc11,hr11⟩:=Xh (hC.getP 0 rfl) hv12 i11 hi10
   obtain ⟨u11,rfl⟩:=ZLt.1 hl11
   clear hl11
   rw [Xg _ _ hi10] at hr11
   replace hC:=hC.derive 0 rfl (ZKv TInts (r10.getD i11 ZC7) [u11] f12) (fun _=>hr11) (fun _ hb_=>hb_)
   refine Yo (u11) hc11 sc22 rfl ?_
   refine Zg [u11] _ ZX2 rfl rfl rfl (Zkv (r10.getD i11 ZC7) h _ (hC.getP 0 rfl)) (fun ret11 w21 hR11=>?_)
   obtain ⟨r12,rfl,h,hB11⟩:=hR11
   refine⟨_,rfl,?_⟩
   replace hC:=hC.grow hB11
   refine Za (v:=vI a1) rfl (J7 rfl rfl (dn ?_))
   refine Zs rfl (fun hb10=>?_) (fun hb10=>?_)
   ·replace h:=ift h (ct hb10)
    refine Zh (Za (v:=v12) rfl (Yh (sz:=1) hC [] (eI.encs []) rfl (fun _=>Zdg  _) rfl (by decide) fun b14 w22 hB_ hC=>Za (v:=u10) rfl (Za (v:=vI (i11:Int)) rfl ?_)))
    obtain ⟨Ad15,c15,hv13⟩:=Zx (hC.getP 1 rfl) i11 hi10
    refine Yn (len:=r10.length) ZXp sc22.size (tr rfl hv13) rfl (ZLc _) (ZLv.2 hi10) ?_
    obtain ⟨cs_,hl12,hc12,hr12⟩:=Xh (hC.getP 1 rfl) hv13 i11 hi10
    obtain ⟨u14,rfl⟩:=ZLt.1 hl12
    clear hl12
    rw [Xg _ _ hi10] at hr12
    replace hC:=hC.derive 1 rfl (ZKv TInts (r10.getD i11 ZC7) [u14] f12) (fun _=>hr12) (fun _ hb_=>hb_)
    refine Yo (u14) hc12 sc22 rfl (Za (v:=vI a1) rfl ?_)
    obtain ⟨h10,h⟩:=h
    obtain ⟨Ad10,c10,hv14,hcap10⟩:=Zno (hC.getP 0 rfl)
    refine Znp ZLf sc2.size (tr rfl hv14) rfl h10.1 h10.2 ?_
    replace hC:=hC.derive 0 rfl (ZKv TInts ((r10.getD i11 ZC7).drop a1.toNat) [(sliced Ad10 a1.toNat ((r10.getD i11 ZC7).length) c10 1)] f12) (fun h_=>Znn h_ hv14 (show _≤_ by omega) hcap10) (fun _ h_=>h_)
    obtain ⟨hm13,h⟩:=h
    refine Jf hC 0 ZLf el2 rfl (by decide) (by decide) rfl (Zjq (hC.getP 0 rfl)) (fun q hq=>ZL1 (E:=eI) _ q hq) rfl rfl hm13 fun v11 w23 hC=>?_
    replace hC:=Y9 hC 0 (((r10.getD i11 ZC7).drop a1.toNat).length) (eI.encs ((r10.getD i11 ZC7).drop a1.toNat)) rfl (by simp) (by first | (simp [ZLo]; done) | simp [ZLo,ZTn])
    refine Yh (sz:=1) hC [(0,v11)] [v11] rfl (fun _=>Zad v11 (Zbc (hC.getM 0 rfl)) _) rfl (by decide) fun b11 w24 hB_ hC=>?_
    replace hC:=hC.pushM0 (Ya (ZTe 2 (eI.tr)) [] [] []) (Jb _ _) rfl
    replace hC:=hC.sM [2,0,1,3] (M':=[own 2 1 v11 (((r10.getD i11 ZC7).drop a1.toNat).length) (eI.encs ((r10.getD i11 ZC7).drop a1.toNat)),Ya (ZTe 2 (eI.tr)) [] [] [],own 22 1 (.slice (some ⟨b11,0,none⟩) 1 1) 1 [v11],ZLd (ZTe 22 (ZTe 2 (eI.tr))) s10 [v12] f10]) (by decide) rfl
    replace hC:=hC.gather (c:=Ya (ZTe 2 (eI.tr)) [(r10.getD i11 ZC7).drop a1.toNat] [v11] [(ZLw (ZD0 v11))]) (fun x_ hx_=>Zbk hx_) (fun h1_ h2_ hd_=>Zbb (c:=[v11]) (id (Xq h1_)) h2_ hd_)
    replace hC:=hC.sM [1,0,2] (M':=[own 22 1 (.slice (some ⟨b11,0,none⟩) 1 1) 1 [v11],Ya (ZTe 2 (eI.tr)) [(r10.getD i11 ZC7).drop a1.toNat] [v11] [(ZLw (ZD0 v11))],ZLd (ZTe 22 (ZTe 2 (eI.tr))) s10 [v12] f10]) (by decide) rfl
    replace hC:=hC.gather (c:=ZLd (ZTe 22 (ZTe 2 (eI.tr))) [(r10.getD i11 ZC7).drop a1.toNat] [.slice (some ⟨b11,0,none⟩) 1 1] ((ZLw (ZD0 (.slice (some ⟨b11,0,none⟩) 1 1)))++([(ZLw (ZD0 v11))]:List (List Nat)).flatten)) (fun x_ hx_=>ZDd.1 hx_) (fun h1_ h2_ hd_=>X3 h1_ h2_ hd_)
    replace hC:=hC.sM [1,0] (M':=[ZLd (ZTe 22 (ZTe 2 (eI.tr))) s10 [v12] f10,ZLd (ZTe 22 (ZTe 2 (eI.tr))) [(r10.getD i11 ZC7).drop a1.toNat] [.slice (some ⟨b11,0,none⟩) 1 1] ((ZLw (ZD0 (.slice (some ⟨b11,0,none⟩) 1 1)))++([(ZLw (ZD0 v11))]:List (List Nat)).flatten)]) (by decide) rfl
    obtain ⟨hm14,h⟩:=h
    refine Za8 hC ZXp J2 rfl (by decide) (by decide) rfl rfl hm14 fun v15 f15 w25 hC=>Zd (v:=v15) rfl (done (Zr (Ze (Zh (Za (v:=vI (i11:Int)) rfl (Zq rfl rfl (Zd (v:=vI (ZFm.wrap ((i11:Int)+1))) rfl (done ?_))))))))
    exact hK10 (s10++[(r10.getD i11 ZC7).drop a1.toNat]) _ _ ⟨v15,f15,(sl ⟨rfl,rfl,rfl,(tr rfl (congrArg _ (Z5 hi10 hN10))),trivial⟩),(hC.sP [3,4] rfl)⟩ h
   ·replace h:=Zl h (cf hb10)
    refine ZK0 (Zr (Ze (Zh (Za (v:=vI (i11:Int)) rfl (Zq rfl rfl (Zd (v:=vI (ZFm.wrap ((i11:Int)+1))) rfl (done ?_)))))))
    exact hK10 s10 _ _ ⟨v12,f10,(sl ⟨rfl,rfl,rfl,(tr rfl (congrArg _ (Z5 hi10 hN10))),trivial⟩),(hC.sP [1,2] rfl)⟩ h
  ·clear hC h
   rintro s10 e_ w26 K11 ⟨v12,f10,hS_,hC⟩ h
   rw [ue hS_]
   refine ZKw (sr (Za (v:=vI (r10.length:Int)) rfl (Za (v:=u10) rfl ?_)))
   obtain ⟨Ad16,c16,hv16⟩:=Zu (hC.getP 0 rfl)
   refine Zt ZXp (tr rfl hv16) (Zp rfl rfl (dn (Z2 rfl (decide_eq_false (by omega)) ?_)))
   refine ZLa (Zj (Zj (Z0 ?_)))
   refine Ze (sr (Za (v:=v12) rfl ?_))
   have hs11:=Zai hC 0 rfl
   replace hC:=hC.thaw 0 rfl (ZKv (ZNz.sl) s10 [v12] f10) (fun h_=>ZXr _ h_.1) (fun _ hb_=>hb_)
   refine Zg [v12] _ ZXy rfl rfl rfl (Zf0 s10 h _ (hC.getP 0 rfl)) (fun ret12 w27 hR12=>?_)
   obtain ⟨r11,u12,f13,rfl,h,hr14,hf11,hB12⟩:=hR12
   refine⟨_,rfl,?_⟩
   have hs12:∀ b,b∈f13→w0.heap.size≤b:=(fun b hb=>(hf11 b hb).elim (fun h_=>ZDa hC.size h_) (fun hb=>hs11 b hb))
   replace hC:=hC.pushR hB12 (ZKv (ZNz.sl) r11 [u12] f13) hr14 (fun b hb=>(hf11 b hb).elim .inl (fun hb=>.inr (⟨_,List.mem_of_getElem? (i:=0) rfl,hb⟩)))
   refine Zd (v:=u12) rfl (dn (ZK4 ?_))
   refine Zi (fn:=Tryz.f169) rfl ?_ ⟨r11,u12,f13,rfl,h,(hC.getP 0 rfl),(fun b hb=>hs12 b hb),hC.below⟩ (.inl rfl)
   exact Zf rfl
  ·skip
   exact⟨.slice (some ⟨b12,0,none⟩) 0 0,((ZLw (ZD0 (.slice (some ⟨b12,0,none⟩) 0 0)))++([]:List (List Nat)).flatten),(sl ⟨rfl,rfl,rfl,rfl,trivial⟩),(hC.sP [0,2] rfl)⟩
 ·skip
  exact⟨.slice (some ⟨b5,0,none⟩) 0 0,((ZLw (ZD0 (.slice (some ⟨b5,0,none⟩) 0 0)))++([]:List (List Nat)).flatten),(sl ⟨rfl,rfl,rfl,rfl,rfl,trivial⟩),hC⟩
def Zcu (a0:List Int) (a1:List A8) (K:ZKy→Prop):Prop :=
 Yc (fun i10 (s10:(List Term)) nx10=>((0≤(i10:Int)∧(i10:Int) < (a0.length:Int))∧(if a0.getD i10 ZC7≠0 then((0≤(i10:Int)∧(i10:Int) < (a0.length:Int))∧(Zy (s10.length+1) 16∧nx10 (s10++[(⟨a1.getD i10 ZC7,a0.getD i10 ZC7⟩:Term)]))) else nx10 s10))) (fun (s10:(List Term))=>K (⟨s10⟩:ZKy)) a1.length 0 []
theorem Znv (a0:List Int) (a1:List A8)  {K:ZKy→Prop} (h:Zcu a0 a1 K) (w0:World) (q0:ZNz.rep a0 [u0_0] fp0 w0) (q1:((EA .u8).ty.sl).rep a1 [u1_0] fp1 w0) :
  Calls ZKz 170 #[u0_0,u1_0] w0 fun e w'=>∃ (r0:ZKy) (z0_0:Value) (fz0:List Nat),
   e=.returned (.agg #[z0_0])∧K r0∧(ZLd (Yy 162) r0 [z0_0] fz0).holds w'∧(∀ b,b∈fz0→w0.heap.size≤b)∧Bel w0 w':=by
 unfold Zcu at h
 refine cof ZX7 rfl 34 Tryz.ntmps170 ?_
 have hC:=ZLh (X:=Nox) w0 [ZKv TInts a0 [u0_0] fp0,ZKv ((EA .u8).ty.sl) a1 [u1_0] fp1] (alc q0 (al1 q1))
 refine sr (Ys hC [.slice none 0 0] z55 rfl fun b3 w5 hB_ hC=>dn (sr (J0 [] rfl (Zfi   _) (Ys hC [.slice none 0 0] z55 rfl fun b6 w8 hB_ hC=>Z4 (v:=.agg #[.slice none 0 0]) hC 0 [.slice none 0 0] [.slice none 0 0] rfl ag55.size rfl rfl rfl rfl rfl (ZK5 rfl) rfl fun w9 hC=>dn (ZKw (sr (Zd (v:=vI 0) rfl (dn ?_))))))))
 refine ZK2 ?_
 have hN10:a1.length≤9223372036854775807:=Y2 (hC.getP 1 rfl)
 refine Yk (S:=(List Term)) _ _ (fun i10 s10 e_ w_=>∃ (v10:Value),Zv e_ [(0,u0_0),(1,u1_0),(4,vQ b3),(5,vQ b6),(6,vI (i10:Int))]∧Ctx Nox w0 w_ [own 162 9 v10 s10.length (ZKx.encs s10),blk b6 55 [v10],blk b3 55 [.slice none 0 0]] [ZKv TInts a0 [u0_0] fp0,ZKv ((EA .u8).ty.sl) a1 [u1_0] fp1]) a1.length ?_ ?_ (s0:=[]) ?_ h
 ·clear hC h
  rintro i10 s10 e_ w10 nx10 K10 hi10 ⟨v10,hS_,hC⟩ h hK10
  rw [ue hS_]
  refine ZKw (sr (Za (v:=vI (i10:Int)) rfl (Za (v:=u1_0) rfl ?_)))
  obtain ⟨Ad12,c10,hv13⟩:=Zu (hC.getP 1 rfl)
  refine Zt ZXq (tr rfl hv13) (Zp rfl rfl (dn (Z6 rfl (decide_eq_true (by omega)) (ZK0 (Ze (ZKw (ZK2 (sr (Za (v:=u0_0) rfl (Za (v:=vI (i10:Int)) rfl ?_))))))))))
  obtain ⟨⟨h10,h11⟩,h⟩:=h
  obtain ⟨Ad13,c11,hv10⟩:=Zx (hC.getP 0 rfl) i10 (show i10 < a0.length by omega)
  refine Yn (len:=a0.length) ZLf sc2.size (tr rfl hv10) rfl h10 h11 (Yo (vI (a0.getD i10 ZC7)) (Ye (hC.getP 0 rfl) hv10 i10 (show i10 < a0.length by omega)) sc2 rfl (Y5 rfl rfl (dn ?_)))
  refine Zs rfl (fun hb10=>?_) (fun hb10=>?_)
  ·replace h:=ift h (ct hb10)
   refine Yq 12 Yl [0,1,0,0,12,28,0,0,192,448,1020,2044,4095,8191,16383] [1,4,5,8,9,10] [0,2,3,6,7] (by kernel_rfl) (by kernel_rfl) (by kernel_rfl) (fun hM10 hM11 w11 hB_=>?_)
   replace hC:=hC.grow hB_
   refine bF 0 (vQ b6) rfl rfl hM11 (fun _=>by exact Yr 0 ZK3 rfl sc53.size rfl rfl) (Zc 15 1) (bL 1 (v10) rfl rfl hM10 (fun _ hB_=>by exact Yg (hC.grow hB_) 1 (v10) rfl sc53 rfl rfl) (Zc 15 3) (bM 2 (u1_0) rfl hM11 (Zc 15 7) (bM 3 (vI (i10:Int)) rfl hM11 (Zc 15 15) ?_)))
   obtain ⟨Ad10,c12,hv11⟩:=Zx (hC.getP 1 rfl) i10 hi10
   refine bL 4 (.pointer (some (Ad10.add (i10 * 8)))) rfl rfl hM10 (fun _ hB_=>by exact Y1 (len:=a1.length) ZXq ag136.size (by exact tr rfl hv11) rfl (ZLc _) (ZLv.2 hi10)) (Zc 15 31) (bL 5 (.agg (ZKu (ZKt .u8 (a1.getD i10 ZC7)))) rfl rfl hM10 (fun _ hB_=>by exact Jm (ZKt .u8 (a1.getD i10 ZC7)) (Ye ((hC.grow hB_).getP 1 rfl) hv11 i10 hi10) ag136 rfl rfl) (Zc 15 63) (bM 6 (u0_0) rfl hM11 (Zc 15 127) (bM 7 (vI (i10:Int)) rfl hM11 (Zc 15 255) ?_)))
   obtain ⟨⟨h12,h13⟩,h⟩:=h
   obtain ⟨Ad11,c13,hv12⟩:=Zx (hC.getP 0 rfl) i10 (show i10 < a0.length by omega)
   refine bL 8 (.pointer (some (Ad11.add (i10 * 1)))) rfl rfl hM10 (fun _ hB_=>by exact Y1 (len:=a0.length) ZLf sc2.size (by exact tr rfl hv12) rfl h12 h13) (Zc 15 511) (bL 9 (vI (a0.getD i10 ZC7)) rfl rfl hM10 (fun _ hB_=>by exact Xp (vI (a0.getD i10 ZC7)) (Ye ((hC.grow hB_).getP 0 rfl) hv12 i10 (show i10 < a0.length by omega)) sc2 rfl) (Zc 15 1023) (bL 10 (.agg (ZKu (Term.enc (⟨a1.getD i10 ZC7,a0.getD i10 ZC7⟩:Term)))) rfl rfl hM10 (fun _ hB_=>by exact Zjd [(0,.agg (ZKu (ZKt .u8 (a1.getD i10 ZC7)))),(1,vI (a0.getD i10 ZC7))] rfl (Zgv (a1.getD i10 ZC7) (a0.getD i10 ZC7)  _)) (Zc 15 2047) (aO 11 rfl (Yh (sz:=9) hC [(0,.agg (ZKu (Term.enc (⟨a1.getD i10 ZC7,a0.getD i10 ZC7⟩:Term))))] (ZKx.encs [(⟨a1.getD i10 ZC7,a0.getD i10 ZC7⟩:Term)]) rfl (fun _=>Zfj (⟨a1.getD i10 ZC7,a0.getD i10 ZC7⟩:Term) _) rfl (by decide) fun b10 w12 hB_ hC=>done (aK (by assumption) (Zc 15 4095) (Z7 12 (by decide) (by decide) (by kernel_rfl) (by kernel_rfl) rfl ?_))))))
   obtain ⟨hm10,h⟩:=h
   refine Jf hC 1 ZK6 Zfk rfl (by decide) (by decide) rfl (Zag (hC.getM 0 rfl)) (fun q hq=>ZL1 (E:=ETerm) _ q hq) rfl rfl hm10 fun v11 w13 hC=>?_
   replace hC:=Y9 hC 1 ((s10++[(⟨a1.getD i10 ZC7,a0.getD i10 ZC7⟩:Term)]).length) (ZKx.encs (s10++[(⟨a1.getD i10 ZC7,a0.getD i10 ZC7⟩:Term)])) rfl (by simp) (by first | (simp [ZLo]; done) | simp [ZLo,ZTn])
   refine Z1 0 ZK3 rfl sc53.size rfl rfl (Z4 (v:=v11) hC 2 [v11] [v11] rfl sc53.size rfl rfl (Zb0 (hC.getM 1 rfl)) rfl (Xr (X7 (hC.getM 1 rfl)) rfl) (ZK5 rfl) rfl fun w14 hC=>done (Z8 (Zr (Ze (Zh (Za (v:=vI (i10:Int)) rfl (Zq rfl rfl (Zd (v:=vI (ZFm.wrap ((i10:Int)+1))) rfl (done ?_)))))))))
   exact hK10 (s10++[(⟨a1.getD i10 ZC7,a0.getD i10 ZC7⟩:Term)]) _ _ ⟨v11,(sl ⟨rfl,rfl,rfl,rfl,(tr rfl (congrArg _ (Z5 hi10 hN10))),trivial⟩),(hC.xM [1,2,3] rfl)⟩ h
  ·replace h:=Zl h (cf hb10)
   refine ZK0 (Zr (Ze (Zh (Za (v:=vI (i10:Int)) rfl (Zq rfl rfl (Zd (v:=vI (ZFm.wrap ((i10:Int)+1))) rfl (done ?_)))))))
   exact hK10 s10 _ _ ⟨v10,(sl ⟨rfl,rfl,rfl,rfl,(tr rfl (congrArg _ (Z5 hi10 hN10))),trivial⟩),hC⟩ h
 ·clear hC h
  rintro s10 e_ w15 K10 ⟨v10,hS_,hC⟩ h
  rw [ue hS_]
  refine ZKw (sr (Za (v:=vI (a1.length:Int)) rfl (Za (v:=u1_0) rfl ?_)))
  obtain ⟨Ad14,c14,hv14⟩:=Zu (hC.getP 1 rfl)
  refine Zt ZXq (tr rfl hv14) (Zp rfl rfl (dn (Z2 rfl (decide_eq_false (by omega)) ?_)))
  refine ZLa (Zj (Zj (Z0 ?_)))
  refine Ze (sr (Yw hC 1 [v10] rfl ag55 rfl rfl rfl (Z4 (v:=.agg #[v10]) hC 2 [v10] [v10] rfl ag55.size rfl rfl rfl rfl (Xr (X7 (hC.getM 0 rfl)) rfl) (ZK5 rfl) rfl fun w16 hC=>dn (ZK4 ?_))))
  refine Zi (fn:=Tryz.f170) rfl ?_ ⟨(⟨s10⟩:ZKy),v10,(ZLw (ZD0 v10)),rfl,h,(Zch (Xq (hC.getM 0 rfl))),(Xi hC 0 rfl),hC.below⟩ (.inl rfl)
  exact J8 hC 2 rfl ag55 rfl rfl
 ·skip
  replace hC:=hC.pushNil 162 9
  exact⟨.slice none 0 0,(sl ⟨rfl,rfl,rfl,rfl,rfl,trivial⟩),hC⟩
def Zdh (a0:Alg) (a1:Int) (a2:Int) (a3:Int) (K:List (List Int)→Prop):Prop :=
 Zb7 a0 a2 a3 (fun r10=>Zb7 a0 0 a3 (fun r11=>Zb7 a0 0 (ZFm.wrap (a3+1)) (fun r12=>Yc (fun i11 (s10:(List (List Int))) nx11=>Zac (r10.getD i11 ZC7) 1 (fun r21=>Zc8 (⟨a0.degrees,a0.images⟩:Alg) r21 (fun r22=>Zbr r22 r12 (fun r20=>Yc (fun i10 (s11:(List Int)) nx10=>Zcs (r12.getD i10 ZC7) (fun r25=>(if r25 < ZFm.wrap (a2+a1) then((0≤(i10:Int)∧(i10:Int) < (r20.length:Int))∧(Zy (s11.length+1) 8∧nx10 (s11++[r20.getD i10 ZC7]))) else nx10 s11))) (fun (s11:(List Int))=>(Zy (s10.length+1) 24∧nx11 (s10++[s11]))) r12.length 0 [])))) (fun (s10:(List (List Int)))=>(if(s10.length:Int) > 0 then((0≤(0:Int)∧(0:Int) < (s10.length:Int))∧Zf1 s10 ((s10.getD 0 ZC7).length:Int) (fun r18=>Yc (fun i12 (s12:(List (List Int))) nx12=>Zcu (r18.getD i12 ZC7) r10 (fun r14=>Zbr r14 r11 (fun r15=>(Zy (s12.length+1) 24∧nx12 (s12++[r15]))))) (fun (s12:(List (List Int)))=>K s12) r18.length 0 [])) else Zf1 s10 0 (fun r19=>Yc (fun i13 (s13:(List (List Int))) nx13=>Zcu (r19.getD i13 ZC7) r10 (fun r16=>Zbr r16 r11 (fun r17=>(Zy (s13.length+1) 24∧nx13 (s13++[r17]))))) (fun (s13:(List (List Int)))=>K s13) r19.length 0 []))) r10.length 0 [])))
theorem Zkw (a0:Alg) (a1:Int) (a2:Int) (a3:Int)  {K:List (List Int)→Prop} (h:Zdh a0 a1 a2 a3 K) (w0:World) (q0:TAlg.rep a0 [u0_0,u0_1] fp0 w0) :
  Calls ZKz 110 #[.agg #[u0_0,u0_1],vI a1,vI a2,vI a3] w0 fun e w'=>∃ (r0:List (List Int)) (z0_0:Value) (fz0:List Nat),
   e=.returned (z0_0)∧K r0∧(ZLd (ZTe 22 (ZTe 2 (eI.tr))) r0 [z0_0] fz0).holds w'∧(∀ b,b∈fz0→w0.heap.size≤b)∧Bel w0 w':=by
 unfold Zdh at h
 refine cof ZX3 rfl 104 Tryz.ntmps110 ?_
 have hC:=ZLh (X:=Nox) w0 [ZKv TAlg a0 [u0_0,u0_1] fp0] (al1 q0)
 replace hC:=hC.dAlg 0 rfl
 refine sr (Yi (v:=.agg #[u0_0,u0_1]) hC [u0_0,u0_1] rfl rfl fun b4 w6 hB_ hC=>Zd (v:=.slice none 0 0) rfl (dn (ZKw ?_)))
 refine Yq 10 Yl [0,0,0,7,0,0,63,0,0,256,1023,2047,4095,8191] [0,4,7] [1,2,5,8,9] (by kernel_rfl) (by kernel_rfl) (by kernel_rfl) (fun hM8 hM9 w7 hB_=>?_)
 replace hC:=hC.grow hB_
 refine bL 0 (.agg #[u0_0,u0_1]) rfl rfl hM8 (fun _ hB_=>by exact Xc (hC.grow hB_) 0 [u0_0,u0_1] rfl ag32 rfl rfl rfl) (Zc 14 1) (bM 1 (vI a2) rfl hM9 (Zc 14 3) (bM 2 (vI a3) rfl hM9 (Zc 14 7) (bL 4 (.agg #[u0_0,u0_1]) rfl rfl hM8 (fun _ hB_=>by exact Xc (hC.grow hB_) 0 [u0_0,u0_1] rfl ag32 rfl rfl rfl) (Zc 14 23) (bM 5 (vI a3) rfl hM9 (Zc 14 55) (bL 7 (.agg #[u0_0,u0_1]) rfl rfl hM8 (fun _ hB_=>by exact Xc (hC.grow hB_) 0 [u0_0,u0_1] rfl ag32 rfl rfl rfl) (Zc 14 183) (bM 8 (vI a3) rfl hM9 (Zc 14 439) (bF 9 (vI (ZFm.wrap (a3+1))) rfl rfl hM9 (fun _=>by exact Zbx rfl rfl) (Zc 14 951) (aO 3 rfl ?_))))))))
 refine Zg [.agg #[u0_0,u0_1],vI a2,vI a3] _ ZXt rfl rfl rfl (Zct a0 a2 a3 h _ (Yp (hC.getP 1 rfl) (hC.getP 0 rfl))) (fun ret10 w10 hR10=>?_)
 obtain ⟨r10,u10,f15,rfl,h,hr13,hf12,hB10⟩:=hR10
 refine⟨_,rfl,?_⟩
 replace hC:=hC.push hB10 (ZLd (ZTe 136 ((EA .u8).tr)) r10 [u10] f15) hr13 hf12
 obtain ⟨ho10,hf13⟩:=Y6 (hC.getM 0 rfl).1
 subst hf13
 replace hC:=hC.recast (c:=own 136 8 u10 r10.length ((EA .u8).encs r10)) (fun _ h_=>h_) (fun _=>ho10)
 refine done (aK (by assumption) (Zc 14 959) (aO 6 rfl ?_))
 refine Zg [.agg #[u0_0,u0_1],vI 0,vI a3] _ ZXt rfl rfl rfl (Zct a0 0 a3 h _ (Yp (hC.getP 1 rfl) (hC.getP 0 rfl))) (fun ret11 w11 hR11=>?_)
 obtain ⟨r11,u11,f16,rfl,h,hr14,hf14,hB11⟩:=hR11
 refine⟨_,rfl,?_⟩
 replace hC:=hC.push hB11 (ZLd (ZTe 136 ((EA .u8).tr)) r11 [u11] f16) hr14 hf14
 obtain ⟨ho11,hf15⟩:=Y6 (hC.getM 0 rfl).1
 subst hf15
 replace hC:=hC.recast (c:=own 136 8 u11 r11.length ((EA .u8).encs r11)) (fun _ h_=>h_) (fun _=>ho11)
 refine done (aK (by assumption) (Zc 14 1023) (Z7 10 (by decide) (by decide) (by kernel_rfl) (by kernel_rfl) rfl ?_))
 refine Zg [.agg #[u0_0,u0_1],vI 0,vI (ZFm.wrap (a3+1))] _ ZXt rfl rfl rfl (Zct a0 0 (ZFm.wrap (a3+1)) h _ (Yp (hC.getP 1 rfl) (hC.getP 0 rfl))) (fun ret12 w12 hR12=>?_)
 obtain ⟨r12,u12,f17,rfl,h,hr15,hf16,hB12⟩:=hR12
 refine⟨_,rfl,?_⟩
 replace hC:=hC.push hB12 (ZLd (ZTe 136 ((EA .u8).tr)) r12 [u12] f17) hr15 hf16
 obtain ⟨ho12,hf17⟩:=Y6 (hC.getM 0 rfl).1
 subst hf17
 replace hC:=hC.recast (c:=own 136 8 u12 r12.length ((EA .u8).encs r12)) (fun _ h_=>h_) (fun _=>ho12)
 refine Zd (v:=u10) rfl (Zd (v:=u11) rfl (Zd (v:=u12) rfl (done (Z8 (Ze (sr (Yh (sz:=1) hC [] [] rfl (fun _=>Zak _) rfl (by decide) fun b13 w13 hB_ hC=>?_)))))))
 replace hC:=hC.pushM0 (Ya (ZTe 2 (eI.tr)) ([]:List (List Int)) [] []) (Jb _ _) rfl
 replace hC:=hC.gather (c:=ZLd (ZTe 22 (ZTe 2 (eI.tr))) [] [.slice (some ⟨b13,0,none⟩) 0 0] ((ZLw (ZD0 (.slice (some ⟨b13,0,none⟩) 0 0)))++([]:List (List Nat)).flatten)) (fun x_ hx_=>(ZDd.1 hx_).symm) (fun h1_ h2_ hd_=>X3 h2_ h1_ (fun b_ hb_ hb2_=>hd_ b_ hb2_ hb_))
 refine Zd (v:=.slice (some ⟨b13,0,none⟩) 0 0) rfl (dn (ZKw (sr (Zd (v:=vI 0) rfl (dn (ZK2 ?_))))))
 have hN11:r10.length≤9223372036854775807:=Zdm (hC.getM 3 rfl)
 refine Yk (S:=(List (List Int))) _ _ (fun i11 s10 e_ w_=>∃ (v11:Value),∃ (f10:List Nat),Zv e_ [(1,vI a1),(2,vI a2),(4,vQ b4),(9,u10),(10,u11),(11,u12),(12,v11),(13,vI (i11:Int))]∧Ctx Nox w0 w_ [ZLd (ZTe 22 (ZTe 2 (eI.tr))) s10 [v11] f10,own 136 8 u12 r12.length ((EA .u8).encs r12),own 136 8 u11 r11.length ((EA .u8).encs r11),own 136 8 u10 r10.length ((EA .u8).encs r10),blk b4 32 [u0_0,u0_1]] [ZKv ZLi.sl a0.images [u0_1] fp0,ZKv TInts a0.degrees [u0_0] fp0,ZKv TAlg a0 [u0_0,u0_1] fp0]) r10.length ?_ ?_ (s0:=[]) ?_ h
 ·clear hC h
  rintro i11 s10 e_ w14 nx11 K10 hi13 ⟨v11,f10,hS_,hC⟩ h hK11
  rw [ue hS_]
  refine ZKw (sr (Za (v:=vI (i11:Int)) rfl (Za (v:=u10) rfl ?_)))
  obtain ⟨Ad11,c10,hv16⟩:=X1 (hC.getM 3 rfl)
  refine Zt ZXq (tr rfl hv16) (Zp rfl rfl (dn (Z6 rfl (decide_eq_true (by omega)) (ZK0 (Ze (ZKw (ZK2 (ZKw ?_))))))))
  refine Yq 10 Yl [0,0,0,0,12,28,60,126,0,510,1023,2047] [1,4,5] [2,3,8] (by kernel_rfl) (by kernel_rfl) (by kernel_rfl) (fun hM10 hM11 w15 hB_=>?_)
  replace hC:=hC.grow hB_
  refine bL 1 (.agg #[u0_0,u0_1]) rfl rfl hM10 (fun _ hB_=>by exact Xc (hC.grow hB_) 4 [u0_0,u0_1] rfl ag32 rfl rfl rfl) (Zc 12 2) (bM 2 (u10) rfl hM11 (Zc 12 6) (bM 3 (vI (i11:Int)) rfl hM11 (Zc 12 14) ?_))
  obtain ⟨Ad10,c11,hv10⟩:=Xz (hC.getM 3 rfl) (ZOj (ZEp _) hi13)
  refine bL 4 (.pointer (some ⟨Ad10,i11 * 8,none⟩)) rfl rfl hM10 (fun _ hB_=>by exact Zbj (i11 * 8) ZXq ag136.size (by exact tr rfl hv10) rfl (ZLc _) (ZLv.2 hi13) rfl) (Zc 12 30) (bL 5 (.agg (ZKu (ZKt .u8 (r10.getD i11 ZC7)))) rfl rfl hM10 (fun _ hB_=>by exact Jm (ZKt .u8 (r10.getD i11 ZC7)) (Zah ((hC.grow hB_).getM 3 rfl) hv10 i11 hi13) ag136 rfl rfl) (Zc 12 62) (bM 8 (u12) rfl hM11 (Zc 12 318) ?_))
  refine Zdp (fun e_ w_=>∃ (u15:Value),∃ (r13:List Int),∃ (b16:Nat),Zv e_ [(1,vI a1),(2,vI a2),(4,vQ b4),(9,u10),(10,u11),(11,u12),(12,v11),(13,vI (i11:Int)),(14,.slice (some ⟨b16,0,none⟩) 0 0),(15,u15)]∧Ctx Nox w0 w_ [own 2 1 u15 r13.length (eI.encs r13),own 2 1 (.slice (some ⟨b16,0,none⟩) 0 0) 0 (eI.encs []),ZLd (ZTe 22 (ZTe 2 (eI.tr))) s10 [v11] f10,own 136 8 u12 r12.length ((EA .u8).encs r12),own 136 8 u11 r11.length ((EA .u8).encs r11),own 136 8 u10 r10.length ((EA .u8).encs r10),blk b4 32 [u0_0,u0_1]] [ZKv ZLi.sl a0.images [u0_1] fp0,ZKv TInts a0.degrees [u0_0] fp0,ZKv TAlg a0 [u0_0,u0_1] fp0]∧(Yc (fun i10 (s11:(List Int)) nx10=>Zcs (r12.getD i10 ZC7) (fun r25=>(if r25 < ZFm.wrap (a2+a1) then((0≤(i10:Int)∧(i10:Int) < (r13.length:Int))∧(Zy (s11.length+1) 8∧nx10 (s11++[r13.getD i10 ZC7]))) else nx10 s11))) (fun (s11:(List Int))=>(Zy (s10.length+1) 24∧nx11 (s10++[s11]))) r12.length 0 [])) ?_ ?_
  ·clear hC h
   rintro e_ w16 ⟨u15,r13,b16,hS_,hC,h⟩
   rw [ue hS_]
   refine Ze (ZKw (sr (Zd (v:=vI 0) rfl (dn (ZK2 ?_)))))
   have hN10:r12.length≤9223372036854775807:=Zdm (hC.getM 3 rfl)
   refine Yk (S:=(List Int)) _ _ (fun i10 s11 e_ w_=>∃ (v10:Value),Zv e_ [(1,vI a1),(2,vI a2),(4,vQ b4),(9,u10),(10,u11),(11,u12),(12,v11),(13,vI (i11:Int)),(14,v10),(15,u15),(16,vI (i10:Int))]∧Ctx Nox w0 w_ [own 2 1 u15 r13.length (eI.encs r13),own 2 1 v10 s11.length (eI.encs s11),ZLd (ZTe 22 (ZTe 2 (eI.tr))) s10 [v11] f10,own 136 8 u12 r12.length ((EA .u8).encs r12),own 136 8 u11 r11.length ((EA .u8).encs r11),own 136 8 u10 r10.length ((EA .u8).encs r10),blk b4 32 [u0_0,u0_1]] [ZKv ZLi.sl a0.images [u0_1] fp0,ZKv TInts a0.degrees [u0_0] fp0,ZKv TAlg a0 [u0_0,u0_1] fp0]) r12.length ?_ ?_ (s0:=[]) ?_ h
   ·clear hC h
    rintro i10 s11 e_ w17 nx10 K11 hi10 ⟨v10,hS_,hC⟩ h hK10
    rw [ue hS_]
    refine ZKw (sr (Za (v:=vI (i10:Int)) rfl (Za (v:=u12) rfl ?_)))
    obtain ⟨Ad12,c12,hv17⟩:=X1 (hC.getM 3 rfl)
    refine Zt ZXq (tr rfl hv17) (Zp rfl rfl (dn (Z6 rfl (decide_eq_true (by omega)) (ZK0 (Ze (ZKw (ZK2 (sr (Za (v:=u12) rfl (Za (v:=vI (i10:Int)) rfl ?_))))))))))
    obtain ⟨Ad13,c13,hv11⟩:=Xz (hC.getM 3 rfl) (ZOj (ZEp _) hi10)
    refine X6 (i10 * 8) ZXq ag136.size (tr rfl hv11) rfl (ZLc _) (ZLv.2 hi10) rfl (Ji (ZKt .u8 (r12.getD i10 ZC7)) (Zah (hC.getM 3 rfl) hv11 i10 hi10) ag136 rfl rfl ?_)
    refine Zg [.agg (ZKu (ZKt .u8 (r12.getD i10 ZC7)))] _ ZX1 rfl rfl rfl (Zku (r12.getD i10 ZC7) h _) (fun ret13 w18 hR13=>?_)
    obtain ⟨r25,rfl,h,hB13⟩:=hR13
    refine⟨_,rfl,?_⟩
    replace hC:=hC.grow hB13
    refine Za (v:=vI a2) rfl (Za (v:=vI a1) rfl (Zq rfl rfl (Zp rfl rfl (dn ?_))))
    refine Zs rfl (fun hb10=>?_) (fun hb10=>?_)
    ·replace h:=ift h (ct hb10)
     refine Zh (Za (v:=v10) rfl (Za (v:=u15) rfl (Za (v:=vI (i10:Int)) rfl ?_)))
     obtain ⟨⟨h10,h11⟩,h⟩:=h
     obtain ⟨Ad14,c14,hv12⟩:=Xz (hC.getM 0 rfl) (ZOj (ZEp _) (show i10 < r13.length by omega))
     refine X6 (i10 * 1) ZLf sc2.size (tr rfl hv12) rfl h10 h11 rfl (Yo (vI (r13.getD i10 ZC7)) (Zah (hC.getM 0 rfl) hv12 i10 (show i10 < r13.length by omega)) sc2 rfl (Yh (sz:=1) hC [(0,vI (r13.getD i10 ZC7))] (eI.encs [r13.getD i10 ZC7]) rfl (fun _=>Zib (r13.getD i10 ZC7) _) rfl (by decide) fun b21 w19 hB_ hC=>?_))
     obtain ⟨hm10,h⟩:=h
     refine Jf hC 2 ZLf el2 rfl (by decide) (by decide) rfl (Zag (hC.getM 0 rfl)) (fun q hq=>ZL1 (E:=eI) _ q hq) rfl rfl hm10 fun v14 w20 hC=>?_
     replace hC:=Y9 hC 2 ((s11++[r13.getD i10 ZC7]).length) (eI.encs (s11++[r13.getD i10 ZC7])) rfl (by simp) (by first | (simp [ZLo]; done) | simp [ZLo,ZTn])
     refine Zd (v:=v14) rfl (done (Zr (Ze (Zh (Za (v:=vI (i10:Int)) rfl (Zq rfl rfl (Zd (v:=vI (ZFm.wrap ((i10:Int)+1))) rfl (done ?_))))))))
     exact hK10 (s11++[r13.getD i10 ZC7]) _ _ ⟨v14,(sl ⟨rfl,rfl,rfl,rfl,rfl,rfl,rfl,rfl,rfl,rfl,(tr rfl (congrArg _ (Z5 hi10 hN10))),trivial⟩),(hC.xM [1,2,3,4,5,6,7] rfl)⟩ h
    ·replace h:=Zl h (cf hb10)
     refine ZK0 (Zr (Ze (Zh (Za (v:=vI (i10:Int)) rfl (Zq rfl rfl (Zd (v:=vI (ZFm.wrap ((i10:Int)+1))) rfl (done ?_)))))))
     exact hK10 s11 _ _ ⟨v10,(sl ⟨rfl,rfl,rfl,rfl,rfl,rfl,rfl,rfl,rfl,rfl,(tr rfl (congrArg _ (Z5 hi10 hN10))),trivial⟩),hC⟩ h
   ·clear hC h
    rintro s11 e_ w21 K11 ⟨v10,hS_,hC⟩ h
    rw [ue hS_]
    refine ZKw (sr (Za (v:=vI (r12.length:Int)) rfl (Za (v:=u12) rfl ?_)))
    obtain ⟨Ad15,c15,hv18⟩:=X1 (hC.getM 3 rfl)
    refine Zt ZXq (tr rfl hv18) (Zp rfl rfl (dn (Z2 rfl (decide_eq_false (by omega)) ?_)))
    refine ZLa (Zj (Zj (Z0 ?_)))
    refine Ze (Zh (Za (v:=v11) rfl (Za (v:=v10) rfl (Yh (sz:=1) hC [(0,v10)] [v10] rfl (fun _=>Zad v10 (Zbc (hC.getM 1 rfl)) _) rfl (by decide) fun b10 w22 hB_ hC=>?_))))
    replace hC:=hC.pushM0 (Ya (ZTe 2 (eI.tr)) [] [] []) (Jb _ _) rfl
    replace hC:=hC.sM [3,0,1,2,4,5,6,7,8] (M':=[own 2 1 v10 s11.length (eI.encs s11),Ya (ZTe 2 (eI.tr)) [] [] [],own 22 1 (.slice (some ⟨b10,0,none⟩) 1 1) 1 [v10],own 2 1 u15 r13.length (eI.encs r13),ZLd (ZTe 22 (ZTe 2 (eI.tr))) s10 [v11] f10,own 136 8 u12 r12.length ((EA .u8).encs r12),own 136 8 u11 r11.length ((EA .u8).encs r11),own 136 8 u10 r10.length ((EA .u8).encs r10),blk b4 32 [u0_0,u0_1]]) (by decide) rfl
    replace hC:=hC.gather (c:=Ya (ZTe 2 (eI.tr)) [s11] [v10] [(ZLw (ZD0 v10))]) (fun x_ hx_=>Zbk hx_) (fun h1_ h2_ hd_=>Zbb (c:=[v10]) (id (Xq h1_)) h2_ hd_)
    replace hC:=hC.sM [1,0,2,3,4,5,6,7] (M':=[own 22 1 (.slice (some ⟨b10,0,none⟩) 1 1) 1 [v10],Ya (ZTe 2 (eI.tr)) [s11] [v10] [(ZLw (ZD0 v10))],own 2 1 u15 r13.length (eI.encs r13),ZLd (ZTe 22 (ZTe 2 (eI.tr))) s10 [v11] f10,own 136 8 u12 r12.length ((EA .u8).encs r12),own 136 8 u11 r11.length ((EA .u8).encs r11),own 136 8 u10 r10.length ((EA .u8).encs r10),blk b4 32 [u0_0,u0_1]]) (by decide) rfl
    replace hC:=hC.gather (c:=ZLd (ZTe 22 (ZTe 2 (eI.tr))) [s11] [.slice (some ⟨b10,0,none⟩) 1 1] ((ZLw (ZD0 (.slice (some ⟨b10,0,none⟩) 1 1)))++([(ZLw (ZD0 v10))]:List (List Nat)).flatten)) (fun x_ hx_=>ZDd.1 hx_) (fun h1_ h2_ hd_=>X3 h1_ h2_ hd_)
    replace hC:=hC.sM [2,0,1,3,4,5,6] (M':=[ZLd (ZTe 22 (ZTe 2 (eI.tr))) s10 [v11] f10,ZLd (ZTe 22 (ZTe 2 (eI.tr))) [s11] [.slice (some ⟨b10,0,none⟩) 1 1] ((ZLw (ZD0 (.slice (some ⟨b10,0,none⟩) 1 1)))++([(ZLw (ZD0 v10))]:List (List Nat)).flatten),own 2 1 u15 r13.length (eI.encs r13),own 136 8 u12 r12.length ((EA .u8).encs r12),own 136 8 u11 r11.length ((EA .u8).encs r11),own 136 8 u10 r10.length ((EA .u8).encs r10),blk b4 32 [u0_0,u0_1]]) (by decide) rfl
    obtain ⟨hm11,h⟩:=h
    refine Za8 hC ZXp J2 rfl (by decide) (by decide) rfl rfl hm11 fun v15 f18 w23 hC=>Zd (v:=v15) rfl (done (Zr (Ze (Zh (Za (v:=vI (i11:Int)) rfl (Zq rfl rfl (Zd (v:=vI (ZFm.wrap ((i11:Int)+1))) rfl (done ?_))))))))
    exact hK11 (s10++[s11]) _ _ ⟨v15,f18,(sl ⟨rfl,rfl,rfl,rfl,rfl,rfl,rfl,(tr rfl (congrArg _ (Z5 hi13 hN11))),trivial⟩),(hC.xM [0,2,3,4,5] rfl)⟩ h
   ·skip
    exact⟨.slice (some ⟨b16,0,none⟩) 0 0,(sl ⟨rfl,rfl,rfl,rfl,rfl,rfl,rfl,rfl,rfl,rfl,rfl,trivial⟩),hC⟩
  refine Jx 0 6 rfl rfl (by kernel_rfl) ?_ ?_
  ·skip
   refine Yh (sz:=1) hC [] (eI.encs []) rfl (fun _=>Zdg  _) rfl (by decide) fun b17 w24 hB_ hC=>done (aK (by assumption) (Zc 12 319) (aO 6 rfl ?_))
   refine Zg [.agg (ZKu (ZKt .u8 (r10.getD i11 ZC7))),vI 1] _ Tryz.func95 rfl rfl rfl (Zdu (r10.getD i11 ZC7) 1 h _) (fun ret14 w25 hR14=>?_)
   obtain ⟨r21,u26,f19,rfl,h,hr16,hf18,hB14⟩:=hR14
   refine⟨_,rfl,?_⟩
   replace hC:=hC.push hB14 (ZLd (Yy 162) r21 [u26] f19) hr16 hf18
   obtain ⟨ho13,hf19⟩:=X8 (hC.getM 0 rfl)
   subst hf19
   replace hC:=hC.recast (c:=own 162 9 u26 r21.terms.length (ZKx.encs r21.terms)) (fun _ h_=>h_) (fun _=>ho13)
   refine done (aK (by assumption) (Zc 12 383) (aO 7 rfl ?_))
   refine Zg [.agg #[u0_0,u0_1],.agg #[u26]] _ ZX8 rfl rfl rfl (Zg4 (⟨a0.degrees,a0.images⟩:Alg) r21 h _ (Yp (hC.getP 1 rfl) (hC.getP 0 rfl)) (Y3 (Yv (hC.getM 0 rfl)))) (fun ret15 w26 hR15=>?_)
   obtain ⟨r22,u27,f20,rfl,h,hr17,hf20,hB15⟩:=hR15
   refine⟨_,rfl,?_⟩
   replace hC:=hC.push hB15 (ZLd (Yy 162) r22 [u27] f20) hr17 hf20
   obtain ⟨ho14,hf21⟩:=X8 (hC.getM 0 rfl)
   subst hf21
   replace hC:=hC.recast (c:=own 162 9 u27 r22.terms.length (ZKx.encs r22.terms)) (fun _ h_=>h_) (fun _=>ho14)
   refine done (aK (by assumption) (Zc 12 511) (aO 9 rfl ?_))
   refine Zg [.agg #[u27],u12] _ ZXx rfl rfl rfl (Zez r22 r12 h _ (Y3 (Yv (hC.getM 0 rfl))) (Yv (hC.getM 4 rfl))) (fun ret16 w27 hR16=>?_)
   obtain ⟨r20,u20,f21,rfl,h,hr18,hf22,hB16⟩:=hR16
   refine⟨_,rfl,?_⟩
   replace hC:=hC.push hB16 (ZLd (ZTe 2 (eI.tr)) r20 [u20] f21) hr18 hf22
   obtain ⟨ho15,hf23⟩:=Y6 (hC.getM 0 rfl).1
   subst hf23
   replace hC:=hC.recast (c:=own 2 1 u20 r20.length (eI.encs r20)) (fun _ h_=>h_) (fun _=>ho15)
   refine done (aK (by assumption) (Zc 12 1023) (Z7 10 (by decide) (by decide) (by kernel_rfl) (by kernel_rfl) rfl (Zd (v:=.slice (some ⟨b17,0,none⟩) 0 0) rfl (Zd (v:=u20) rfl (done (Z8 ?_))))))
   exact⟨rfl,_,rfl,⟨u20,r20,b17,(sl ⟨rfl,rfl,rfl,rfl,rfl,rfl,rfl,rfl,rfl,rfl,trivial⟩),(hC.xM [0,3,4,5,6,7,8] rfl),h⟩⟩
  ·skip
   refine Zg [.agg (ZKu (ZKt .u8 (r10.getD i11 ZC7))),vI 1] _ Tryz.func95 rfl rfl rfl (Zdu (r10.getD i11 ZC7) 1 h _) (fun ret17 w28 hR17=>?_)
   obtain ⟨r23,u21,f22,rfl,h,hr19,hf24,hB17⟩:=hR17
   refine⟨_,rfl,?_⟩
   replace hC:=hC.push hB17 (ZLd (Yy 162) r23 [u21] f22) hr19 hf24
   obtain ⟨ho16,hf25⟩:=X8 (hC.getM 0 rfl)
   subst hf25
   replace hC:=hC.recast (c:=own 162 9 u21 r23.terms.length (ZKx.encs r23.terms)) (fun _ h_=>h_) (fun _=>ho16)
   refine done (aK (by assumption) (Zc 12 382) ?_)
   refine Jx 0 7 rfl rfl (by kernel_rfl) ?_ ?_
   ·skip
    refine Yh (sz:=1) hC [] (eI.encs []) rfl (fun _=>Zdg  _) rfl (by decide) fun b18 w29 hB_ hC=>done (aK (by assumption) (Zc 12 383) (aO 7 rfl ?_))
    refine Zg [.agg #[u0_0,u0_1],.agg #[u21]] _ ZX8 rfl rfl rfl (Zg4 (⟨a0.degrees,a0.images⟩:Alg) r23 h _ (Yp (hC.getP 1 rfl) (hC.getP 0 rfl)) (Y3 (Yv (hC.getM 1 rfl)))) (fun ret18 w30 hR18=>?_)
    obtain ⟨r26,u28,f23,rfl,h,hr20,hf26,hB18⟩:=hR18
    refine⟨_,rfl,?_⟩
    replace hC:=hC.push hB18 (ZLd (Yy 162) r26 [u28] f23) hr20 hf26
    obtain ⟨ho17,hf27⟩:=X8 (hC.getM 0 rfl)
    subst hf27
    replace hC:=hC.recast (c:=own 162 9 u28 r26.terms.length (ZKx.encs r26.terms)) (fun _ h_=>h_) (fun _=>ho17)
    refine done (aK (by assumption) (Zc 12 511) (aO 9 rfl ?_))
    refine Zg [.agg #[u28],u12] _ ZXx rfl rfl rfl (Zez r26 r12 h _ (Y3 (Yv (hC.getM 0 rfl))) (Yv (hC.getM 4 rfl))) (fun ret19 w31 hR19=>?_)
    obtain ⟨r27,u22,f24,rfl,h,hr21,hf28,hB19⟩:=hR19
    refine⟨_,rfl,?_⟩
    replace hC:=hC.push hB19 (ZLd (ZTe 2 (eI.tr)) r27 [u22] f24) hr21 hf28
    obtain ⟨ho18,hf29⟩:=Y6 (hC.getM 0 rfl).1
    subst hf29
    replace hC:=hC.recast (c:=own 2 1 u22 r27.length (eI.encs r27)) (fun _ h_=>h_) (fun _=>ho18)
    refine done (aK (by assumption) (Zc 12 1023) (Z7 10 (by decide) (by decide) (by kernel_rfl) (by kernel_rfl) rfl (Zd (v:=.slice (some ⟨b18,0,none⟩) 0 0) rfl (Zd (v:=u22) rfl (done (Z8 ?_))))))
    exact⟨rfl,_,rfl,⟨u22,r27,b18,(sl ⟨rfl,rfl,rfl,rfl,rfl,rfl,rfl,rfl,rfl,rfl,trivial⟩),(hC.xM [0,2,4,5,6,7,8] rfl),h⟩⟩
   ·skip
    refine Zg [.agg #[u0_0,u0_1],.agg #[u21]] _ ZX8 rfl rfl rfl (Zg4 (⟨a0.degrees,a0.images⟩:Alg) r23 h _ (Yp (hC.getP 1 rfl) (hC.getP 0 rfl)) (Y3 (Yv (hC.getM 0 rfl)))) (fun ret20 w32 hR20=>?_)
    obtain ⟨r24,u23,f25,rfl,h,hr22,hf30,hB20⟩:=hR20
    refine⟨_,rfl,?_⟩
    replace hC:=hC.push hB20 (ZLd (Yy 162) r24 [u23] f25) hr22 hf30
    obtain ⟨ho19,hf31⟩:=X8 (hC.getM 0 rfl)
    subst hf31
    replace hC:=hC.recast (c:=own 162 9 u23 r24.terms.length (ZKx.encs r24.terms)) (fun _ h_=>h_) (fun _=>ho19)
    refine done (aK (by assumption) (Zc 12 510) ?_)
    refine Jx 0 9 rfl rfl (by kernel_rfl) ?_ ?_
    ·skip
     refine Yh (sz:=1) hC [] (eI.encs []) rfl (fun _=>Zdg  _) rfl (by decide) fun b19 w33 hB_ hC=>done (aK (by assumption) (Zc 12 511) (aO 9 rfl ?_))
     refine Zg [.agg #[u23],u12] _ ZXx rfl rfl rfl (Zez r24 r12 h _ (Y3 (Yv (hC.getM 1 rfl))) (Yv (hC.getM 4 rfl))) (fun ret21 w34 hR21=>?_)
     obtain ⟨r28,u24,f26,rfl,h,hr23,hf32,hB21⟩:=hR21
     refine⟨_,rfl,?_⟩
     replace hC:=hC.push hB21 (ZLd (ZTe 2 (eI.tr)) r28 [u24] f26) hr23 hf32
     obtain ⟨ho20,hf33⟩:=Y6 (hC.getM 0 rfl).1
     subst hf33
     replace hC:=hC.recast (c:=own 2 1 u24 r28.length (eI.encs r28)) (fun _ h_=>h_) (fun _=>ho20)
     refine done (aK (by assumption) (Zc 12 1023) (Z7 10 (by decide) (by decide) (by kernel_rfl) (by kernel_rfl) rfl (Zd (v:=.slice (some ⟨b19,0,none⟩) 0 0) rfl (Zd (v:=u24) rfl (done (Z8 ?_))))))
     exact⟨rfl,_,rfl,⟨u24,r28,b19,(sl ⟨rfl,rfl,rfl,rfl,rfl,rfl,rfl,rfl,rfl,rfl,trivial⟩),(hC.xM [0,1,4,5,6,7,8] rfl),h⟩⟩
    ·skip
     refine Zg [.agg #[u23],u12] _ ZXx rfl rfl rfl (Zez r24 r12 h _ (Y3 (Yv (hC.getM 0 rfl))) (Yv (hC.getM 3 rfl))) (fun ret22 w35 hR22=>?_)
     obtain ⟨r29,u25,f27,rfl,h,hr24,hf34,hB22⟩:=hR22
     refine⟨_,rfl,?_⟩
     replace hC:=hC.push hB22 (ZLd (ZTe 2 (eI.tr)) r29 [u25] f27) hr24 hf34
     obtain ⟨ho21,hf35⟩:=Y6 (hC.getM 0 rfl).1
     subst hf35
     replace hC:=hC.recast (c:=own 2 1 u25 r29.length (eI.encs r29)) (fun _ h_=>h_) (fun _=>ho21)
     refine done (aK (by assumption) (Zc 12 1022) (aO 0 rfl (Yh (sz:=1) hC [] (eI.encs []) rfl (fun _=>Zdg  _) rfl (by decide) fun b20 w36 hB_ hC=>done (aK (by assumption) (Zc 12 1023) (Z7 10 (by decide) (by decide) (by kernel_rfl) (by kernel_rfl) rfl (Zd (v:=.slice (some ⟨b20,0,none⟩) 0 0) rfl (Zd (v:=u25) rfl (done (Z8 ?_)))))))))
     exact⟨rfl,_,rfl,⟨u25,r29,b20,(sl ⟨rfl,rfl,rfl,rfl,rfl,rfl,rfl,rfl,rfl,rfl,trivial⟩),(hC.xM [1,0,4,5,6,7,8] rfl),h⟩⟩
 ·clear hC h
  rintro s10 e_ w37 K10 ⟨v11,f10,hS_,hC⟩ h
  rw [ue hS_]
  refine ZKw (sr (Za (v:=vI (r10.length:Int)) rfl (Za (v:=u10) rfl ?_)))
  obtain ⟨Ad16,c16,hv19⟩:=X1 (hC.getM 3 rfl)
  refine Zt ZXq (tr rfl hv19) (Zp rfl rfl (dn (Z2 rfl (decide_eq_false (by omega)) ?_)))
  refine ZLa (Zj (Zj (Z0 ?_)))
  refine Ze (sr (Zd (v:=vI 0) rfl (dn (ZKw (sr (Za (v:=v11) rfl ?_))))))
  obtain ⟨Ad17,c17,hv20⟩:=Zdr (hC.getM 0 rfl)
  refine Zt ZXp (tr rfl hv20) (Jg rfl rfl (dn ?_))
  refine Zs rfl (fun hb11=>?_) (fun hb11=>?_)
  ·replace h:=ift h (ct hb11)
   refine Zh (Za (v:=v11) rfl ?_)
   have hs10:=Zai hC 0 rfl
   replace hC:=hC.thaw 0 rfl (ZKv (ZNz.sl) s10 [v11] f10) (fun h_=>ZXr _ h_.1) (fun _ hb_=>hb_)
   obtain ⟨⟨h12,h13⟩,h⟩:=h
   obtain ⟨Ad18,c18,hv13⟩:=Zx (hC.getP 0 rfl) 0 (show 0 < s10.length by omega)
   refine Yn (len:=s10.length) ZXp sc22.size (tr rfl hv13) rfl h12 h13 ?_
   obtain ⟨cs_,hl10,hc10,hr10⟩:=Xh (hC.getP 0 rfl) hv13 0 (show 0 < s10.length by omega)
   obtain ⟨u31,rfl⟩:=ZLt.1 hl10
   clear hl10
   rw [Xg _ _ (show 0 < s10.length by omega)] at hr10
   replace hC:=hC.derive 0 rfl (ZKv TInts (s10.getD 0 ZC7) [u31] f10) (fun _=>hr10) (fun _ hb_=>hb_)
   refine Yo (u31) hc10 sc22 rfl ?_
   obtain ⟨Ad19,c19,hv21⟩:=Zu (hC.getP 0 rfl)
   refine Zt ZLf (tr rfl hv21) (Zd (v:=vI ((s10.getD 0 ZC7).length:Int)) rfl (dn (sr (Za (v:=v11) rfl (Za (v:=vI ((s10.getD 0 ZC7).length:Int)) rfl ?_)))))
   refine Zg [v11,vI ((s10.getD 0 ZC7).length:Int)] _ ZYe rfl rfl rfl (Zrg s10 ((s10.getD 0 ZC7).length:Int) h _ (hC.getP 1 rfl)) (fun ret23 w38 hR23=>?_)
   obtain ⟨r18,u16,f13,rfl,h,hr25,hf10,hB23⟩:=hR23
   refine⟨_,rfl,?_⟩
   have hs11:=Zl8 hC.size hf10
   replace hC:=hC.pushR hB23 (ZKv (ZNz.sl) r18 [u16] f13) hr25 (fun b hb=>.inl (hf10 b hb))
   refine Yh (sz:=1) hC [] [] rfl (fun _=>Zak _) rfl (by decide) fun b14 w39 hB_ hC=>?_
   replace hC:=hC.pushM0 (Ya (ZTe 2 (eI.tr)) ([]:List (List Int)) [] []) (Jb _ _) rfl
   replace hC:=hC.gather (c:=ZLd (ZTe 22 (ZTe 2 (eI.tr))) [] [.slice (some ⟨b14,0,none⟩) 0 0] ((ZLw (ZD0 (.slice (some ⟨b14,0,none⟩) 0 0)))++([]:List (List Nat)).flatten)) (fun x_ hx_=>(ZDd.1 hx_).symm) (fun h1_ h2_ hd_=>X3 h2_ h1_ (fun b_ hb_ hb2_=>hd_ b_ hb2_ hb_))
   refine Zd (v:=u16) rfl (Zd (v:=.slice (some ⟨b14,0,none⟩) 0 0) rfl (dn (ZKw (sr (Zd (v:=vI 0) rfl (dn (ZK2 ?_)))))))
   have hN12:r18.length≤9223372036854775807:=Y2 (hC.getP 0 rfl)
   refine Yk (S:=(List (List Int))) _ _ (fun i12 s12 e_ w_=>∃ (v12:Value),∃ (f11:List Nat),Zv e_ [(9,u10),(10,u11),(18,u16),(19,v12),(20,vI (i12:Int))]∧Ctx Nox w0 w_ [ZLd (ZTe 22 (ZTe 2 (eI.tr))) s12 [v12] f11,own 136 8 u11 r11.length ((EA .u8).encs r11),own 136 8 u10 r10.length ((EA .u8).encs r10)] [ZKv (ZNz.sl) r18 [u16] f13,ZKv ZLi.sl a0.images [u0_1] fp0,ZKv TInts a0.degrees [u0_0] fp0,ZKv TAlg a0 [u0_0,u0_1] fp0]) r18.length ?_ ?_ (s0:=[]) ?_ h
   ·clear hC h
    rintro i12 s12 e_ w40 nx12 K12 hi11 ⟨v12,f11,hS_,hC⟩ h hK12
    rw [ue hS_]
    refine ZKw (sr (Za (v:=vI (i12:Int)) rfl (Za (v:=u16) rfl ?_)))
    obtain ⟨Ad20,c20,hv22⟩:=Zu (hC.getP 0 rfl)
    refine Zt ZXp (tr rfl hv22) (Zp rfl rfl (dn (Z6 rfl (decide_eq_true (by omega)) (ZK0 (Ze (ZKw (ZK2 (Zh (Za (v:=v12) rfl (Za (v:=u16) rfl (Za (v:=vI (i12:Int)) rfl ?_)))))))))))
    obtain ⟨Ad21,c21,hv14⟩:=Zx (hC.getP 0 rfl) i12 hi11
    refine Yn (len:=r18.length) ZXp sc22.size (tr rfl hv14) rfl (ZLc _) (ZLv.2 hi11) ?_
    obtain ⟨cs_,hl11,hc11,hr11⟩:=Xh (hC.getP 0 rfl) hv14 i12 hi11
    obtain ⟨u29,rfl⟩:=ZLt.1 hl11
    clear hl11
    rw [Xg _ _ hi11] at hr11
    replace hC:=hC.derive 0 rfl (ZKv TInts (r18.getD i12 ZC7) [u29] f13) (fun _=>hr11) (fun _ hb_=>hb_)
    refine Yo (u29) hc11 sc22 rfl (Za (v:=u10) rfl ?_)
    refine Zg [u29,u10] _ ZX7 rfl rfl rfl (Znv (r18.getD i12 ZC7) r10 h _ (hC.getP 0 rfl) (Yv (hC.getM 2 rfl))) (fun ret24 w41 hR24=>?_)
    obtain ⟨r14,u18,f28,rfl,h,hr26,hf36,hB24⟩:=hR24
    refine⟨_,rfl,?_⟩
    replace hC:=hC.push hB24 (ZLd (Yy 162) r14 [u18] f28) hr26 hf36
    obtain ⟨ho22,hf37⟩:=X8 (hC.getM 0 rfl)
    subst hf37
    replace hC:=hC.recast (c:=own 162 9 u18 r14.terms.length (ZKx.encs r14.terms)) (fun _ h_=>h_) (fun _=>ho22)
    refine Za (v:=u11) rfl ?_
    refine Zg [.agg #[u18],u11] _ ZXx rfl rfl rfl (Zez r14 r11 h _ (Y3 (Yv (hC.getM 0 rfl))) (Yv (hC.getM 2 rfl))) (fun ret25 w42 hR25=>?_)
    obtain ⟨r15,u13,f29,rfl,h,hr27,hf38,hB25⟩:=hR25
    refine⟨_,rfl,?_⟩
    replace hC:=hC.push hB25 (ZLd (ZTe 2 (eI.tr)) r15 [u13] f29) hr27 hf38
    obtain ⟨ho23,hf39⟩:=Y6 (hC.getM 0 rfl).1
    subst hf39
    replace hC:=hC.recast (c:=own 2 1 u13 r15.length (eI.encs r15)) (fun _ h_=>h_) (fun _=>ho23)
    refine Yh (sz:=1) hC [(0,u13)] [u13] rfl (fun _=>Zad u13 (Zbc (hC.getM 0 rfl)) _) rfl (by decide) fun b11 w43 hB_ hC=>?_
    replace hC:=hC.pushM0 (Ya (ZTe 2 (eI.tr)) [] [] []) (Jb _ _) rfl
    replace hC:=hC.sM [2,0,1,3,4,5,6] (M':=[own 2 1 u13 r15.length (eI.encs r15),Ya (ZTe 2 (eI.tr)) [] [] [],own 22 1 (.slice (some ⟨b11,0,none⟩) 1 1) 1 [u13],own 162 9 u18 r14.terms.length (ZKx.encs r14.terms),ZLd (ZTe 22 (ZTe 2 (eI.tr))) s12 [v12] f11,own 136 8 u11 r11.length ((EA .u8).encs r11),own 136 8 u10 r10.length ((EA .u8).encs r10)]) (by decide) rfl
    replace hC:=hC.gather (c:=Ya (ZTe 2 (eI.tr)) [r15] [u13] [(ZLw (ZD0 u13))]) (fun x_ hx_=>Zbk hx_) (fun h1_ h2_ hd_=>Zbb (c:=[u13]) (id (Xq h1_)) h2_ hd_)
    replace hC:=hC.sM [1,0,2,3,4,5] (M':=[own 22 1 (.slice (some ⟨b11,0,none⟩) 1 1) 1 [u13],Ya (ZTe 2 (eI.tr)) [r15] [u13] [(ZLw (ZD0 u13))],own 162 9 u18 r14.terms.length (ZKx.encs r14.terms),ZLd (ZTe 22 (ZTe 2 (eI.tr))) s12 [v12] f11,own 136 8 u11 r11.length ((EA .u8).encs r11),own 136 8 u10 r10.length ((EA .u8).encs r10)]) (by decide) rfl
    replace hC:=hC.gather (c:=ZLd (ZTe 22 (ZTe 2 (eI.tr))) [r15] [.slice (some ⟨b11,0,none⟩) 1 1] ((ZLw (ZD0 (.slice (some ⟨b11,0,none⟩) 1 1)))++([(ZLw (ZD0 u13))]:List (List Nat)).flatten)) (fun x_ hx_=>ZDd.1 hx_) (fun h1_ h2_ hd_=>X3 h1_ h2_ hd_)
    replace hC:=hC.sM [2,0,1,3,4] (M':=[ZLd (ZTe 22 (ZTe 2 (eI.tr))) s12 [v12] f11,ZLd (ZTe 22 (ZTe 2 (eI.tr))) [r15] [.slice (some ⟨b11,0,none⟩) 1 1] ((ZLw (ZD0 (.slice (some ⟨b11,0,none⟩) 1 1)))++([(ZLw (ZD0 u13))]:List (List Nat)).flatten),own 162 9 u18 r14.terms.length (ZKx.encs r14.terms),own 136 8 u11 r11.length ((EA .u8).encs r11),own 136 8 u10 r10.length ((EA .u8).encs r10)]) (by decide) rfl
    obtain ⟨hm12,h⟩:=h
    refine Za8 hC ZXp J2 rfl (by decide) (by decide) rfl rfl hm12 fun v16 f30 w44 hC=>Zd (v:=v16) rfl (done (Zr (Ze (Zh (Za (v:=vI (i12:Int)) rfl (Zq rfl rfl (Zd (v:=vI (ZFm.wrap ((i12:Int)+1))) rfl (done ?_))))))))
    exact hK12 (s12++[r15]) _ _ ⟨v16,f30,(sl ⟨rfl,rfl,rfl,rfl,(tr rfl (congrArg _ (Z5 hi11 hN12))),trivial⟩),((hC.xM [0,2,3] rfl).sP [1,2,3,4] rfl)⟩ h
   ·clear hC h
    rintro s12 e_ w45 K12 ⟨v12,f11,hS_,hC⟩ h
    rw [ue hS_]
    refine ZKw (sr (Za (v:=vI (r18.length:Int)) rfl (Za (v:=u16) rfl ?_)))
    obtain ⟨Ad22,c22,hv23⟩:=Zu (hC.getP 0 rfl)
    refine Zt ZXp (tr rfl hv23) (Zp rfl rfl (dn (Z2 rfl (decide_eq_false (by omega)) ?_)))
    refine ZLa (Zj (Zj (Z0 ?_)))
    refine Ze (sr (Za (v:=v12) rfl (Zd (v:=v12) rfl (dn (ZK4 ?_)))))
    refine Zi (fn:=Tryz.f110) rfl ?_ ⟨s12,v12,f11,rfl,h,(hC.getM 0 rfl),(Zai hC 0 rfl),hC.below⟩ (.inl rfl)
    exact Zf rfl
   ·skip
    exact⟨.slice (some ⟨b14,0,none⟩) 0 0,((ZLw (ZD0 (.slice (some ⟨b14,0,none⟩) 0 0)))++([]:List (List Nat)).flatten),(sl ⟨rfl,rfl,rfl,rfl,rfl,trivial⟩),((hC.xM [0,2,3] rfl).sP [0,3,4,5] rfl)⟩
  ·replace h:=Zl h (cf hb11)
   refine ZK0 (Ze (sr (Za (v:=v11) rfl (Za (v:=vI 0) rfl ?_))))
   refine Zg [v11,vI 0] _ ZYe rfl rfl rfl (Zrg s10 0 h _ (ZXr _ (hC.getM 0 rfl).1)) (fun ret26 w46 hR26=>?_)
   obtain ⟨r19,u17,f14,rfl,h,hr28,hf11,hB26⟩:=hR26
   refine⟨_,rfl,?_⟩
   have hs12:=Zl8 hC.size hf11
   replace hC:=hC.pushR hB26 (ZKv (ZNz.sl) r19 [u17] f14) hr28 (fun b hb=>.inl (hf11 b hb))
   refine Yh (sz:=1) hC [] [] rfl (fun _=>Zak _) rfl (by decide) fun b15 w47 hB_ hC=>?_
   replace hC:=hC.pushM0 (Ya (ZTe 2 (eI.tr)) ([]:List (List Int)) [] []) (Jb _ _) rfl
   replace hC:=hC.gather (c:=ZLd (ZTe 22 (ZTe 2 (eI.tr))) [] [.slice (some ⟨b15,0,none⟩) 0 0] ((ZLw (ZD0 (.slice (some ⟨b15,0,none⟩) 0 0)))++([]:List (List Nat)).flatten)) (fun x_ hx_=>(ZDd.1 hx_).symm) (fun h1_ h2_ hd_=>X3 h2_ h1_ (fun b_ hb_ hb2_=>hd_ b_ hb2_ hb_))
   refine Zd (v:=u17) rfl (Zd (v:=.slice (some ⟨b15,0,none⟩) 0 0) rfl (dn (ZKw (sr (Zd (v:=vI 0) rfl (dn (ZK2 ?_)))))))
   have hN13:r19.length≤9223372036854775807:=Y2 (hC.getP 0 rfl)
   refine Yk (S:=(List (List Int))) _ _ (fun i13 s13 e_ w_=>∃ (v13:Value),∃ (f12:List Nat),Zv e_ [(9,u10),(10,u11),(18,u17),(19,v13),(20,vI (i13:Int))]∧Ctx Nox w0 w_ [ZLd (ZTe 22 (ZTe 2 (eI.tr))) s13 [v13] f12,own 136 8 u11 r11.length ((EA .u8).encs r11),own 136 8 u10 r10.length ((EA .u8).encs r10)] [ZKv (ZNz.sl) r19 [u17] f14,ZKv ZLi.sl a0.images [u0_1] fp0,ZKv TInts a0.degrees [u0_0] fp0,ZKv TAlg a0 [u0_0,u0_1] fp0]) r19.length ?_ ?_ (s0:=[]) ?_ h
   ·clear hC h
    rintro i13 s13 e_ w48 nx13 K13 hi12 ⟨v13,f12,hS_,hC⟩ h hK13
    rw [ue hS_]
    refine ZKw (sr (Za (v:=vI (i13:Int)) rfl (Za (v:=u17) rfl ?_)))
    obtain ⟨Ad23,c23,hv24⟩:=Zu (hC.getP 0 rfl)
    refine Zt ZXp (tr rfl hv24) (Zp rfl rfl (dn (Z6 rfl (decide_eq_true (by omega)) (ZK0 (Ze (ZKw (ZK2 (Zh (Za (v:=v13) rfl (Za (v:=u17) rfl (Za (v:=vI (i13:Int)) rfl ?_)))))))))))
    obtain ⟨Ad24,c24,hv15⟩:=Zx (hC.getP 0 rfl) i13 hi12
    refine Yn (len:=r19.length) ZXp sc22.size (tr rfl hv15) rfl (ZLc _) (ZLv.2 hi12) ?_
    obtain ⟨cs_,hl12,hc12,hr12⟩:=Xh (hC.getP 0 rfl) hv15 i13 hi12
    obtain ⟨u30,rfl⟩:=ZLt.1 hl12
    clear hl12
    rw [Xg _ _ hi12] at hr12
    replace hC:=hC.derive 0 rfl (ZKv TInts (r19.getD i13 ZC7) [u30] f14) (fun _=>hr12) (fun _ hb_=>hb_)
    refine Yo (u30) hc12 sc22 rfl (Za (v:=u10) rfl ?_)
    refine Zg [u30,u10] _ ZX7 rfl rfl rfl (Znv (r19.getD i13 ZC7) r10 h _ (hC.getP 0 rfl) (Yv (hC.getM 2 rfl))) (fun ret27 w49 hR27=>?_)
    obtain ⟨r16,u19,f31,rfl,h,hr29,hf40,hB27⟩:=hR27
    refine⟨_,rfl,?_⟩
    replace hC:=hC.push hB27 (ZLd (Yy 162) r16 [u19] f31) hr29 hf40
    obtain ⟨ho24,hf41⟩:=X8 (hC.getM 0 rfl)
    subst hf41
    replace hC:=hC.recast (c:=own 162 9 u19 r16.terms.length (ZKx.encs r16.terms)) (fun _ h_=>h_) (fun _=>ho24)
    refine Za (v:=u11) rfl ?_
    refine Zg [.agg #[u19],u11] _ ZXx rfl rfl rfl (Zez r16 r11 h _ (Y3 (Yv (hC.getM 0 rfl))) (Yv (hC.getM 2 rfl))) (fun ret28 w50 hR28=>?_)
    obtain ⟨r17,u14,f32,rfl,h,hr30,hf42,hB28⟩:=hR28
    refine⟨_,rfl,?_⟩
    replace hC:=hC.push hB28 (ZLd (ZTe 2 (eI.tr)) r17 [u14] f32) hr30 hf42
    obtain ⟨ho25,hf43⟩:=Y6 (hC.getM 0 rfl).1
    subst hf43
    replace hC:=hC.recast (c:=own 2 1 u14 r17.length (eI.encs r17)) (fun _ h_=>h_) (fun _=>ho25)
    refine Yh (sz:=1) hC [(0,u14)] [u14] rfl (fun _=>Zad u14 (Zbc (hC.getM 0 rfl)) _) rfl (by decide) fun b12 w51 hB_ hC=>?_
    replace hC:=hC.pushM0 (Ya (ZTe 2 (eI.tr)) [] [] []) (Jb _ _) rfl
    replace hC:=hC.sM [2,0,1,3,4,5,6] (M':=[own 2 1 u14 r17.length (eI.encs r17),Ya (ZTe 2 (eI.tr)) [] [] [],own 22 1 (.slice (some ⟨b12,0,none⟩) 1 1) 1 [u14],own 162 9 u19 r16.terms.length (ZKx.encs r16.terms),ZLd (ZTe 22 (ZTe 2 (eI.tr))) s13 [v13] f12,own 136 8 u11 r11.length ((EA .u8).encs r11),own 136 8 u10 r10.length ((EA .u8).encs r10)]) (by decide) rfl
    replace hC:=hC.gather (c:=Ya (ZTe 2 (eI.tr)) [r17] [u14] [(ZLw (ZD0 u14))]) (fun x_ hx_=>Zbk hx_) (fun h1_ h2_ hd_=>Zbb (c:=[u14]) (id (Xq h1_)) h2_ hd_)
    replace hC:=hC.sM [1,0,2,3,4,5] (M':=[own 22 1 (.slice (some ⟨b12,0,none⟩) 1 1) 1 [u14],Ya (ZTe 2 (eI.tr)) [r17] [u14] [(ZLw (ZD0 u14))],own 162 9 u19 r16.terms.length (ZKx.encs r16.terms),ZLd (ZTe 22 (ZTe 2 (eI.tr))) s13 [v13] f12,own 136 8 u11 r11.length ((EA .u8).encs r11),own 136 8 u10 r10.length ((EA .u8).encs r10)]) (by decide) rfl
    replace hC:=hC.gather (c:=ZLd (ZTe 22 (ZTe 2 (eI.tr))) [r17] [.slice (some ⟨b12,0,none⟩) 1 1] ((ZLw (ZD0 (.slice (some ⟨b12,0,none⟩) 1 1)))++([(ZLw (ZD0 u14))]:List (List Nat)).flatten)) (fun x_ hx_=>ZDd.1 hx_) (fun h1_ h2_ hd_=>X3 h1_ h2_ hd_)
    replace hC:=hC.sM [2,0,1,3,4] (M':=[ZLd (ZTe 22 (ZTe 2 (eI.tr))) s13 [v13] f12,ZLd (ZTe 22 (ZTe 2 (eI.tr))) [r17] [.slice (some ⟨b12,0,none⟩) 1 1] ((ZLw (ZD0 (.slice (some ⟨b12,0,none⟩) 1 1)))++([(ZLw (ZD0 u14))]:List (List Nat)).flatten),own 162 9 u19 r16.terms.length (ZKx.encs r16.terms),own 136 8 u11 r11.length ((EA .u8).encs r11),own 136 8 u10 r10.length ((EA .u8).encs r10)]) (by decide) rfl
    obtain ⟨hm13,h⟩:=h
    refine Za8 hC ZXp J2 rfl (by decide) (by decide) rfl rfl hm13 fun v17 f33 w52 hC=>Zd (v:=v17) rfl (done (Zr (Ze (Zh (Za (v:=vI (i13:Int)) rfl (Zq rfl rfl (Zd (v:=vI (ZFm.wrap ((i13:Int)+1))) rfl (done ?_))))))))
    exact hK13 (s13++[r17]) _ _ ⟨v17,f33,(sl ⟨rfl,rfl,rfl,rfl,(tr rfl (congrArg _ (Z5 hi12 hN13))),trivial⟩),((hC.xM [0,2,3] rfl).sP [1,2,3,4] rfl)⟩ h
   ·clear hC h
    rintro s13 e_ w53 K13 ⟨v13,f12,hS_,hC⟩ h
    rw [ue hS_]
    refine ZKw (sr (Za (v:=vI (r19.length:Int)) rfl (Za (v:=u17) rfl ?_)))
    obtain ⟨Ad25,c25,hv25⟩:=Zu (hC.getP 0 rfl)
    refine Zt ZXp (tr rfl hv25) (Zp rfl rfl (dn (Z2 rfl (decide_eq_false (by omega)) ?_)))
    refine ZLa (Zj (Zj (Z0 ?_)))
    refine Ze (sr (Za (v:=v13) rfl (Zd (v:=v13) rfl (dn (ZK4 ?_)))))
    refine Zi (fn:=Tryz.f110) rfl ?_ ⟨s13,v13,f12,rfl,h,(hC.getM 0 rfl),(Zai hC 0 rfl),hC.below⟩ (.inl rfl)
    exact Zf rfl
   ·skip
    exact⟨.slice (some ⟨b15,0,none⟩) 0 0,((ZLw (ZD0 (.slice (some ⟨b15,0,none⟩) 0 0)))++([]:List (List Nat)).flatten),(sl ⟨rfl,rfl,rfl,rfl,rfl,trivial⟩),(hC.xM [0,3,4] rfl)⟩
 ·skip
  exact⟨.slice (some ⟨b13,0,none⟩) 0 0,((ZLw (ZD0 (.slice (some ⟨b13,0,none⟩) 0 0)))++([]:List (List Nat)).flatten),(sl ⟨rfl,rfl,rfl,rfl,rfl,rfl,rfl,rfl,trivial⟩),hC⟩
def Zij (a0:Alg) (a1:List (List Int)) (a2:Int) (K:List (List Int)→Prop):Prop :=
 Zb7 a0 0 a2 (fun r15=>Zb7 a0 0 (ZFm.wrap (a2+1)) (fun r16=>Yc (fun i10 (s10:(List (List Int))) nx10=>Zcu (a1.getD i10 ZC7) r15 (fun r10=>Zc8 (⟨a0.degrees,a0.images⟩:Alg) r10 (fun r11=>Zbr r11 r16 (fun r12=>(Zy (s10.length+1) 24∧nx10 (s10++[r12])))))) (fun (s10:(List (List Int)))=>K s10) a1.length 0 []))
theorem Zzu (a0:Alg) (a1:List (List Int)) (a2:Int)  {K:List (List Int)→Prop} (h:Zij a0 a1 a2 K) (w0:World) (q0:TAlg.rep a0 [u0_0,u0_1] fp0 w0) (q1:(ZNz.sl).rep a1 [u1_0] fp1 w0) :
  Calls ZKz 111 #[.agg #[u0_0,u0_1],u1_0,vI a2] w0 fun e w'=>∃ (r0:List (List Int)) (z0_0:Value) (fz0:List Nat),
   e=.returned (z0_0)∧K r0∧(ZLd (ZTe 22 (ZTe 2 (eI.tr))) r0 [z0_0] fz0).holds w'∧(∀ b,b∈fz0→w0.heap.size≤b)∧Bel w0 w':=by
 unfold Zij at h
 refine cof Tryz.func111 rfl 39 Tryz.ntmps111 ?_
 have hC:=ZLh (X:=Nox) w0 [ZKv TAlg a0 [u0_0,u0_1] fp0,ZKv (ZNz.sl) a1 [u1_0] fp1] (alc q0 (al1 q1))
 replace hC:=hC.dAlg 0 rfl
 refine sr (Yi (v:=.agg #[u0_0,u0_1]) hC [u0_0,u0_1] rfl rfl fun b5 w7 hB_ hC=>Zd (v:=.slice none 0 0) rfl (dn (ZKw ?_)))
 refine Yq 10 Yl [0,0,3,0,0,16,63,0,127,383,1023] [0,3] [1,4,5,8,9] (by kernel_rfl) (by kernel_rfl) (by kernel_rfl) (fun hM9 hM10 w8 hB_=>?_)
 replace hC:=hC.grow hB_
 refine bL 0 (.agg #[u0_0,u0_1]) rfl rfl hM9 (fun _ hB_=>by exact Xc (hC.grow hB_) 0 [u0_0,u0_1] rfl ag32 rfl rfl rfl) (Zc 11 1) (bM 1 (vI a2) rfl hM10 (Zc 11 3) (bL 3 (.agg #[u0_0,u0_1]) rfl rfl hM9 (fun _ hB_=>by exact Xc (hC.grow hB_) 0 [u0_0,u0_1] rfl ag32 rfl rfl rfl) (Zc 11 11) (bM 4 (vI a2) rfl hM10 (Zc 11 27) (bF 5 (vI (ZFm.wrap (a2+1))) rfl rfl hM10 (fun _=>by exact Zbx rfl rfl) (Zc 11 59) ?_))))
 refine Zdp (fun e_ w_=>∃ (b10:Nat),∃ (u11:Value),∃ (r13:List A8),∃ (u12:Value),∃ (r14:List A8),Zv e_ [(1,u1_0),(3,vQ b5),(7,u12),(8,u11),(9,.slice (some ⟨b10,0,none⟩) 0 0)]∧Ctx Nox w0 w_ [ZLd (ZTe 22 (ZTe 2 (eI.tr))) [] [.slice (some ⟨b10,0,none⟩) 0 0] ((ZLw (ZD0 (.slice (some ⟨b10,0,none⟩) 0 0)))++([]:List (List Nat)).flatten),own 136 8 u11 r13.length ((EA .u8).encs r13),own 136 8 u12 r14.length ((EA .u8).encs r14),blk b5 32 [u0_0,u0_1]] [ZKv ZLi.sl a0.images [u0_1] fp0,ZKv TInts a0.degrees [u0_0] fp0,ZKv TAlg a0 [u0_0,u0_1] fp0,ZKv (ZNz.sl) a1 [u1_0] fp1]∧(Yc (fun i10 (s10:(List (List Int))) nx10=>Zcu (a1.getD i10 ZC7) r14 (fun r10=>Zc8 (⟨a0.degrees,a0.images⟩:Alg) r10 (fun r11=>Zbr r11 r13 (fun r12=>(Zy (s10.length+1) 24∧nx10 (s10++[r12])))))) (fun (s10:(List (List Int)))=>K s10) a1.length 0 [])) ?_ ?_
 ·clear hC h
  rintro e_ w10 ⟨b10,u11,r13,u12,r14,hS_,hC,h⟩
  rw [ue hS_]
  refine Ze (ZKw (sr (Zd (v:=vI 0) rfl (dn (ZK2 ?_)))))
  have hN10:a1.length≤9223372036854775807:=Y2 (hC.getP 3 rfl)
  refine Yk (S:=(List (List Int))) _ _ (fun i10 s10 e_ w_=>∃ (v10:Value),∃ (f10:List Nat),Zv e_ [(1,u1_0),(3,vQ b5),(7,u12),(8,u11),(9,v10),(10,vI (i10:Int))]∧Ctx Nox w0 w_ [ZLd (ZTe 22 (ZTe 2 (eI.tr))) s10 [v10] f10,own 136 8 u11 r13.length ((EA .u8).encs r13),own 136 8 u12 r14.length ((EA .u8).encs r14),blk b5 32 [u0_0,u0_1]] [ZKv ZLi.sl a0.images [u0_1] fp0,ZKv TInts a0.degrees [u0_0] fp0,ZKv TAlg a0 [u0_0,u0_1] fp0,ZKv (ZNz.sl) a1 [u1_0] fp1]) a1.length ?_ ?_ (s0:=[]) ?_ h
  ·clear hC h
   rintro i10 s10 e_ w11 nx10 K10 hi10 ⟨v10,f10,hS_,hC⟩ h hK10
   rw [ue hS_]
   refine ZKw (sr (Za (v:=vI (i10:Int)) rfl (Za (v:=u1_0) rfl ?_)))
   obtain ⟨Ad11,c10,hv11⟩:=Zu (hC.getP 3 rfl)
   refine Zt ZXp (tr rfl hv11) (Zp rfl rfl (dn (Z6 rfl (decide_eq_true (by omega)) (ZK0 (Ze (ZKw (ZK2 ?_)))))))
   refine Yq 12 Yl [0,0,0,0,12,28,0,124,254,0,1022,2046,4095,8191] [1,4,5] [0,2,3,6,9] (by kernel_rfl) (by kernel_rfl) (by kernel_rfl) (fun hM12 hM11 w12 hB_=>?_)
   replace hC:=hC.grow hB_
   refine bM 0 (v10) rfl hM11 (Zc 14 1) (bL 1 (.agg #[u0_0,u0_1]) rfl rfl hM12 (fun _ hB_=>by exact Xc (hC.grow hB_) 3 [u0_0,u0_1] rfl ag32 rfl rfl rfl) (Zc 14 3) (bM 2 (u1_0) rfl hM11 (Zc 14 7) (bM 3 (vI (i10:Int)) rfl hM11 (Zc 14 15) ?_)))
   obtain ⟨Ad10,c11,hv10⟩:=Zx (hC.getP 3 rfl) i10 hi10
   refine bL 4 (.pointer (some (Ad10.add (i10 * 1)))) rfl rfl hM12 (fun _ hB_=>by exact Y1 (len:=a1.length) ZXp sc22.size (by exact tr rfl hv10) rfl (ZLc _) (ZLv.2 hi10)) (Zc 14 31) ?_
   obtain ⟨cs_,hl10,hc10,hr10⟩:=Xh (hC.getP 3 rfl) hv10 i10 hi10
   obtain ⟨u16,rfl⟩:=ZLt.1 hl10
   clear hl10
   rw [Xg _ _ hi10] at hr10
   replace hC:=hC.derive 3 rfl (ZKv TInts (a1.getD i10 ZC7) [u16] fp1) (fun _=>hr10) (fun _ hb_=>hb_)
   refine bL 5 (u16) rfl rfl hM12 (fun _ hB_=>by exact Xp (u16) (Za1 hB_ hc10) sc22 rfl) (Zc 14 63) (bM 6 (u12) rfl hM11 (Zc 14 127) (bM 9 (u11) rfl hM11 (Zc 14 639) (aO 7 rfl ?_)))
   refine Zg [u16,u12] _ ZX7 rfl rfl rfl (Znv (a1.getD i10 ZC7) r14 h _ (hC.getP 0 rfl) (Yv (hC.getM 2 rfl))) (fun ret10 w13 hR10=>?_)
   obtain ⟨r10,u13,f11,rfl,h,hr11,hf10,hB10⟩:=hR10
   refine⟨_,rfl,?_⟩
   replace hC:=hC.push hB10 (ZLd (Yy 162) r10 [u13] f11) hr11 hf10
   obtain ⟨ho10,hf11⟩:=X8 (hC.getM 0 rfl)
   subst hf11
   replace hC:=hC.recast (c:=own 162 9 u13 r10.terms.length (ZKx.encs r10.terms)) (fun _ h_=>h_) (fun _=>ho10)
   refine done (aK (by assumption) (Zc 14 767) (aO 8 rfl ?_))
   refine Zg [.agg #[u0_0,u0_1],.agg #[u13]] _ ZX8 rfl rfl rfl (Zg4 (⟨a0.degrees,a0.images⟩:Alg) r10 h _ (Yp (hC.getP 2 rfl) (hC.getP 1 rfl)) (Y3 (Yv (hC.getM 0 rfl)))) (fun ret11 w14 hR11=>?_)
   obtain ⟨r11,u14,f12,rfl,h,hr12,hf12,hB11⟩:=hR11
   refine⟨_,rfl,?_⟩
   replace hC:=hC.push hB11 (ZLd (Yy 162) r11 [u14] f12) hr12 hf12
   obtain ⟨ho11,hf13⟩:=X8 (hC.getM 0 rfl)
   subst hf13
   replace hC:=hC.recast (c:=own 162 9 u14 r11.terms.length (ZKx.encs r11.terms)) (fun _ h_=>h_) (fun _=>ho11)
   refine done (aK (by assumption) (Zc 14 1023) (aO 10 rfl ?_))
   refine Zg [.agg #[u14],u11] _ ZXx rfl rfl rfl (Zez r11 r13 h _ (Y3 (Yv (hC.getM 0 rfl))) (Yv (hC.getM 3 rfl))) (fun ret12 w15 hR12=>?_)
   obtain ⟨r12,u10,f13,rfl,h,hr13,hf14,hB12⟩:=hR12
   refine⟨_,rfl,?_⟩
   replace hC:=hC.push hB12 (ZLd (ZTe 2 (eI.tr)) r12 [u10] f13) hr13 hf14
   obtain ⟨ho12,hf15⟩:=Y6 (hC.getM 0 rfl).1
   subst hf15
   replace hC:=hC.recast (c:=own 2 1 u10 r12.length (eI.encs r12)) (fun _ h_=>h_) (fun _=>ho12)
   refine done (aK (by assumption) (Zc 14 2047) (aO 11 rfl (Yh (sz:=1) hC [(0,u10)] [u10] rfl (fun _=>Zad u10 (Zbc (hC.getM 0 rfl)) _) rfl (by decide) fun b11 w16 hB_ hC=>?_)))
   replace hC:=hC.pushM0 (Ya (ZTe 2 (eI.tr)) [] [] []) (Jb _ _) rfl
   replace hC:=hC.sM [2,0,1,3,4,5,6,7,8] (M':=[own 2 1 u10 r12.length (eI.encs r12),Ya (ZTe 2 (eI.tr)) [] [] [],own 22 1 (.slice (some ⟨b11,0,none⟩) 1 1) 1 [u10],own 162 9 u14 r11.terms.length (ZKx.encs r11.terms),own 162 9 u13 r10.terms.length (ZKx.encs r10.terms),ZLd (ZTe 22 (ZTe 2 (eI.tr))) s10 [v10] f10,own 136 8 u11 r13.length ((EA .u8).encs r13),own 136 8 u12 r14.length ((EA .u8).encs r14),blk b5 32 [u0_0,u0_1]]) (by decide) rfl
   replace hC:=hC.gather (c:=Ya (ZTe 2 (eI.tr)) [r12] [u10] [(ZLw (ZD0 u10))]) (fun x_ hx_=>Zbk hx_) (fun h1_ h2_ hd_=>Zbb (c:=[u10]) (id (Xq h1_)) h2_ hd_)
   replace hC:=hC.sM [1,0,2,3,4,5,6,7] (M':=[own 22 1 (.slice (some ⟨b11,0,none⟩) 1 1) 1 [u10],Ya (ZTe 2 (eI.tr)) [r12] [u10] [(ZLw (ZD0 u10))],own 162 9 u14 r11.terms.length (ZKx.encs r11.terms),own 162 9 u13 r10.terms.length (ZKx.encs r10.terms),ZLd (ZTe 22 (ZTe 2 (eI.tr))) s10 [v10] f10,own 136 8 u11 r13.length ((EA .u8).encs r13),own 136 8 u12 r14.length ((EA .u8).encs r14),blk b5 32 [u0_0,u0_1]]) (by decide) rfl
   replace hC:=hC.gather (c:=ZLd (ZTe 22 (ZTe 2 (eI.tr))) [r12] [.slice (some ⟨b11,0,none⟩) 1 1] ((ZLw (ZD0 (.slice (some ⟨b11,0,none⟩) 1 1)))++([(ZLw (ZD0 u10))]:List (List Nat)).flatten)) (fun x_ hx_=>ZDd.1 hx_) (fun h1_ h2_ hd_=>X3 h1_ h2_ hd_)
   refine done (aK (by assumption) (Zc 14 4095) (Z7 12 (by decide) (by decide) (by kernel_rfl) (by kernel_rfl) rfl ?_))
   replace hC:=hC.sM [3,0,1,2,4,5,6] (M':=[ZLd (ZTe 22 (ZTe 2 (eI.tr))) s10 [v10] f10,ZLd (ZTe 22 (ZTe 2 (eI.tr))) [r12] [.slice (some ⟨b11,0,none⟩) 1 1] ((ZLw (ZD0 (.slice (some ⟨b11,0,none⟩) 1 1)))++([(ZLw (ZD0 u10))]:List (List Nat)).flatten),own 162 9 u14 r11.terms.length (ZKx.encs r11.terms),own 162 9 u13 r10.terms.length (ZKx.encs r10.terms),own 136 8 u11 r13.length ((EA .u8).encs r13),own 136 8 u12 r14.length ((EA .u8).encs r14),blk b5 32 [u0_0,u0_1]]) (by decide) rfl
   obtain ⟨hm10,h⟩:=h
   refine Za8 hC ZXp J2 rfl (by decide) (by decide) rfl rfl hm10 fun v11 f14 w17 hC=>Zd (v:=v11) rfl (done (Z8 (Zr (Ze (Zh (Za (v:=vI (i10:Int)) rfl (Zq rfl rfl (Zd (v:=vI (ZFm.wrap ((i10:Int)+1))) rfl (done ?_)))))))))
   exact hK10 (s10++[r12]) _ _ ⟨v11,f14,(sl ⟨rfl,rfl,rfl,rfl,rfl,(tr rfl (congrArg _ (Z5 hi10 hN10))),trivial⟩),((hC.xM [0,3,4,5] rfl).sP [1,2,3,4] rfl)⟩ h
  ·clear hC h
   rintro s10 e_ w18 K10 ⟨v10,f10,hS_,hC⟩ h
   rw [ue hS_]
   refine ZKw (sr (Za (v:=vI (a1.length:Int)) rfl (Za (v:=u1_0) rfl ?_)))
   obtain ⟨Ad12,c12,hv12⟩:=Zu (hC.getP 3 rfl)
   refine Zt ZXp (tr rfl hv12) (Zp rfl rfl (dn (Z2 rfl (decide_eq_false (by omega)) ?_)))
   refine ZLa (Zj (Zj (Z0 ?_)))
   refine Ze (sr (Za (v:=v10) rfl (Zd (v:=v10) rfl (dn (ZK4 ?_)))))
   refine Zi (fn:=Tryz.f111) rfl ?_ ⟨s10,v10,f10,rfl,h,(hC.getM 0 rfl),(Zai hC 0 rfl),hC.below⟩ (.inl rfl)
   exact Zf rfl
  ·skip
   exact⟨.slice (some ⟨b10,0,none⟩) 0 0,((ZLw (ZD0 (.slice (some ⟨b10,0,none⟩) 0 0)))++([]:List (List Nat)).flatten),(sl ⟨rfl,rfl,rfl,rfl,rfl,rfl,trivial⟩),hC⟩
 refine Jx 2 7 rfl rfl (by kernel_rfl) ?_ ?_
 ·skip
  refine Zg [.agg #[u0_0,u0_1],vI 0,vI a2] _ ZXt rfl rfl rfl (Zct a0 0 a2 h _ (Yp (hC.getP 1 rfl) (hC.getP 0 rfl))) (fun ret13 w19 hR13=>?_)
  obtain ⟨r15,u15,f15,rfl,h,hr14,hf16,hB13⟩:=hR13
  refine⟨_,rfl,?_⟩
  replace hC:=hC.push hB13 (ZLd (ZTe 136 ((EA .u8).tr)) r15 [u15] f15) hr14 hf16
  obtain ⟨ho13,hf17⟩:=Y6 (hC.getM 0 rfl).1
  subst hf17
  replace hC:=hC.recast (c:=own 136 8 u15 r15.length ((EA .u8).encs r15)) (fun _ h_=>h_) (fun _=>ho13)
  refine done (aK (by assumption) (Zc 11 63) ?_)
  refine Jx 6 7 rfl rfl (by kernel_rfl) ?_ ?_
  ·skip
   refine Zg [.agg #[u0_0,u0_1],vI 0,vI (ZFm.wrap (a2+1))] _ ZXt rfl rfl rfl (Zct a0 0 (ZFm.wrap (a2+1)) h _ (Yp (hC.getP 1 rfl) (hC.getP 0 rfl))) (fun ret14 w20 hR14=>?_)
   obtain ⟨r16,u17,f16,rfl,h,hr15,hf18,hB14⟩:=hR14
   refine⟨_,rfl,?_⟩
   replace hC:=hC.push hB14 (ZLd (ZTe 136 ((EA .u8).tr)) r16 [u17] f16) hr15 hf18
   obtain ⟨ho14,hf19⟩:=Y6 (hC.getM 0 rfl).1
   subst hf19
   replace hC:=hC.recast (c:=own 136 8 u17 r16.length ((EA .u8).encs r16)) (fun _ h_=>h_) (fun _=>ho14)
   refine done (aK (by assumption) (Zc 11 127) (bA 8 (u15) rfl hM10 (Zc 11 383) (bA 9 (u17) rfl hM10 (Zc 11 895) (aO 7 rfl (Yh (sz:=1) hC [] [] rfl (fun _=>Zak _) rfl (by decide) fun b12 w21 hB_ hC=>?_)))))
   replace hC:=hC.pushM0 (Ya (ZTe 2 (eI.tr)) ([]:List (List Int)) [] []) (Jb _ _) rfl
   replace hC:=hC.gather (c:=ZLd (ZTe 22 (ZTe 2 (eI.tr))) [] [.slice (some ⟨b12,0,none⟩) 0 0] ((ZLw (ZD0 (.slice (some ⟨b12,0,none⟩) 0 0)))++([]:List (List Nat)).flatten)) (fun x_ hx_=>(ZDd.1 hx_).symm) (fun h1_ h2_ hd_=>X3 h2_ h1_ (fun b_ hb_ hb2_=>hd_ b_ hb2_ hb_))
   refine done (aK (by assumption) (Zc 11 1023) (Z7 10 (by decide) (by decide) (by kernel_rfl) (by kernel_rfl) rfl (Zd (v:=.slice (some ⟨b12,0,none⟩) 0 0) rfl (done (Z8 ?_)))))
   exact⟨rfl,_,rfl,⟨b12,u17,r16,u15,r15,(sl ⟨rfl,rfl,rfl,rfl,rfl,trivial⟩),hC,h⟩⟩
  ·skip
   refine Yh (sz:=1) hC [] [] rfl (fun _=>Zak _) rfl (by decide) fun b13 w22 hB_ hC=>?_
   replace hC:=hC.pushM0 (Ya (ZTe 2 (eI.tr)) ([]:List (List Int)) [] []) (Jb _ _) rfl
   replace hC:=hC.gather (c:=ZLd (ZTe 22 (ZTe 2 (eI.tr))) [] [.slice (some ⟨b13,0,none⟩) 0 0] ((ZLw (ZD0 (.slice (some ⟨b13,0,none⟩) 0 0)))++([]:List (List Nat)).flatten)) (fun x_ hx_=>(ZDd.1 hx_).symm) (fun h1_ h2_ hd_=>X3 h2_ h1_ (fun b_ hb_ hb2_=>hd_ b_ hb2_ hb_))
   refine done (aK (by assumption) (Zc 11 191) (aO 6 rfl ?_))
   refine Zg [.agg #[u0_0,u0_1],vI 0,vI (ZFm.wrap (a2+1))] _ ZXt rfl rfl rfl (Zct a0 0 (ZFm.wrap (a2+1)) h _ (Yp (hC.getP 1 rfl) (hC.getP 0 rfl))) (fun ret15 w23 hR15=>?_)
   obtain ⟨r17,u18,f17,rfl,h,hr16,hf20,hB15⟩:=hR15
   refine⟨_,rfl,?_⟩
   replace hC:=hC.push hB15 (ZLd (ZTe 136 ((EA .u8).tr)) r17 [u18] f17) hr16 hf20
   obtain ⟨ho15,hf21⟩:=Y6 (hC.getM 0 rfl).1
   subst hf21
   replace hC:=hC.recast (c:=own 136 8 u18 r17.length ((EA .u8).encs r17)) (fun _ h_=>h_) (fun _=>ho15)
   refine done (aK (by assumption) (Zc 11 255) (bA 8 (u15) rfl hM10 (Zc 11 511) (bA 9 (u18) rfl hM10 (Zc 11 1023) (Z7 10 (by decide) (by decide) (by kernel_rfl) (by kernel_rfl) rfl (Zd (v:=.slice (some ⟨b13,0,none⟩) 0 0) rfl (done (Z8 ?_)))))))
   exact⟨rfl,_,rfl,⟨b13,u18,r17,u15,r15,(sl ⟨rfl,rfl,rfl,rfl,rfl,trivial⟩),(hC.xM [1,0,2,3] rfl),h⟩⟩
 ·skip
  refine Yh (sz:=1) hC [] [] rfl (fun _=>Zak _) rfl (by decide) fun b14 w24 hB_ hC=>?_
  replace hC:=hC.pushM0 (Ya (ZTe 2 (eI.tr)) ([]:List (List Int)) [] []) (Jb _ _) rfl
  replace hC:=hC.gather (c:=ZLd (ZTe 22 (ZTe 2 (eI.tr))) [] [.slice (some ⟨b14,0,none⟩) 0 0] ((ZLw (ZD0 (.slice (some ⟨b14,0,none⟩) 0 0)))++([]:List (List Nat)).flatten)) (fun x_ hx_=>(ZDd.1 hx_).symm) (fun h1_ h2_ hd_=>X3 h2_ h1_ (fun b_ hb_ hb2_=>hd_ b_ hb2_ hb_))
  refine done (aK (by assumption) (Zc 11 187) (aO 2 rfl ?_))
  refine Zg [.agg #[u0_0,u0_1],vI 0,vI a2] _ ZXt rfl rfl rfl (Zct a0 0 a2 h _ (Yp (hC.getP 1 rfl) (hC.getP 0 rfl))) (fun ret16 w25 hR16=>?_)
  obtain ⟨r18,u19,f18,rfl,h,hr17,hf22,hB16⟩:=hR16
  refine⟨_,rfl,?_⟩
  replace hC:=hC.push hB16 (ZLd (ZTe 136 ((EA .u8).tr)) r18 [u19] f18) hr17 hf22
  obtain ⟨ho16,hf23⟩:=Y6 (hC.getM 0 rfl).1
  subst hf23
  replace hC:=hC.recast (c:=own 136 8 u19 r18.length ((EA .u8).encs r18)) (fun _ h_=>h_) (fun _=>ho16)
  refine done (aK (by assumption) (Zc 11 191) (aO 6 rfl ?_))
  refine Zg [.agg #[u0_0,u0_1],vI 0,vI (ZFm.wrap (a2+1))] _ ZXt rfl rfl rfl (Zct a0 0 (ZFm.wrap (a2+1)) h _ (Yp (hC.getP 1 rfl) (hC.getP 0 rfl))) (fun ret17 w26 hR17=>?_)
  obtain ⟨r19,u20,f19,rfl,h,hr18,hf24,hB17⟩:=hR17
  refine⟨_,rfl,?_⟩
  replace hC:=hC.push hB17 (ZLd (ZTe 136 ((EA .u8).tr)) r19 [u20] f19) hr18 hf24
  obtain ⟨ho17,hf25⟩:=Y6 (hC.getM 0 rfl).1
  subst hf25
  replace hC:=hC.recast (c:=own 136 8 u20 r19.length ((EA .u8).encs r19)) (fun _ h_=>h_) (fun _=>ho17)
  refine done (aK (by assumption) (Zc 11 255) (bA 8 (u19) rfl hM10 (Zc 11 511) (bA 9 (u20) rfl hM10 (Zc 11 1023) (Z7 10 (by decide) (by decide) (by kernel_rfl) (by kernel_rfl) rfl (Zd (v:=.slice (some ⟨b14,0,none⟩) 0 0) rfl (done (Z8 ?_)))))))
  exact⟨rfl,_,rfl,⟨b14,u20,r19,u19,r18,(sl ⟨rfl,rfl,rfl,rfl,rfl,trivial⟩),(hC.xM [2,0,1,3] rfl),h⟩⟩
def Zf2 (a0:Alg) (a1:Int) (a2:Int) (a3:Int) (K:Int→Prop):Prop :=
 (if a1=0 then Zb7 a0 a2 a3 (fun r11=>Zb7 a0 (ZFm.wrap (a2+1)) a3 (fun r12=>K (ZFm.wrap ((r11.length:Int) - (r12.length:Int))))) else Zdh a0 (ZFm.wrap (a1 - 1)) (ZFm.wrap (a2+1)) a3 (fun r10=>(if a3 > 0 then Zdh a0 (ZFm.wrap (a1 - 1)) (ZFm.wrap ((ZFm.wrap (a2 - a1))+1)) (ZFm.wrap (a3 - 1)) (fun r14=>Zij a0 r14 (ZFm.wrap (a3 - 1)) (fun r13=>(Zy (r10.length+r13.length) 24∧Zdh a0 a1 a2 a3 (fun r15=>Zbq r15 (fun r16=>Zbq (r10++r13) (fun r17=>K (ZFm.wrap ((r16.length:Int) - (r17.length:Int))))))))) else Zdh a0 a1 a2 a3 (fun r18=>Zbq r18 (fun r19=>Zbq r10 (fun r20=>K (ZFm.wrap ((r19.length:Int) - (r20.length:Int)))))))))
theorem Zrh (a0:Alg) (a1:Int) (a2:Int) (a3:Int)  {K:Int→Prop} (h:Zf2 a0 a1 a2 a3 K) (w0:World) (q0:TAlg.rep a0 [u0_0,u0_1] fp0 w0) :
  Calls ZKz 61 #[.agg #[u0_0,u0_1],vI a1,vI a2,vI a3] w0 fun e w'=>∃ (r0:Int),
   e=.returned (vI r0)∧K r0∧Bel w0 w':=by
 unfold Zf2 at h
 refine cof Tryz.func61 rfl 60 Tryz.ntmps61 ?_
 have hC:=ZLh (X:=Nox) w0 [ZKv TAlg a0 [u0_0,u0_1] fp0] (al1 q0)
 replace hC:=hC.dAlg 0 rfl
 refine sr (Yi (v:=.agg #[u0_0,u0_1]) hC [u0_0,u0_1] rfl rfl fun b4 w6 hB_ hC=>Zd (v:=vI 0) rfl (dn (ZKw (sr (Za (v:=vI a1) rfl (Xu rfl rfl (dn ?_)))))))
 refine Zs rfl (fun hb7=>?_) (fun hb7=>?_)
 ·replace h:=ift h (ct hb7)
  refine ZKw ?_
  refine Yq 11 Yl [0,0,0,7,15,0,0,64,0,495,1007,2047,4095] [0,4,5,10] [1,2,6,7,8] (by kernel_rfl) (by kernel_rfl) (by kernel_rfl) (fun hM9 hM11 w8 hB_=>?_)
  replace hC:=hC.grow hB_
  refine bL 0 (.agg #[u0_0,u0_1]) rfl rfl hM9 (fun _ hB_=>by exact Xc (hC.grow hB_) 0 [u0_0,u0_1] rfl ag32 rfl rfl rfl) (Zc 13 1) (bM 1 (vI a2) rfl hM11 (Zc 13 3) (bM 2 (vI a3) rfl hM11 (Zc 13 7) (bL 5 (.agg #[u0_0,u0_1]) rfl rfl hM9 (fun _ hB_=>by exact Xc (hC.grow hB_) 0 [u0_0,u0_1] rfl ag32 rfl rfl rfl) (Zc 13 39) (bM 6 (vI a2) rfl hM11 (Zc 13 103) (bF 7 (vI (ZFm.wrap (a2+1))) rfl rfl hM11 (fun _=>by exact Zbx rfl rfl) (Zc 13 231) (bM 8 (vI a3) rfl hM11 (Zc 13 487) (aO 3 rfl ?_)))))))
  refine Zg [.agg #[u0_0,u0_1],vI a2,vI a3] _ ZXt rfl rfl rfl (Zct a0 a2 a3 h _ (Yp (hC.getP 1 rfl) (hC.getP 0 rfl))) (fun ret10 w10 hR10=>?_)
  obtain ⟨r11,u14,f19,rfl,h,hr10,hf14,hB10⟩:=hR10
  refine⟨_,rfl,?_⟩
  replace hC:=hC.push hB10 (ZLd (ZTe 136 ((EA .u8).tr)) r11 [u14] f19) hr10 hf14
  obtain ⟨ho10,hf15⟩:=Y6 (hC.getM 0 rfl).1
  subst hf15
  replace hC:=hC.recast (c:=own 136 8 u14 r11.length ((EA .u8).encs r11)) (fun _ h_=>h_) (fun _=>ho10)
  refine done (aK (by assumption) (Zc 13 495) ?_)
  obtain ⟨Ad10,c10,hv10⟩:=X1 (hC.getM 0 rfl)
  refine bL 4 (vI (r11.length:Int)) rfl rfl hM9 (fun _ hB_=>by exact Zby ZXq (by exact tr rfl hv10)) (Zc 13 511) (aO 9 rfl ?_)
  refine Zg [.agg #[u0_0,u0_1],vI (ZFm.wrap (a2+1)),vI a3] _ ZXt rfl rfl rfl (Zct a0 (ZFm.wrap (a2+1)) a3 h _ (Yp (hC.getP 1 rfl) (hC.getP 0 rfl))) (fun ret11 w11 hR11=>?_)
  obtain ⟨r12,u15,f20,rfl,h,hr11,hf16,hB11⟩:=hR11
  refine⟨_,rfl,?_⟩
  replace hC:=hC.push hB11 (ZLd (ZTe 136 ((EA .u8).tr)) r12 [u15] f20) hr11 hf16
  obtain ⟨ho11,hf17⟩:=Y6 (hC.getM 0 rfl).1
  subst hf17
  replace hC:=hC.recast (c:=own 136 8 u15 r12.length ((EA .u8).encs r12)) (fun _ h_=>h_) (fun _=>ho11)
  refine done (aK (by assumption) (Zc 13 1023) ?_)
  obtain ⟨Ad11,c11,hv11⟩:=X1 (hC.getM 0 rfl)
  refine bL 10 (vI (r12.length:Int)) rfl rfl hM9 (fun _ hB_=>by exact Zby ZXq (by exact tr rfl hv11)) (Zc 13 2047) (Z7 11 (by decide) (by decide) (by kernel_rfl) (by kernel_rfl) rfl (X0 rfl rfl (Zd (v:=vI (ZFm.wrap ((r11.length:Int) - (r12.length:Int)))) rfl (done (Z8 (Ze ?_))))))
  refine ZK4 (Zn ?_)
  refine Zi (fn:=Tryz.f61) rfl ?_ ⟨ZFm.wrap ((r11.length:Int) - (r12.length:Int)),rfl,h,hC.below⟩ (.inl rfl)
  exact Zf rfl
 ·replace h:=Zl h (cf hb7)
  refine ZK0 (Ze (sr (Yw hC 0 [u0_0,u0_1] rfl ag32 rfl rfl rfl (Za (v:=vI a1) rfl (X0 rfl rfl (Za (v:=vI a2) rfl (Zq rfl rfl (Za (v:=vI a3) rfl ?_))))))))
  refine Zg [.agg #[u0_0,u0_1],vI (ZFm.wrap (a1 - 1)),vI (ZFm.wrap (a2+1)),vI a3] _ ZX3 rfl rfl rfl (Zkw a0 (ZFm.wrap (a1 - 1)) (ZFm.wrap (a2+1)) a3 h _ (Yp (hC.getP 1 rfl) (hC.getP 0 rfl))) (fun ret12 w12 hR12=>?_)
  obtain ⟨r10,u10,f10,rfl,h,hr12,hf18,hB12⟩:=hR12
  refine⟨_,rfl,?_⟩
  replace hC:=hC.push hB12 (ZLd (ZTe 22 (ZTe 2 (eI.tr))) r10 [u10] f10) hr12 hf18
  refine Zd (v:=u10) rfl (dn (ZKw (sr (Za (v:=vI a3) rfl (Jg rfl rfl (dn ?_))))))
  refine Zs rfl (fun hb10=>?_) (fun hb10=>?_)
  ·replace h:=ift h (ct hb10)
   refine Yq 15 Yl [0,0,0,0,8,0,0,96,224,0,512,2044,0,4096,16382,32767,65535] [1,2] [0,3,4,5,6,7,8,9,10,12,13] (by kernel_rfl) (by kernel_rfl) (by kernel_rfl) (fun hM12 hM10 w13 hB_=>?_)
   replace hC:=hC.grow hB_
   refine bM 0 (u10) rfl hM10 (Zc 17 1) (bL 1 (.agg #[u0_0,u0_1]) rfl rfl hM12 (fun _ hB_=>by exact Xc (hC.grow hB_) 1 [u0_0,u0_1] rfl ag32 rfl rfl rfl) (Zc 17 3) (bL 2 (.agg #[u0_0,u0_1]) rfl rfl hM12 (fun _ hB_=>by exact Xc (hC.grow hB_) 1 [u0_0,u0_1] rfl ag32 rfl rfl rfl) (Zc 17 7) (bM 3 (vI a1) rfl hM10 (Zc 17 15) (bF 4 (vI (ZFm.wrap (a1 - 1))) rfl rfl hM10 (fun _=>by exact Zc0 rfl rfl) (Zc 17 31) (bM 5 (vI a2) rfl hM10 (Zc 17 63) (bM 6 (vI a1) rfl hM10 (Zc 17 127) (bF 7 (vI (ZFm.wrap (a2 - a1))) rfl rfl hM10 (fun _=>by exact Zc0 rfl rfl) (Zc 17 255) (bF 8 (vI (ZFm.wrap ((ZFm.wrap (a2 - a1))+1))) rfl rfl hM10 (fun _=>by exact Zbx rfl rfl) (Zc 17 511) (bM 9 (vI a3) rfl hM10 (Zc 17 1023) (bF 10 (vI (ZFm.wrap (a3 - 1))) rfl rfl hM10 (fun _=>by exact Zc0 rfl rfl) (Zc 17 2047) (bM 12 (vI a3) rfl hM10 (Zc 17 6143) ?_)))))))))))
   refine bF 13 (vI (ZFm.wrap (a3 - 1))) rfl rfl hM10 (fun _=>by exact Zc0 rfl rfl) (Zc 17 14335) (aO 11 rfl ?_)
   refine Zg [.agg #[u0_0,u0_1],vI (ZFm.wrap (a1 - 1)),vI (ZFm.wrap ((ZFm.wrap (a2 - a1))+1)),vI (ZFm.wrap (a3 - 1))] _ ZX3 rfl rfl rfl (Zkw a0 (ZFm.wrap (a1 - 1)) (ZFm.wrap ((ZFm.wrap (a2 - a1))+1)) (ZFm.wrap (a3 - 1)) h _ (Yp (hC.getP 1 rfl) (hC.getP 0 rfl))) (fun ret13 w14 hR13=>?_)
   obtain ⟨r14,u11,f11,rfl,h,hr13,hf19,hB13⟩:=hR13
   refine⟨_,rfl,?_⟩
   replace hC:=hC.push hB13 (ZLd (ZTe 22 (ZTe 2 (eI.tr))) r14 [u11] f11) hr13 hf19
   refine done (aK (by assumption) (Zc 17 16383) (aO 14 rfl ?_))
   refine Zg [.agg #[u0_0,u0_1],u11,vI (ZFm.wrap (a3 - 1))] _ Tryz.func111 rfl rfl rfl (Zzu a0 r14 (ZFm.wrap (a3 - 1)) h _ (Yp (hC.getP 1 rfl) (hC.getP 0 rfl)) (ZXr _ (hC.getM 0 rfl).1)) (fun ret14 w15 hR14=>?_)
   obtain ⟨r13,u16,f12,rfl,h,hr14,hf20,hB14⟩:=hR14
   refine⟨_,rfl,?_⟩
   replace hC:=hC.push hB14 (ZLd (ZTe 22 (ZTe 2 (eI.tr))) r13 [u16] f12) hr14 hf20
   refine done (aK (by assumption) (Zc 17 32767) (Z7 15 (by decide) (by decide) (by kernel_rfl) (by kernel_rfl) rfl ?_))
   replace hC:=hC.sM [2,0,1,3] (M':=[ZLd (ZTe 22 (ZTe 2 (eI.tr))) r10 [u10] f10,ZLd (ZTe 22 (ZTe 2 (eI.tr))) r13 [u16] f12,ZLd (ZTe 22 (ZTe 2 (eI.tr))) r14 [u11] f11,blk b4 32 [u0_0,u0_1]]) (by decide) rfl
   obtain ⟨hm10,h⟩:=h
   refine Za8 hC ZXp J2 rfl (by decide) (by decide) rfl rfl hm10 fun v10 f21 w16 hC=>Zd (v:=v10) rfl (done (Z8 (Ze (sr (Yw hC 2 [u0_0,u0_1] rfl ag32 rfl rfl rfl (Za (v:=vI a1) rfl (Za (v:=vI a2) rfl (Za (v:=vI a3) rfl ?_))))))))
   refine Zg [.agg #[u0_0,u0_1],vI a1,vI a2,vI a3] _ ZX3 rfl rfl rfl (Zkw a0 a1 a2 a3 h _ (Yp (hC.getP 1 rfl) (hC.getP 0 rfl))) (fun ret15 w17 hR15=>?_)
   obtain ⟨r15,u12,f13,rfl,h,hr15,hf21,hB15⟩:=hR15
   refine⟨_,rfl,?_⟩
   replace hC:=hC.push hB15 (ZLd (ZTe 22 (ZTe 2 (eI.tr))) r15 [u12] f13) hr15 hf21
   have hs10:=Zai hC 0 rfl
   replace hC:=hC.thaw 0 rfl (ZKv (ZNz.sl) r15 [u12] f13) (fun h_=>ZXr _ h_.1) (fun _ hb_=>hb_)
   refine Zg [u12] _ ZXy rfl rfl rfl (Zf0 r15 h _ (hC.getP 0 rfl)) (fun ret16 w18 hR16=>?_)
   obtain ⟨r16,u17,f14,rfl,h,hr16,hf10,hB16⟩:=hR16
   refine⟨_,rfl,?_⟩
   have hs14:∀ b,b∈f14→w0.heap.size≤b:=(fun b hb=>(hf10 b hb).elim (fun h_=>ZDa hC.size h_) (fun hb=>hs10 b hb))
   replace hC:=hC.pushR hB16 (ZKv (ZNz.sl) r16 [u17] f14) hr16 (fun b hb=>(hf10 b hb).elim .inl (fun hb=>.inr (⟨_,List.mem_of_getElem? (i:=0) rfl,hb⟩)))
   obtain ⟨Ad12,c12,hv12⟩:=Zu (hC.getP 0 rfl)
   refine Zt ZXp (tr rfl hv12) (Za (v:=v10) rfl ?_)
   have hs11:=Zai hC 0 rfl
   replace hC:=hC.thaw 0 rfl (ZKv (ZNz.sl) (r10++r13) [v10] f21) (fun h_=>ZXr _ h_.1) (fun _ hb_=>hb_)
   refine Zg [v10] _ ZXy rfl rfl rfl (Zf0 (r10++r13) h _ (hC.getP 0 rfl)) (fun ret17 w19 hR17=>?_)
   obtain ⟨r17,u18,f15,rfl,h,hr17,hf11,hB17⟩:=hR17
   refine⟨_,rfl,?_⟩
   have hs15:∀ b,b∈f15→w0.heap.size≤b:=(fun b hb=>(hf11 b hb).elim (fun h_=>ZDa hC.size h_) (fun hb=>hs11 b hb))
   replace hC:=hC.pushR hB17 (ZKv (ZNz.sl) r17 [u18] f15) hr17 (fun b hb=>(hf11 b hb).elim .inl (fun hb=>.inr (⟨_,List.mem_of_getElem? (i:=0) rfl,hb⟩)))
   obtain ⟨Ad13,c13,hv13⟩:=Zu (hC.getP 0 rfl)
   refine Zt ZXp (tr rfl hv13) (X0 rfl rfl (Zd (v:=vI (ZFm.wrap ((r16.length:Int) - (r17.length:Int)))) rfl (dn (ZK4 ?_))))
   refine Zi (fn:=Tryz.f61) rfl ?_ ⟨ZFm.wrap ((r16.length:Int) - (r17.length:Int)),rfl,h,hC.below⟩ (.inl rfl)
   exact Zf rfl
  ·replace h:=Zl h (cf hb10)
   refine ZK0 (Ze (sr (Yw hC 1 [u0_0,u0_1] rfl ag32 rfl rfl rfl (Za (v:=vI a1) rfl (Za (v:=vI a2) rfl (Za (v:=vI a3) rfl ?_))))))
   refine Zg [.agg #[u0_0,u0_1],vI a1,vI a2,vI a3] _ ZX3 rfl rfl rfl (Zkw a0 a1 a2 a3 h _ (Yp (hC.getP 1 rfl) (hC.getP 0 rfl))) (fun ret18 w20 hR18=>?_)
   obtain ⟨r18,u13,f16,rfl,h,hr18,hf22,hB18⟩:=hR18
   refine⟨_,rfl,?_⟩
   replace hC:=hC.push hB18 (ZLd (ZTe 22 (ZTe 2 (eI.tr))) r18 [u13] f16) hr18 hf22
   have hs12:=Zai hC 0 rfl
   replace hC:=hC.thaw 0 rfl (ZKv (ZNz.sl) r18 [u13] f16) (fun h_=>ZXr _ h_.1) (fun _ hb_=>hb_)
   refine Zg [u13] _ ZXy rfl rfl rfl (Zf0 r18 h _ (hC.getP 0 rfl)) (fun ret19 w21 hR19=>?_)
   obtain ⟨r19,u19,f17,rfl,h,hr19,hf12,hB19⟩:=hR19
   refine⟨_,rfl,?_⟩
   have hs16:∀ b,b∈f17→w0.heap.size≤b:=(fun b hb=>(hf12 b hb).elim (fun h_=>ZDa hC.size h_) (fun hb=>hs12 b hb))
   replace hC:=hC.pushR hB19 (ZKv (ZNz.sl) r19 [u19] f17) hr19 (fun b hb=>(hf12 b hb).elim .inl (fun hb=>.inr (⟨_,List.mem_of_getElem? (i:=0) rfl,hb⟩)))
   obtain ⟨Ad14,c14,hv14⟩:=Zu (hC.getP 0 rfl)
   refine Zt ZXp (tr rfl hv14) (Za (v:=u10) rfl ?_)
   have hs13:=Zai hC 0 rfl
   replace hC:=hC.thaw 0 rfl (ZKv (ZNz.sl) r10 [u10] f10) (fun h_=>ZXr _ h_.1) (fun _ hb_=>hb_)
   refine Zg [u10] _ ZXy rfl rfl rfl (Zf0 r10 h _ (hC.getP 0 rfl)) (fun ret20 w22 hR20=>?_)
   obtain ⟨r20,u20,f18,rfl,h,hr20,hf13,hB20⟩:=hR20
   refine⟨_,rfl,?_⟩
   have hs17:∀ b,b∈f18→w0.heap.size≤b:=(fun b hb=>(hf13 b hb).elim (fun h_=>ZDa hC.size h_) (fun hb=>hs13 b hb))
   replace hC:=hC.pushR hB20 (ZKv (ZNz.sl) r20 [u20] f18) hr20 (fun b hb=>(hf13 b hb).elim .inl (fun hb=>.inr (⟨_,List.mem_of_getElem? (i:=0) rfl,hb⟩)))
   obtain ⟨Ad15,c15,hv15⟩:=Zu (hC.getP 0 rfl)
   refine Zt ZXp (tr rfl hv15) (X0 rfl rfl (Zd (v:=vI (ZFm.wrap ((r19.length:Int) - (r20.length:Int)))) rfl (dn (ZK4 ?_))))
   refine Zi (fn:=Tryz.f61) rfl ?_ ⟨ZFm.wrap ((r19.length:Int) - (r20.length:Int)),rfl,h,hC.below⟩ (.inl rfl)
   exact Zf rfl
end Go.Proofs.YtaagfepgbofmlaaGreat
