import Derived.Test.YtaagfepgbofmlaaGreatQ6
set_option linter.unusedSectionVars false
set_option linter.unusedSimpArgs false
set_option linter.unusedVariables false
open Decidable renaming not_not→ZOh
open Go renaming wp_seq→ZIa,wp_skip→ZIe,wp_block→ZIj,wp_ret→ZIi,wp_exit→ZIr
open Go.IntKind renaming i64→ZA7,u8→ZIk
open Go.Proofs.Tryz renaming underlying85→ZSo,underlying22→ZIs,prog→ZId,underlying144→ZUm,underlying142→ZVv,underlying69→ZV3,underlying75→ZV4
open Go.Value renaming ownBlock→Zzn
open Inhabited renaming default→Zyt
open Int renaming tmod→Zyy,add_emod→ZOr,mul_emod→ZOo,tmod_eq_emod_of_nonneg→ZAy,tdiv→ZSf,natCast_nonneg→ZIv,ofNat_lt→ZJi,mul_nonneg→ZOx,mul_comm→ZVw,mul_assoc→ZVx,mul_le_mul_of_nonneg_right→ZVy,toNat_natCast→ZVz,add_zero→ZOk,zero_add→ZAd,le_trans→ZV1,mul_add→ZV5,emod_emod→ZWe,mul_le_mul→ZOy,ediv_nonneg→ZWf,zero_mul→ZWh
open List renaming mem_cons→Zyz,mem_singleton→ZAs,getD→Zzm,not_mem_nil→ZAt,mem_append→Zzu,length_take→ZOn,length_map→ZO3,toArray→ZH8,length_append→ZBe,take_of_length_le→Zzz,mem_map→Zy2,pairwise_cons→Zzy,length_eq_one_iff→ZI4,range→Zzj,mem_append_left→ZA1,ext_getElem→ZBg,pairwise_append→ZDa,map_append→ZV7,take_length→ZV8,append_assoc→ZWg,replicate→Zy0,pairwise_map→ZO1,pairwise_singleton→ZWq,length_singleton→ZW0,mem_cons_of_mem→ZW3,mem_append_right→ZA2,length_replicate→ZXa,take_append_drop→ZCk,mem_of_mem_drop→Zz5
open List.Pairwise renaming nil→ZC9
open Nat renaming le_of_ble_eq_true→ZIc,lt_of_le_of_lt→ZSs,zero_le→ZAq,le_refl→Zy1,lt_trichotomy→ZWi
open Option renaming toList→ZI5
open Vc renaming EElem→ZVr,Form→ZIb,Derive→ZVu
open Vc.A8 renaming get_set→ZK0,get_mkf→ZOf,get_add→ZVt,zero→ZIg,ext_get→ZK1,get_zero→ZV6
open Vc.Ctx renaming start→ZIt
open Vc.Elem renaming enc→ZVs
open Vc.Enc renaming encs_append→ZIz
open Vc.Tr renaming sl→ZOd,item→ZIm,trep→ZSk
open Vc.Ty renaming item→ZH7
set_option maxRecDepth 4000
set_option maxHeartbeats 4000000
namespace Go.Proofs.YtaagfepgbofmlaaGreat
open Go Go.RowKit Vc
def Zhh (a0:ZVu) (K:Int→List (List (A8×Int))→Prop):Prop :=
 Yt (fun i10 (s10:(List (List (A8×Int)))) nx10=>Zes a0.alg (a0.images.getD i10 Zyt) (fun r12=>((0≤(i10:Int)∧(i10:Int) < (a0.alg.images.length:Int))∧Zdt (a0.alg.images.getD i10 Zyt) (fun r10=>Zhf (⟨a0.alg,a0.drop,a0.images⟩:ZVu) r10 (fun r11=>Zhg a0.drop (fun r13=>Zam r12 r11 r13 (fun m10=>(Yo (s10.length+1) 8∧nx10 (s10++[m10]))))))))) (fun (s10:(List (List (A8×Int))))=>K (ZA7.wrap (a0.drop - 1)) s10) a0.images.length 0 []
theorem Zwo (a0:ZVu) {b0:Nat} {u0_0:Value} {u0_1:Value} {u0_2:Value} {fp0:List Nat} {K:Int→List (List (A8×Int))→Prop} (h:Zhh a0 K) (w0:World) (q0:(Xq 32).rep a0 [u0_0,u0_1,u0_2] fp0 w0) (qb0:(blk b0 144 [u0_0,u0_1,u0_2]).holds w0) :
  Calls ZId 107 #[.pointer (some ⟨b0,0,none⟩)] w0 fun e w'=>∃ (r0:Int) (ri0:List (List (A8×Int))) (zb0:Nat) (z0_0:Value) (fz0:List Nat),
   e=.returned (.pointer (some ⟨zb0,0,none⟩))∧K r0 ri0∧(blk zb0 144 [u0_0,.int .i64 r0,z0_0]).holds w'∧(ZIm (ZOd 115 (Y8 (kvA .i64) (vvI .i64))) ri0 [z0_0] fz0).holds w'∧(∀ x,x∈[zb0]→x∉fz0)∧(∀ x,x∈[zb0]++fz0→w0.heap.size≤x)∧Bel w0 w':=by
 unfold Zhh at h
 refine Z4 (args:=[.pointer (some ⟨b0,0,none⟩)]) Tryz.func107 rfl 66 Tryz.ntmps107 (ZIc rfl) ?_
 have hC:=ZIt (X:=Nox) w0 [ZH7 (Xq 32) a0 [u0_0,u0_1,u0_2] fp0,blk b0 144 [u0_0,u0_1,u0_2]] (by simp only [Zyz,ZAt,or_false,forall_eq_or_imp,forall_eq]; exact⟨q0,qb0⟩)
 have hp3:=(hC.getP 0 rfl)
 obtain ⟨b4,u5,u6,rfl,rfl,hbf7,hk8,ha9,hi11⟩:=Zog hp3
 have hp10:=ha9
 replace hC:=hC.derive 0 rfl (ZH7 ((EI .i64).ty.sl) a0.alg.degrees [u5] fp0) (fun _=>(Yw hp10).1) (fun _ hb_=>hb_)
 replace hC:=hC.derive 1 rfl (ZH7 TForm.sl a0.alg.images [u6] fp0) (fun _=>(Yw hp10).2) (fun _ hb_=>hb_)
 replace hC:=hC.derive 2 rfl (blk b4 32 [u5,u6]) (fun _=>hk8) (fun c_ hc_=>by obtain rfl:=ZAs.1 hc_; exact hbf7)
 replace hC:=hC.derive 3 rfl (ZH7 ((Xv (kvA .i64) (vvI .i64)).sl) a0.images [u0_2] fp0) (fun _=>hi11) (fun _ hb_=>hb_)
 refine sr (Zc (v:=.pointer none) rfl (dn (ZIa ?_)))
 refine Yg 9 Ye [0,1,3,7,0,16,48,112,240,511,1023,2047] [3,7] [0,1,2,4,5,6,8] (by kernel_rfl) (by kernel_rfl) (by kernel_rfl) (fun hM13 hM11 w10 hB_=>?_)
 replace hC:=hC.grow hB_
 refine aF 0 (.pointer (some ⟨b0,0,none⟩)) rfl rfl (hM11 0 rfl) (rfl) (fun _=>by exact Zf (v:=.pointer (some ⟨b0,0,none⟩)) rfl) (Za 12 1) (aF 1 (.pointer (some ⟨b0,0,none⟩)) rfl rfl (hM11 1 rfl) (rfl) (fun _=>by exact J9 rfl) (Za 12 3) (aF 2 (.pointer (some ⟨b0,0,none⟩)) rfl rfl (hM11 2 rfl) (rfl) (fun _=>by exact Z7 0 ZUm rfl sc66.size rfl rfl) (Za 12 7) (aL 3 (.pointer (some ⟨b4,0,none⟩)) rfl rfl (hM13 3 rfl) (rfl) (fun _ hB_=>by exact Zaz (.pointer (some ⟨b4,0,none⟩)) ((hC.grow hB_).getP 5 rfl) sc66 rfl rfl) (Za 12 15) (aF 4 (.pointer (some ⟨b0,0,none⟩)) rfl rfl (hM11 4 rfl) (rfl) (fun _=>by exact Zf (v:=.pointer (some ⟨b0,0,none⟩)) rfl) (Za 12 31) (aF 5 (.pointer (some ⟨b0,0,none⟩)) rfl rfl (hM11 5 rfl) (rfl) (fun _=>by exact J9 rfl) (Za 12 63) (aF 6 (.pointer (some ⟨b0,1,none⟩)) rfl rfl (hM11 6 rfl) (rfl) (fun _=>by exact Z7 1 ZUm rfl sc2.size rfl rfl) (Za 12 127) (aL 7 (.int .i64 a0.drop) rfl rfl (hM13 7 rfl) (rfl) (fun _ hB_=>by exact Zaz (.int .i64 a0.drop) ((hC.grow hB_).getP 5 rfl) sc2 rfl rfl) (Za 12 255) (aF 8 (.int .i64 (ZA7.wrap (a0.drop - 1))) rfl rfl (hM11 8 rfl) (rfl) (fun _=>by exact Zci rfl rfl) (Za 12 511) (Zu 9 (by decide) (by decide) (by kernel_rfl) (by kernel_rfl) rfl (Jn [(0,.pointer (some ⟨b4,0,none⟩)),(1,.int .i64 (ZA7.wrap (a0.drop - 1)))] rfl (Zor b4 (ZA7.wrap (a0.drop - 1))  _) (Yl (v:=.agg #[.pointer (some ⟨b4,0,none⟩),.int .i64 (ZA7.wrap (a0.drop - 1)),.slice none 0 0]) hC [.pointer (some ⟨b4,0,none⟩),.int .i64 (ZA7.wrap (a0.drop - 1)),.slice none 0 0] rfl rfl fun b11 w11 hB_ hC=>?_)))))))))))
 refine Zc (v:=.pointer (some ⟨b11,0,none⟩)) rfl (done (Zv (Zd (ZIa (sr (Zb (v:=.pointer (some ⟨b0,0,none⟩)) rfl (Zaf rfl (Z6 2 ZUm rfl sc142.size rfl rfl (Zbv (u0_2) (hC.getP 5 rfl) sc142 rfl rfl ?_)))))))))
 obtain ⟨Ad11,c10,hv12⟩:=Z1 (hC.getP 0 rfl)
 refine Zx ZVv (tr rfl hv12) (Zb (v:=.int .i64 0) rfl (dn (ZIj ?_)))
 have hN10:a0.images.length≤9223372036854775807:=Xp (hC.getP 0 rfl)
 refine Y9 (S:=(List (List (A8×Int)))) _ _ (fun i10 s10 e_ w_=>∃ (v10:Value),∃ (f10:List Nat),Z3 e_ [(0,.pointer (some ⟨b0,0,none⟩)),(3,.pointer (some ⟨b11,0,none⟩)),(21,u0_2),(22,.int .i64 (a0.images.length:Int)),(23,.int .i64 (i10:Int))]∧Ctx Nox w0 w_ [ZIm (ZOd 115 (Y8 (kvA .i64) (vvI .i64))) s10 [v10] f10,blk b11 144 [.pointer (some ⟨b4,0,none⟩),.int .i64 (ZA7.wrap (a0.drop - 1)),v10]] [ZH7 ((Xv (kvA .i64) (vvI .i64)).sl) a0.images [u0_2] fp0,blk b4 32 [u5,u6],ZH7 TForm.sl a0.alg.images [u6] fp0,ZH7 ((EI .i64).ty.sl) a0.alg.degrees [u5] fp0,ZH7 (Xq 32) a0 [.pointer (some ⟨b4,0,none⟩),.int .i64 a0.drop,u0_2] fp0,blk b0 144 [.pointer (some ⟨b4,0,none⟩),.int .i64 a0.drop,u0_2]]) a0.images.length ?_ ?_ (s0:=[]) ?_ h
 ·clear hC h
  rintro i10 s10 e_ w12 nx10 K10 hi10 ⟨v10,f10,hS_,hC⟩ h hK10
  rw [ue hS_]
  refine sr (Zt rfl rfl (dn (ZIa (Yr rfl (decide_eq_true (by omega)) (ZIe (Zd (ZIa (ZIj (sr (Zb (v:=.int .i64 (i10:Int)) rfl ?_))))))))))
  obtain ⟨Ad12,c11,hv10⟩:=Z0 (hC.getP 0 rfl) i10 hi10
  refine Xb (len:=a0.images.length) ZVv sc115.size (tr rfl hv10) rfl (ZIv _) (ZJi.2 hi10) ?_
  obtain ⟨cs_,hl10,hc10,hr10⟩:=Xs (hC.getP 0 rfl) hv10 i10 hi10
  obtain ⟨u11,rfl⟩:=ZI4.1 hl10
  clear hl10
  rw [Xt _ _ hi10] at hr10
  obtain ⟨b13,rfl,hbf10,hm10⟩:=Zlf hr10
  replace hC:=hC.derive 0 rfl (Ze (kvA .i64) (vvI .i64) b13 (a0.images.getD i10 Zyt)) (fun _=>hm10) (fun c_ hc_=>by obtain rfl:=ZAs.1 hc_; exact hbf10)
  refine Xm (.map (some b13)) hc10 sc115 rfl (Zc (v:=.int .i64 (i10:Int)) rfl (Zc (v:=.map (some b13)) rfl (dn (sr (Zb (v:=.pointer (some ⟨b0,0,none⟩)) rfl (Zaf rfl (Z6 0 ZUm rfl sc66.size rfl rfl (Zbv (.pointer (some ⟨b4,0,none⟩)) (hC.getP 6 rfl) sc66 rfl rfl (Zb (v:=.map (some b13)) rfl ?_)))))))))
  refine Zg [.pointer (some ⟨b4,0,none⟩),.map (some b13)] _ Tryz.func154 rfl rfl rfl (Zn0 a0.alg (a0.images.getD i10 Zyt) h _ (Xy (hC.getP 4 rfl) (hC.getP 3 rfl)) (hC.getP 2 rfl) (hC.getP 0 rfl)) (fun ret10 w13 hR10=>?_)
  obtain ⟨r12,b10,rfl,h,hr12,hf10,hB10⟩:=hR10
  refine⟨_,rfl,?_⟩
  replace hC:=hC.push hB10 (Ze (kvA .i64) (vvI .i64) b10 r12) hr12 (fun b_ hb_=>by obtain rfl:=ZAs.1 hb_; exact hf10)
  refine Zc (v:=.map (some b10)) rfl (dn (ZIa ?_))
  refine Yg 19 Ye [0,0,0,4,12,28,60,124,252,0,1020,2044,4092,8190,0,16384,49152,114688,262142,524287] [5,8,10,11,17] [0,1,2,3,4,6,7,9,14,15,16] (by kernel_rfl) (by kernel_rfl) (by kernel_rfl) (fun hM12 hM10 w14 hB_=>?_)
  replace hC:=hC.grow hB_
  refine aF 0 (.map (some b10)) rfl rfl (hM10 0 rfl) (rfl) (fun _=>by exact Zf (v:=.map (some b10)) rfl) (Za 20 1) (aF 1 (.pointer (some ⟨b0,0,none⟩)) rfl rfl (hM10 1 rfl) (rfl) (fun _=>by exact Zf (v:=.pointer (some ⟨b0,0,none⟩)) rfl) (Za 20 3) (aF 2 (.pointer (some ⟨b0,0,none⟩)) rfl rfl (hM10 2 rfl) (rfl) (fun _=>by exact Zf (v:=.pointer (some ⟨b0,0,none⟩)) rfl) (Za 20 7) (aF 3 (.pointer (some ⟨b0,0,none⟩)) rfl rfl (hM10 3 rfl) (rfl) (fun _=>by exact J9 rfl) (Za 20 15) (aF 4 (.pointer (some ⟨b0,0,none⟩)) rfl rfl (hM10 4 rfl) (rfl) (fun _=>by exact Z7 0 ZUm rfl sc66.size rfl rfl) (Za 20 31) (aL 5 (.pointer (some ⟨b4,0,none⟩)) rfl rfl (hM12 5 rfl) (rfl) (fun _ hB_=>by exact Zaz (.pointer (some ⟨b4,0,none⟩)) ((hC.grow hB_).getP 6 rfl) sc66 rfl rfl) (Za 20 63) (aF 6 (.pointer (some ⟨b4,0,none⟩)) rfl rfl (hM10 6 rfl) (rfl) (fun _=>by exact J9 rfl) (Za 20 127) (aF 7 (.pointer (some ⟨b4,1,none⟩)) rfl rfl (hM10 7 rfl) (rfl) (fun _=>by exact Z7 1 Tryz.underlying32 rfl sc30.size rfl rfl) (Za 20 255) (aL 8 (u6) rfl rfl (hM12 8 rfl) (rfl) (fun _ hB_=>by exact Zaz (u6) ((hC.grow hB_).getP 2 rfl) sc30 rfl rfl) (Za 20 511) (aF 9 (.int .i64 (i10:Int)) rfl rfl (hM10 9 rfl) (rfl) (fun _=>by exact Zf (v:=.int .i64 (i10:Int)) rfl) (Za 20 1023) ?_)))))))))
  obtain ⟨⟨h10,h11⟩,h⟩:=h
  obtain ⟨Ad10,c12,hv11⟩:=Z0 (hC.getP 3 rfl) i10 (show i10 < a0.alg.images.length by omega)
  refine aL 10 (.pointer (some (Ad10.add (i10 * 1)))) rfl rfl (hM12 10 rfl) (rfl) (fun _ hB_=>by exact Yp (len:=a0.alg.images.length) Tryz.underlying30 ag55.size (by exact tr rfl hv11) rfl h10 h11) (Za 20 2047) ?_
  obtain ⟨cs_,hl11,hc11,hr11⟩:=Xs (hC.getP 3 rfl) hv11 i10 (show i10 < a0.alg.images.length by omega)
  obtain ⟨u10,rfl⟩:=ZI4.1 hl11
  clear hl11
  rw [Xt _ _ (show i10 < a0.alg.images.length by omega)] at hr11
  have hp11:=hr11
  replace hC:=hC.derive 3 rfl (ZH7 ETerm.ty.sl ((a0.alg.images.getD i10 Zyt).terms) [u10] fp0) (fun _=>(Xi hp11)) (fun _ hb_=>hb_)
  refine aL 11 (.agg #[u10]) rfl rfl (hM12 11 rfl) (rfl) (fun _ hB_=>by exact X4 [u10] (Jz hB_ hc11) ag55 rfl rfl) (Za 20 4095) (aF 14 (.pointer (some ⟨b0,0,none⟩)) rfl rfl (hM10 14 rfl) (rfl) (fun _=>by exact Zf (v:=.pointer (some ⟨b0,0,none⟩)) rfl) (Za 20 20479) (aF 15 (.pointer (some ⟨b0,0,none⟩)) rfl rfl (hM10 15 rfl) (rfl) (fun _=>by exact J9 rfl) (Za 20 53247) (aF 16 (.pointer (some ⟨b0,1,none⟩)) rfl rfl (hM10 16 rfl) (rfl) (fun _=>by exact Z7 1 ZUm rfl sc2.size rfl rfl) (Za 20 118783) (aL 17 (.int .i64 a0.drop) rfl rfl (hM12 17 rfl) (rfl) (fun _ hB_=>by exact Zaz (.int .i64 a0.drop) ((hC.grow hB_).getP 7 rfl) sc2 rfl rfl) (Za 20 249855) (aO 12 rfl ?_)))))
  refine Zg [.agg #[u10]] _ Tryz.func78 rfl rfl rfl (Zkv (a0.alg.images.getD i10 Zyt) h _ (Yq (hC.getP 0 rfl))) (fun ret11 w15 hR11=>?_)
  obtain ⟨r10,b14,rfl,h,hr13,hf11,hB11⟩:=hR11
  refine⟨_,rfl,?_⟩
  replace hC:=hC.push hB11 (Ze (kvA .i64) (vvI .i64) b14 r10) hr13 (fun b_ hb_=>by obtain rfl:=ZAs.1 hb_; exact hf11)
  refine done (aK (by assumption) (Za 20 253951) (aO 13 rfl ?_))
  refine Zg [.pointer (some ⟨b0,0,none⟩),.map (some b14)] _ Tryz.func166 rfl rfl rfl (Zwm (⟨a0.alg,a0.drop,a0.images⟩:ZVu) r10 h _ (Zoh (hC.getP 3 rfl) (Xy (hC.getP 5 rfl) (hC.getP 4 rfl)) (hC.getP 2 rfl)) (hC.getP 7 rfl) (hC.getM 0 rfl)) (fun ret12 w16 hR12=>?_)
  obtain ⟨r11,b15,rfl,h,hr14,hf12,hB12⟩:=hR12
  refine⟨_,rfl,?_⟩
  replace hC:=hC.push hB12 (Ze (kvA .i64) (vvI .i64) b15 r11) hr14 (fun b_ hb_=>by obtain rfl:=ZAs.1 hb_; exact hf12)
  refine done (aK (by assumption) (Za 20 262143) (aO 18 rfl ?_))
  refine Zg [.int .i64 a0.drop] _ Tryz.func167 rfl rfl rfl (Zwn a0.drop h _) (fun ret13 w17 hR13=>?_)
  obtain ⟨r13,rfl,h,hB13⟩:=hR13
  refine⟨_,rfl,?_⟩
  replace hC:=hC.grow hB13
  refine done (aK (by assumption) (Za 20 524287) (Zu 19 (by decide) (by decide) (by kernel_rfl) (by kernel_rfl) rfl ?_))
  refine Zg [.map (some b10),.map (some b15),.int .i64 r13] _ Tryz.func165 rfl rfl rfl (Ziq r12 r11 r13 h _ (hC.getM 2 rfl) (fun c_ hc_ e_=>hC.mm 0 2 rfl rfl (by decide) c_ hc_ (ZAs.2 e_)) (hC.getM 0 rfl)) (fun ret14 w18 hR14=>?_)
  obtain ⟨m10,rfl,h,hm11,hB14⟩:=hR14
  refine⟨_,rfl,?_⟩
  replace hC:=hC.turnB 2 rfl hB14 rfl rfl hm11
  refine done (Zv (Zd (Zh (Zb (v:=.pointer (some ⟨b11,0,none⟩)) rfl (Zb (v:=.pointer (some ⟨b11,0,none⟩)) rfl (Zaf rfl (Z6 2 ZUm rfl sc142.size rfl rfl (Z8 hC 4 (v10) rfl sc142 rfl rfl (Zb (v:=.map (some b10)) rfl (Xr (sz:=1) hC [(0,.map (some b10))] [.map (some b10)] rfl (fun _=>Zlk b10  _) rfl (by decide) fun b12 w19 hB_ hC=>?_))))))))))
  replace hC:=hC.pushM0 (Ym (Y8 (kvA .i64) (vvI .i64)) [] [] []) (Za5 _ _) rfl
  replace hC:=hC.sM [4,0,1,2,3,5,6] (M':=[Ze (kvA .i64) (vvI .i64) b10 m10,Ym (Y8 (kvA .i64) (vvI .i64)) [] [] [],own 115 1 (.slice (some ⟨b12,0,none⟩) 1 1) 1 [.map (some b10)],Ze (kvA .i64) (vvI .i64) b15 r11,Ze (kvA .i64) (vvI .i64) b14 r10,ZIm (ZOd 115 (Y8 (kvA .i64) (vvI .i64))) s10 [v10] f10,blk b11 144 [.pointer (some ⟨b4,0,none⟩),.int .i64 (ZA7.wrap (a0.drop - 1)),v10]]) (by decide) rfl
  replace hC:=hC.gather (c:=Ym (Y8 (kvA .i64) (vvI .i64)) [m10] [.map (some b10)] [[b10]]) (fun x_ hx_=>Zc5 hx_) (fun h1_ h2_ hd_=>Zcq (c:=[.map (some b10)]) (Zle h1_) h2_ hd_)
  replace hC:=hC.sM [1,0,2,3,4,5] (M':=[own 115 1 (.slice (some ⟨b12,0,none⟩) 1 1) 1 [.map (some b10)],Ym (Y8 (kvA .i64) (vvI .i64)) [m10] [.map (some b10)] [[b10]],Ze (kvA .i64) (vvI .i64) b15 r11,Ze (kvA .i64) (vvI .i64) b14 r10,ZIm (ZOd 115 (Y8 (kvA .i64) (vvI .i64))) s10 [v10] f10,blk b11 144 [.pointer (some ⟨b4,0,none⟩),.int .i64 (ZA7.wrap (a0.drop - 1)),v10]]) (by decide) rfl
  replace hC:=hC.gather (c:=ZIm (ZOd 115 (Y8 (kvA .i64) (vvI .i64))) [m10] [.slice (some ⟨b12,0,none⟩) 1 1] ((ZI5 (Zzn (.slice (some ⟨b12,0,none⟩) 1 1)))++([[b10]]:List (List Nat)).flatten)) (fun x_ hx_=>Zzu.1 hx_) (fun h1_ h2_ hd_=>Zal h1_ h2_ hd_)
  replace hC:=hC.sM [3,0,1,2,4] (M':=[ZIm (ZOd 115 (Y8 (kvA .i64) (vvI .i64))) s10 [v10] f10,ZIm (ZOd 115 (Y8 (kvA .i64) (vvI .i64))) [m10] [.slice (some ⟨b12,0,none⟩) 1 1] ((ZI5 (Zzn (.slice (some ⟨b12,0,none⟩) 1 1)))++([[b10]]:List (List Nat)).flatten),Ze (kvA .i64) (vvI .i64) b15 r11,Ze (kvA .i64) (vvI .i64) b14 r10,blk b11 144 [.pointer (some ⟨b4,0,none⟩),.int .i64 (ZA7.wrap (a0.drop - 1)),v10]]) (by decide) rfl
  obtain ⟨hm12,h⟩:=h
  refine Zc4 hC ZVv Zll rfl (by decide) (by decide) rfl rfl hm12 fun v11 f11 w20 hC=>Zaf rfl (Z6 2 ZUm rfl sc142.size rfl rfl (Zw (v:=v11) hC 3 [v11] [.pointer (some ⟨b4,0,none⟩),.int .i64 (ZA7.wrap (a0.drop - 1)),v11] rfl sc142.size rfl rfl (Zff (ZSk _ (hC.getM 0 rfl).1)) rfl (Y6 (Zbw (ZSk _ (hC.getM 0 rfl).1)) rfl) (ZIc rfl) rfl fun w21 hC=>done (Zs (Zd (Zh (Zq rfl rfl (Zb (v:=.int .i64 (ZA7.wrap ((i10:Int)+1))) rfl (done ?_))))))))
  replace hC:=hC.sM [0,3] (M':=[ZIm (ZOd 115 (Y8 (kvA .i64) (vvI .i64))) (s10++[m10]) [v11] f11,blk b11 144 [.pointer (some ⟨b4,0,none⟩),.int .i64 (ZA7.wrap (a0.drop - 1)),v11]]) (by decide) rfl
  replace hC:=hC.sP [2,3,4,5,6,7] (Ps':=[ZH7 ((Xv (kvA .i64) (vvI .i64)).sl) a0.images [u0_2] fp0,blk b4 32 [u5,u6],ZH7 TForm.sl a0.alg.images [u6] fp0,ZH7 ((EI .i64).ty.sl) a0.alg.degrees [u5] fp0,ZH7 (Xq 32) a0 [.pointer (some ⟨b4,0,none⟩),.int .i64 a0.drop,u0_2] fp0,blk b0 144 [.pointer (some ⟨b4,0,none⟩),.int .i64 a0.drop,u0_2]]) rfl
  exact hK10 (s10++[m10]) _ _ ⟨v11,f11,(sl ⟨rfl,rfl,rfl,rfl,(tr rfl (congrArg _ (Yh hi10 hN10))),trivial⟩),hC⟩ h
 ·clear hC h
  rintro s10 e_ w22 K10 ⟨v10,f10,hS_,hC⟩ h
  rw [ue hS_]
  refine sr (Zt rfl rfl (dn (ZIa (Yi rfl (decide_eq_false (by omega)) ?_))))
  refine ZIr (Zj (Zj (Z9 ?_)))
  refine Zd (sr (Zb (v:=.pointer (some ⟨b11,0,none⟩)) rfl (Zc (v:=.pointer (some ⟨b11,0,none⟩)) rfl (dn (ZIi ?_)))))
  refine Zp (fn:=Tryz.f107) rfl ?_ ⟨ZA7.wrap (a0.drop - 1),s10,b11,v10,f10,rfl,h,(hC.getM 1 rfl),(hC.getM 0 rfl),(fun x_ hx_ hy_=>hC.mm 1 0 rfl rfl (by decide) x_ hx_ hy_),(fun x_ hx_=>(Zzu.1 hx_).elim (fun hx_=>(hC.mfp _ (List.mem_of_getElem? (i:=1) rfl) x_ hx_).elim id (fun q_=>q_.elim)) (fun hx_=>(hC.mfp _ (List.mem_of_getElem? (i:=0) rfl) x_ hx_).elim id (fun q_=>q_.elim))),hC.below⟩ (.inl rfl)
  exact Zi rfl
 ·skip
  replace hC:=hC.pushM0 (ZIm (ZOd 115 (Y8 (kvA .i64) (vvI .i64))) [] [.slice none 0 0] []) (Zbz _ _ _) rfl
  exact⟨.slice none 0 0,[],(sl ⟨rfl,rfl,rfl,rfl,rfl,trivial⟩),hC⟩
def Ze0 (a0:Alg) (a1:Int) (K:List (List Int)→Int→Prop):Prop :=
 Zez a0 a1 (fun r9 r12=>Zez a0 (ZA7.wrap (a1 - 1)) (fun r10 r13=>Zdx [r12,r13] (fun r15=>(if r15≠0 then K [] r15 else Yt (fun i11 (s10:(List (List Int))) nx11=>Yt (fun i12 (s12:(List (List (A8×Int)))) nx10=>(if(i12:Int)=(r9.getD i11 Zyt).gen then(Yo (s12.length+1) 8∧nx10 (s12++[Zz ([]:List (A8×Int)) ((r9.getD i11 Zyt).mono) 1])) else(Yo (s12.length+1) 8∧nx10 (s12++[([]:List (A8×Int))])))) (fun (s12:(List (List (A8×Int))))=>Zhh (⟨a0,a1,s12⟩:ZVu) (fun r14 r11=>Yt (fun i10 (s11:(List Int)) nx12=>((0≤(r10.getD i10 Zyt).gen∧(r10.getD i10 Zyt).gen < (r11.length:Int))∧(Yo (s11.length+1) 8∧nx12 (s11++[(Xu (r11.getD (((r10.getD i10 Zyt).gen).toNat) []) ((r10.getD i10 Zyt).mono)).getD 0])))) (fun (s11:(List Int))=>(Yo (s10.length+1) 24∧nx11 (s10++[s11]))) r10.length 0 [])) a0.degrees.length 0 []) (fun (s10:(List (List Int)))=>K s10 0) r9.length 0 []))))
theorem Zox (a0:Alg) (a1:Int) {b0:Nat} {u0_0:Value} {u0_1:Value} {fp0:List Nat} {K:List (List Int)→Int→Prop} (h:Ze0 a0 a1 K) (w0:World) (q0:TAlg.rep a0 [u0_0,u0_1] fp0 w0) (qb0:(blk b0 32 [u0_0,u0_1]).holds w0) :
  Calls ZId 56 #[.pointer (some ⟨b0,0,none⟩),.int .i64 a1] w0 fun e w'=>∃ (r0:List (List Int)) (z0_0:Value) (fz0:List Nat) (r1:Int),
   e=.returned (.tuple #[z0_0,.int .i64 r1])∧K r0 r1∧(ZIm (ZOd 22 (ZOd 2 ((EI .i64).tr))) r0 [z0_0] fz0).holds w'∧(∀ b,b∈fz0→w0.heap.size≤b)∧Bel w0 w':=by
 unfold Ze0 at h
 refine Z4 (args:=[.pointer (some ⟨b0,0,none⟩),.int .i64 a1]) Tryz.func56 rfl 78 Tryz.ntmps56 (ZIc rfl) ?_
 have hC:=ZIt (X:=Nox) w0 [ZH7 TAlg a0 [u0_0,u0_1] fp0,blk b0 32 [u0_0,u0_1]] (by simp only [Zyz,ZAt,or_false,forall_eq_or_imp,forall_eq]; exact⟨q0,qb0⟩)
 have hp3:=(hC.getP 0 rfl)
 replace hC:=hC.derive 0 rfl (ZH7 ((EI .i64).ty.sl) a0.degrees [u0_0] fp0) (fun _=>(Yw hp3).1) (fun _ hb_=>hb_)
 replace hC:=hC.derive 1 rfl (ZH7 TForm.sl a0.images [u0_1] fp0) (fun _=>(Yw hp3).2) (fun _ hb_=>hb_)
 refine sr (Zc (v:=.slice none 0 0) rfl (Zc (v:=.int .i64 0) rfl (dn (sr (Zb (v:=.pointer (some ⟨b0,0,none⟩)) rfl (Zb (v:=.int .i64 a1) rfl ?_))))))
 refine Zg [.pointer (some ⟨b0,0,none⟩),.int .i64 a1] _ Tryz.func47 rfl rfl rfl (Zow a0 a1 h _ (Xy (hC.getP 1 rfl) (hC.getP 0 rfl)) (hC.getP 3 rfl)) (fun ret6 w8 hR7=>?_)
 obtain ⟨r9,u11,f14,r12,rfl,h,hr10,hf11,hB10⟩:=hR7
 refine⟨_,rfl,?_⟩
 replace hC:=hC.push hB10 (ZIm (ZOd 75 ZVr.tr) r9 [u11] f14) hr10 hf11
 obtain ⟨ho10,hf12⟩:=Zac (hC.getM 0 rfl).1
 subst hf12
 replace hC:=hC.recast (c:=own 75 9 u11 r9.length (ZVr.encs r9)) (fun _ h_=>h_) (fun _=>ho10)
 refine Zb (v:=.tuple #[u11,.int .i64 r12]) rfl (Xk (v:=u11) rfl rfl (Xk (v:=.int .i64 r12) rfl rfl (Zc (v:=u11) rfl (Zc (v:=.int .i64 r12) rfl (dn (sr (Zb (v:=.pointer (some ⟨b0,0,none⟩)) rfl (Zb (v:=.int .i64 a1) rfl (Jt rfl rfl ?_)))))))))
 refine Zg [.pointer (some ⟨b0,0,none⟩),.int .i64 (ZA7.wrap (a1 - 1))] _ Tryz.func47 rfl rfl rfl (Zow a0 (ZA7.wrap (a1 - 1)) h _ (Xy (hC.getP 1 rfl) (hC.getP 0 rfl)) (hC.getP 3 rfl)) (fun ret10 w10 hR10=>?_)
 obtain ⟨r10,u10,f15,r13,rfl,h,hr11,hf13,hB11⟩:=hR10
 refine⟨_,rfl,?_⟩
 replace hC:=hC.push hB11 (ZIm (ZOd 75 ZVr.tr) r10 [u10] f15) hr11 hf13
 obtain ⟨ho11,hf14⟩:=Zac (hC.getM 0 rfl).1
 subst hf14
 replace hC:=hC.recast (c:=own 75 9 u10 r10.length (ZVr.encs r10)) (fun _ h_=>h_) (fun _=>ho11)
 refine Zb (v:=.tuple #[u10,.int .i64 r13]) rfl (Xk (v:=u10) rfl rfl (Xk (v:=.int .i64 r13) rfl rfl (Zc (v:=u10) rfl (Zc (v:=.int .i64 r13) rfl (dn (ZIa (sr (Zb (v:=.int .i64 r12) rfl (Zb (v:=.int .i64 r13) rfl (Xr (sz:=1) hC [(0,.int .i64 r12),(1,.int .i64 r13)] ((EI .i64).encs [r12,r13]) rfl (fun _=>Zlm r12 r13 _) rfl (by decide) fun b21 w11 hB_ hC=>?_))))))))))
 refine Zg [.slice (some ⟨b21,0,none⟩) 2 2] _ Tryz.func43 rfl rfl rfl (Zk1 [r12,r13] h _ (Y2 (hC.getM 0 rfl))) (fun ret11 w12 hR11=>?_)
 obtain ⟨r15,rfl,h,hB12⟩:=hR11
 refine⟨_,rfl,?_⟩
 replace hC:=hC.grow hB12
 refine Zc (v:=.int .i64 r15) rfl (dn (sr (Zb (v:=.int .i64 r15) rfl (Xl rfl rfl (dn ?_)))))
 refine Zr rfl (fun hb10=>?_) (fun hb10=>?_)
 ·replace h:=ift h (ct hb10)
  refine sr (Zb (v:=.int .i64 r15) rfl (Zc (v:=.slice none 0 0) rfl (Zc (v:=.int .i64 r15) rfl (dn ?_))))
  refine ZIi (Zo ?_)
  refine Jo (fn:=Tryz.f56) rfl ?_ ?_ ⟨[],.slice none 0 0,[],r15,rfl,h,(Zbz _ _ _),(fun b hb=>absurd hb (by simp)),hC.below⟩ (.inl rfl)
  ·exact Zi rfl
  ·exact Zi rfl
 ·replace h:=Zk h (cf hb10)
  refine ZIe (Zd (sr (Xr (sz:=1) hC [] [] rfl (fun _=>Zg2 _) rfl (by decide) fun b14 w13 hB_ hC=>?_)))
  replace hC:=hC.pushM0 (Ym (ZOd 2 ((EI .i64).tr)) ([]:List (List Int)) [] []) (Za5 _ _) rfl
  replace hC:=hC.gather (c:=ZIm (ZOd 22 (ZOd 2 ((EI .i64).tr))) [] [.slice (some ⟨b14,0,none⟩) 0 0] ((ZI5 (Zzn (.slice (some ⟨b14,0,none⟩) 0 0)))++([]:List (List Nat)).flatten)) (fun x_ hx_=>(Zzu.1 hx_).symm) (fun h1_ h2_ hd_=>Zal h2_ h1_ (fun b_ hb_ hb2_=>hd_ b_ hb2_ hb_))
  refine Zc (v:=.slice (some ⟨b14,0,none⟩) 0 0) rfl (dn (ZIa (sr (Zb (v:=u11) rfl ?_))))
  obtain ⟨Ad10,c10,hv13⟩:=J1 (hC.getM 3 rfl)
  refine Zx ZV3 (tr rfl hv13) (Zb (v:=.int .i64 0) rfl (dn (ZIj ?_)))
  have hN11:r9.length≤9223372036854775807:=Zh3 (hC.getM 3 rfl)
  refine Y9 (S:=(List (List Int))) _ _ (fun i11 s10 e_ w_=>∃ (v10:Value),∃ (f10:List Nat),Z3 e_ [(0,.pointer (some ⟨b0,0,none⟩)),(1,.int .i64 a1),(8,u10),(11,v10),(39,u11),(40,.int .i64 (r9.length:Int)),(41,.int .i64 (i11:Int))]∧Ctx Nox w0 w_ [ZIm (ZOd 22 (ZOd 2 ((EI .i64).tr))) s10 [v10] f10,own 75 9 u10 r10.length (ZVr.encs r10),own 75 9 u11 r9.length (ZVr.encs r9)] [ZH7 TForm.sl a0.images [u0_1] fp0,ZH7 ((EI .i64).ty.sl) a0.degrees [u0_0] fp0,ZH7 TAlg a0 [u0_0,u0_1] fp0,blk b0 32 [u0_0,u0_1]]) r9.length ?_ ?_ (s0:=[]) ?_ h
  ·clear hC h
   rintro i11 s10 e_ w14 nx11 K10 hi10 ⟨v10,f10,hS_,hC⟩ h hK11
   rw [ue hS_]
   refine sr (Zt rfl rfl (dn (ZIa (Yr rfl (decide_eq_true (by omega)) (ZIe (Zd (ZIa (ZIj (sr ?_)))))))))
   obtain ⟨Ad11,c11,hv10⟩:=Zai (hC.getM 2 rfl) (ZSs (ZAq _) hi10)
   refine Zao (i11 * 9) ZV3 ag75.size (tr rfl hv10) rfl (ZIv _) (ZJi.2 hi10) rfl (Zav (ZVs (r9.getD i11 Zyt)) (Zb6 (hC.getM 2 rfl) hv10 i11 hi10) ag75 rfl rfl (Yj hC (ZVs (⟨0,ZIg⟩:Elem)) z75 rfl fun b15 w15 hB_ hC=>Zw (v:=.agg (ZH8 (ZVs (r9.getD i11 Zyt)))) hC 0 (ZVs (r9.getD i11 Zyt)) (ZVs (r9.getD i11 Zyt)) rfl ag75.size rfl rfl rfl rfl rfl (ZIc rfl) rfl fun w16 hC=>dn (sr (Yy hC 0 (ZVs (r9.getD i11 Zyt)) rfl ag75 rfl rfl rfl (Zb (v:=.pointer (some ⟨b0,0,none⟩)) rfl (Zb (v:=.int .i64 a1) rfl (Zvg [.agg (ZH8 (ZVs (r9.getD i11 Zyt))),.pointer (some ⟨b0,0,none⟩),.int .i64 a1] Tryz.func48 rfl rfl 42 Tryz.ntmps48 (ZIc rfl) rfl (sr (Yl (v:=.agg (ZH8 (ZVs (r9.getD i11 Zyt)))) hC (ZVs (r9.getD i11 Zyt)) rfl rfl fun b13 w17 hB_ hC=>?_)))))))))
   refine Zc (v:=.pointer none) rfl (dn (sr (Zb (v:=.pointer (some ⟨b0,0,none⟩)) rfl (Zb (v:=.int .i64 a1) rfl (Jn [(0,.pointer (some ⟨b0,0,none⟩)),(1,.int .i64 a1)] rfl (Zor b0 a1  _) (Yl (v:=.agg #[.pointer (some ⟨b0,0,none⟩),.int .i64 a1,.slice none 0 0]) hC [.pointer (some ⟨b0,0,none⟩),.int .i64 a1,.slice none 0 0] rfl rfl fun b11 w18 hB_ hC=>Zc (v:=.pointer (some ⟨b11,0,none⟩)) rfl (dn (ZIa (sr (Zb (v:=.pointer (some ⟨b0,0,none⟩)) rfl ?_))))))))))
   refine Zaf rfl (Z6 0 Tryz.underlying32 rfl sc22.size rfl rfl (Zbv (u0_0) (hC.getP 3 rfl) sc22 rfl rfl ?_))
   obtain ⟨Ad12,c12,hv14⟩:=Z1 (hC.getP 1 rfl)
   refine Zx ZIs (tr rfl hv14) (Zb (v:=.int .i64 0) rfl (dn (ZIj ?_)))
   have hN10:a0.degrees.length≤9223372036854775807:=Xp (hC.getP 1 rfl)
   refine Y9 (S:=(List (List (A8×Int)))) _ _ (fun i12 s12 e_ w_=>∃ (v13:Value),∃ (f11:List Nat),Z3 e_ [(3,.pointer (some ⟨b13,0,none⟩)),(7,.pointer (some ⟨b11,0,none⟩)),(18,.int .i64 (a0.degrees.length:Int)),(19,.int .i64 (i12:Int))]∧Ctx Nox w0 w_ [ZIm (ZOd 115 (Y8 (kvA .i64) (vvI .i64))) s12 [v13] f11,blk b11 144 [.pointer (some ⟨b0,0,none⟩),.int .i64 a1,v13],blk b13 75 (ZVs (r9.getD i11 Zyt)),blk b15 75 (ZVs (r9.getD i11 Zyt)),ZIm (ZOd 22 (ZOd 2 ((EI .i64).tr))) s10 [v10] f10,own 75 9 u10 r10.length (ZVr.encs r10),own 75 9 u11 r9.length (ZVr.encs r9)] [ZH7 TForm.sl a0.images [u0_1] fp0,ZH7 ((EI .i64).ty.sl) a0.degrees [u0_0] fp0,ZH7 TAlg a0 [u0_0,u0_1] fp0,blk b0 32 [u0_0,u0_1]]) a0.degrees.length ?_ ?_ (s0:=[]) ?_ h
   ·clear hC h
    rintro i12 s12 e_ w19 nx10 K11 hi12 ⟨v13,f11,hS_,hC⟩ h hK10
    rw [ue hS_]
    refine sr (Zt rfl rfl (dn (ZIa (Yr rfl (decide_eq_true (by omega)) (ZIe (Zd (ZIa (ZIj (sr (Zb (v:=.int .i64 (i12:Int)) rfl (Zc (v:=.int .i64 (i12:Int)) rfl ?_)))))))))))
    refine dn (sr (Zfj hC (kvA .i64) (vvI .i64) fun b10 w20 hB_ hC=>Zc (v:=.map (some b10)) rfl (dn (ZIa (sr (Zb (v:=.int .i64 (i12:Int)) rfl (Z6 0 ZV4 rfl sc3.size rfl rfl (Z8 hC 3 (.int .i64 ((r9.getD i11 Zyt).gen)) rfl sc3 rfl rfl (Jm rfl rfl (dn ?_))))))))))
    refine Zr rfl (fun hb11=>?_) (fun hb11=>?_)
    ·replace h:=ift h (ct hb11)
     refine Zh (Zb (v:=.map (some b10)) rfl (Z6 1 ZV4 rfl ag73.size rfl rfl (Yy hC 3 (A8.enc .i64 ((r9.getD i11 Zyt).mono)) rfl ag73 rfl rfl rfl ?_)))
     refine Zj8 hC 0 ((r9.getD i11 Zyt).mono) 1 rfl Y0 Tryz.underlying115 rfl rfl rfl (fun w21 hC=>?_) (.inl rfl)
     refine dn (Zh (Zb (v:=.pointer (some ⟨b11,0,none⟩)) rfl (Zb (v:=.pointer (some ⟨b11,0,none⟩)) rfl (Zaf rfl (Z6 2 ZUm rfl sc142.size rfl rfl (Z8 hC 2 (v13) rfl sc142 rfl rfl (Zb (v:=.map (some b10)) rfl (Xr (sz:=1) hC [(0,.map (some b10))] [.map (some b10)] rfl (fun _=>Zlk b10  _) rfl (by decide) fun b16 w22 hB_ hC=>?_))))))))
     replace hC:=hC.pushM0 (Ym (Y8 (kvA .i64) (vvI .i64)) [] [] []) (Za5 _ _) rfl
     replace hC:=hC.sM [2,0,1,3,4,5,6,7,8,9] (M':=[Ze (kvA .i64) (vvI .i64) b10 (Zz ([]:List (A8×Int)) ((r9.getD i11 Zyt).mono) 1),Ym (Y8 (kvA .i64) (vvI .i64)) [] [] [],own 115 1 (.slice (some ⟨b16,0,none⟩) 1 1) 1 [.map (some b10)],ZIm (ZOd 115 (Y8 (kvA .i64) (vvI .i64))) s12 [v13] f11,blk b11 144 [.pointer (some ⟨b0,0,none⟩),.int .i64 a1,v13],blk b13 75 (ZVs (r9.getD i11 Zyt)),blk b15 75 (ZVs (r9.getD i11 Zyt)),ZIm (ZOd 22 (ZOd 2 ((EI .i64).tr))) s10 [v10] f10,own 75 9 u10 r10.length (ZVr.encs r10),own 75 9 u11 r9.length (ZVr.encs r9)]) (by decide) rfl
     replace hC:=hC.gather (c:=Ym (Y8 (kvA .i64) (vvI .i64)) [Zz ([]:List (A8×Int)) ((r9.getD i11 Zyt).mono) 1] [.map (some b10)] [[b10]]) (fun x_ hx_=>Zc5 hx_) (fun h1_ h2_ hd_=>Zcq (c:=[.map (some b10)]) (Zle h1_) h2_ hd_)
     replace hC:=hC.sM [1,0,2,3,4,5,6,7,8] (M':=[own 115 1 (.slice (some ⟨b16,0,none⟩) 1 1) 1 [.map (some b10)],Ym (Y8 (kvA .i64) (vvI .i64)) [Zz ([]:List (A8×Int)) ((r9.getD i11 Zyt).mono) 1] [.map (some b10)] [[b10]],ZIm (ZOd 115 (Y8 (kvA .i64) (vvI .i64))) s12 [v13] f11,blk b11 144 [.pointer (some ⟨b0,0,none⟩),.int .i64 a1,v13],blk b13 75 (ZVs (r9.getD i11 Zyt)),blk b15 75 (ZVs (r9.getD i11 Zyt)),ZIm (ZOd 22 (ZOd 2 ((EI .i64).tr))) s10 [v10] f10,own 75 9 u10 r10.length (ZVr.encs r10),own 75 9 u11 r9.length (ZVr.encs r9)]) (by decide) rfl
     replace hC:=hC.gather (c:=ZIm (ZOd 115 (Y8 (kvA .i64) (vvI .i64))) [Zz ([]:List (A8×Int)) ((r9.getD i11 Zyt).mono) 1] [.slice (some ⟨b16,0,none⟩) 1 1] ((ZI5 (Zzn (.slice (some ⟨b16,0,none⟩) 1 1)))++([[b10]]:List (List Nat)).flatten)) (fun x_ hx_=>Zzu.1 hx_) (fun h1_ h2_ hd_=>Zal h1_ h2_ hd_)
     replace hC:=hC.sM [1,0,2,3,4,5,6,7] (M':=[ZIm (ZOd 115 (Y8 (kvA .i64) (vvI .i64))) s12 [v13] f11,ZIm (ZOd 115 (Y8 (kvA .i64) (vvI .i64))) [Zz ([]:List (A8×Int)) ((r9.getD i11 Zyt).mono) 1] [.slice (some ⟨b16,0,none⟩) 1 1] ((ZI5 (Zzn (.slice (some ⟨b16,0,none⟩) 1 1)))++([[b10]]:List (List Nat)).flatten),blk b11 144 [.pointer (some ⟨b0,0,none⟩),.int .i64 a1,v13],blk b13 75 (ZVs (r9.getD i11 Zyt)),blk b15 75 (ZVs (r9.getD i11 Zyt)),ZIm (ZOd 22 (ZOd 2 ((EI .i64).tr))) s10 [v10] f10,own 75 9 u10 r10.length (ZVr.encs r10),own 75 9 u11 r9.length (ZVr.encs r9)]) (by decide) rfl
     obtain ⟨hm10,h⟩:=h
     refine Zc4 hC ZVv Zll rfl (by decide) (by decide) rfl rfl hm10 fun v14 f16 w23 hC=>Zaf rfl (Z6 2 ZUm rfl sc142.size rfl rfl (Zw (v:=v14) hC 1 [v14] [.pointer (some ⟨b0,0,none⟩),.int .i64 a1,v14] rfl sc142.size rfl rfl (Zff (ZSk _ (hC.getM 0 rfl).1)) rfl (Y6 (Zbw (ZSk _ (hC.getM 0 rfl).1)) rfl) (ZIc rfl) rfl fun w24 hC=>done (Zs (Zd (Zh (Zq rfl rfl (Zb (v:=.int .i64 (ZA7.wrap ((i12:Int)+1))) rfl (done ?_))))))))
     exact hK10 (s12++[Zz ([]:List (A8×Int)) ((r9.getD i11 Zyt).mono) 1]) _ _ ⟨v14,f16,(sl ⟨rfl,rfl,rfl,(tr rfl (congrArg _ (Yh hi12 hN10))),trivial⟩),hC⟩ h
    ·replace h:=Zk h (cf hb11)
     refine ZIe (Zd (Zh (Zb (v:=.pointer (some ⟨b11,0,none⟩)) rfl (Zb (v:=.pointer (some ⟨b11,0,none⟩)) rfl (Zaf rfl (Z6 2 ZUm rfl sc142.size rfl rfl (Z8 hC 2 (v13) rfl sc142 rfl rfl (Zb (v:=.map (some b10)) rfl (Xr (sz:=1) hC [(0,.map (some b10))] [.map (some b10)] rfl (fun _=>Zlk b10  _) rfl (by decide) fun b17 w25 hB_ hC=>?_)))))))))
     replace hC:=hC.pushM0 (Ym (Y8 (kvA .i64) (vvI .i64)) [] [] []) (Za5 _ _) rfl
     replace hC:=hC.sM [2,0,1,3,4,5,6,7,8,9] (M':=[Ze (kvA .i64) (vvI .i64) b10 ([]:List (A8×Int)),Ym (Y8 (kvA .i64) (vvI .i64)) [] [] [],own 115 1 (.slice (some ⟨b17,0,none⟩) 1 1) 1 [.map (some b10)],ZIm (ZOd 115 (Y8 (kvA .i64) (vvI .i64))) s12 [v13] f11,blk b11 144 [.pointer (some ⟨b0,0,none⟩),.int .i64 a1,v13],blk b13 75 (ZVs (r9.getD i11 Zyt)),blk b15 75 (ZVs (r9.getD i11 Zyt)),ZIm (ZOd 22 (ZOd 2 ((EI .i64).tr))) s10 [v10] f10,own 75 9 u10 r10.length (ZVr.encs r10),own 75 9 u11 r9.length (ZVr.encs r9)]) (by decide) rfl
     replace hC:=hC.gather (c:=Ym (Y8 (kvA .i64) (vvI .i64)) [([]:List (A8×Int))] [.map (some b10)] [[b10]]) (fun x_ hx_=>Zc5 hx_) (fun h1_ h2_ hd_=>Zcq (c:=[.map (some b10)]) (Zle h1_) h2_ hd_)
     replace hC:=hC.sM [1,0,2,3,4,5,6,7,8] (M':=[own 115 1 (.slice (some ⟨b17,0,none⟩) 1 1) 1 [.map (some b10)],Ym (Y8 (kvA .i64) (vvI .i64)) [([]:List (A8×Int))] [.map (some b10)] [[b10]],ZIm (ZOd 115 (Y8 (kvA .i64) (vvI .i64))) s12 [v13] f11,blk b11 144 [.pointer (some ⟨b0,0,none⟩),.int .i64 a1,v13],blk b13 75 (ZVs (r9.getD i11 Zyt)),blk b15 75 (ZVs (r9.getD i11 Zyt)),ZIm (ZOd 22 (ZOd 2 ((EI .i64).tr))) s10 [v10] f10,own 75 9 u10 r10.length (ZVr.encs r10),own 75 9 u11 r9.length (ZVr.encs r9)]) (by decide) rfl
     replace hC:=hC.gather (c:=ZIm (ZOd 115 (Y8 (kvA .i64) (vvI .i64))) [([]:List (A8×Int))] [.slice (some ⟨b17,0,none⟩) 1 1] ((ZI5 (Zzn (.slice (some ⟨b17,0,none⟩) 1 1)))++([[b10]]:List (List Nat)).flatten)) (fun x_ hx_=>Zzu.1 hx_) (fun h1_ h2_ hd_=>Zal h1_ h2_ hd_)
     replace hC:=hC.sM [1,0,2,3,4,5,6,7] (M':=[ZIm (ZOd 115 (Y8 (kvA .i64) (vvI .i64))) s12 [v13] f11,ZIm (ZOd 115 (Y8 (kvA .i64) (vvI .i64))) [([]:List (A8×Int))] [.slice (some ⟨b17,0,none⟩) 1 1] ((ZI5 (Zzn (.slice (some ⟨b17,0,none⟩) 1 1)))++([[b10]]:List (List Nat)).flatten),blk b11 144 [.pointer (some ⟨b0,0,none⟩),.int .i64 a1,v13],blk b13 75 (ZVs (r9.getD i11 Zyt)),blk b15 75 (ZVs (r9.getD i11 Zyt)),ZIm (ZOd 22 (ZOd 2 ((EI .i64).tr))) s10 [v10] f10,own 75 9 u10 r10.length (ZVr.encs r10),own 75 9 u11 r9.length (ZVr.encs r9)]) (by decide) rfl
     obtain ⟨hm11,h⟩:=h
     refine Zc4 hC ZVv Zll rfl (by decide) (by decide) rfl rfl hm11 fun v15 f17 w26 hC=>Zaf rfl (Z6 2 ZUm rfl sc142.size rfl rfl (Zw (v:=v15) hC 1 [v15] [.pointer (some ⟨b0,0,none⟩),.int .i64 a1,v15] rfl sc142.size rfl rfl (Zff (ZSk _ (hC.getM 0 rfl).1)) rfl (Y6 (Zbw (ZSk _ (hC.getM 0 rfl).1)) rfl) (ZIc rfl) rfl fun w27 hC=>done (Zs (Zd (Zh (Zq rfl rfl (Zb (v:=.int .i64 (ZA7.wrap ((i12:Int)+1))) rfl (done ?_))))))))
     exact hK10 (s12++[([]:List (A8×Int))]) _ _ ⟨v15,f17,(sl ⟨rfl,rfl,rfl,(tr rfl (congrArg _ (Yh hi12 hN10))),trivial⟩),hC⟩ h
   ·clear hC h
    rintro s12 e_ w28 K11 ⟨v13,f11,hS_,hC⟩ h
    rw [ue hS_]
    refine sr (Zt rfl rfl (dn (ZIa (Yi rfl (decide_eq_false (by omega)) ?_))))
    refine ZIr (Zj (Zj (Z9 ?_)))
    refine Zd (sr (Zb (v:=.pointer (some ⟨b11,0,none⟩)) rfl (Zc (v:=.pointer (some ⟨b11,0,none⟩)) rfl (dn (ZIi ?_)))))
    refine Zp (fn:=Tryz.f48) (v:=.pointer (some ⟨b11,0,none⟩)) rfl (Zi rfl) ⟨_,rfl,?_⟩ (.inl rfl)
    refine Zg [.pointer (some ⟨b11,0,none⟩)] _ Tryz.func107 rfl rfl rfl (Zwo (⟨a0,a1,s12⟩:ZVu) h _ (Zoh (hC.getP 3 rfl) (Xy (hC.getP 1 rfl) (hC.getP 0 rfl)) (ZSk _ (hC.getM 0 rfl).1)) (hC.getM 1 rfl)) (fun ret12 w29 hR12=>?_)
    obtain ⟨r14,r11,b12,v11,f12,rfl,h,hr12,hr13,hr14,hr15,hB13⟩:=hR12
    refine⟨_,rfl,?_⟩
    replace hC:=hC.pushD hB13 (blk b12 144 [.pointer (some ⟨b0,0,none⟩),.int .i64 r14,v11]) (ZIm (ZOd 115 (Y8 (kvA .i64) (vvI .i64))) r11 [v11] f12) hr12 hr13 hr14 hr15
    refine Xr (sz:=1) hC [] ((EI .i64).encs []) rfl (fun _=>Zlj  _) rfl (by decide) fun b20 w30 hB_ hC=>Zc (v:=.pointer (some ⟨b12,0,none⟩)) rfl (Zc (v:=.slice (some ⟨b20,0,none⟩) 0 0) rfl (dn (ZIa (sr (Zb (v:=u10) rfl ?_)))))
    obtain ⟨Ad13,c13,hv15⟩:=J1 (hC.getM 8 rfl)
    refine Zx ZV3 (tr rfl hv15) (Zb (v:=.int .i64 0) rfl (dn (ZIj ?_)))
    have hN12:r10.length≤9223372036854775807:=Zh3 (hC.getM 8 rfl)
    refine Y9 (S:=(List Int)) _ _ (fun i10 s11 e_ w_=>∃ (v12:Value),Z3 e_ [(0,.pointer (some ⟨b0,0,none⟩)),(1,.int .i64 a1),(8,u10),(11,v10),(14,.pointer (some ⟨b12,0,none⟩)),(15,v12),(39,u11),(40,.int .i64 (r9.length:Int)),(41,.int .i64 (i11:Int)),(51,u10),(52,.int .i64 (r10.length:Int)),(53,.int .i64 (i10:Int))]∧Ctx Nox w0 w_ [own 2 1 v12 s11.length ((EI .i64).encs s11),blk b12 144 [.pointer (some ⟨b0,0,none⟩),.int .i64 r14,v11],ZIm (ZOd 115 (Y8 (kvA .i64) (vvI .i64))) r11 [v11] f12,ZIm (ZOd 22 (ZOd 2 ((EI .i64).tr))) s10 [v10] f10,own 75 9 u10 r10.length (ZVr.encs r10),own 75 9 u11 r9.length (ZVr.encs r9)] [ZH7 TForm.sl a0.images [u0_1] fp0,ZH7 ((EI .i64).ty.sl) a0.degrees [u0_0] fp0,ZH7 TAlg a0 [u0_0,u0_1] fp0,blk b0 32 [u0_0,u0_1]]) r10.length ?_ ?_ (s0:=[]) ?_ h
    ·clear hC h
     rintro i10 s11 e_ w31 nx12 K12 hi11 ⟨v12,hS_,hC⟩ h hK12
     rw [ue hS_]
     refine sr (Zt rfl rfl (dn (ZIa (Yr rfl (decide_eq_true (by omega)) (ZIe (Zd (ZIa (ZIj (sr ?_)))))))))
     obtain ⟨Ad14,c14,hv11⟩:=Zai (hC.getM 4 rfl) (ZSs (ZAq _) hi11)
     refine Zao (i10 * 9) ZV3 ag75.size (tr rfl hv11) rfl (ZIv _) (ZJi.2 hi11) rfl (Zav (ZVs (r10.getD i10 Zyt)) (Zb6 (hC.getM 4 rfl) hv11 i10 hi11) ag75 rfl rfl (Yj hC (ZVs (⟨0,ZIg⟩:Elem)) z75 rfl fun b19 w32 hB_ hC=>Zw (v:=.agg (ZH8 (ZVs (r10.getD i10 Zyt)))) hC 0 (ZVs (r10.getD i10 Zyt)) (ZVs (r10.getD i10 Zyt)) rfl ag75.size rfl rfl rfl rfl rfl (ZIc rfl) rfl fun w33 hC=>dn ?_))
     refine Yg 13 Ye [0,0,2,6,14,0,32,126,254,0,512,2046,4094,8191,16383] [4,6,7,8,10,11] [0,1,2,3,5,9] (by kernel_rfl) (by kernel_rfl) (by kernel_rfl) (fun hM10 hM11 w34 hB_=>?_)
     replace hC:=hC.grow hB_
     refine aF 0 (v12) rfl rfl (hM11 0 rfl) (rfl) (fun _=>by exact Zf (v:=v12) rfl) (Za 15 1) (aF 1 (.pointer (some ⟨b12,0,none⟩)) rfl rfl (hM11 1 rfl) (rfl) (fun _=>by exact Zf (v:=.pointer (some ⟨b12,0,none⟩)) rfl) (Za 15 3) (aF 2 (.pointer (some ⟨b12,0,none⟩)) rfl rfl (hM11 2 rfl) (rfl) (fun _=>by exact J9 rfl) (Za 15 7) (aF 3 (.pointer (some ⟨b12,2,none⟩)) rfl rfl (hM11 3 rfl) (rfl) (fun _=>by exact Z7 2 ZUm rfl sc142.size rfl rfl) (Za 15 15) (aL 4 (v11) rfl rfl (hM10 4 rfl) (rfl) (fun _ hB_=>by exact Z5 (hC.grow hB_) 2 (v11) rfl sc142 rfl rfl) (Za 15 31) (aF 5 (.pointer (some ⟨b19,0,none⟩)) rfl rfl (hM11 5 rfl) (rfl) (fun _=>by exact Z7 0 ZV4 rfl sc3.size rfl rfl) (Za 15 63) (aL 6 (.int .i64 ((r10.getD i10 Zyt).gen)) rfl rfl (hM10 6 rfl) (rfl) (fun _ hB_=>by exact Z5 (hC.grow hB_) 0 (.int .i64 ((r10.getD i10 Zyt).gen)) rfl sc3 rfl rfl) (Za 15 127) ?_))))))
     replace hC:=hC.sM [3,0,1,2,4,5,6] (M':=[ZIm (ZOd 115 (Y8 (kvA .i64) (vvI .i64))) r11 [v11] f12,blk b19 75 (ZVs (r10.getD i10 Zyt)),own 2 1 v12 s11.length ((EI .i64).encs s11),blk b12 144 [.pointer (some ⟨b0,0,none⟩),.int .i64 r14,v11],ZIm (ZOd 22 (ZOd 2 ((EI .i64).tr))) s10 [v10] f10,own 75 9 u10 r10.length (ZVr.encs r10),own 75 9 u11 r9.length (ZVr.encs r9)]) (by decide) rfl
     obtain ⟨bs1620,ho12,hf10⟩:=Zu6 (hC.getM 0 rfl)
     replace hC:=hC.recast (c:=Zdz 115 (kvA .i64) (vvI .i64) v11 bs1620 r11) (fun x_ hx_=>by have e_:=hf10; exact e_ ▸ hx_) (fun _=>ho12)
     obtain ⟨⟨h10,h11⟩,h⟩:=h
     obtain ⟨g10,cap10,hv12⟩:=Zai (hC.getM 0 rfl).1 (ZSs (ZAq _) (show ((r10.getD i10 Zyt).gen).toNat < r11.length by omega))
     refine aL 7 (.pointer (some ⟨g10,((r10.getD i10 Zyt).gen).toNat * 1,none⟩)) rfl rfl (hM10 7 rfl) (rfl) (fun _ hB_=>by exact Zba (((r10.getD i10 Zyt).gen).toNat * 1) ZVv sc115.size (by exact tr rfl hv12) rfl h10 h11 rfl) (Za 15 255) (aL 8 (.map (some (bs1620.getD (((r10.getD i10 Zyt).gen).toNat) 0))) rfl rfl (hM10 8 rfl) (rfl) (fun _ hB_=>by exact Xc (.map (some (bs1620.getD (((r10.getD i10 Zyt).gen).toNat) 0))) (Zu8 ((hC.grow hB_).getM 0 rfl) hv12 (show ((r10.getD i10 Zyt).gen).toNat < r11.length by omega)) sc115 rfl) (Za 15 511) (aF 9 (.pointer (some ⟨b19,1,none⟩)) rfl rfl (hM11 9 rfl) (rfl) (fun _=>by exact Z7 1 ZV4 rfl ag73.size rfl rfl) (Za 15 1023) (aL 10 (.agg (ZH8 (A8.enc .i64 ((r10.getD i10 Zyt).mono)))) rfl rfl (hM10 10 rfl) (rfl) (fun _ hB_=>by exact Yv (hC.grow hB_) 1 (A8.enc .i64 ((r10.getD i10 Zyt).mono)) rfl ag73 rfl rfl rfl) (Za 15 2047) (aL 11 (.int .i64 ((Xu (r11.getD (((r10.getD i10 Zyt).gen).toNat) []) ((r10.getD i10 Zyt).mono)).getD 0)) rfl rfl (hM10 11 rfl) (rfl) (fun _ hB_=>by exact Zm2 ((r10.getD i10 Zyt).mono) 0 (Zu9 ((hC.grow hB_).getM 0 rfl) (show ((r10.getD i10 Zyt).gen).toNat < r11.length by omega)).1 Y0 Tryz.underlying115 z2 rfl rfl) (Za 15 4095) (aO 12 rfl (Xr (sz:=1) hC [(0,.int .i64 ((Xu (r11.getD (((r10.getD i10 Zyt).gen).toNat) []) ((r10.getD i10 Zyt).mono)).getD 0))] ((EI .i64).encs [(Xu (r11.getD (((r10.getD i10 Zyt).gen).toNat) []) ((r10.getD i10 Zyt).mono)).getD 0]) rfl (fun _=>Zv7 ((Xu (r11.getD (((r10.getD i10 Zyt).gen).toNat) []) ((r10.getD i10 Zyt).mono)).getD 0) _) rfl (by decide) fun b22 w35 hB_ hC=>?_))))))
     refine done (aK (by assumption) (Za 15 8191) (Zu 13 (by decide) (by decide) (by kernel_rfl) (by kernel_rfl) rfl ?_))
     obtain ⟨hm12,h⟩:=h
     refine Zaw hC 3 ZIs el2 rfl (by decide) (by decide) rfl (Za9 (hC.getM 0 rfl)) (fun q hq=>Enc.encs_one' (E:=(EI .i64)) _ q hq) rfl rfl hm12 fun v16 w36 hC=>?_
     replace hC:=Jg hC 3 ((s11++[(Xu (r11.getD (((r10.getD i10 Zyt).gen).toNat) []) ((r10.getD i10 Zyt).mono)).getD 0]).length) ((EI .i64).encs (s11++[(Xu (r11.getD (((r10.getD i10 Zyt).gen).toNat) []) ((r10.getD i10 Zyt).mono)).getD 0])) rfl (by simp) (by first | (simp [ZIz]; done) | simp [ZIz,Enc.encs])
     refine Zc (v:=v16) rfl (done (Zv (Zs (Zd (Zh (Zq rfl rfl (Zb (v:=.int .i64 (ZA7.wrap ((i10:Int)+1))) rfl (done ?_))))))))
     replace hC:=hC.sM [1,0,2,3,4,5,6,7] (M':=[Zdz 115 (kvA .i64) (vvI .i64) v11 bs1620 r11,own 2 1 (.slice (some ⟨b22,0,none⟩) 1 1) ([(Xu (r11.getD (((r10.getD i10 Zyt).gen).toNat) []) ((r10.getD i10 Zyt).mono)).getD 0].length) ((EI .i64).encs [(Xu (r11.getD (((r10.getD i10 Zyt).gen).toNat) []) ((r10.getD i10 Zyt).mono)).getD 0]),blk b19 75 (ZVs (r10.getD i10 Zyt)),own 2 1 v16 ((s11++[(Xu (r11.getD (((r10.getD i10 Zyt).gen).toNat) []) ((r10.getD i10 Zyt).mono)).getD 0]).length) ((EI .i64).encs (s11++[(Xu (r11.getD (((r10.getD i10 Zyt).gen).toNat) []) ((r10.getD i10 Zyt).mono)).getD 0])),blk b12 144 [.pointer (some ⟨b0,0,none⟩),.int .i64 r14,v11],ZIm (ZOd 22 (ZOd 2 ((EI .i64).tr))) s10 [v10] f10,own 75 9 u10 r10.length (ZVr.encs r10),own 75 9 u11 r9.length (ZVr.encs r9)]) (by decide) rfl
     replace hC:=hC.recast (c:=ZIm (ZOd 115 (Y8 (kvA .i64) (vvI .i64))) r11 [v11] ((ZI5 (Zzn v11))++bs1620)) (fun x_ hx_=>hx_) (fun h_=>Zu7 h_)
     rw [← hf10] at hC
     replace hC:=hC.sM [3,4,0,5,6,7] (M':=[own 2 1 v16 ((s11++[(Xu (r11.getD (((r10.getD i10 Zyt).gen).toNat) []) ((r10.getD i10 Zyt).mono)).getD 0]).length) ((EI .i64).encs (s11++[(Xu (r11.getD (((r10.getD i10 Zyt).gen).toNat) []) ((r10.getD i10 Zyt).mono)).getD 0])),blk b12 144 [.pointer (some ⟨b0,0,none⟩),.int .i64 r14,v11],ZIm (ZOd 115 (Y8 (kvA .i64) (vvI .i64))) r11 [v11] f12,ZIm (ZOd 22 (ZOd 2 ((EI .i64).tr))) s10 [v10] f10,own 75 9 u10 r10.length (ZVr.encs r10),own 75 9 u11 r9.length (ZVr.encs r9)]) (by decide) rfl
     exact hK12 (s11++[(Xu (r11.getD (((r10.getD i10 Zyt).gen).toNat) []) ((r10.getD i10 Zyt).mono)).getD 0]) _ _ ⟨v16,(sl ⟨rfl,rfl,rfl,rfl,rfl,rfl,rfl,rfl,rfl,rfl,rfl,(tr rfl (congrArg _ (Yh hi11 hN12))),trivial⟩),hC⟩ h
    ·clear hC h
     rintro s11 e_ w37 K12 ⟨v12,hS_,hC⟩ h
     rw [ue hS_]
     refine sr (Zt rfl rfl (dn (ZIa (Yi rfl (decide_eq_false (by omega)) ?_))))
     refine ZIr (Zj (Zj (Z9 ?_)))
     refine Zd (Zh (Zb (v:=v10) rfl (Zb (v:=v12) rfl (Xr (sz:=1) hC [(0,v12)] [v12] rfl (fun _=>Zc9 v12 (Zfx (hC.getM 0 rfl)) _) rfl (by decide) fun b18 w38 hB_ hC=>?_))))
     replace hC:=hC.pushM0 (Ym (ZOd 2 ((EI .i64).tr)) [] [] []) (Za5 _ _) rfl
     replace hC:=hC.sM [2,0,1,3,4,5,6,7] (M':=[own 2 1 v12 s11.length ((EI .i64).encs s11),Ym (ZOd 2 ((EI .i64).tr)) [] [] [],own 22 1 (.slice (some ⟨b18,0,none⟩) 1 1) 1 [v12],blk b12 144 [.pointer (some ⟨b0,0,none⟩),.int .i64 r14,v11],ZIm (ZOd 115 (Y8 (kvA .i64) (vvI .i64))) r11 [v11] f12,ZIm (ZOd 22 (ZOd 2 ((EI .i64).tr))) s10 [v10] f10,own 75 9 u10 r10.length (ZVr.encs r10),own 75 9 u11 r9.length (ZVr.encs r9)]) (by decide) rfl
     replace hC:=hC.gather (c:=Ym (ZOd 2 ((EI .i64).tr)) [s11] [v12] [(ZI5 (Zzn v12))]) (fun x_ hx_=>Zc5 hx_) (fun h1_ h2_ hd_=>Zcq (c:=[v12]) (id (Jr h1_)) h2_ hd_)
     replace hC:=hC.sM [1,0,2,3,4,5,6] (M':=[own 22 1 (.slice (some ⟨b18,0,none⟩) 1 1) 1 [v12],Ym (ZOd 2 ((EI .i64).tr)) [s11] [v12] [(ZI5 (Zzn v12))],blk b12 144 [.pointer (some ⟨b0,0,none⟩),.int .i64 r14,v11],ZIm (ZOd 115 (Y8 (kvA .i64) (vvI .i64))) r11 [v11] f12,ZIm (ZOd 22 (ZOd 2 ((EI .i64).tr))) s10 [v10] f10,own 75 9 u10 r10.length (ZVr.encs r10),own 75 9 u11 r9.length (ZVr.encs r9)]) (by decide) rfl
     replace hC:=hC.gather (c:=ZIm (ZOd 22 (ZOd 2 ((EI .i64).tr))) [s11] [.slice (some ⟨b18,0,none⟩) 1 1] ((ZI5 (Zzn (.slice (some ⟨b18,0,none⟩) 1 1)))++([(ZI5 (Zzn v12))]:List (List Nat)).flatten)) (fun x_ hx_=>Zzu.1 hx_) (fun h1_ h2_ hd_=>Zal h1_ h2_ hd_)
     replace hC:=hC.sM [3,0,1,2,4,5] (M':=[ZIm (ZOd 22 (ZOd 2 ((EI .i64).tr))) s10 [v10] f10,ZIm (ZOd 22 (ZOd 2 ((EI .i64).tr))) [s11] [.slice (some ⟨b18,0,none⟩) 1 1] ((ZI5 (Zzn (.slice (some ⟨b18,0,none⟩) 1 1)))++([(ZI5 (Zzn v12))]:List (List Nat)).flatten),blk b12 144 [.pointer (some ⟨b0,0,none⟩),.int .i64 r14,v11],ZIm (ZOd 115 (Y8 (kvA .i64) (vvI .i64))) r11 [v11] f12,own 75 9 u10 r10.length (ZVr.encs r10),own 75 9 u11 r9.length (ZVr.encs r9)]) (by decide) rfl
     obtain ⟨hm13,h⟩:=h
     refine Zc4 hC ZSo Zda rfl (by decide) (by decide) rfl rfl hm13 fun v17 f13 w39 hC=>Zc (v:=v17) rfl (done (Zs (Zd (Zh (Zq rfl rfl (Zb (v:=.int .i64 (ZA7.wrap ((i11:Int)+1))) rfl (done ?_)))))))
     replace hC:=hC.sM [0,3,4] (M':=[ZIm (ZOd 22 (ZOd 2 ((EI .i64).tr))) (s10++[s11]) [v17] f13,own 75 9 u10 r10.length (ZVr.encs r10),own 75 9 u11 r9.length (ZVr.encs r9)]) (by decide) rfl
     exact hK11 (s10++[s11]) _ _ ⟨v17,f13,(sl ⟨rfl,rfl,rfl,rfl,rfl,rfl,(tr rfl (congrArg _ (Yh hi10 hN11))),trivial⟩),hC⟩ h
    ·skip
     replace hC:=hC.sM [0,1,2,7,8,9] (M':=[own 2 1 (.slice (some ⟨b20,0,none⟩) 0 0) 0 ((EI .i64).encs []),blk b12 144 [.pointer (some ⟨b0,0,none⟩),.int .i64 r14,v11],ZIm (ZOd 115 (Y8 (kvA .i64) (vvI .i64))) r11 [v11] f12,ZIm (ZOd 22 (ZOd 2 ((EI .i64).tr))) s10 [v10] f10,own 75 9 u10 r10.length (ZVr.encs r10),own 75 9 u11 r9.length (ZVr.encs r9)]) (by decide) rfl
     exact⟨.slice (some ⟨b20,0,none⟩) 0 0,(sl ⟨rfl,rfl,rfl,rfl,rfl,rfl,rfl,rfl,rfl,rfl,rfl,rfl,trivial⟩),hC⟩
   ·skip
    replace hC:=hC.pushM0 (ZIm (ZOd 115 (Y8 (kvA .i64) (vvI .i64))) [] [.slice none 0 0] []) (Zbz _ _ _) rfl
    exact⟨.slice none 0 0,[],(sl ⟨rfl,rfl,rfl,rfl,trivial⟩),hC⟩
  ·clear hC h
   rintro s10 e_ w40 K10 ⟨v10,f10,hS_,hC⟩ h
   rw [ue hS_]
   refine sr (Zt rfl rfl (dn (ZIa (Yi rfl (decide_eq_false (by omega)) ?_))))
   refine ZIr (Zj (Zj (Z9 ?_)))
   refine Zd (sr (Zb (v:=v10) rfl (Zc (v:=v10) rfl (Zc (v:=.int .i64 0) rfl (dn (ZIi ?_))))))
   refine Jo (fn:=Tryz.f56) rfl ?_ ?_ ⟨s10,v10,f10,0,rfl,h,(hC.getM 0 rfl),(Zbl hC 0 rfl),hC.below⟩ (.inl rfl)
   ·exact Zi rfl
   ·exact Zi rfl
  ·skip
   replace hC:=hC.sM [0,2,3] (M':=[ZIm (ZOd 22 (ZOd 2 ((EI .i64).tr))) [] [.slice (some ⟨b14,0,none⟩) 0 0] ((ZI5 (Zzn (.slice (some ⟨b14,0,none⟩) 0 0)))++([]:List (List Nat)).flatten),own 75 9 u10 r10.length (ZVr.encs r10),own 75 9 u11 r9.length (ZVr.encs r9)]) (by decide) rfl
   exact⟨.slice (some ⟨b14,0,none⟩) 0 0,((ZI5 (Zzn (.slice (some ⟨b14,0,none⟩) 0 0)))++([]:List (List Nat)).flatten),(sl ⟨rfl,rfl,rfl,rfl,rfl,rfl,rfl,trivial⟩),hC⟩
def Zji (a0:List Int) (K:List Int→Prop):Prop :=
 ((a0=[]→K [])∧(Yo (0+a0.length) 8∧K a0))
theorem Zwp (a0:List Int) {u0_0:Value} {fp0:List Nat} {K:List Int→Prop} (h:Zji a0 K) (w0:World) (q0:((EI .i64).ty.sl).rep a0 [u0_0] fp0 w0) :
  Calls ZId 139 #[u0_0] w0 fun e w'=>∃ (r0:List Int) (z0_0:Value) (fz0:List Nat),
   e=.returned (z0_0)∧K r0∧(ZIm (ZOd 2 ((EI .i64).tr)) r0 [z0_0] fz0).holds w'∧(∀ b,b∈fz0→w0.heap.size≤b)∧Bel w0 w':=by
 unfold Zji at h
 refine Z4 (args:=[u0_0]) Tryz.func139 rfl 8 Tryz.ntmps139 (ZIc rfl) ?_
 have hC:=ZIt (X:=Nox) w0 [ZH7 ((EI .i64).ty.sl) a0 [u0_0] fp0] (by simp only [Zyz,ZAt,or_false,forall_eq_or_imp,forall_eq]; exact q0)
 refine sr (Zc (v:=.slice none 0 0) rfl (dn (ZIa (sr (Zb (v:=u0_0) rfl ?_)))))
 rcases Zu3 (hC.getP 0 rfl) with ⟨z4,z5,he2,ha3⟩ | ⟨z6,z7,z8,he2⟩
 ·replace h:=h.1 ha3
  refine Zoe true ZIs (tr rfl he2) rfl rfl (dn (Yr rfl rfl (sr (Zc (v:=.slice none 0 0) rfl (dn ?_)))))
  refine ZIi (Zo ?_)
  refine Zp (fn:=Tryz.f139) rfl ?_ ⟨[],.slice none 0 0,[],rfl,h,(Zbz _ _ _),(fun b hb=>absurd hb (by simp)),hC.below⟩ (.inl rfl)
  exact Zi rfl
 ·replace h:=h.2
  refine Zoe false ZIs (tr rfl he2) rfl rfl (dn (Yi rfl rfl (ZIe (Zd (sr (Xr (sz:=1) hC [] ((EI .i64).encs []) rfl (fun _=>Zlj  _) rfl (by decide) fun b9 w10 hB_ hC=>Zb (v:=u0_0) rfl ?_))))))
  obtain ⟨hm10,h⟩:=h
  refine Zaw hC 0 ZIs el2 rfl (by decide) (by decide) rfl (Zqs (hC.getP 0 rfl)) (fun q hq=>Enc.encs_one' (E:=(EI .i64)) _ q hq) rfl rfl hm10 fun v10 w11 hC=>?_
  replace hC:=Jg hC 0 (a0.length) ((EI .i64).encs a0) rfl (by simp) (by first | (simp [ZIz]; done) | simp [ZIz,Enc.encs])
  refine Zc (v:=v10) rfl (dn (ZIi ?_))
  refine Zp (fn:=Tryz.f139) rfl ?_ ⟨a0,v10,(ZI5 (Zzn v10)),rfl,h,(Jr (hC.getM 0 rfl)),(X5 hC 0 rfl),hC.below⟩ (.inl rfl)
  exact Zi rfl
def Zhi (a0:List Int) (a1:List Int) (a2:Int) (K:List Int→Prop):Prop :=
 Yt (fun i10 (s10:(List Int)) nx10=>((0≤(i10:Int)∧(i10:Int) < (s10.length:Int))∧Zak (ZA7.wrap ((s10.getD i10 Zyt) - (Zyy (ZA7.wrap (a2 * (a1.getD i10 Zyt))) 10007))) (fun r10=>((0≤(i10:Int)∧(i10:Int) < (s10.length:Int))∧nx10 (s10.set i10 r10))))) (fun (s10:(List Int))=>K s10) a1.length 0 a0
theorem Zwq (a0:List Int) (a1:List Int) (a2:Int) {u0_0:Value} {u1_0:Value} {fp1:List Nat} {K:List Int→Prop} (h:Zhi a0 a1 a2 K) (w0:World) (qw0:(own 2 1 u0_0 a0.length ((EI .i64).encs a0)).holds w0) (q1:((EI .i64).ty.sl).rep a1 [u1_0] fp1 w0) (do1:∀ b,b∈fp1→b∉(ZI5 (Zzn u0_0))) :
  Calls ZId 140 #[u0_0,u1_0,.int .i64 a2] w0 fun e w'=>∃ (mw:List Int),
   e=.returned (.tuple #[])∧K mw∧(own 2 1 u0_0 mw.length ((EI .i64).encs mw)).holds w'∧BelO ((ZI5 (Zzn u0_0))) w0 w':=by
 unfold Zhi at h
 refine Z4 (args:=[u0_0,u1_0,.int .i64 a2]) Tryz.func140 rfl 29 Tryz.ntmps140 (ZIc rfl) ?_
 have hC:=Ctx.startL w0 ((ZI5 (Zzn u0_0))) [own 2 1 u0_0 a0.length ((EI .i64).encs a0)] [ZH7 ((EI .i64).ty.sl) a1 [u1_0] fp1] (by simp only [Zyz,ZAt,or_false,forall_eq_or_imp,forall_eq]; exact qw0) (by simp only [Zyz,ZAt,or_false,forall_eq_or_imp,forall_eq]; exact q1) (by simp only [Zyz,ZAt,or_false,forall_eq_or_imp,forall_eq]; exact fun b hb=>hb) (ZWq _ _) (by simp only [Zyz,ZAt,or_false,forall_eq_or_imp,forall_eq]; exact do1)
 refine sr (Zb (v:=u1_0) rfl ?_)
 obtain ⟨Ad3,c4,hv5⟩:=Z1 (hC.getP 0 rfl)
 refine Zx ZIs (tr rfl hv5) (Zb (v:=.int .i64 0) rfl (dn (ZIj ?_)))
 have hN10:a1.length≤9223372036854775807:=Xp (hC.getP 0 rfl)
 refine Y9 (S:=(List Int)) _ _ (fun i10 s10 e_ w_=>Z3 e_ [(0,u0_0),(2,.int .i64 a2),(8,u1_0),(9,.int .i64 (a1.length:Int)),(10,.int .i64 (i10:Int))]∧Ctx (fun c_=>c_∈(ZI5 (Zzn u0_0))) w0 w_ [own 2 1 u0_0 s10.length ((EI .i64).encs s10)] [ZH7 ((EI .i64).ty.sl) a1 [u1_0] fp1]) a1.length ?_ ?_ (s0:=a0) ?_ h
 ·clear hC h
  rintro i10 s10 e_ w10 nx10 K10 hi10 ⟨hS_,hC⟩ h hK10
  rw [ue hS_]
  refine sr (Zt rfl rfl (dn (ZIa (Yr rfl (decide_eq_true (by omega)) (ZIe (Zd (ZIa (ZIj (sr (Zb (v:=.int .i64 (i10:Int)) rfl ?_))))))))))
  obtain ⟨Ad10,c10,hv10⟩:=Z0 (hC.getP 0 rfl) i10 hi10
  refine Xb (len:=a1.length) ZIs sc2.size (tr rfl hv10) rfl (ZIv _) (ZJi.2 hi10) (Xm (.int .i64 (a1.getD i10 Zyt)) (Yf (hC.getP 0 rfl) hv10 i10 hi10) sc2 rfl (Zc (v:=.int .i64 (i10:Int)) rfl (Zc (v:=.int .i64 (a1.getD i10 Zyt)) rfl (dn (Zh (Zb (v:=u0_0) rfl (Zb (v:=.int .i64 (i10:Int)) rfl (Zb (v:=u0_0) rfl (Zb (v:=.int .i64 (i10:Int)) rfl ?_)))))))))
  obtain ⟨⟨h10,h11⟩,h⟩:=h
  obtain ⟨Ad11,c11,hv11⟩:=Zai (hC.getM 0 rfl) (ZSs (ZAq _) (show i10 < s10.length by omega))
  refine Zao (i10 * 1) ZIs sc2.size (tr rfl hv11) rfl h10 h11 rfl (Xm (.int .i64 (s10.getD i10 Zyt)) (Zb6 (hC.getM 0 rfl) hv11 i10 (show i10 < s10.length by omega)) sc2 rfl (Zb (v:=.int .i64 a2) rfl (Zb (v:=.int .i64 (a1.getD i10 Zyt)) rfl (Ju rfl rfl (X0 rfl rfl (by decide) (Jt rfl rfl ?_))))))
  refine Zg [.int .i64 (ZA7.wrap ((s10.getD i10 Zyt) - (Zyy (ZA7.wrap (a2 * (a1.getD i10 Zyt))) 10007)))] _ Tryz.func187 rfl rfl rfl (Zf8 (ZA7.wrap ((s10.getD i10 Zyt) - (Zyy (ZA7.wrap (a2 * (a1.getD i10 Zyt))) 10007))) h _) (fun ret10 w11 hR10=>?_)
  obtain ⟨r10,rfl,h,hB10⟩:=hR10
  refine⟨_,rfl,?_⟩
  replace hC:=hC.grow hB10
  obtain ⟨⟨h12,h13⟩,h⟩:=h
  obtain ⟨Ad12,c12,hv12⟩:=Zai (hC.getM 0 rfl) (ZSs (ZAq _) (show i10 < s10.length by omega))
  refine Zao (i10 * 1) ZIs sc2.size (tr rfl hv12) rfl h12 h13 rfl (Zec (v:=.int .i64 r10) hC 0 [.int .i64 r10] ((EI .i64).encs (s10.set i10 r10)) rfl hv12 sc2.size rfl rfl rfl rfl rfl (by rw [Enc.encs_len]; exact Zbk (sz:=1) (show i10 < s10.length by omega)) (Zed _ _ _ (show i10 < s10.length by omega)) fun w12 hC=>?_)
  replace hC:=Jg hC 0 ((s10.set i10 r10).length) ((EI .i64).encs (s10.set i10 r10)) rfl (by simp) rfl
  refine done (Zs (Zd (Zh (Zq rfl rfl (Zb (v:=.int .i64 (ZA7.wrap ((i10:Int)+1))) rfl (done ?_))))))
  exact hK10 (s10.set i10 r10) _ _ ⟨(sl ⟨rfl,rfl,rfl,rfl,(tr rfl (congrArg _ (Yh hi10 hN10))),trivial⟩),hC⟩ h
 ·clear hC h
  rintro s10 e_ w13 K10 ⟨hS_,hC⟩ h
  rw [ue hS_]
  refine sr (Zt rfl rfl (dn (ZIa (Yi rfl (decide_eq_false (by omega)) ?_))))
  refine ZIr (Zj (Zj (Z9 ?_)))
  refine Zcj (fn:=Tryz.f140) rfl  ⟨s10,rfl,h,(hC.getM 0 rfl),hC.belO⟩ (.inr rfl)
 ·skip
  exact⟨(sl ⟨rfl,rfl,rfl,rfl,rfl,trivial⟩),hC⟩
def Zdb (a0:List Int) (a1:Int) (K:Bool→Prop):Prop :=
 ((0≤a1∧a1 < (a0.length:Int))∧K (decide (a0.getD a1.toNat Zyt≠0)))
theorem Zwr (a0:List Int) (a1:Int) {b1:Nat} {u0_0:Value} {fp0:List Nat} {K:Bool→Prop} (h:Zdb a0 a1 K) (w0:World) (q0:((EI .i64).ty.sl).rep a0 [u0_0] fp0 w0) (qb1:(blk b1 3 [.int .i64 a1]).holds w0) :
  Calls ZId 142 #[u0_0,.pointer (some ⟨b1,0,none⟩)] w0 fun e w'=>∃ (r0:Bool),
   e=.returned (.bool r0)∧K r0∧Bel w0 w':=by
 unfold Zdb at h
 refine Z4 (args:=[u0_0,.pointer (some ⟨b1,0,none⟩)]) Tryz.func142 rfl 9 Tryz.ntmps142 (ZIc rfl) ?_
 have hC:=ZIt (X:=Nox) w0 [ZH7 ((EI .i64).ty.sl) a0 [u0_0] fp0,blk b1 3 [.int .i64 a1]] (by simp only [Zyz,ZAt,or_false,forall_eq_or_imp,forall_eq]; exact⟨q0,qb1⟩)
 refine sr (Zc (v:=.bool false) rfl (dn (sr (Zb (v:=u0_0) rfl (Zbv (.int .i64 a1) (hC.getP 1 rfl) sc3 rfl rfl ?_)))))
 obtain ⟨⟨h0_3,h1_4⟩,h⟩:=h
 obtain ⟨Ad5,c6,hv7⟩:=Z0 (hC.getP 0 rfl) a1.toNat (show a1.toNat < a0.length by omega)
 refine Xb (len:=a0.length) ZIs sc2.size (tr rfl hv7) rfl h0_3 h1_4 (Xm (.int .i64 (a0.getD a1.toNat Zyt)) (Yf (hC.getP 0 rfl) hv7 a1.toNat (show a1.toNat < a0.length by omega)) sc2 rfl (Xl rfl rfl (Zc (v:=.bool (decide (a0.getD a1.toNat Zyt≠0))) rfl (dn (ZIi ?_)))))
 refine Zp (fn:=Tryz.f142) rfl ?_ ⟨decide (a0.getD a1.toNat Zyt≠0),rfl,h,hC.below⟩ (.inl rfl)
 exact Zi rfl
def Zhj (a0:List (List Int)) (p1:(List Int)→(Bool→Prop)→Prop) (K:Int→Prop):Prop :=
 Yt (fun i10 (s10:Unit) nx10=>p1 (a0.getD i10 Zyt) (fun r10=>(if r10=true then K (i10:Int) else nx10 ()))) (fun (s10:Unit)=>K (-1)) a0.length 0 ()
theorem Zws (a0:List (List Int)) (p1:(List Int)→(Bool→Prop)→Prop) {u0_0:Value} {fp0:List Nat} {K:Int→Prop} (h:Zhj a0 p1 K) (w0:World) (q0:(((EI .i64).ty.sl).sl).rep a0 [u0_0] fp0 w0) {g1:Nat} {cp1:List Value} {fn1:Func} (hf1:ZId.funcs[g1]?=some fn1) (hb1:fn1.body.isNone=false) (hn1:(fn1.name == "runtime.NumGoroutine")=false) (hp1:∀ (y0:List Int) (yu0_0:Value) (yf0:List Nat) (K_:Bool→Prop) (w_:World),Bel w0 w_→((EI .i64).ty.sl).rep y0 [yu0_0] yf0 w_→p1 y0 K_→Calls ZId g1 (ZH8 ([yu0_0]++cp1)) w_ fun e w'=>∃ (z0:Bool),e=.returned (.bool z0)∧K_ z0∧Bel w_ w') :
  Calls ZId 141 #[u0_0,.func (.func g1) #[] (ZH8 cp1)] w0 fun e w'=>∃ (r0:Int),
   e=.returned (.int .i64 r0)∧K r0∧Bel w0 w':=by
 unfold Zhj at h
 refine Z4 (args:=[u0_0,.func (.func g1) #[] (ZH8 cp1)]) Tryz.func141 rfl 19 Tryz.ntmps141 (ZIc rfl) ?_
 have hC:=ZIt (X:=Nox) w0 [ZH7 (((EI .i64).ty.sl).sl) a0 [u0_0] fp0] (by simp only [Zyz,ZAt,or_false,forall_eq_or_imp,forall_eq]; exact q0)
 refine sr (Zc (v:=.int .i64 0) rfl (dn (ZIa (sr (Zb (v:=u0_0) rfl ?_)))))
 obtain ⟨Ad2,c3,hv4⟩:=Z1 (hC.getP 0 rfl)
 refine Zx ZSo (tr rfl hv4) (Zb (v:=.int .i64 0) rfl (dn (ZIj ?_)))
 have hN10:a0.length≤9223372036854775807:=Xp (hC.getP 0 rfl)
 refine Y9 (S:=Unit) _ _ (fun i10 s10 e_ w_=>Z3 e_ [(0,u0_0),(1,.func (.func g1) #[] (ZH8 cp1)),(7,.int .i64 (a0.length:Int)),(8,.int .i64 (i10:Int))]∧Ctx Nox w0 w_ [] [ZH7 (((EI .i64).ty.sl).sl) a0 [u0_0] fp0]) a0.length ?_ ?_ (s0:=()) ?_ h
 ·clear hC h
  rintro i10 s10 e_ w10 nx10 K10 hi10 ⟨hS_,hC⟩ h hK10
  rw [ue hS_]
  refine sr (Zt rfl rfl (dn (ZIa (Yr rfl (decide_eq_true (by omega)) (ZIe (Zd (ZIa (ZIj (sr (Zb (v:=.int .i64 (i10:Int)) rfl (Zc (v:=.int .i64 (i10:Int)) rfl ?_)))))))))))
  refine dn (sr (Zb (v:=.func (.func g1) #[] (ZH8 cp1)) rfl (Zb (v:=u0_0) rfl (Zb (v:=.int .i64 (i10:Int)) rfl ?_))))
  obtain ⟨Ad10,c10,hv10⟩:=Z0 (hC.getP 0 rfl) i10 hi10
  refine Xb (len:=a0.length) ZSo sc22.size (tr rfl hv10) rfl (ZIv _) (ZJi.2 hi10) ?_
  obtain ⟨cs_,hl10,hc10,hr10⟩:=Xs (hC.getP 0 rfl) hv10 i10 hi10
  obtain ⟨u10,rfl⟩:=ZI4.1 hl10
  clear hl10
  rw [Xt _ _ hi10] at hr10
  replace hC:=hC.derive 0 rfl (ZH7 ((EI .i64).ty.sl) (a0.getD i10 Zyt) [u10] fp0) (fun _=>hr10) (fun _ hb_=>hb_)
  refine Xm (u10) hc10 sc22 rfl ?_
  refine Zj4 [u10] _ rfl hf1 hb1 hn1 rfl (hp1 _ _ _ _ _ hC.below (hC.getP 0 rfl) h) (fun ret10 w11 hR10=>?_)
  obtain ⟨r10,rfl,h,hB10⟩:=hR10
  refine⟨_,rfl,?_⟩
  replace hC:=hC.grow hB10
  refine dn ?_
  refine Zr rfl (fun hb10=>?_) (fun hb10=>?_)
  ·replace h:=ift h (hb10)
   refine sr (Zb (v:=.int .i64 (i10:Int)) rfl (Zc (v:=.int .i64 (i10:Int)) rfl (dn ?_)))
   refine ZIi (Yd (Zo (Zo (Yd (Zo ?_)))))
   refine Zp (fn:=Tryz.f141) rfl ?_ ⟨(i10:Int),rfl,h,hC.below⟩ (.inl rfl)
   exact Zi rfl
  ·replace h:=Zk h (Xz hb10)
   refine ZIe (Zs (Zd (Zh (Zq rfl rfl (Zb (v:=.int .i64 (ZA7.wrap ((i10:Int)+1))) rfl (done ?_))))))
   replace hC:=hC.sP [1] (Ps':=[ZH7 (((EI .i64).ty.sl).sl) a0 [u0_0] fp0]) rfl
   exact hK10 () _ _ ⟨(sl ⟨rfl,rfl,rfl,(tr rfl (congrArg _ (Yh hi10 hN10))),trivial⟩),hC⟩ h
 ·clear hC h
  rintro s10 e_ w12 K10 ⟨hS_,hC⟩ h
  rw [ue hS_]
  refine sr (Zt rfl rfl (dn (ZIa (Yi rfl (decide_eq_false (by omega)) ?_))))
  refine ZIr (Zj (Zj (Z9 ?_)))
  refine Zd (sr (Zc (v:=.int .i64 (-1)) rfl (dn (ZIi ?_))))
  refine Zp (fn:=Tryz.f141) rfl ?_ ⟨(-1),rfl,h,hC.below⟩ (.inl rfl)
  exact Zi rfl
 ·skip
  exact⟨(sl ⟨rfl,rfl,rfl,rfl,trivial⟩),hC⟩
def Zhk (a0:Int) (K:Int→Prop):Prop :=
 Xj (fun (s7:Int×Int×Int) next8=>(if s7.2.2 > 0 then(if Zyy s7.2.2 2=1 then next8 (Zyy (ZA7.wrap (s7.1 * s7.1)) 10007,Zyy (ZA7.wrap (s7.2.1 * s7.1)) 10007,ZA7.wrap (ZSf s7.2.2 2)) else next8 (Zyy (ZA7.wrap (s7.1 * s7.1)) 10007,s7.2.1,ZA7.wrap (ZSf s7.2.2 2))) else K s7.2.1)) (a0,1,10005)
theorem Zwt (a0:Int)  {K:Int→Prop} (h:Zhk a0 K) (w0:World)  :
  Calls ZId 143 #[.int .i64 a0] w0 fun e w'=>∃ (r0:Int),
   e=.returned (.int .i64 r0)∧K r0∧Bel w0 w':=by
 unfold Zhk at h
 refine Z4 (args:=[.int .i64 a0]) Tryz.func143 rfl 21 Tryz.ntmps143 (ZIc rfl) ?_
 have hC:=ZIt (X:=Nox) w0 [] (by simp)
 refine sr (Zc (v:=.int .i64 0) rfl (dn (sr (Zc (v:=.int .i64 1) rfl (dn (ZIa (sr (Zc (v:=.int .i64 10005) rfl (dn (ZIj ?_))))))))))
 refine X1 (S:=Int×Int×Int) _ (fun s7 e_ w_=>Z3 e_ [(0,.int .i64 s7.1),(3,.int .i64 s7.2.1),(4,.int .i64 s7.2.2)]∧Ctx Nox w0 w_ [] []) ?_ (s0:=(a0,1,10005)) ?_ h
 ·clear hC h
  rintro s7 e_ w10 next8 K9 ⟨hS_,hC⟩ h hK10
  rw [ue hS_]
  refine ZIa (sr (Zb (v:=.int .i64 s7.2.2) rfl (Jj rfl rfl (dn ?_))))
  refine Zr rfl (fun hb10=>?_) (fun hb10=>?_)
  ·replace h:=ift h (ct hb10)
   refine ZIe (Zd (ZIa (ZIj (ZIa (sr (Zb (v:=.int .i64 s7.2.2) rfl (X0 rfl rfl (by decide) (Jm rfl rfl (dn ?_)))))))))
   refine Zr rfl (fun hb11=>?_) (fun hb11=>?_)
   ·replace h:=ift h (ct hb11)
    refine Zh (Zb (v:=.int .i64 s7.2.1) rfl (Zb (v:=.int .i64 s7.1) rfl (Ju rfl rfl (X0 rfl rfl (by decide) (Zc (v:=.int .i64 (Zyy (ZA7.wrap (s7.2.1 * s7.1)) 10007)) rfl (dn (Zh (Zb (v:=.int .i64 s7.1) rfl (Zb (v:=.int .i64 s7.1) rfl (Ju rfl rfl (X0 rfl rfl (by decide) ?_)))))))))))
    refine Zc (v:=.int .i64 (Zyy (ZA7.wrap (s7.1 * s7.1)) 10007)) rfl (done (Zs (Zd (Zh (Zb (v:=.int .i64 s7.2.2) rfl (Zd8 rfl rfl (by decide) (Zc (v:=.int .i64 (ZA7.wrap (ZSf s7.2.2 2))) rfl (done ?_))))))))
    exact hK10 (Zyy (ZA7.wrap (s7.1 * s7.1)) 10007,Zyy (ZA7.wrap (s7.2.1 * s7.1)) 10007,ZA7.wrap (ZSf s7.2.2 2)) _ _ ⟨(sl ⟨rfl,rfl,rfl,trivial⟩),hC⟩ h
   ·replace h:=Zk h (cf hb11)
    refine ZIe (Zd (Zh (Zb (v:=.int .i64 s7.1) rfl (Zb (v:=.int .i64 s7.1) rfl (Ju rfl rfl (X0 rfl rfl (by decide) (Zc (v:=.int .i64 (Zyy (ZA7.wrap (s7.1 * s7.1)) 10007)) rfl (done (Zs (Zd (Zh ?_)))))))))))
    refine Zb (v:=.int .i64 s7.2.2) rfl (Zd8 rfl rfl (by decide) (Zc (v:=.int .i64 (ZA7.wrap (ZSf s7.2.2 2))) rfl (done ?_)))
    exact hK10 (Zyy (ZA7.wrap (s7.1 * s7.1)) 10007,s7.2.1,ZA7.wrap (ZSf s7.2.2 2)) _ _ ⟨(sl ⟨rfl,rfl,rfl,trivial⟩),hC⟩ h
  ·replace h:=Zk h (cf hb10)
   refine ZIr (Zj (Zj (Z9 ?_)))
   refine Zd (sr (Zb (v:=.int .i64 s7.2.1) rfl (Zc (v:=.int .i64 s7.2.1) rfl (dn (ZIi ?_)))))
   refine Zp (fn:=Tryz.f143) rfl ?_ ⟨s7.2.1,rfl,h,hC.below⟩ (.inl rfl)
   exact Zi rfl
 ·skip
  exact⟨(sl ⟨rfl,rfl,rfl,trivial⟩),hC⟩
def Zhl (a0:List (List Int)) (K:List (List Int)→Prop):Prop :=
 Yt (fun i10 (s13:(List (List Int))) nx12=>Zji (a0.getD i10 Zyt) (fun r11=>(Yo (s13.length+1) 24∧nx12 (s13++[r11])))) (fun (s13:(List (List Int)))=>Xj (fun (s10:(List (List Int))×Int×Int) nx11=>(if s10.2.1 < (s10.1.length:Int) then((0≤(0:Int)∧(0:Int) < (s10.1.length:Int))∧(if s10.2.2 < ((s10.1.getD 0 Zyt).length:Int) then((0≤s10.2.1∧s10.2.1≤(s10.1.length:Int))∧Zhj (s10.1.drop s10.2.1.toNat) (fun y0_ K_=>Zdb y0_ s10.2.2 K_) (fun r10=>(if r10 < 0 then nx11 (s10.1,s10.2.1,ZA7.wrap (s10.2.2+1)) else((0≤ZA7.wrap (s10.2.1+r10)∧ZA7.wrap (s10.2.1+r10) < (s10.1.length:Int))∧((0≤s10.2.1∧s10.2.1 < (s10.1.length:Int))∧((0≤s10.2.1∧s10.2.1 < (s10.1.length:Int))∧((0≤ZA7.wrap (s10.2.1+r10)∧ZA7.wrap (s10.2.1+r10) < (s10.1.length:Int))∧((0≤s10.2.1∧s10.2.1 < ((Xo Zyt s10.1 s10.2.1.toNat ((ZA7.wrap (s10.2.1+r10)).toNat)).length:Int))∧((0≤s10.2.2∧s10.2.2 < (((Xo Zyt s10.1 s10.2.1.toNat ((ZA7.wrap (s10.2.1+r10)).toNat)).getD s10.2.1.toNat Zyt).length:Int))∧Zhk (((Xo Zyt s10.1 s10.2.1.toNat ((ZA7.wrap (s10.2.1+r10)).toNat)).getD s10.2.1.toNat Zyt).getD s10.2.2.toNat Zyt) (fun r12=>((0≤s10.2.1∧s10.2.1 < ((Xo Zyt s10.1 s10.2.1.toNat ((ZA7.wrap (s10.2.1+r10)).toNat)).length:Int))∧Xj (fun (s12:(List (List Int))×Int) nx13=>(if s12.2 < (((Xo Zyt s10.1 s10.2.1.toNat ((ZA7.wrap (s10.2.1+r10)).toNat)).getD s10.2.1.toNat Zyt).length:Int) then((0≤s10.2.1∧s10.2.1 < (s12.1.length:Int))∧((0≤s10.2.1∧s10.2.1 < (s12.1.length:Int))∧((0≤s12.2∧s12.2 < ((s12.1.getD s10.2.1.toNat Zyt).length:Int))∧((0≤s12.2∧s12.2 < ((s12.1.getD s10.2.1.toNat Zyt).length:Int))∧nx13 (s12.1.set s10.2.1.toNat ((s12.1.getD s10.2.1.toNat Zyt).set s12.2.toNat (Zyy (ZA7.wrap (((s12.1.getD s10.2.1.toNat Zyt).getD s12.2.toNat Zyt) * r12)) 10007)),ZA7.wrap (s12.2+1)))))) else Xj (fun (s11:(List (List Int))×Int) nx10=>(if s11.2 < (s12.1.length:Int) then((0≤s11.2∧s11.2 < (s11.1.length:Int))∧(if s11.2≠s10.2.1 then((0≤s10.2.2∧s10.2.2 < ((s11.1.getD s11.2.toNat Zyt).length:Int))∧(if(s11.1.getD s11.2.toNat Zyt).getD s10.2.2.toNat Zyt≠0 then((0≤s10.2.1∧s10.2.1 < (s11.1.length:Int))∧((0≤s10.2.2∧s10.2.2 < ((s11.1.getD s11.2.toNat Zyt).length:Int))∧((s10.2.1.toNat≠s11.2.toNat)∧Zhi (s11.1.getD s11.2.toNat Zyt) (s11.1.getD s10.2.1.toNat Zyt) ((s11.1.getD s11.2.toNat Zyt).getD s10.2.2.toNat Zyt) (fun m10=>nx10 (s11.1.set s11.2.toNat m10,ZA7.wrap (s11.2+1)))))) else nx10 (s11.1,ZA7.wrap (s11.2+1)))) else nx10 (s11.1,ZA7.wrap (s11.2+1)))) else nx11 (s11.1,ZA7.wrap (s10.2.1+1),ZA7.wrap (s10.2.2+1)))) (s12.1,0))) (Xo Zyt s10.1 s10.2.1.toNat ((ZA7.wrap (s10.2.1+r10)).toNat),0)))))))))))) else((0≤s10.2.1∧s10.2.1≤(s10.1.length:Int))∧K (s10.1.take s10.2.1.toNat)))) else((0≤s10.2.1∧s10.2.1≤(s10.1.length:Int))∧K (s10.1.take s10.2.1.toNat)))) (s13,0,0)) a0.length 0 []
theorem Zwu (a0 : List (List Int)) {u0_0 : Value} {fp0 : List Nat} {K : List (List Int) → Prop} (h : Zhl a0 K) (w0 : World) (q0 : (((EI .i64).ty.sl).sl).rep a0 [u0_0] fp0 w0) :
  Calls ZId 86 #[u0_0] w0 fun e w'=>∃ (r0:List (List Int)) (z0_0:Value) (fz0:List Nat),
   e=.returned (z0_0)∧K r0∧(ZIm (ZOd 22 (ZOd 2 ((EI .i64).tr))) r0 [z0_0] fz0).holds w'∧(∀ b,b∈fz0→w0.heap.size≤b)∧Bel w0 w':=by
 unfold Zhl at h
 refine Z4 (args:=[u0_0]) Tryz.func86 rfl 132 Tryz.ntmps86 (ZIc rfl) ?_
 have hC:=ZIt (X:=Nox) w0 [ZH7 (((EI .i64).ty.sl).sl) a0 [u0_0] fp0] (by simp only [Zyz,ZAt,or_false,forall_eq_or_imp,forall_eq]; exact q0)
 refine sr (Zc (v:=.slice none 0 0) rfl (dn (sr (Xr (sz:=1) hC [] [] rfl (fun _=>Zg2 _) rfl (by decide) fun b2 w3 hB_ hC=>?_))))
 replace hC:=hC.pushM0 (Ym (ZOd 2 ((EI .i64).tr)) ([]:List (List Int)) [] []) (Za5 _ _) rfl
 replace hC:=hC.gather (c:=ZIm (ZOd 22 (ZOd 2 ((EI .i64).tr))) [] [.slice (some ⟨b2,0,none⟩) 0 0] ((ZI5 (Zzn (.slice (some ⟨b2,0,none⟩) 0 0)))++([]:List (List Nat)).flatten)) (fun x_ hx_=>(Zzu.1 hx_).symm) (fun h1_ h2_ hd_=>Zal h2_ h1_ (fun b_ hb_ hb2_=>hd_ b_ hb2_ hb_))
 refine Zc (v:=.slice (some ⟨b2,0,none⟩) 0 0) rfl (dn (ZIa (sr (Zb (v:=u0_0) rfl ?_))))
 obtain ⟨Ad5,c6,hv7⟩:=Z1 (hC.getP 0 rfl)
 refine Zx ZSo (tr rfl hv7) (Zb (v:=.int .i64 0) rfl (dn (ZIj ?_)))
 have hN10:a0.length≤9223372036854775807:=Xp (hC.getP 0 rfl)
 refine Y9 (S:=(List (List Int))) _ _ (fun i10 s13 e_ w_=>∃ (v13:Value),∃ (f10:List Nat),Z3 e_ [(3,v13),(14,u0_0),(15,.int .i64 (a0.length:Int)),(16,.int .i64 (i10:Int))]∧Ctx Nox w0 w_ [ZIm (ZOd 22 (ZOd 2 ((EI .i64).tr))) s13 [v13] f10] [ZH7 (((EI .i64).ty.sl).sl) a0 [u0_0] fp0]) a0.length ?_ ?_ (s0:=[]) ?_ h
 ·clear hC h
  rintro i10 s13 e_ w10 nx12 K10 hi10 ⟨v13,f10,hS_,hC⟩ h hK12
  rw [ue hS_]
  refine sr (Zt rfl rfl (dn (ZIa (Yr rfl (decide_eq_true (by omega)) (ZIe (Zd (ZIa (ZIj (sr ?_)))))))))
  obtain ⟨Ad11,c11,hv10⟩:=Z0 (hC.getP 0 rfl) i10 hi10
  refine Xb (len:=a0.length) ZSo sc22.size (tr rfl hv10) rfl (ZIv _) (ZJi.2 hi10) ?_
  obtain ⟨cs_,hl10,hc10,hr10⟩:=Xs (hC.getP 0 rfl) hv10 i10 hi10
  obtain ⟨u11,rfl⟩:=ZI4.1 hl10
  clear hl10
  rw [Xt _ _ hi10] at hr10
  replace hC:=hC.derive 0 rfl (ZH7 ((EI .i64).ty.sl) (a0.getD i10 Zyt) [u11] fp0) (fun _=>hr10) (fun _ hb_=>hb_)
  refine Xm (u11) hc10 sc22 rfl (Zc (v:=u11) rfl (dn (Zh (Zb (v:=v13) rfl (Zb (v:=u11) rfl ?_)))))
  refine Zg [u11] _ Tryz.func139 rfl rfl rfl (Zwp (a0.getD i10 Zyt) h _ (hC.getP 0 rfl)) (fun ret10 w11 hR10=>?_)
  obtain ⟨r11,u10,f14,rfl,h,hr11,hf13,hB10⟩:=hR10
  refine⟨_,rfl,?_⟩
  replace hC:=hC.push hB10 (ZIm (ZOd 2 ((EI .i64).tr)) r11 [u10] f14) hr11 hf13
  obtain ⟨ho10,hf14⟩:=Zac (hC.getM 0 rfl).1
  subst hf14
  replace hC:=hC.recast (c:=own 2 1 u10 r11.length ((EI .i64).encs r11)) (fun _ h_=>h_) (fun _=>ho10)
  refine Xr (sz:=1) hC [(0,u10)] [u10] rfl (fun _=>Zc9 u10 (Zfx (hC.getM 0 rfl)) _) rfl (by decide) fun b11 w12 hB_ hC=>?_
  replace hC:=hC.pushM0 (Ym (ZOd 2 ((EI .i64).tr)) [] [] []) (Za5 _ _) rfl
  replace hC:=hC.sM [2,0,1,3] (M':=[own 2 1 u10 r11.length ((EI .i64).encs r11),Ym (ZOd 2 ((EI .i64).tr)) [] [] [],own 22 1 (.slice (some ⟨b11,0,none⟩) 1 1) 1 [u10],ZIm (ZOd 22 (ZOd 2 ((EI .i64).tr))) s13 [v13] f10]) (by decide) rfl
  replace hC:=hC.gather (c:=Ym (ZOd 2 ((EI .i64).tr)) [r11] [u10] [(ZI5 (Zzn u10))]) (fun x_ hx_=>Zc5 hx_) (fun h1_ h2_ hd_=>Zcq (c:=[u10]) (id (Jr h1_)) h2_ hd_)
  replace hC:=hC.sM [1,0,2] (M':=[own 22 1 (.slice (some ⟨b11,0,none⟩) 1 1) 1 [u10],Ym (ZOd 2 ((EI .i64).tr)) [r11] [u10] [(ZI5 (Zzn u10))],ZIm (ZOd 22 (ZOd 2 ((EI .i64).tr))) s13 [v13] f10]) (by decide) rfl
  replace hC:=hC.gather (c:=ZIm (ZOd 22 (ZOd 2 ((EI .i64).tr))) [r11] [.slice (some ⟨b11,0,none⟩) 1 1] ((ZI5 (Zzn (.slice (some ⟨b11,0,none⟩) 1 1)))++([(ZI5 (Zzn u10))]:List (List Nat)).flatten)) (fun x_ hx_=>Zzu.1 hx_) (fun h1_ h2_ hd_=>Zal h1_ h2_ hd_)
  replace hC:=hC.sM [1,0] (M':=[ZIm (ZOd 22 (ZOd 2 ((EI .i64).tr))) s13 [v13] f10,ZIm (ZOd 22 (ZOd 2 ((EI .i64).tr))) [r11] [.slice (some ⟨b11,0,none⟩) 1 1] ((ZI5 (Zzn (.slice (some ⟨b11,0,none⟩) 1 1)))++([(ZI5 (Zzn u10))]:List (List Nat)).flatten)]) (by decide) rfl
  obtain ⟨hm10,h⟩:=h
  refine Zc4 hC ZSo Zda rfl (by decide) (by decide) rfl rfl hm10 fun v16 f15 w13 hC=>Zc (v:=v16) rfl (done (Zs (Zd (Zh (Zq rfl rfl (Zb (v:=.int .i64 (ZA7.wrap ((i10:Int)+1))) rfl (done ?_)))))))
  replace hC:=hC.sP [1] (Ps':=[ZH7 (((EI .i64).ty.sl).sl) a0 [u0_0] fp0]) rfl
  exact hK12 (s13++[r11]) _ _ ⟨v16,f15,(sl ⟨rfl,rfl,rfl,(tr rfl (congrArg _ (Yh hi10 hN10))),trivial⟩),hC⟩ h
 ·clear hC h
  rintro s13 e_ w14 K10 ⟨v13,f10,hS_,hC⟩ h
  rw [ue hS_]
  refine sr (Zt rfl rfl (dn (ZIa (Yi rfl (decide_eq_false (by omega)) ?_))))
  refine ZIr (Zj (Zj (Z9 ?_)))
  refine Zd (sr (Zc (v:=.int .i64 0) rfl (dn (ZIa (sr (Yj hC [.int .i64 0] z3 rfl fun b14 w15 hB_ hC=>Zw (v:=.int .i64 0) hC 0 [.int .i64 0] [.int .i64 0] rfl sc3.size rfl rfl rfl rfl rfl (ZIc rfl) rfl fun w16 hC=>dn (ZIj ?_)))))))
  refine X1 (S:=(List (List Int))×Int×Int) _ (fun s10 e_ w_=>∃ (v10:Value),∃ (f12:List Nat),∃ (b10:Nat),Z3 e_ [(3,v10),(6,.int .i64 s10.2.1),(7,.pointer (some ⟨b10,0,none⟩))]∧Ctx Nox w0 w_ [blk b10 3 [.int .i64 s10.2.2],ZIm (ZOd 22 (ZOd 2 ((EI .i64).tr))) s10.1 [v10] f12] [ZH7 (((EI .i64).ty.sl).sl) a0 [u0_0] fp0]) ?_ (s0:=(s13,0,0)) ?_ h
  ·clear hC h
   rintro s10 e_ w17 nx11 K11 ⟨v10,f12,b10,hS_,hC⟩ h hK11
   rw [ue hS_]
   refine ZIa (ZIa ?_)
   refine Yg 10 Ye [0,0,2,7,15,31,31,95,223,479,1023,2047] [2,5,7,8,9] [0,1,3,4,5,6,7,8,9] (by kernel_rfl) (by kernel_rfl) (by kernel_rfl) (fun hM14 hM11 w18 hB_=>?_)
   replace hC:=hC.grow hB_
   refine aF 0 (.int .i64 s10.2.1) rfl rfl (hM11 0 rfl) (rfl) (fun _=>by exact Zf (v:=.int .i64 s10.2.1) rfl) (Za 12 1) (aF 1 (v10) rfl rfl (hM11 1 rfl) (rfl) (fun _=>by exact Zf (v:=v10) rfl) (Za 12 3) ?_)
   obtain ⟨Ad12,c12,hv28⟩:=Zfw (hC.getM 1 rfl)
   refine aL 2 (.int .i64 (s10.1.length:Int)) rfl rfl (hM14 2 rfl) (rfl) (fun _ hB_=>by exact Zb5 ZSo (by exact tr rfl hv28)) (Za 12 7) (aF 3 (.bool (decide (s10.2.1 < (s10.1.length:Int)))) rfl rfl (hM11 3 rfl) (rfl) (fun _=>by exact Zmf rfl rfl) (Za 12 15) (aF 4 (.bool (decide (s10.2.1 < (s10.1.length:Int)))) rfl rfl (hM11 4 rfl) (rfl) (fun _=>by exact Zf (v:=.bool (decide (s10.2.1 < (s10.1.length:Int)))) rfl) (Za 12 31) ?_))
   refine Xh (decide (s10.2.1 < (s10.1.length:Int))) (fun hb10=>?_) (fun hb10=>?_)
   ·replace h := ift h (ct hb10)
    refine aL 5 (.int .i64 s10.2.2) rfl rfl (hM14 5 rfl) (Yn 4 30 rfl rfl hb10) (fun _ hB_=>by exact Z5 (hC.grow hB_) 0 (.int .i64 s10.2.2) rfl sc3 rfl rfl) (Za 12 63) (aF 6 (v10) rfl rfl (hM11 6 rfl) (Yn 4 30 rfl rfl hb10) (fun _=>by exact Zf (v:=v10) rfl) (Za 12 127) ?_)
    replace hC:=hC.sM [1,0] (M':=[ZIm (ZOd 22 (ZOd 2 ((EI .i64).tr))) s10.1 [v10] f12,blk b10 3 [.int .i64 s10.2.2]]) (by decide) rfl
    obtain ⟨cs10,ho11,hf11⟩:=Zjg (hC.getM 0 rfl)
    replace hC:=hC.recast (c:=mat (EI .i64) 22 2 v10 cs10 s10.1) (fun x_ hx_=>by have e_:=hf11; exact e_ ▸ hx_) (fun _=>ho11)
    obtain ⟨⟨h13,h14⟩,h⟩:=h
    obtain ⟨g10,cap10,hv11⟩:=Zca (hC.getM 0 rfl) (ZSs (ZAq _) (show 0 < s10.1.length by omega))
    refine aL 7 (.pointer (some ⟨g10,0 * 1,none⟩)) rfl rfl (hM14 7 rfl) (Yn 4 30 rfl rfl hb10) (fun _ hB_=>by exact Zba (0 * 1) ZSo sc22.size (by exact tr rfl hv11) rfl h13 h14 rfl) (Za 12 255) (aL 8 ((hd cs10 0)) rfl rfl (hM14 8 rfl) (Yn 4 30 rfl rfl hb10) (fun _ hB_=>by exact Xc (hd cs10 0) (Zcu ((hC.grow hB_).getM 0 rfl) hv11 (show 0 < s10.1.length by omega)) sc22 rfl) (Za 12 511) ?_)
    obtain ⟨Ad13,c13,hv29⟩:=J1 (Zaq (hC.getM 0 rfl) (show 0 < s10.1.length by omega))
    refine aL 9 (.int .i64 ((s10.1.getD 0 Zyt).length:Int)) rfl rfl (hM14 9 rfl) (Yn 4 30 rfl rfl hb10) (fun _ hB_=>by exact Zb5 ZIs (by exact tr rfl hv29)) (Za 12 1023) (Zu 10 (by decide) (by decide) (by kernel_rfl) (by kernel_rfl) rfl (Zl 4 30 rfl rfl hb10 (Zt rfl rfl (Yc (v:=.bool (decide (s10.2.2 < ((s10.1.getD 0 Zyt).length:Int)))) (b:=true) (tr rfl (congrArg _ hb10)) rfl (done (Zv (Zd ?_)))))))
    refine Zr rfl (fun hb12=>?_) (fun hb12=>?_)
    ·replace h:=ift h (ct hb12)
     refine ZIe (Zd (ZIa (ZIj (sr (Zb (v:=v10) rfl (Zb (v:=.int .i64 s10.2.1) rfl ?_))))))
     obtain ⟨h10,h⟩:=h
     obtain ⟨Ad10,c10,hv12,hcap10⟩:=Zvq (hC.getM 0 rfl)
     refine Zvr ZSo sc22.size (tr rfl hv12) rfl h10.1 h10.2 (Zj6 (g:=142) [.pointer (some ⟨b10,0,none⟩)] (Zj5 rfl rfl) ?_)
     refine Zg [sliced Ad10 s10.2.1.toNat s10.1.length c10 1,.func (.func 142) #[] (ZH8 [.pointer (some ⟨b10,0,none⟩)])] _ Tryz.func141 rfl rfl rfl (Zws (s10.1.drop s10.2.1.toNat) (fun y0_ K_=>Zdb y0_ s10.2.2 K_) h _ (Zvp (Zvi (hC.getM 0 rfl)) hv12 (show _≤_ by omega) hcap10) Tryz.func142 rfl rfl (fun y0_ yu0_0_ yf0_ K_ w_ hb_ rq0_ hq_=>Zwr y0_ s10.2.2 hq_ w_ rq0_ ((hC.grow hb_).getM 1 rfl))) (fun ret11 w19 hR11=>?_)
     obtain ⟨r10,rfl,h,hB11⟩:=hR11
     refine⟨_,rfl,?_⟩
     replace hC:=hC.grow hB11
     refine Zc (v:=.int .i64 r10) rfl (dn (ZIa (sr (Zb (v:=.int .i64 r10) rfl (Zt rfl rfl (dn ?_))))))
     refine Zr rfl (fun hb13=>?_) (fun hb13=>?_)
     ·replace h:=ift h (ct hb13)
      refine ZIr (Zj (Z9 ?_))
      refine Zd (ZIa (sr (Z8 hC 1 (.int .i64 s10.2.2) rfl sc3 rfl rfl (dn (Zh (Yj hC [.int .i64 0] z3 rfl fun b12 w20 hB_ hC=>Zw (v:=.int .i64 s10.2.2) hC 0 [.int .i64 s10.2.2] [.int .i64 s10.2.2] rfl sc3.size rfl rfl rfl rfl rfl (ZIc rfl) rfl fun w21 hC=>dn (Zh (Z8 hC 0 (.int .i64 s10.2.2) rfl sc3 rfl rfl (Zq rfl rfl ?_)))))))))
      refine Zw (v:=.int .i64 (ZA7.wrap (s10.2.2+1))) hC 0 [.int .i64 (ZA7.wrap (s10.2.2+1))] [.int .i64 (ZA7.wrap (s10.2.2+1))] rfl sc3.size rfl rfl rfl rfl rfl (ZIc rfl) rfl fun w22 hC=>done ?_
      replace hC:=hC.sM [1,0,2] (M':=[mat (EI .i64) 22 2 v10 cs10 s10.1,blk b12 3 [.int .i64 (ZA7.wrap (s10.2.2+1))],blk b10 3 [.int .i64 s10.2.2]]) (by decide) rfl
      replace hC:=hC.recast (c:=ZIm (ZOd 22 (ZOd 2 ((EI .i64).tr))) s10.1 [v10] (J6 v10 cs10)) (fun x_ hx_=>hx_) (fun h_=>Zct h_)
      rw [← hf11] at hC
      replace hC:=hC.sM [1,0] (M':=[blk b12 3 [.int .i64 (ZA7.wrap (s10.2.2+1))],ZIm (ZOd 22 (ZOd 2 ((EI .i64).tr))) s10.1 [v10] f12]) (by decide) rfl
      exact hK11 (s10.1,s10.2.1,ZA7.wrap (s10.2.2+1)) _ _ ⟨v10,f12,b12,(sl ⟨rfl,rfl,rfl,trivial⟩),hC⟩ h
     ·replace h:=Zk h (cf hb13)
      refine ZIe (Zd (ZIa ?_))
      refine Yg 17 Ye [0,0,0,0,0,24,0,0,0,384,960,1984,0,0,12288,28672,65475,131011,262143,524287] [10,11,14,15,16] [0,1,2,3,4,5,6,7,8,9,12,13] (by kernel_rfl) (by kernel_rfl) (by kernel_rfl) (fun hM15 hM10 w23 hB_=>?_)
      replace hC:=hC.grow hB_
      refine aF 0 (v10) rfl rfl (hM10 0 rfl) (rfl) (fun _=>by exact Zf (v:=v10) rfl) (Za 20 1) (aF 1 (.int .i64 s10.2.1) rfl rfl (hM10 1 rfl) (rfl) (fun _=>by exact Zf (v:=.int .i64 s10.2.1) rfl) (Za 20 3) (aF 2 (v10) rfl rfl (hM10 2 rfl) (rfl) (fun _=>by exact Zf (v:=v10) rfl) (Za 20 7) (aF 3 (.int .i64 s10.2.1) rfl rfl (hM10 3 rfl) (rfl) (fun _=>by exact Zf (v:=.int .i64 s10.2.1) rfl) (Za 20 15) (aF 4 (.int .i64 r10) rfl rfl (hM10 4 rfl) (rfl) (fun _=>by exact Zf (v:=.int .i64 r10) rfl) (Za 20 31) (aF 5 (.int .i64 (ZA7.wrap (s10.2.1+r10))) rfl rfl (hM10 5 rfl) (rfl) (fun _=>by exact Zdh rfl rfl) (Za 20 63) (aF 6 (v10) rfl rfl (hM10 6 rfl) (rfl) (fun _=>by exact Zf (v:=v10) rfl) (Za 20 127) (aF 7 (.int .i64 s10.2.1) rfl rfl (hM10 7 rfl) (rfl) (fun _=>by exact Zf (v:=.int .i64 s10.2.1) rfl) (Za 20 255) (aF 8 (.int .i64 r10) rfl rfl (hM10 8 rfl) (rfl) (fun _=>by exact Zf (v:=.int .i64 r10) rfl) (Za 20 511) (aF 9 (.int .i64 (ZA7.wrap (s10.2.1+r10))) rfl rfl (hM10 9 rfl) (rfl) (fun _=>by exact Zdh rfl rfl) (Za 20 1023) ?_)))))))))
      obtain ⟨⟨h15,h16⟩,h⟩:=h
      obtain ⟨g11,cap11,hv13⟩:=Zca (hC.getM 0 rfl) (ZSs (ZAq _) (show (ZA7.wrap (s10.2.1+r10)).toNat < s10.1.length by omega))
      refine aL 10 (.pointer (some ⟨g11,(ZA7.wrap (s10.2.1+r10)).toNat * 1,none⟩)) rfl rfl (hM15 10 rfl) (rfl) (fun _ hB_=>by exact Zba ((ZA7.wrap (s10.2.1+r10)).toNat * 1) ZSo sc22.size (by exact tr rfl hv13) rfl h15 h16 rfl) (Za 20 2047) (aL 11 ((hd cs10 ((ZA7.wrap (s10.2.1+r10)).toNat))) rfl rfl (hM15 11 rfl) (rfl) (fun _ hB_=>by exact Xc (hd cs10 ((ZA7.wrap (s10.2.1+r10)).toNat)) (Zcu ((hC.grow hB_).getM 0 rfl) hv13 (show (ZA7.wrap (s10.2.1+r10)).toNat < s10.1.length by omega)) sc22 rfl) (Za 20 4095) (aF 12 (v10) rfl rfl (hM10 12 rfl) (rfl) (fun _=>by exact Zf (v:=v10) rfl) (Za 20 8191) (aF 13 (.int .i64 s10.2.1) rfl rfl (hM10 13 rfl) (rfl) (fun _=>by exact Zf (v:=.int .i64 s10.2.1) rfl) (Za 20 16383) ?_)))
      obtain ⟨⟨h17,h18⟩,h⟩:=h
      obtain ⟨g12,cap12,hv14⟩:=Zca (hC.getM 0 rfl) (ZSs (ZAq _) (show s10.2.1.toNat < s10.1.length by omega))
      refine aL 14 (.pointer (some ⟨g12,s10.2.1.toNat * 1,none⟩)) rfl rfl (hM15 14 rfl) (rfl) (fun _ hB_=>by exact Zba (s10.2.1.toNat * 1) ZSo sc22.size (by exact tr rfl hv14) rfl h17 h18 rfl) (Za 20 32767) (aL 15 ((hd cs10 s10.2.1.toNat)) rfl rfl (hM15 15 rfl) (rfl) (fun _ hB_=>by exact Xc (hd cs10 s10.2.1.toNat) (Zcu ((hC.grow hB_).getM 0 rfl) hv14 (show s10.2.1.toNat < s10.1.length by omega)) sc22 rfl) (Za 20 65535) ?_)
      obtain ⟨⟨h19,h20⟩,h⟩:=h
      obtain ⟨g13,cap13,hv15⟩:=Zca (hC.getM 0 rfl) (ZSs (ZAq _) (show s10.2.1.toNat < s10.1.length by omega))
      refine aL 16 (.pointer (some ⟨g13,s10.2.1.toNat * 1,none⟩)) rfl rfl (hM15 16 rfl) (rfl) (fun _ hB_=>by exact Zba (s10.2.1.toNat * 1) ZSo sc22.size (by exact tr rfl hv15) rfl h19 h20 rfl) (Za 20 131071) (aO 17 rfl (Zvn hC 0 rfl (show s10.2.1.toNat < s10.1.length by omega) (show (ZA7.wrap (s10.2.1+r10)).toNat < s10.1.length by omega) hv15 sc22.size rfl rfl fun w24 hC=>done (Zib (by decide) (l9:=(Za 20 262143)) (by kernel_rfl) (Zu 18 (by decide) (by decide) (by kernel_rfl) (by kernel_rfl) rfl ?_))))
      obtain ⟨⟨h21,h22⟩,h⟩:=h
      obtain ⟨g20,cap14,hv16⟩:=Zvm (hC.getM 0 rfl) (ZSs (ZAq _) (show (ZA7.wrap (s10.2.1+r10)).toNat < s10.1.length by omega))
      refine Zao ((ZA7.wrap (s10.2.1+r10)).toNat * 1) ZSo sc22.size (tr rfl hv16) rfl h21 h22 rfl (Zvo hC 0 rfl (show s10.2.1.toNat < s10.1.length by omega) (show (ZA7.wrap (s10.2.1+r10)).toNat < s10.1.length by omega) hv16 sc22.size rfl rfl fun w25 hC=>done (Zv (Zd (ZIa ?_))))
      refine Yg 5 Ye [0,0,3,7,0,31,63,127,255] [2,3,4] [0,1] (by kernel_rfl) (by kernel_rfl) (by kernel_rfl) (fun hM18 hM19 w26 hB_=>?_)
      replace hC:=hC.grow hB_
      refine aF 0 (v10) rfl rfl (hM19 0 rfl) (rfl) (fun _=>by exact Zf (v:=v10) rfl) (Za 9 1) (aF 1 (.int .i64 s10.2.1) rfl rfl (hM19 1 rfl) (rfl) (fun _=>by exact Zf (v:=.int .i64 s10.2.1) rfl) (Za 9 3) ?_)
      obtain ⟨⟨h23,h24⟩,h⟩:=h
      obtain ⟨g14,cap15,hv17⟩:=Zca (hC.getM 0 rfl) (ZSs (ZAq _) (show s10.2.1.toNat < (Xo Zyt s10.1 s10.2.1.toNat ((ZA7.wrap (s10.2.1+r10)).toNat)).length by omega))
      refine aL 2 (.pointer (some ⟨g14,s10.2.1.toNat * 1,none⟩)) rfl rfl (hM18 2 rfl) (rfl) (fun _ hB_=>by exact Zba (s10.2.1.toNat * 1) ZSo sc22.size (by exact tr rfl hv17) rfl h23 h24 rfl) (Za 9 7) (aL 3 ((hd (Xo undef cs10 s10.2.1.toNat ((ZA7.wrap (s10.2.1+r10)).toNat)) s10.2.1.toNat)) rfl rfl (hM18 3 rfl) (rfl) (fun _ hB_=>by exact Xc (hd (Xo undef cs10 s10.2.1.toNat ((ZA7.wrap (s10.2.1+r10)).toNat)) s10.2.1.toNat) (Zcu ((hC.grow hB_).getM 0 rfl) hv17 (show s10.2.1.toNat < (Xo Zyt s10.1 s10.2.1.toNat ((ZA7.wrap (s10.2.1+r10)).toNat)).length by omega)) sc22 rfl) (Za 9 15) (aL 4 (.int .i64 s10.2.2) rfl rfl (hM18 4 rfl) (rfl) (fun _ hB_=>by exact Z5 (hC.grow hB_) 1 (.int .i64 s10.2.2) rfl sc3 rfl rfl) (Za 9 31) (Zu 5 (by decide) (by decide) (by kernel_rfl) (by kernel_rfl) rfl ?_)))
      obtain ⟨⟨h25,h26⟩,h⟩:=h
      obtain ⟨g21,cap16,hv18⟩:=Zai (Zaq (hC.getM 0 rfl) (show s10.2.1.toNat < (Xo Zyt s10.1 s10.2.1.toNat ((ZA7.wrap (s10.2.1+r10)).toNat)).length by omega)) (ZSs (ZAq _) (show s10.2.2.toNat < ((Xo Zyt s10.1 s10.2.1.toNat ((ZA7.wrap (s10.2.1+r10)).toNat)).getD s10.2.1.toNat Zyt).length by omega))
      refine Zao (s10.2.2.toNat * 1) ZIs sc2.size (tr rfl hv18) rfl h25 h26 rfl (Xm (.int .i64 (((Xo Zyt s10.1 s10.2.1.toNat ((ZA7.wrap (s10.2.1+r10)).toNat)).getD s10.2.1.toNat Zyt).getD s10.2.2.toNat Zyt)) (Zb6 (Zaq (hC.getM 0 rfl) (show s10.2.1.toNat < (Xo Zyt s10.1 s10.2.1.toNat ((ZA7.wrap (s10.2.1+r10)).toNat)).length by omega)) hv18 s10.2.2.toNat (show s10.2.2.toNat < ((Xo Zyt s10.1 s10.2.1.toNat ((ZA7.wrap (s10.2.1+r10)).toNat)).getD s10.2.1.toNat Zyt).length by omega)) sc2 rfl ?_)
      refine Zg [.int .i64 (((Xo Zyt s10.1 s10.2.1.toNat ((ZA7.wrap (s10.2.1+r10)).toNat)).getD s10.2.1.toNat Zyt).getD s10.2.2.toNat Zyt)] _ Tryz.func143 rfl rfl rfl (Zwt (((Xo Zyt s10.1 s10.2.1.toNat ((ZA7.wrap (s10.2.1+r10)).toNat)).getD s10.2.1.toNat Zyt).getD s10.2.2.toNat Zyt) h _) (fun ret12 w27 hR12=>?_)
      obtain ⟨r12,rfl,h,hB12⟩:=hR12
      refine⟨_,rfl,?_⟩
      replace hC:=hC.grow hB12
      refine Zc (v:=.int .i64 r12) rfl (done (Zv (Zd (ZIa (sr (Zb (v:=v10) rfl (Zb (v:=.int .i64 s10.2.1) rfl ?_)))))))
      obtain ⟨⟨h27,h28⟩,h⟩:=h
      obtain ⟨g22,cap17,hv19⟩:=Zca (hC.getM 0 rfl) (ZSs (ZAq _) (show s10.2.1.toNat < (Xo Zyt s10.1 s10.2.1.toNat ((ZA7.wrap (s10.2.1+r10)).toNat)).length by omega))
      refine Zao (s10.2.1.toNat * 1) ZSo sc22.size (tr rfl hv19) rfl h27 h28 rfl (Xm (hd (Xo undef cs10 s10.2.1.toNat ((ZA7.wrap (s10.2.1+r10)).toNat)) s10.2.1.toNat) (Zcu (hC.getM 0 rfl) hv19 (show s10.2.1.toNat < (Xo Zyt s10.1 s10.2.1.toNat ((ZA7.wrap (s10.2.1+r10)).toNat)).length by omega)) sc22 rfl ?_)
      obtain ⟨Ad14,c14,hv30⟩:=J1 (Zaq (hC.getM 0 rfl) (show s10.2.1.toNat < (Xo Zyt s10.1 s10.2.1.toNat ((ZA7.wrap (s10.2.1+r10)).toNat)).length by omega))
      refine Zx ZIs (tr rfl hv30) (Zb (v:=.int .i64 0) rfl (dn (ZIj ?_)))
      replace hC:=hC.recast (c:=ZIm (ZOd 22 (ZOd 2 ((EI .i64).tr))) (Xo Zyt s10.1 s10.2.1.toNat ((ZA7.wrap (s10.2.1+r10)).toNat)) [v10] (J6 v10 (Xo undef cs10 s10.2.1.toNat ((ZA7.wrap (s10.2.1+r10)).toNat)))) (fun x_ hx_=>hx_) (fun h_=>Zct h_)
      refine X1 (S:=(List (List Int))×Int) _ (fun s12 e_ w_=>∃ (v12:Value),∃ (f13:List Nat),Z3 e_ [(3,v12),(6,.int .i64 s10.2.1),(7,.pointer (some ⟨b10,0,none⟩)),(9,.int .i64 r12),(77,.int .i64 (((Xo Zyt s10.1 s10.2.1.toNat ((ZA7.wrap (s10.2.1+r10)).toNat)).getD s10.2.1.toNat Zyt).length:Int)),(78,.int .i64 s12.2)]∧Ctx Nox w0 w_ [ZIm (ZOd 22 (ZOd 2 ((EI .i64).tr))) s12.1 [v12] f13,blk b10 3 [.int .i64 s10.2.2]] [ZH7 (((EI .i64).ty.sl).sl) a0 [u0_0] fp0]) ?_ (s0:=(Xo Zyt s10.1 s10.2.1.toNat ((ZA7.wrap (s10.2.1+r10)).toNat),0)) ?_ h
      ·clear hC h
       rintro s12 e_ w28 nx13 K12 ⟨v12,f13,hS_,hC⟩ h hK13
       rw [ue hS_]
       refine sr (Zt rfl rfl (dn (ZIa ?_)))
       refine Zr rfl (fun hb14=>?_) (fun hb14=>?_)
       ·replace h:=ift h (ct hb14)
        refine ZIe (Zd (ZIa (ZIj (sr (Zb (v:=.int .i64 s12.2) rfl (Zc (v:=.int .i64 s12.2) rfl (dn ?_)))))))
        refine Yg 15 Ye [0,0,3,7,0,0,0,96,224,0,992,2016,0,8160,16352,32767,65535] [2,3,7,8,10,11] [0,1,4,5,6,9,12,13,14] (by kernel_rfl) (by kernel_rfl) (by kernel_rfl) (fun hM13 hM12 w29 hB_=>?_)
        replace hC:=hC.grow hB_
        refine aF 0 (v12) rfl rfl (hM12 0 rfl) (rfl) (fun _=>by exact Zf (v:=v12) rfl) (Za 17 1) (aF 1 (.int .i64 s10.2.1) rfl rfl (hM12 1 rfl) (rfl) (fun _=>by exact Zf (v:=.int .i64 s10.2.1) rfl) (Za 17 3) ?_)
        obtain ⟨cs12,ho12,hf12⟩:=Zjg (hC.getM 0 rfl)
        replace hC:=hC.recast (c:=mat (EI .i64) 22 2 v12 cs12 s12.1) (fun x_ hx_=>by have e_:=hf12; exact e_ ▸ hx_) (fun _=>ho12)
        obtain ⟨⟨h29,h30⟩,h⟩:=h
        obtain ⟨g15,cap18,hv20⟩:=Zca (hC.getM 0 rfl) (ZSs (ZAq _) (show s10.2.1.toNat < s12.1.length by omega))
        refine aL 2 (.pointer (some ⟨g15,s10.2.1.toNat * 1,none⟩)) rfl rfl (hM13 2 rfl) (rfl) (fun _ hB_=>by exact Zba (s10.2.1.toNat * 1) ZSo sc22.size (by exact tr rfl hv20) rfl h29 h30 rfl) (Za 17 7) (aL 3 ((hd cs12 s10.2.1.toNat)) rfl rfl (hM13 3 rfl) (rfl) (fun _ hB_=>by exact Xc (hd cs12 s10.2.1.toNat) (Zcu ((hC.grow hB_).getM 0 rfl) hv20 (show s10.2.1.toNat < s12.1.length by omega)) sc22 rfl) (Za 17 15) (aF 4 (.int .i64 s12.2) rfl rfl (hM12 4 rfl) (rfl) (fun _=>by exact Zf (v:=.int .i64 s12.2) rfl) (Za 17 31) (aF 5 (v12) rfl rfl (hM12 5 rfl) (rfl) (fun _=>by exact Zf (v:=v12) rfl) (Za 17 63) (aF 6 (.int .i64 s10.2.1) rfl rfl (hM12 6 rfl) (rfl) (fun _=>by exact Zf (v:=.int .i64 s10.2.1) rfl) (Za 17 127) ?_))))
        obtain ⟨⟨h31,h32⟩,h⟩:=h
        obtain ⟨g16,cap19,hv21⟩:=Zca (hC.getM 0 rfl) (ZSs (ZAq _) (show s10.2.1.toNat < s12.1.length by omega))
        refine aL 7 (.pointer (some ⟨g16,s10.2.1.toNat * 1,none⟩)) rfl rfl (hM13 7 rfl) (rfl) (fun _ hB_=>by exact Zba (s10.2.1.toNat * 1) ZSo sc22.size (by exact tr rfl hv21) rfl h31 h32 rfl) (Za 17 255) (aL 8 ((hd cs12 s10.2.1.toNat)) rfl rfl (hM13 8 rfl) (rfl) (fun _ hB_=>by exact Xc (hd cs12 s10.2.1.toNat) (Zcu ((hC.grow hB_).getM 0 rfl) hv21 (show s10.2.1.toNat < s12.1.length by omega)) sc22 rfl) (Za 17 511) (aF 9 (.int .i64 s12.2) rfl rfl (hM12 9 rfl) (rfl) (fun _=>by exact Zf (v:=.int .i64 s12.2) rfl) (Za 17 1023) ?_))
        obtain ⟨⟨h33,h34⟩,h⟩:=h
        obtain ⟨g17,cap20,hv22⟩:=Zai (Zaq (hC.getM 0 rfl) (show s10.2.1.toNat < s12.1.length by omega)) (ZSs (ZAq _) (show s12.2.toNat < (s12.1.getD s10.2.1.toNat Zyt).length by omega))
        refine aL 10 (.pointer (some ⟨g17,s12.2.toNat * 1,none⟩)) rfl rfl (hM13 10 rfl) (rfl) (fun _ hB_=>by exact Zba (s12.2.toNat * 1) ZIs sc2.size (by exact tr rfl hv22) rfl h33 h34 rfl) (Za 17 2047) (aL 11 (.int .i64 ((s12.1.getD s10.2.1.toNat Zyt).getD s12.2.toNat Zyt)) rfl rfl (hM13 11 rfl) (rfl) (fun _ hB_=>by exact Xc (.int .i64 ((s12.1.getD s10.2.1.toNat Zyt).getD s12.2.toNat Zyt)) (Zb6 (Zaq ((hC.grow hB_).getM 0 rfl) (show s10.2.1.toNat < s12.1.length by omega)) hv22 s12.2.toNat (show s12.2.toNat < (s12.1.getD s10.2.1.toNat Zyt).length by omega)) sc2 rfl) (Za 17 4095) (aF 12 (.int .i64 r12) rfl rfl (hM12 12 rfl) (rfl) (fun _=>by exact Zf (v:=.int .i64 r12) rfl) (Za 17 8191) (aF 13 (.int .i64 (ZA7.wrap (((s12.1.getD s10.2.1.toNat Zyt).getD s12.2.toNat Zyt) * r12))) rfl rfl (hM12 13 rfl) (rfl) (fun _=>by exact Zbi rfl rfl) (Za 17 16383) (aF 14 (.int .i64 (Zyy (ZA7.wrap (((s12.1.getD s10.2.1.toNat Zyt).getD s12.2.toNat Zyt) * r12)) 10007)) rfl rfl (hM12 14 rfl) (rfl) (fun _=>by exact Zmd rfl rfl (by decide)) (Za 17 32767) (Zu 15 (by decide) (by decide) (by kernel_rfl) (by kernel_rfl) rfl ?_)))))
        obtain ⟨⟨h35,h36⟩,h⟩:=h
        obtain ⟨g23,cap21,hv23⟩:=Zai (Zaq (hC.getM 0 rfl) (show s10.2.1.toNat < s12.1.length by omega)) (ZSs (ZAq _) (show s12.2.toNat < (s12.1.getD s10.2.1.toNat Zyt).length by omega))
        refine Zao (s12.2.toNat * 1) ZIs sc2.size (tr rfl hv23) rfl h35 h36 rfl (Zvk hC 0 (Zyy (ZA7.wrap (((s12.1.getD s10.2.1.toNat Zyt).getD s12.2.toNat Zyt) * r12)) 10007) rfl (show s10.2.1.toNat < s12.1.length by omega) hv23 (show s12.2.toNat < (s12.1.getD s10.2.1.toNat Zyt).length by omega) sc2.size rfl rfl rfl fun w30 hC=>done (Zv (Zs (Zd (Zh (Zq rfl rfl (Zb (v:=.int .i64 (ZA7.wrap (s12.2+1))) rfl (done ?_))))))))
        replace hC:=hC.recast (c:=ZIm (ZOd 22 (ZOd 2 ((EI .i64).tr))) (s12.1.set s10.2.1.toNat ((s12.1.getD s10.2.1.toNat Zyt).set s12.2.toNat (Zyy (ZA7.wrap (((s12.1.getD s10.2.1.toNat Zyt).getD s12.2.toNat Zyt) * r12)) 10007))) [v12] (J6 v12 cs12)) (fun x_ hx_=>hx_) (fun h_=>Zct h_)
        rw [← hf12] at hC
        exact hK13 (s12.1.set s10.2.1.toNat ((s12.1.getD s10.2.1.toNat Zyt).set s12.2.toNat (Zyy (ZA7.wrap (((s12.1.getD s10.2.1.toNat Zyt).getD s12.2.toNat Zyt) * r12)) 10007)),ZA7.wrap (s12.2+1)) _ _ ⟨v12,f13,(sl ⟨rfl,rfl,rfl,rfl,rfl,rfl,trivial⟩),hC⟩ h
       ·replace h:=Zk h (cf hb14)
        refine ZIr (Zj (Zj (Z9 ?_)))
        refine Zd (ZIa (sr (Zb (v:=v12) rfl ?_)))
        obtain ⟨Ad15,c15,hv31⟩:=Zfw (hC.getM 0 rfl)
        refine Zx ZSo (tr rfl hv31) (Zb (v:=.int .i64 0) rfl (dn (ZIj ?_)))
        refine X1 (S:=(List (List Int))×Int) _ (fun s11 e_ w_=>∃ (v11:Value),∃ (f11:List Nat),Z3 e_ [(3,v11),(6,.int .i64 s10.2.1),(7,.pointer (some ⟨b10,0,none⟩)),(98,v11),(99,.int .i64 (s12.1.length:Int)),(100,.int .i64 s11.2)]∧Ctx Nox w0 w_ [ZIm (ZOd 22 (ZOd 2 ((EI .i64).tr))) s11.1 [v11] f11,blk b10 3 [.int .i64 s10.2.2]] [ZH7 (((EI .i64).ty.sl).sl) a0 [u0_0] fp0]) ?_ (s0:=(s12.1,0)) ?_ h
        ·clear hC h
         rintro s11 e_ w31 nx10 K13 ⟨v11,f11,hS_,hC⟩ h hK10
         rw [ue hS_]
         refine sr (Zt rfl rfl (dn (ZIa ?_)))
         refine Zr rfl (fun hb15=>?_) (fun hb15=>?_)
         ·replace h:=ift h (ct hb15)
          refine ZIe (Zd (ZIa (ZIj (sr (Zb (v:=.int .i64 s11.2) rfl ?_)))))
          obtain ⟨cs11,ho13,hf10⟩:=Zjg (hC.getM 0 rfl)
          replace hC:=hC.recast (c:=mat (EI .i64) 22 2 v11 cs11 s11.1) (fun x_ hx_=>by have e_:=hf10; exact e_ ▸ hx_) (fun _=>ho13)
          obtain ⟨⟨h37,h38⟩,h⟩:=h
          obtain ⟨g24,cap22,hv24⟩:=Zca (hC.getM 0 rfl) (ZSs (ZAq _) (show s11.2.toNat < s11.1.length by omega))
          refine Zao (s11.2.toNat * 1) ZSo sc22.size (tr rfl hv24) rfl h37 h38 rfl (Xm (hd cs11 s11.2.toNat) (Zcu (hC.getM 0 rfl) hv24 (show s11.2.toNat < s11.1.length by omega)) sc22 rfl (Zc (v:=.int .i64 s11.2) rfl (Zc (v:=(hd cs11 s11.2.toNat)) rfl (dn (sr (Zb (v:=.int .i64 s11.2) rfl (Zb (v:=.int .i64 s10.2.1) rfl (Xl rfl rfl (Zb (v:=.bool (decide (s11.2≠s10.2.1))) rfl ?_)))))))))
          refine Xh (decide (s11.2≠s10.2.1)) (fun hb11=>?_) (fun hb11=>?_)
          ·replace h:=ift h (ct hb11)
           refine Zl 3 108 rfl rfl hb11 (Zb (v:=(hd cs11 s11.2.toNat)) rfl (Zl 3 108 rfl rfl hb11 (Z8 hC 1 (.int .i64 s10.2.2) rfl sc3 rfl rfl (Zl 3 108 rfl rfl hb11 ?_))))
           obtain ⟨⟨h39,h40⟩,h⟩:=h
           obtain ⟨g25,cap23,hv25⟩:=Zai (Zaq (hC.getM 0 rfl) (show s11.2.toNat < s11.1.length by omega)) (ZSs (ZAq _) (show s10.2.2.toNat < (s11.1.getD s11.2.toNat Zyt).length by omega))
           refine Zao (s10.2.2.toNat * 1) ZIs sc2.size (tr rfl hv25) rfl h39 h40 rfl (Zl 3 108 rfl rfl hb11 (Xm (.int .i64 ((s11.1.getD s11.2.toNat Zyt).getD s10.2.2.toNat Zyt)) (Zb6 (Zaq (hC.getM 0 rfl) (show s11.2.toNat < s11.1.length by omega)) hv25 s10.2.2.toNat (show s10.2.2.toNat < (s11.1.getD s11.2.toNat Zyt).length by omega)) sc2 rfl (Zl 3 108 rfl rfl hb11 (Xl rfl rfl (Yc (v:=.bool (decide ((s11.1.getD s11.2.toNat Zyt).getD s10.2.2.toNat Zyt≠0))) (b:=true) (tr rfl (congrArg _ hb11)) rfl (dn ?_))))))
           refine Zr rfl (fun hb16=>?_) (fun hb16=>?_)
           ·replace h:=ift h (ct hb16)
            refine Yg 9 Ye [0,0,0,6,14,0,0,96,224,511] [3,4,6,7,8] [0,1,2,5] (by kernel_rfl) (by kernel_rfl) (by kernel_rfl) (fun hM16 hM17 w32 hB_=>?_)
            replace hC:=hC.grow hB_
            refine aF 0 ((hd cs11 s11.2.toNat)) rfl rfl (hM17 0 rfl) (rfl) (fun _=>by exact Zf (v:=(hd cs11 s11.2.toNat)) rfl) (Za 10 1) (aF 1 (v11) rfl rfl (hM17 1 rfl) (rfl) (fun _=>by exact Zf (v:=v11) rfl) (Za 10 3) (aF 2 (.int .i64 s10.2.1) rfl rfl (hM17 2 rfl) (rfl) (fun _=>by exact Zf (v:=.int .i64 s10.2.1) rfl) (Za 10 7) ?_))
            obtain ⟨⟨h41,h42⟩,h⟩:=h
            obtain ⟨g18,cap24,hv26⟩:=Zca (hC.getM 0 rfl) (ZSs (ZAq _) (show s10.2.1.toNat < s11.1.length by omega))
            refine aL 3 (.pointer (some ⟨g18,s10.2.1.toNat * 1,none⟩)) rfl rfl (hM16 3 rfl) (rfl) (fun _ hB_=>by exact Zba (s10.2.1.toNat * 1) ZSo sc22.size (by exact tr rfl hv26) rfl h41 h42 rfl) (Za 10 15) (aL 4 ((hd cs11 s10.2.1.toNat)) rfl rfl (hM16 4 rfl) (rfl) (fun _ hB_=>by exact Xc (hd cs11 s10.2.1.toNat) (Zcu ((hC.grow hB_).getM 0 rfl) hv26 (show s10.2.1.toNat < s11.1.length by omega)) sc22 rfl) (Za 10 31) (aF 5 ((hd cs11 s11.2.toNat)) rfl rfl (hM17 5 rfl) (rfl) (fun _=>by exact Zf (v:=(hd cs11 s11.2.toNat)) rfl) (Za 10 63) (aL 6 (.int .i64 s10.2.2) rfl rfl (hM16 6 rfl) (rfl) (fun _ hB_=>by exact Z5 (hC.grow hB_) 1 (.int .i64 s10.2.2) rfl sc3 rfl rfl) (Za 10 127) ?_)))
            obtain ⟨⟨h43,h44⟩,h⟩:=h
            obtain ⟨g19,cap25,hv27⟩:=Zai (Zaq (hC.getM 0 rfl) (show s11.2.toNat < s11.1.length by omega)) (ZSs (ZAq _) (show s10.2.2.toNat < (s11.1.getD s11.2.toNat Zyt).length by omega))
            refine aL 7 (.pointer (some ⟨g19,s10.2.2.toNat * 1,none⟩)) rfl rfl (hM16 7 rfl) (rfl) (fun _ hB_=>by exact Zba (s10.2.2.toNat * 1) ZIs sc2.size (by exact tr rfl hv27) rfl h43 h44 rfl) (Za 10 255) (aL 8 (.int .i64 ((s11.1.getD s11.2.toNat Zyt).getD s10.2.2.toNat Zyt)) rfl rfl (hM16 8 rfl) (rfl) (fun _ hB_=>by exact Xc (.int .i64 ((s11.1.getD s11.2.toNat Zyt).getD s10.2.2.toNat Zyt)) (Zb6 (Zaq ((hC.grow hB_).getM 0 rfl) (show s11.2.toNat < s11.1.length by omega)) hv27 s10.2.2.toNat (show s10.2.2.toNat < (s11.1.getD s11.2.toNat Zyt).length by omega)) sc2 rfl) (Za 10 511) (Zu 9 (by decide) (by decide) (by kernel_rfl) (by kernel_rfl) rfl ?_))
            obtain ⟨hne10,h⟩:=h
            refine Zg [(hd cs11 s11.2.toNat),(hd cs11 s10.2.1.toNat),.int .i64 ((s11.1.getD s11.2.toNat Zyt).getD s10.2.2.toNat Zyt)] _ Tryz.func140 rfl rfl rfl (Zwq (s11.1.getD s11.2.toNat Zyt) (s11.1.getD s10.2.1.toNat Zyt) ((s11.1.getD s11.2.toNat Zyt).getD s10.2.2.toNat Zyt) h _ (Zaq (hC.getM 0 rfl) (show s11.2.toNat < s11.1.length by omega)) (Y2 (Zaq (hC.getM 0 rfl) (show s10.2.1.toNat < s11.1.length by omega))) (Zoj (hC.getM 0 rfl).2.2 (Zoq (hC.getM 0 rfl) (show s10.2.1.toNat < s11.1.length by omega)) (Zoq (hC.getM 0 rfl) (show s11.2.toNat < s11.1.length by omega)) hne10)) (fun ret13 w33 hR13=>?_)
            obtain ⟨m10,rfl,h,hm11,hB13⟩:=hR13
            refine⟨_,rfl,?_⟩
            replace hC:=hC.turnRow 0 rfl (show s11.2.toNat < s11.1.length by omega) hB13 hm11
            refine done (Zv (Zs (Zd (Zh (Zq rfl rfl (Zb (v:=.int .i64 (ZA7.wrap (s11.2+1))) rfl (done ?_)))))))
            replace hC:=hC.recast (c:=ZIm (ZOd 22 (ZOd 2 ((EI .i64).tr))) (s11.1.set s11.2.toNat m10) [v11] (J6 v11 cs11)) (fun x_ hx_=>hx_) (fun h_=>Zct h_)
            rw [← hf10] at hC
            exact hK10 (s11.1.set s11.2.toNat m10,ZA7.wrap (s11.2+1)) _ _ ⟨v11,f11,(sl ⟨rfl,rfl,rfl,rfl,rfl,rfl,trivial⟩),hC⟩ h
           ·replace h:=Zk h (cf hb16)
            refine ZIe (Zs (Zd (Zh (Zq rfl rfl (Zb (v:=.int .i64 (ZA7.wrap (s11.2+1))) rfl (done ?_))))))
            replace hC:=hC.recast (c:=ZIm (ZOd 22 (ZOd 2 ((EI .i64).tr))) s11.1 [v11] (J6 v11 cs11)) (fun x_ hx_=>hx_) (fun h_=>Zct h_)
            rw [← hf10] at hC
            exact hK10 (s11.1,ZA7.wrap (s11.2+1)) _ _ ⟨v11,f11,(sl ⟨rfl,rfl,rfl,rfl,rfl,rfl,trivial⟩),hC⟩ h
          ·replace h:=Zk h (cf hb11)
           refine Zn (b:=false) 3 108 rfl (tr rfl (congrArg _ hb11)) (by decide) (Zn (b:=false) 3 108 rfl (tr rfl (congrArg _ hb11)) (by decide) (Zn (b:=false) 3 108 rfl (tr rfl (congrArg _ hb11)) (by decide) (Zn (b:=false) 3 108 rfl (tr rfl (congrArg _ hb11)) (by decide) (Zn (b:=false) 3 108 rfl (tr rfl (congrArg _ hb11)) (by decide) (Yc (v:=.bool false) (b:=false) (tr rfl (congrArg _ hb11)) rfl (dn (Yi rfl rfl (ZIe (Zs (Zd (Zh ?_)))))))))))
           refine Zq rfl rfl (Zb (v:=.int .i64 (ZA7.wrap (s11.2+1))) rfl (done ?_))
           replace hC:=hC.recast (c:=ZIm (ZOd 22 (ZOd 2 ((EI .i64).tr))) s11.1 [v11] (J6 v11 cs11)) (fun x_ hx_=>hx_) (fun h_=>Zct h_)
           rw [← hf10] at hC
           exact hK10 (s11.1,ZA7.wrap (s11.2+1)) _ _ ⟨v11,f11,(sl ⟨rfl,rfl,rfl,rfl,rfl,rfl,trivial⟩),hC⟩ h
         ·replace h:=Zk h (cf hb15)
          refine ZIr (Zj (Zj (Z9 ?_)))
          refine Zd (Zh (Zb (v:=.int .i64 s10.2.1) rfl (Zq rfl rfl (Zc (v:=.int .i64 (ZA7.wrap (s10.2.1+1))) rfl (done (Zs (Zd (ZIa (sr (Z8 hC 1 (.int .i64 s10.2.2) rfl sc3 rfl rfl (dn ?_)))))))))))
          refine Zh (Yj hC [.int .i64 0] z3 rfl fun b13 w34 hB_ hC=>Zw (v:=.int .i64 s10.2.2) hC 0 [.int .i64 s10.2.2] [.int .i64 s10.2.2] rfl sc3.size rfl rfl rfl rfl rfl (ZIc rfl) rfl fun w35 hC=>dn (Zh (Z8 hC 0 (.int .i64 s10.2.2) rfl sc3 rfl rfl (Zq rfl rfl (Zw (v:=.int .i64 (ZA7.wrap (s10.2.2+1))) hC 0 [.int .i64 (ZA7.wrap (s10.2.2+1))] [.int .i64 (ZA7.wrap (s10.2.2+1))] rfl sc3.size rfl rfl rfl rfl rfl (ZIc rfl) rfl fun w36 hC=>done ?_)))))
          replace hC:=hC.sM [0,1] (M':=[blk b13 3 [.int .i64 (ZA7.wrap (s10.2.2+1))],ZIm (ZOd 22 (ZOd 2 ((EI .i64).tr))) s11.1 [v11] f11]) (by decide) rfl
          exact hK11 (s11.1,ZA7.wrap (s10.2.1+1),ZA7.wrap (s10.2.2+1)) _ _ ⟨v11,f11,b13,(sl ⟨rfl,rfl,rfl,trivial⟩),hC⟩ h
        ·skip
         exact⟨v12,f13,(sl ⟨rfl,rfl,rfl,rfl,rfl,rfl,trivial⟩),hC⟩
      ·skip
       exact⟨v10,(J6 v10 (Xo undef cs10 s10.2.1.toNat ((ZA7.wrap (s10.2.1+r10)).toNat))),(sl ⟨rfl,rfl,rfl,rfl,rfl,rfl,trivial⟩),hC⟩
    ·replace h:=Zk h (cf hb12)
     refine ZIr (Zj (Zj (Z9 ?_)))
     refine Zd (sr (Zb (v:=v10) rfl (Zb (v:=.int .i64 s10.2.1) rfl ?_)))
     obtain ⟨h11,h⟩:=h
     refine Zop hC 0 rfl ZSo sc22.size rfl rfl h11.1 h11.2 fun v14 hC=>Zc (v:=v14) rfl (dn (ZIi ?_))
     replace hC:=hC.recast (c:=ZIm (ZOd 22 (ZOd 2 ((EI .i64).tr))) (s10.1.take s10.2.1.toNat) [v14] (J6 v14 (cs10.take s10.2.1.toNat))) (fun x_ hx_=>hx_) (fun h_=>Zct h_)
     refine Zp (fn:=Tryz.f86) rfl ?_ ⟨s10.1.take s10.2.1.toNat,v14,(J6 v14 (cs10.take s10.2.1.toNat)),rfl,h,(hC.getM 0 rfl),(Zbl hC 0 rfl),hC.below⟩ (.inl rfl)
     exact Zi rfl
   ·replace h:=Zk h (cf hb10)
    refine Zm Z2 5 undef rfl rfl (by kernel_rfl) (hM11 5 rfl) (fun w_=>.inr ⟨Yk (b:=false) 4 30 rfl (tr rfl (congrArg _ hb10)) (by decide),rfl⟩) (l9:=(Za 12 63)) (by kernel_rfl) (Zm Z2 6 undef rfl rfl (by kernel_rfl) (hM11 6 rfl) (fun w_=>.inr ⟨Yk (b:=false) 4 30 rfl (tr rfl (congrArg _ hb10)) (by decide),rfl⟩) (l9:=(Za 12 127)) (by kernel_rfl) (Zm Z2 7 undef rfl rfl (by kernel_rfl) (hM11 7 rfl) (fun w_=>.inr ⟨Yk (b:=false) 4 30 rfl (tr rfl (congrArg _ hb10)) (by decide),rfl⟩) (l9:=(Za 12 255)) (by kernel_rfl) (Zm Z2 8 undef rfl rfl (by kernel_rfl) (hM11 8 rfl) (fun w_=>.inr ⟨Yk (b:=false) 4 30 rfl (tr rfl (congrArg _ hb10)) (by decide),rfl⟩) (l9:=(Za 12 511)) (by kernel_rfl) (Zm Z2 9 undef rfl rfl (by kernel_rfl) (hM11 9 rfl) (fun w_=>.inr ⟨Yk (b:=false) 4 30 rfl (tr rfl (congrArg _ hb10)) (by decide),rfl⟩) (l9:=(Za 12 1023)) (by kernel_rfl) (Zu 10 (by decide) (by decide) (by kernel_rfl) (by kernel_rfl) rfl (Zn (b:=false) 4 30 rfl (tr rfl (congrArg _ hb10)) (by decide) (Yc (v:=.bool false) (b:=false) (tr rfl (congrArg _ hb10)) rfl (done (Zv (Zd (Yi rfl rfl ?_)))))))))))
    refine ZIr (Zj (Zj (Z9 ?_)))
    refine Zd (sr (Zb (v:=v10) rfl (Zb (v:=.int .i64 s10.2.1) rfl ?_)))
    replace hC:=hC.sM [1,0] (M':=[ZIm (ZOd 22 (ZOd 2 ((EI .i64).tr))) s10.1 [v10] f12,blk b10 3 [.int .i64 s10.2.2]]) (by decide) rfl
    obtain ⟨cs13,ho14,hf15⟩:=Zjg (hC.getM 0 rfl)
    replace hC:=hC.recast (c:=mat (EI .i64) 22 2 v10 cs13 s10.1) (fun x_ hx_=>by have e_:=hf15; exact e_ ▸ hx_) (fun _=>ho14)
    obtain ⟨h12,h⟩:=h
    refine Zop hC 0 rfl ZSo sc22.size rfl rfl h12.1 h12.2 fun v15 hC=>Zc (v:=v15) rfl (dn (ZIi ?_))
    replace hC:=hC.recast (c:=ZIm (ZOd 22 (ZOd 2 ((EI .i64).tr))) (s10.1.take s10.2.1.toNat) [v15] (J6 v15 (cs13.take s10.2.1.toNat))) (fun x_ hx_=>hx_) (fun h_=>Zct h_)
    refine Zp (fn:=Tryz.f86) rfl ?_ ⟨s10.1.take s10.2.1.toNat,v15,(J6 v15 (cs13.take s10.2.1.toNat)),rfl,h,(hC.getM 0 rfl),(Zbl hC 0 rfl),hC.below⟩ (.inl rfl)
    exact Zi rfl
  ·skip
   exact⟨v13,f10,b14,(sl ⟨rfl,rfl,rfl,trivial⟩),hC⟩
 ·skip
  exact⟨.slice (some ⟨b2,0,none⟩) 0 0,((ZI5 (Zzn (.slice (some ⟨b2,0,none⟩) 0 0)))++([]:List (List Nat)).flatten),(sl ⟨rfl,rfl,rfl,rfl,trivial⟩),hC⟩
def Ze1 (a0:List (List Int)) (K:Int→Prop):Prop :=
 Zhl a0 (fun r5=>K (r5.length:Int))
theorem Zoy (a0:List (List Int)) {u0_0:Value} {fp0:List Nat} {K:Int→Prop} (h:Ze1 a0 K) (w0:World) (q0:(((EI .i64).ty.sl).sl).rep a0 [u0_0] fp0 w0) :
  Calls ZId 57 #[u0_0] w0 fun e w'=>∃ (r0:Int),
   e=.returned (.int .i64 r0)∧K r0∧Bel w0 w':=by
 unfold Ze1 at h
 refine Z4 (args:=[u0_0]) Tryz.func57 rfl 6 Tryz.ntmps57 (ZIc rfl) ?_
 have hC:=ZIt (X:=Nox) w0 [ZH7 (((EI .i64).ty.sl).sl) a0 [u0_0] fp0] (by simp only [Zyz,ZAt,or_false,forall_eq_or_imp,forall_eq]; exact q0)
 refine sr (Zc (v:=.int .i64 0) rfl (dn (sr (Zb (v:=u0_0) rfl ?_))))
 refine Zg [u0_0] _ Tryz.func86 rfl rfl rfl (Zwu a0 h _ (hC.getP 0 rfl)) (fun Jo w4 hR3=>?_)
 obtain ⟨r5,u6,f7,rfl,h,hr8,hf9,hB10⟩:=hR3
 refine⟨_,rfl,?_⟩
 replace hC:=hC.push hB10 (ZIm (ZOd 22 (ZOd 2 ((EI .i64).tr))) r5 [u6] f7) hr8 hf9
 obtain ⟨Ad10,c10,hv10⟩:=Zfw (hC.getM 0 rfl)
 refine Zx ZSo (tr rfl hv10) (Zc (v:=.int .i64 (r5.length:Int)) rfl (dn (ZIi ?_)))
 refine Zp (fn:=Tryz.f57) rfl ?_ ⟨(r5.length:Int),rfl,h,hC.below⟩ (.inl rfl)
 exact Zi rfl
def Zd5 (a0:Alg) (a1:Int) (K:Int→Int→Prop):Prop :=
 Zgs a0 [] (fun r15=>Zdu a1 1 11 (fun r17=>Zdv (!r17) 2 (fun r16=>Zdx [r15,r16] (fun r12=>(if r12≠0 then K 0 r12 else Ze0 a0 a1 (fun r14 r10=>Ze0 a0 (ZA7.wrap (a1+1)) (fun r18 r11=>Zdx [r10,r11] (fun r13=>(if r13≠0 then K 0 r13 else Ze1 r14 (fun r19=>Ze1 r18 (fun r20=>K (ZA7.wrap ((ZA7.wrap ((r14.length:Int) - r19)) - r20)) 0)))))))))))
theorem Zwv (a0:Alg) (a1:Int) {u0_0:Value} {u0_1:Value} {fp0:List Nat} {K:Int→Int→Prop} (h:Zd5 a0 a1 K) (w0:World) (q0:TAlg.rep a0 [u0_0,u0_1] fp0 w0) :
  Calls ZId 20 #[.agg #[u0_0,u0_1],.int .i64 a1] w0 fun e w'=>∃ (r0:Int) (r1:Int),
   e=.returned (.tuple #[.int .i64 r0,.int .i64 r1])∧K r0 r1∧Bel w0 w':=by
 unfold Zd5 at h
 refine Z4 (args:=[.agg #[u0_0,u0_1],.int .i64 a1]) Tryz.func20 rfl 48 Tryz.ntmps20 (ZIc rfl) ?_
 have hC:=ZIt (X:=Nox) w0 [ZH7 TAlg a0 [u0_0,u0_1] fp0] (by simp only [Zyz,ZAt,or_false,forall_eq_or_imp,forall_eq]; exact q0)
 have hp2:=(hC.getP 0 rfl)
 replace hC:=hC.derive 0 rfl (ZH7 ((EI .i64).ty.sl) a0.degrees [u0_0] fp0) (fun _=>(Yw hp2).1) (fun _ hb_=>hb_)
 replace hC:=hC.derive 1 rfl (ZH7 TForm.sl a0.images [u0_1] fp0) (fun _=>(Yw hp2).2) (fun _ hb_=>hb_)
 refine sr (Yl (v:=.agg #[u0_0,u0_1]) hC [u0_0,u0_1] rfl rfl fun b5 w7 hB_ hC=>Zc (v:=.int .i64 0) rfl (Zc (v:=.int .i64 0) rfl (dn (ZIa (sr ?_)))))
 refine Zg [.pointer (some ⟨b5,0,none⟩),.slice none 0 0] _ Tryz.func44 rfl rfl rfl (Ztz a0 [] h _ (Xy (hC.getP 1 rfl) (hC.getP 0 rfl)) (hC.getM 0 rfl) (Zmn _ _)) (fun ret8 w10 hR9=>?_)
 obtain ⟨r15,rfl,h,hB10⟩:=hR9
 refine⟨_,rfl,?_⟩
 replace hC:=hC.grow hB10
 refine Zb (v:=.int .i64 a1) rfl ?_
 refine Zg [.int .i64 a1,.int .i64 1,.int .i64 11] _ Tryz.func46 rfl rfl rfl (Zkw a1 1 11 h _) (fun ret10 w11 hR10=>?_)
 obtain ⟨r17,rfl,h,hB11⟩:=hR10
 refine⟨_,rfl,?_⟩
 replace hC:=hC.grow hB11
 refine Jf rfl ?_
 refine Zg [.bool (!r17),.int .i64 2] _ Tryz.func45 rfl rfl rfl (Zkx (!r17) 2 h _) (fun ret11 w12 hR11=>?_)
 obtain ⟨r16,rfl,h,hB12⟩:=hR11
 refine⟨_,rfl,?_⟩
 replace hC:=hC.grow hB12
 refine Xr (sz:=1) hC [(0,.int .i64 r15),(1,.int .i64 r16)] ((EI .i64).encs [r15,r16]) rfl (fun _=>Zlm r15 r16 _) rfl (by decide) fun b10 w13 hB_ hC=>?_
 refine Zg [.slice (some ⟨b10,0,none⟩) 2 2] _ Tryz.func43 rfl rfl rfl (Zk1 [r15,r16] h _ (Y2 (hC.getM 0 rfl))) (fun ret12 w14 hR12=>?_)
 obtain ⟨r12,rfl,h,hB13⟩:=hR12
 refine⟨_,rfl,?_⟩
 replace hC:=hC.grow hB13
 refine Zc (v:=.int .i64 r12) rfl (dn (sr (Zb (v:=.int .i64 r12) rfl (Xl rfl rfl (dn ?_)))))
 refine Zr rfl (fun hb10=>?_) (fun hb10=>?_)
 ·replace h:=ift h (ct hb10)
  refine sr (Zb (v:=.int .i64 r12) rfl (Zc (v:=.int .i64 0) rfl (Zc (v:=.int .i64 r12) rfl (dn ?_))))
  refine ZIi (Zo ?_)
  refine Jo (fn:=Tryz.f20) rfl ?_ ?_ ⟨0,r12,rfl,h,hC.below⟩ (.inl rfl)
  ·exact Zi rfl
  ·exact Zi rfl
 ·replace h:=Zk h (cf hb10)
  refine ZIe (Zd (sr (Zb (v:=.int .i64 a1) rfl ?_)))
  refine Zg [.pointer (some ⟨b5,0,none⟩),.int .i64 a1] _ Tryz.func56 rfl rfl rfl (Zox a0 a1 h _ (Xy (hC.getP 1 rfl) (hC.getP 0 rfl)) (hC.getM 1 rfl)) (fun ret13 w15 hR13=>?_)
  obtain ⟨r14,u10,f10,r10,rfl,h,hr10,hf10,hB14⟩:=hR13
  refine⟨_,rfl,?_⟩
  replace hC:=hC.push hB14 (ZIm (ZOd 22 (ZOd 2 ((EI .i64).tr))) r14 [u10] f10) hr10 hf10
  refine Zb (v:=.tuple #[u10,.int .i64 r10]) rfl (Xk (v:=u10) rfl rfl (Xk (v:=.int .i64 r10) rfl rfl (Zc (v:=u10) rfl (Zc (v:=.int .i64 r10) rfl (dn (sr (Zb (v:=.int .i64 a1) rfl (Zq rfl rfl ?_))))))))
  refine Zg [.pointer (some ⟨b5,0,none⟩),.int .i64 (ZA7.wrap (a1+1))] _ Tryz.func56 rfl rfl rfl (Zox a0 (ZA7.wrap (a1+1)) h _ (Xy (hC.getP 1 rfl) (hC.getP 0 rfl)) (hC.getM 2 rfl)) (fun ret14 w16 hR14=>?_)
  obtain ⟨r18,u11,f11,r11,rfl,h,hr11,hf11,hB15⟩:=hR14
  refine⟨_,rfl,?_⟩
  replace hC:=hC.push hB15 (ZIm (ZOd 22 (ZOd 2 ((EI .i64).tr))) r18 [u11] f11) hr11 hf11
  refine Zb (v:=.tuple #[u11,.int .i64 r11]) rfl (Xk (v:=u11) rfl rfl (Xk (v:=.int .i64 r11) rfl rfl (Zc (v:=u11) rfl (Zc (v:=.int .i64 r11) rfl (dn (ZIa (sr (Zb (v:=.int .i64 r10) rfl (Zb (v:=.int .i64 r11) rfl (Xr (sz:=1) hC [(0,.int .i64 r10),(1,.int .i64 r11)] ((EI .i64).encs [r10,r11]) rfl (fun _=>Zlm r10 r11 _) rfl (by decide) fun b11 w17 hB_ hC=>?_))))))))))
  refine Zg [.slice (some ⟨b11,0,none⟩) 2 2] _ Tryz.func43 rfl rfl rfl (Zk1 [r10,r11] h _ (Y2 (hC.getM 0 rfl))) (fun ret15 w18 hR15=>?_)
  obtain ⟨r13,rfl,h,hB16⟩:=hR15
  refine⟨_,rfl,?_⟩
  replace hC:=hC.grow hB16
  refine Zc (v:=.int .i64 r13) rfl (dn (sr (Zb (v:=.int .i64 r13) rfl (Xl rfl rfl (dn ?_)))))
  refine Zr rfl (fun hb11=>?_) (fun hb11=>?_)
  ·replace h:=ift h (ct hb11)
   refine sr (Zb (v:=.int .i64 r13) rfl (Zc (v:=.int .i64 0) rfl (Zc (v:=.int .i64 r13) rfl (dn ?_))))
   refine ZIi (Zo ?_)
   refine Jo (fn:=Tryz.f20) rfl ?_ ?_ ⟨0,r13,rfl,h,hC.below⟩ (.inl rfl)
   ·exact Zi rfl
   ·exact Zi rfl
  ·replace h:=Zk h (cf hb11)
   refine ZIe (Zd (sr (Zb (v:=u10) rfl ?_)))
   obtain ⟨Ad10,c10,hv10⟩:=Zfw (hC.getM 2 rfl)
   refine Zx ZSo (tr rfl hv10) (Zb (v:=u10) rfl ?_)
   refine Zg [u10] _ Tryz.func57 rfl rfl rfl (Zoy r14 h _ (ZSk _ (hC.getM 2 rfl).1)) (fun ret16 w19 hR16=>?_)
   obtain ⟨r19,rfl,h,hB17⟩:=hR16
   refine⟨_,rfl,?_⟩
   replace hC:=hC.grow hB17
   refine Jt rfl rfl (Zb (v:=u11) rfl ?_)
   refine Zg [u11] _ Tryz.func57 rfl rfl rfl (Zoy r18 h _ (ZSk _ (hC.getM 1 rfl).1)) (fun ret17 w20 hR17=>?_)
   obtain ⟨r20,rfl,h,hB18⟩:=hR17
   refine⟨_,rfl,?_⟩
   replace hC:=hC.grow hB18
   refine Jt rfl rfl (Zc (v:=.int .i64 (ZA7.wrap ((ZA7.wrap ((r14.length:Int) - r19)) - r20))) rfl (Zc (v:=.int .i64 0) rfl (dn (ZIi ?_))))
   refine Jo (fn:=Tryz.f20) rfl ?_ ?_ ⟨ZA7.wrap ((ZA7.wrap ((r14.length:Int) - r19)) - r20),0,rfl,h,hC.below⟩ (.inl rfl)
   ·exact Zi rfl
   ·exact Zi rfl
def Zjj (a0:Alg) (a1:Int) (K:Bool→Prop):Prop :=
 Zgu a0 1048576 (fun r17=>(if r17 < 0 then K true else Zcs a0 (fun r13=>Zhd r13 a1 (fun r11 r14=>Zcs a0 (fun r10=>Zd5 r10 a1 (fun r12 r15=>(if r12≠r11 then K false else(if r15≠r14 then K false else Zcs a0 (fun r16=>Zdw r10 r16 (fun r18=>(if¬ (r18=true) then K false else K true)))))))))))
theorem Zww (a0:Alg) (a1:Int) {u0_0:Value} {u0_1:Value} {fp0:List Nat} {K:Bool→Prop} (h:Zjj a0 a1 K) (w0:World) (q0:TAlg.rep a0 [u0_0,u0_1] fp0 w0) :
  Calls ZId 4 #[.agg #[u0_0,u0_1],.int .i64 a1] w0 fun e w'=>∃ (r0:Bool),
   e=.returned (.bool r0)∧K r0∧Bel w0 w':=by
 unfold Zjj at h
 refine Z4 (args:=[.agg #[u0_0,u0_1],.int .i64 a1]) Tryz.func4 rfl 44 Tryz.ntmps4 (ZIc rfl) ?_
 have hC:=ZIt (X:=Nox) w0 [ZH7 TAlg a0 [u0_0,u0_1] fp0] (by simp only [Zyz,ZAt,or_false,forall_eq_or_imp,forall_eq]; exact q0)
 have hp2:=(hC.getP 0 rfl)
 replace hC:=hC.derive 0 rfl (ZH7 ((EI .i64).ty.sl) a0.degrees [u0_0] fp0) (fun _=>(Yw hp2).1) (fun _ hb_=>hb_)
 replace hC:=hC.derive 1 rfl (ZH7 TForm.sl a0.images [u0_1] fp0) (fun _=>(Yw hp2).2) (fun _ hb_=>hb_)
 refine sr (Yl (v:=.agg #[u0_0,u0_1]) hC [u0_0,u0_1] rfl rfl fun b5 w7 hB_ hC=>Zc (v:=.bool false) rfl (dn (sr (Zc (v:=.int .i64 1048576) rfl (dn (sr (Yy hC 0 [u0_0,u0_1] rfl Zjh rfl rfl rfl (Zb (v:=.int .i64 1048576) rfl ?_))))))))
 refine Zg [.agg #[u0_0,u0_1],.int .i64 1048576] _ Tryz.func10 rfl rfl rfl (Zt4 a0 1048576 h _ (Xy (hC.getP 1 rfl) (hC.getP 0 rfl))) (fun ret8 w10 hR9=>?_)
 obtain ⟨r17,rfl,h,hB10⟩:=hR9
 refine⟨_,rfl,?_⟩
 replace hC:=hC.grow hB10
 refine Zc (v:=.int .i64 r17) rfl (dn (ZIa (sr (Zb (v:=.int .i64 r17) rfl (Zt rfl rfl (dn ?_))))))
 refine Zr rfl (fun hb11=>?_) (fun hb11=>?_)
 ·replace h:=ift h (ct hb11)
  refine sr (Zc (v:=.bool true) rfl (dn ?_))
  refine ZIi (Zo ?_)
  refine Zp (fn:=Tryz.f4) rfl ?_ ⟨true,rfl,h,hC.below⟩ (.inl rfl)
  exact Zi rfl
 ·replace h:=Zk h (cf hb11)
  refine ZIe (Zd (sr (Yy hC 0 [u0_0,u0_1] rfl Zjh rfl rfl rfl ?_)))
  refine Zg [.agg #[u0_0,u0_1]] _ Tryz.func12 rfl rfl rfl (Zk0 a0 h _ (Xy (hC.getP 1 rfl) (hC.getP 0 rfl))) (fun ret10 w11 hR10=>?_)
  obtain ⟨r13,u12,u13,f10,rfl,h,hr10,hf10,hB11⟩:=hR10
  refine⟨_,rfl,?_⟩
  replace hC:=hC.push hB11 (ZIm (Zek 2 162 55) r13 [u12,u13] f10) hr10 hf10
  obtain ⟨f11,ho10,ho11,hs10,hs11,hd10⟩:=Zkn (hC.getM 0 rfl)
  replace hC:=hC.split (a:=own 2 1 u12 r13.degrees.length ((EI .i64).encs r13.degrees)) (b:=ZIm (ZOd 55 (Ya 162)) r13.images [u13] f11) hs10 hs11 ⟨ho10,ho11,hd10⟩
  refine Zb (v:=.int .i64 a1) rfl ?_
  refine Zg [.agg #[u12,u13],.int .i64 a1] _ Tryz.func19 rfl rfl rfl (Zwj r13 a1 h _ (Xy (Y2 (hC.getM 0 rfl)) (ZSk _ (hC.getM 1 rfl).1))) (fun ret11 w12 hR11=>?_)
  obtain ⟨r11,r14,rfl,h,hB12⟩:=hR11
  refine⟨_,rfl,?_⟩
  replace hC:=hC.grow hB12
  refine Zb (v:=.tuple #[.int .i64 r11,.int .i64 r14]) rfl (Xk (v:=.int .i64 r11) rfl rfl (Xk (v:=.int .i64 r14) rfl rfl (Zc (v:=.int .i64 r11) rfl (Zc (v:=.int .i64 r14) rfl (dn (sr (Yy hC 2 [u0_0,u0_1] rfl Zjh rfl rfl rfl ?_)))))))
  refine Zg [.agg #[u0_0,u0_1]] _ Tryz.func12 rfl rfl rfl (Zk0 a0 h _ (Xy (hC.getP 1 rfl) (hC.getP 0 rfl))) (fun ret12 w13 hR12=>?_)
  obtain ⟨r10,u10,u11,f12,rfl,h,hr11,hf11,hB13⟩:=hR12
  refine⟨_,rfl,?_⟩
  replace hC:=hC.push hB13 (ZIm (Zek 2 162 55) r10 [u10,u11] f12) hr11 hf11
  obtain ⟨f13,ho12,ho13,hs12,hs13,hd11⟩:=Zkn (hC.getM 0 rfl)
  replace hC:=hC.split (a:=own 2 1 u10 r10.degrees.length ((EI .i64).encs r10.degrees)) (b:=ZIm (ZOd 55 (Ya 162)) r10.images [u11] f13) hs12 hs13 ⟨ho12,ho13,hd11⟩
  refine Yj hC [.slice none 0 0,.slice none 0 0] z32 rfl fun b10 w14 hB_ hC=>Zw (v:=.agg #[u10,u11]) hC 0 [u10,u11] [u10,u11] rfl ag32.size rfl rfl rfl rfl (Y6 (Xn (hC.getM 1 rfl)) (Y6 (Zbw (ZSk _ (hC.getM 2 rfl).1)) rfl)) (ZIc rfl) rfl fun w15 hC=>dn (sr (Yy hC 0 [u10,u11] rfl ag32 rfl rfl rfl (Zb (v:=.int .i64 a1) rfl ?_)))
  refine Zg [.agg #[u10,u11],.int .i64 a1] _ Tryz.func20 rfl rfl rfl (Zwv r10 a1 h _ (Xy (Y2 (hC.getM 1 rfl)) (ZSk _ (hC.getM 2 rfl).1))) (fun ret13 w16 hR13=>?_)
  obtain ⟨r12,r15,rfl,h,hB14⟩:=hR13
  refine⟨_,rfl,?_⟩
  replace hC:=hC.grow hB14
  refine Zb (v:=.tuple #[.int .i64 r12,.int .i64 r15]) rfl (Xk (v:=.int .i64 r12) rfl rfl (Xk (v:=.int .i64 r15) rfl rfl (Zc (v:=.int .i64 r12) rfl (Zc (v:=.int .i64 r15) rfl (dn (ZIa (sr (Zb (v:=.int .i64 r12) rfl (Zb (v:=.int .i64 r11) rfl (Xl rfl rfl (Zb (v:=.bool (decide (r12≠r11))) rfl ?_)))))))))))
  refine Xh (decide (r12≠r11)) (fun hb10=>?_) (fun hb10=>?_)
  ·replace h:=ift h (ct hb10)
   refine Zn (b:=true) 3 34 rfl (tr rfl (congrArg _ hb10)) (by decide) (Zn (b:=true) 3 34 rfl (tr rfl (congrArg _ hb10)) (by decide) (Zn (b:=true) 3 34 rfl (tr rfl (congrArg _ hb10)) (by decide) (Yc (v:=.bool true) (b:=true) (tr rfl (congrArg _ hb10)) rfl (dn (Yr rfl rfl (sr (Zc (v:=.bool false) rfl (dn ?_))))))))
   refine ZIi (Zo ?_)
   refine Zp (fn:=Tryz.f4) rfl ?_ ⟨false,rfl,h,hC.below⟩ (.inl rfl)
   exact Zi rfl
  ·replace h:=Zk h (cf hb10)
   refine Zl 3 34 rfl rfl hb10 (Zb (v:=.int .i64 r15) rfl (Zl 3 34 rfl rfl hb10 (Zb (v:=.int .i64 r14) rfl (Zl 3 34 rfl rfl hb10 (Xl rfl rfl (Yc (v:=.bool (decide (r15≠r14))) (b:=false) (tr rfl (congrArg _ hb10)) rfl (dn ?_)))))))
   refine Zr rfl (fun hb12=>?_) (fun hb12=>?_)
   ·replace h:=ift h (ct hb12)
    refine sr (Zc (v:=.bool false) rfl (dn ?_))
    refine ZIi (Zo ?_)
    refine Zp (fn:=Tryz.f4) rfl ?_ ⟨false,rfl,h,hC.below⟩ (.inl rfl)
    exact Zi rfl
   ·replace h:=Zk h (cf hb12)
    refine ZIe (Zd (ZIa (ZIa ?_)))
    refine Yg 3 Ye [0,0,2,7,15] [0,1] [] (by kernel_rfl) (by kernel_rfl) (by kernel_rfl) (fun hM10 hM11 w17 hB_=>?_)
    replace hC:=hC.grow hB_
    refine aL 0 (.agg #[u10,u11]) rfl rfl (hM10 0 rfl) (rfl) (fun _ hB_=>by exact Yv (hC.grow hB_) 0 [u10,u11] rfl ag32 rfl rfl rfl) (Za 5 1) (aL 1 (.agg #[u0_0,u0_1]) rfl rfl (hM10 1 rfl) (rfl) (fun _ hB_=>by exact Yv (hC.grow hB_) 5 [u0_0,u0_1] rfl Zjh rfl rfl rfl) (Za 5 3) (aO 2 rfl ?_))
    refine Zg [.agg #[u0_0,u0_1]] _ Tryz.func12 rfl rfl rfl (Zk0 a0 h _ (Xy (hC.getP 1 rfl) (hC.getP 0 rfl))) (fun ret14 w18 hR14=>?_)
    obtain ⟨r16,u14,u15,f14,rfl,h,hr12,hf12,hB15⟩:=hR14
    refine⟨_,rfl,?_⟩
    replace hC:=hC.push hB15 (ZIm (Zek 2 162 55) r16 [u14,u15] f14) hr12 hf12
    obtain ⟨f15,ho14,ho15,hs14,hs15,hd12⟩:=Zkn (hC.getM 0 rfl)
    replace hC:=hC.split (a:=own 2 1 u14 r16.degrees.length ((EI .i64).encs r16.degrees)) (b:=ZIm (ZOd 55 (Ya 162)) r16.images [u15] f15) hs14 hs15 ⟨ho14,ho15,hd12⟩
    refine done (aK (by assumption) (Za 5 7) (Zu 3 (by decide) (by decide) (by kernel_rfl) (by kernel_rfl) rfl ?_))
    refine Zg [.agg #[u10,u11],.agg #[u14,u15]] _ Tryz.func15 rfl rfl rfl (Zt6 r10 r16 h _ (Xy (Y2 (hC.getM 3 rfl)) (ZSk _ (hC.getM 4 rfl).1)) (Xy (Y2 (hC.getM 0 rfl)) (ZSk _ (hC.getM 1 rfl).1))) (fun ret15 w19 hR15=>?_)
    obtain ⟨r18,rfl,h,hB16⟩:=hR15
    refine⟨_,rfl,?_⟩
    replace hC:=hC.grow hB16
    refine Jf rfl (done (Zv (Zd ?_)))
    refine Zr rfl (fun hb13=>?_) (fun hb13=>?_)
    ·replace h:=ift h (Xz (Jp hb13))
     refine sr (Zc (v:=.bool false) rfl (dn ?_))
     refine ZIi (Zo ?_)
     refine Zp (fn:=Tryz.f4) rfl ?_ ⟨false,rfl,h,hC.below⟩ (.inl rfl)
     exact Zi rfl
    ·replace h:=Zk h (not_not_intro ((Jq hb13)))
     refine ZIe (Zd (sr (Zc (v:=.bool true) rfl (dn (ZIi ?_)))))
     refine Zp (fn:=Tryz.f4) rfl ?_ ⟨true,rfl,h,hC.below⟩ (.inl rfl)
     exact Zi rfl
end Go.Proofs.YtaagfepgbofmlaaGreat
namespace Go.Proofs.YtaagfepgbofmlaaGreat
open Go Vc
theorem Zwx {m:A8} {v:Int} {K:ZIb→Prop} (hv:v % 10007≠0) (h:K ⟨[⟨m,v % 10007⟩]⟩):Jb m v K:=by
  unfold Jb
  refine Zb0 ?_
  exact Y4 hv (Zb0 h)
theorem Zwy (m:A8) {v:Int} (hv:v % 10007≠0):Canon [⟨m,v % 10007⟩]:=⟨by simp,by intro t ht; obtain rfl:=ZAs.1 ht; dsimp only; omega⟩
structure StepA (ds:List Int) (T:List Term) (l b:A8) (v:Int) (out out':List Term):Prop where
  can:Canon out'
  cf:∀ x,coT out' x % 10007=(coT out x+v * triC ds l b T x) % 10007
  mo:∀ y,y∈out'→(∃ z,z∈out∧z.mono=y.mono)∨∃ u,u∈T∧y.mono=(l.add u.mono).add b∧¬ Clash ds l u.mono∧¬ Clash ds (l.add u.mono) b
  ln:out'.length≤out.length+400
theorem Zoz {ds:List Int} {T:List Term} {K:ZIb→Prop} {l b:A8} {v:Int} {out:List Term} (hd:OkDeg ds) (hf:OkForm ds T) (ff:FitT T) (wl:X2 ds l) (wb:X2 ds b) (lb:∀ q,q < 8→0≤l.get q∧l.get q≤20) (bb:∀ q,q < 8→0≤b.get q∧b.get q≤20) (hv:v % 10007≠0) (hc:Canon out) (hl:out.length≤50000000)
    (h:∀ out',StepA ds T l b v out out'→K ⟨out'⟩) :
    Jb l v (fun r=>Jk ds r ⟨T⟩ (fun r'=>Jb b 1 (fun r2=>Jk ds r' r2 (fun r3=>Zah ⟨out⟩ r3 1 K)))):=by
  refine Zwx hv ?_
  refine Zi7 hd (Zwy _ hv) (fun u hu=>by obtain rfl:=ZAs.1 hu; exact wl) (fun u hu q hq=>by obtain rfl:=ZAs.1 hu; have:=lb q hq; dsimp only; omega) hf.canon (fun u hu=>(hf.mono hu).wk) ff.pos (by simp) (by have:=hf.1; omega) fun own ho=>?_
  refine Zja ?_
  have hown:∀ u,u∈own→∃ z,z∈T∧u.mono=l.add z.mono∧¬ Clash ds l z.mono∧(∀ q,q < 8→0≤z.mono.get q∧z.mono.get q≤20):=fun u hu=>by
    obtain ⟨t,z,ht,hz,e,hcl⟩:=ho.mo u hu
    obtain rfl:=ZAs.1 ht
    exact⟨z,hz,e,hcl,Zb1 (Zbe (hf.mono hz)) (ff.pos z hz)⟩
  have wown:∀ u,u∈own→X2 ds u.mono∧∀ q,q < 8→0≤u.mono.get q∧u.mono.get q≤40:=fun u hu=>by
    obtain ⟨z,hz,e,hcl,hz20⟩:=hown u hu
    rw [e]
    refine⟨Zc1 wl (hf.mono hz).wk (fun q hq=>(lb q hq).1) (fun q hq=>(hz20 q hq).1) (fun q hq=>by have:=lb q hq; have:=hz20 q hq; omega) hcl,fun q hq=>?_⟩
    rw [ZVt]
    have:=lb q hq
    have:=hz20 q hq
    omega
  have lo:own.length≤T.length:=by have:=ho.ln; simpa using this
  refine Zi7 hd ho.can (fun u hu=>(wown u hu).1) (fun u hu q hq=>by have:=(wown u hu).2 q hq; omega) (Zjb _) (fun u hu=>by obtain rfl:=ZAs.1 hu; exact wb) (fun u hu q hq=>by obtain rfl:=ZAs.1 hu; have:=bb q hq; dsimp only; omega) (by have:=hf.1; omega) (by simp) fun prod hpr=>?_
  have lp:prod.length≤400:=by have h1:=hpr.ln; have:=hf.1; simp at h1; omega
  refine Zgw hc hpr.can (by omega) (by omega) (by omega) fun out' hout=>h out' ⟨hout.can,fun x=>?_,fun y hy=>?_,by have:=hout.ln; omega⟩
  · rw [hout.cf,Int.one_mul]
    have e1:=Zr4 (ds:=ds) (l:=l) (b:=b) (v:=v % 10007) (img:=T) (own:=own) (prod:=prod) (fun y=>by rw [ho.cf]; simp [prC,tot]) (fun x=>hpr.cf x) x
    rw [ZOr,e1,ZOo,ZWe,← ZOo,← ZOr]
  · obtain ⟨z,hz,e⟩:=hout.mo y hy
    rcases hz with hz | hz
    · exact .inl ⟨z,hz,e⟩
    · obtain ⟨t,b',ht,hb,e2,hcl2⟩:=hpr.mo z hz
      obtain rfl:=ZAs.1 hb
      obtain ⟨u,hu,e3,hcl,_⟩:=hown t ht
      refine .inr ⟨u,hu,by rw [← e,e2,e3],hcl,?_⟩
      rw [← e3]; exact hcl2
def aK1 (ds:List Int) (dr:Int) (m:A8) (i:Nat):Int:=sg (dr * wtU ds m i) * m.get i
def aP (ds:List Int) (dr:Int) (imgs:List (List Term)) (m x:A8):Nat→Int
  | 0=>0
  | i+1=>aP ds dr imgs m x i+(if m.get i > 0 then aK1 ds dr m i * triC ds (frontA m i) (restA m i) (imgs.getD i Zyt) x else 0)
structure IsAM (ds:List Int) (dr:Int) (imgs:List (List Term)) (m:A8) (i:Nat) (out:List Term):Prop where
  can:Canon out
  cf:∀ x,coT out x % 10007=aP ds dr imgs m x i % 10007
  mo:∀ y,y∈out→∃ j u,j < i∧0 < m.get j∧u∈imgs.getD j Zyt∧y.mono=((frontA m j).add u.mono).add (restA m j)∧¬ Clash ds (frontA m j) u.mono∧¬ Clash ds ((frontA m j).add u.mono) (restA m j)
  ln:out.length≤400 * i
theorem IsAM.zero (ds:List Int) (dr:Int) (imgs:List (List Term)) (m:A8):IsAM ds dr imgs m 0 []:=⟨Canon.nil,fun _=>rfl,by simp,by simp⟩
theorem IsAM.skip {ds:List Int} {dr:Int} {imgs:List (List Term)} {m:A8} {i:Nat} {out:List Term} (h:IsAM ds dr imgs m i out) (hp:¬ m.get i > 0):IsAM ds dr imgs m (i+1) out :=
  ⟨h.can,fun x=>by rw [aP,if_neg hp,ZOk]; exact h.cf x,fun y hy=>by obtain ⟨j,u,q,r⟩:=h.mo y hy; exact⟨j,u,by omega,r⟩,by have:=h.ln; omega⟩
theorem IsAM.step {ds:List Int} {dr v:Int} {imgs:List (List Term)} {m:A8} {i:Nat} {out out':List Term} (h:IsAM ds dr imgs m i out) (hp:m.get i > 0) (hv:v=aK1 ds dr m i) (hs:StepA ds (imgs.getD i Zyt) (frontA m i) (restA m i) v out out'):IsAM ds dr imgs m (i+1) out' :=
  ⟨hs.can,fun x=>by rw [hs.cf,aP,if_pos hp,← hv,ZOr,h.cf,← ZOr],fun y hy=>by
    rcases hs.mo y hy with ⟨z,hz,e⟩ | ⟨u,hu,e,c1,c2⟩
    · obtain ⟨j,u,q,r⟩:=h.mo z hz
      rw [← e]; exact⟨j,u,by omega,r⟩
    · exact⟨i,u,by omega,hp,hu,e,c1,c2⟩,by have:=h.ln; have:=hs.ln; omega⟩
theorem Zlp {ds:List Int} {m:A8} {i:Nat} (hm:OkMono ds m) (pm:∀ i,i < 8→0≤m.get i∧m.get i≤20):(X2 ds (frontA m i)∧∀ q,q < 8→0≤(frontA m i).get q∧(frontA m i).get q≤20):=by
  refine⟨fun q hq=>?_,fun q hq=>?_⟩
  · have h:=hm q hq
    rw [frontA,ZOf _ hq]
    split
    · exact⟨fun z=>⟨by have:=(h.1 z).1; omega,(h.1 z).2⟩,h.2⟩
    · exact⟨fun _=>⟨by omega,fun _=>by omega⟩,fun _=>rfl⟩
  · have:=pm q hq
    rw [frontA,ZOf _ hq]
    split <;> omega
theorem Zo0 {ds : List Int} {m : A8} {i : Nat} (hm : OkMono ds m) (hi8 : i < 8) (hp : 0 < m.get i) (pm : ∀ i, i < 8 → 0 ≤ m.get i ∧ m.get i ≤ 20) : (X2 ds (restA m i) ∧ ∀ q, q < 8 → 0 ≤ (restA m i).get q ∧ (restA m i).get q ≤ 20) := by
  refine⟨fun q hq=>?_,fun q hq=>?_⟩
  · have h:=hm q hq
    have:=pm q hq
    rw [restA,ZOf _ hq]
    split
    · exact⟨fun z=>⟨by have:=(h.1 z).1; omega,(h.1 z).2⟩,h.2⟩
    · split
      · rename_i e; subst e
        refine⟨fun z=>⟨by omega,fun o=>by have:=(h.1 z).2 o; omega⟩,fun z=>by have:=h.2 z; omega⟩
      · exact⟨fun _=>⟨by omega,fun _=>by omega⟩,fun _=>rfl⟩
  · have:=pm q hq
    have:=pm i hi8
    rw [restA,ZOf _ hq]
    split
    · omega
    · split <;> omega
theorem Zwz {a : Alg} {t : Der} {m : A8} {K : ZIb → Prop} (hd : OkDeg a.degrees) (hlen : t.images.length = a.degrees.length) (hT : ∀ i, i < t.images.length → OkForm a.degrees (t.images.getD i Zyt).terms ∧ FitT (t.images.getD i Zyt).terms) (hm : OkMono a.degrees m) (pm : ∀ i, i < 8 → 0 ≤ m.get i ∧ m.get i ≤ 255) (hdr : 0 ≤ t.drop ∧ t.drop ≤ 12)
    (h:∀ out,IsAM a.degrees t.drop (t.images.map (·.terms)) m a.degrees.length out→K ⟨out⟩):Zg7 a t m K:=by
  unfold Zg7
  have h8:=hd.1
  have p20:=Zb1 (Zbe hm) pm
  refine X9 (fun (s:List Term×A8×Int×Int)=>(0≤s.2.2.1∧s.2.2.1≤a.degrees.length)∧s.2.1=frontA m s.2.2.1.toNat∧s.2.2.2=wtU a.degrees m s.2.2.1.toNat∧IsAM a.degrees t.drop (t.images.map (·.terms)) m s.2.2.1.toNat s.1) (fun s=>a.degrees.length - s.2.2.1.toNat) ?_ ⟨by dsimp only; omega,Zld m,rfl,IsAM.zero _ _ _ _⟩
  rintro ⟨out,bf,i,od⟩ next ⟨g1,g2,g3,g4⟩ hn
  dsimp only at g1 g2 g3 g4 hn ⊢
  subst g2; subst g3
  by_cases hi:i < (a.degrees.length:Int)
  · have hin:i.toNat < a.degrees.length:=by omega
    have hi8:i.toNat < 8:=by omega
    have b8:0≤i∧i < 8:=by omega
    have hdi:=hd.2 i.toNat hin
    have wb:=Zc8 hd pm i.toNat (by omega)
    have wp:=Zla hd pm hin
    have hmi:=p20 i.toNat hi8
    have wstep:wtU a.degrees m (i+1).toNat=wtU a.degrees m i.toNat+a.degrees.getD i.toNat Zyt * m.get i.toNat:=by rw [show (i+1).toNat=i.toNat+1 by omega,wtU]
    have fstep:(frontA m i.toNat).set i.toNat (m.get i.toNat)=frontA m (i+1).toNat:=by rw [show (i+1).toNat=i.toNat+1 by omega]; exact Zjd hi8
    have fin:∀ out',IsAM a.degrees t.drop (t.images.map (·.terms)) m (i.toNat+1) out'→next (out',(frontA m i.toNat).set i.toNat (m.get i.toNat),ZA7.wrap (i+1),ZA7.wrap (wtU a.degrees m i.toNat+ZA7.wrap (a.degrees.getD i.toNat Zyt * ZA7.wrap (m.get i.toNat)))):=by
      intro out' ho
      rw [i64_in (i+1) (by omega),i64_in (m.get i.toNat) (by omega),i64_in (a.degrees.getD i.toNat Zyt * m.get i.toNat) (by omega),i64_in (wtU a.degrees m i.toNat+_) (by omega)]
      refine hn _ ⟨by dsimp only; omega,fstep,by dsimp only; rw [wstep],?_⟩ (by dsimp only; omega)
      dsimp only; rw [show (i+1).toNat=i.toNat+1 by omega]; exact ho
    refine Yx hi ⟨b8,?_⟩
    by_cases hp:m.get i.toNat > 0
    · refine Yx hp ?_
      refine X9 (fun (s:A8×Int)=>(0≤s.2∧s.2≤i)∧∀ q,q < 8→s.1.get q=if(q:Int) < s.2 then 0 else m.get q) (fun s=>i.toNat - s.2.toNat) ?_ ⟨by dsimp only; omega,fun q hq=>by rw [if_neg (by dsimp only; omega)]⟩
      rintro ⟨r,j⟩ nx ⟨k1,k2⟩ hnx
      dsimp only at k1 k2 hnx ⊢
      by_cases hj:j < i
      · refine Yx hj ⟨by omega,?_⟩
        rw [i64_in (j+1) (by omega)]
        refine hnx _ ⟨by dsimp only; omega,fun q hq=>?_⟩ (by dsimp only; omega)
        dsimp only
        rw [ZK0 (by omega)]
        by_cases e:q=j.toNat
        · subst e; rw [if_pos rfl,if_pos (by omega)]
        · rw [if_neg e,k2 q hq]
          by_cases c:(q:Int) < j
          · rw [if_pos c,if_pos (by omega)]
          · rw [if_neg c,if_neg (by omega)]
      · obtain rfl:j=i:=by omega
        refine Y4 hj ⟨b8,b8,b8,?_⟩
        have er:r.set j.toNat (ZIk.wrap (r.get j.toNat - 1))=restA m j.toNat:=by
          refine ZK1 fun q hq=>?_
          rw [k2 _ hi8,if_neg (by omega),Zif _ (by omega),ZK0 hi8,restA,ZOf _ hq]
          by_cases e:q=j.toNat
          · subst e; rw [if_pos rfl,if_neg (by omega),if_pos rfl]
          · rw [if_neg e,k2 q hq]
            by_cases c:(q:Int) < j
            · rw [if_pos c,if_neg (by omega),if_neg e]
            · rw [if_neg c,if_pos (by omega)]
        rw [er]
        have wd0:0≤wtU a.degrees m j.toNat * t.drop:=ZOx wb.1 hdr.1
        have wd1:wtU a.degrees m j.toNat * t.drop≤24480 * 12:=ZOy (by omega) hdr.2 hdr.1 (by omega)
        rw [i64_in (m.get j.toNat) (by omega),i64_in (0 - m.get j.toNat) (by omega),i64_in (wtU a.degrees m j.toNat * t.drop) (by omega)]
        obtain ⟨okT,fT⟩:=hT j.toNat (by omega)
        have eT:(t.images.map (·.terms)).getD j.toNat Zyt=(t.images.getD j.toNat Zyt).terms:=by
          simp [Zzm,show j.toNat < t.images.length by omega]
        obtain ⟨fw,fb⟩:=Zlp (i:=j.toNat) hm p20
        obtain ⟨rw_,rb⟩:=Zo0 hm hi8 hp p20
        have hsg:sg (t.drop * wtU a.degrees m j.toNat)=sg (wtU a.degrees m j.toNat * t.drop):=by rw [ZVw]
        have lnb:=g4.ln
        rcases Zlc wd0 with ⟨ho,es⟩ | ⟨ho,es⟩
        · refine Yx ho ⟨⟨b8.1,by omega⟩,?_⟩
          refine Zoz (v:=0 - m.get j.toNat) hd okT fT fw rw_ fb rb (by omega) g4.can (by omega) fun out' hs=>⟨b8,b8,⟨b8.1,by omega⟩,b8,?_⟩
          have:=fin out' (g4.step (v:=0 - m.get j.toNat) hp (by rw [aK1,hsg,es]; omega) (by rw [eT]; exact hs))
          rw [i64_in (m.get j.toNat) (by omega)] at this
          exact this
        · refine Y4 ho ⟨⟨b8.1,by omega⟩,?_⟩
          refine Zoz (v:=m.get j.toNat) hd okT fT fw rw_ fb rb (by omega) g4.can (by omega) fun out' hs=>⟨b8,b8,⟨b8.1,by omega⟩,b8,?_⟩
          have:=fin out' (g4.step (v:=m.get j.toNat) hp (by rw [aK1,hsg,es]; omega) (by rw [eT]; exact hs))
          rw [i64_in (m.get j.toNat) (by omega)] at this
          exact this
    · refine Y4 hp ⟨b8,b8,⟨b8.1,by omega⟩,b8,?_⟩
      exact fin out (g4.skip hp)
  · refine Y4 hi (h out ?_)
    rw [show i.toNat=a.degrees.length by omega] at g4; exact g4
end Go.Proofs.YtaagfepgbofmlaaGreat
namespace Go.Proofs.YtaagfepgbofmlaaGreat
open Go Vc
def AMono (ds:List Int) (imgs:List (List Term)) (y m:A8):Prop:=∃ j u,j < ds.length∧0 < m.get j∧u∈imgs.getD j Zyt∧y=((frontA m j).add u.mono).add (restA m j)∧¬ Clash ds (frontA m j) u.mono∧¬ Clash ds ((frontA m j).add u.mono) (restA m j)
def aT1 (ds:List Int) (dr:Int) (imgs:List (List Term)) (f:List Term) (x:A8):Int:=tot (fun t=>t.factor * aP ds dr imgs t.mono x ds.length) f
structure IsA1 (ds:List Int) (dr:Int) (imgs:List (List Term)) (f out:List Term):Prop where
  can:Canon out
  cf:∀ x,coT out x % 10007=aT1 ds dr imgs f x % 10007
  mo:∀ y,y∈out→∃ t,t∈f∧AMono ds imgs y.mono t.mono
  ln:out.length≤3200 * f.length
theorem Zw0 {a : Alg} {t : Der} {f : List Term} {K : ZIb → Prop} (hd : OkDeg a.degrees) (hlen : t.images.length = a.degrees.length) (hT : ∀ i, i < t.images.length → OkForm a.degrees (t.images.getD i Zyt).terms ∧ FitT (t.images.getD i Zyt).terms) (hf : OkForm a.degrees f) (ff : FitT f) (hdr : 0 ≤ t.drop ∧ t.drop ≤ 12)
    (h:∀ out,IsA1 a.degrees t.drop (t.images.map (·.terms)) f out→K ⟨out⟩):Zg8 a t ⟨f⟩ K:=by
  unfold Zg8
  dsimp only
  have h8:=hd.1
  have h4:=hf.1
  refine X9 (fun (s:List Term×Int)=>(0≤s.2∧s.2≤f.length)∧IsA1 a.degrees t.drop (t.images.map (·.terms)) (f.take s.2.toNat) s.1) (fun s=>f.length - s.2.toNat) ?_ ⟨by dsimp only; omega,⟨Canon.nil,fun _=>rfl,by simp,by simp⟩⟩
  rintro ⟨out,i⟩ next ⟨g1,g2⟩ hn
  dsimp only at g1 g2 hn ⊢
  by_cases hi:i < (f.length:Int)
  · have hin:i.toNat < f.length:=by omega
    refine Yx hi ⟨⟨g1.1,hi⟩,⟨g1.1,hi⟩,?_⟩
    have hmem:f.getD i.toNat Zyt∈f:=Ja hin
    have fr:=hf.canon.at_range hin
    refine Zwz hd hlen hT (hf.mono hmem) (ff.pos _ hmem) hdr fun o1 h1=>?_
    have l1:=h1.ln
    have l2:=g2.ln
    rw [ZOn] at l2
    refine Zgw g2.can h1.can (by omega) (by omega) (by omega) fun out' ho=>?_
    rw [i64_in (i+1) (by omega)]
    refine hn _ ⟨by dsimp only; omega,?_⟩ (by dsimp only; omega)
    dsimp only
    rw [show (i+1).toNat=i.toNat+1 by omega,J4 hin]
    refine⟨ho.can,fun x=>?_,fun y hy=>?_,?_⟩
    · rw [ho.cf]
      have e:aT1 a.degrees t.drop (t.images.map (·.terms)) (f.take i.toNat++[f.getD i.toNat Zyt]) x=aT1 a.degrees t.drop (t.images.map (·.terms)) (f.take i.toNat) x+(f.getD i.toNat Zyt).factor * aP a.degrees t.drop (t.images.map (·.terms)) (f.getD i.toNat Zyt).mono x a.degrees.length:=by
        unfold aT1; rw [Zfs]; simp [tot]
      rw [e,ZOr,g2.cf,ZOo,h1.cf,← ZOo,← ZOr]
    · obtain ⟨z,hz,ez⟩:=ho.mo y hy
      rcases hz with hz | hz
      · obtain ⟨u,hu,q⟩:=g2.mo z hz
        exact⟨u,ZA1 _ hu,by rw [← ez]; exact q⟩
      · obtain ⟨j,u,q1,q2⟩:=h1.mo z hz
        exact⟨f.getD i.toNat Zyt,by simp,⟨j,u,q1,by rw [← ez]; exact q2⟩⟩
    · have:=ho.ln
      rw [ZBe,ZOn,ZW0]; omega
  · refine Y4 hi (h out ?_)
    rw [Zzz (by omega)] at g2; exact g2
end Go.Proofs.YtaagfepgbofmlaaGreat
namespace Go.Proofs.YtaagfepgbofmlaaGreat
open Go Vc
theorem Zw1 {ds:List Int} {T:List Term} {K:List (A8×Int)→Prop} {m:A8} {v:Int} {i:Nat} {out ml:List (A8×Int)} (hd:OkDeg ds) (hi:i < ds.length) (hf:OkForm ds T) (ff:FitT T) (hm:OkMono ds m) (pm:∀ i,i < 8→0≤m.get i∧m.get i≤255) (hp:0 < m.get i) (ho:MapOk out) (hml:IsMap T ml)
    (h:∀ out',MapOk out'→(∀ x,co out' x % 10007=(co out x+v * triC ds (leftA m i) (backA m i) T x) % 10007)→(∀ y,y∈out'→(∃ z,z∈out∧z.1=y.1)∨∃ u,u∈T∧y.1=((leftA m i).add u.mono).add (backA m i)∧¬ Clash ds (leftA m i) u.mono∧¬ Clash ds ((leftA m i).add u.mono) (backA m i))→K out') :
    Jc (Zz ([]:List (A8×Int)) (leftA m i) 1) ds ml (fun r=>Jc r ds (Zz ([]:List (A8×Int)) (backA m i) 1) (fun r2=>Zak v (fun k=>Zam out r2 k K))):=by
  have h8:=hd.1
  have hi8:i < 8:=by omega
  have hm20:=Zb1 (Zbe hm) pm
  obtain ⟨lb,bb,lbb⟩:=Zjc hm20 hp
  obtain ⟨wl,wb⟩:=Zik hm hi8 hp
  have hml20:∀ p,p∈ml→OkMono ds p.1∧∃ t,t∈T∧t.mono=p.1∧∀ q,q < 8→0≤p.1.get q∧p.1.get q≤20:=fun p hpm=>by
    obtain ⟨t,ht,e⟩:=hml.ks p hpm
    rw [← e]
    exact⟨hf.mono ht,t,ht,rfl,Zb1 (Zbe (hf.mono ht)) (ff.pos t ht)⟩
  show Jc [(leftA m i,1)] ds ml _
  refine Zi8 hd (Zgy _) (fun p hp'=>by obtain rfl:=ZAs.1 hp'; exact wl) (fun p hp' q hq=>by obtain rfl:=ZAs.1 hp'; exact(lb q hq).1) hml.ok (fun p hpm=>(hml20 p hpm).1.wk) (fun p hpm q hq=>by obtain ⟨_,t,_,_,b⟩:=hml20 p hpm; exact(b q hq).1) fun own hown=>?_
  have wown:∀ u,u∈own→∃ z,z∈T∧u.1=(leftA m i).add z.mono∧¬ Clash ds (leftA m i) z.mono∧X2 ds u.1∧∀ q,q < 8→0≤u.1.get q∧u.1.get q≤40:=fun u hu=>by
    obtain ⟨t,z,ht,hz,e,hcl⟩:=hown.ks u hu
    obtain rfl:=ZAs.1 ht
    obtain ⟨hzm,tt,htt,ett,hz20⟩:=hml20 z hz
    refine⟨tt,htt,by rw [ett]; exact e,by rw [ett]; exact hcl,?_,fun q hq=>?_⟩
    · rw [e]
      exact Zc1 wl hzm.wk (fun q hq=>(lb q hq).1) (fun q hq=>(hz20 q hq).1) (fun q hq=>by have:=lb q hq; have:=hz20 q hq; dsimp only; omega) hcl
    · rw [e,ZVt]
      have:=lb q hq
      have:=hz20 q hq
      dsimp only
      omega
  show Jc own ds [(backA m i,1)] _
  refine Zi8 hd hown.ok (fun u hu=>by obtain ⟨_,_,_,_,w,_⟩:=wown u hu; exact w) (fun u hu q hq=>by obtain ⟨_,_,_,_,_,b⟩:=wown u hu; exact(b q hq).1) (Zgy _) (fun p hp'=>by obtain rfl:=ZAs.1 hp'; exact wb) (fun p hp' q hq=>by obtain rfl:=ZAs.1 hp'; exact(bb q hq).1) fun prod hpr=>?_
  refine Zi3 ?_
  refine Zk6 ho hpr.ok (by omega) fun out' hout=>h out' hout.ok (fun x=>?_) fun y hy=>?_
  · rw [hout.cf]
    have e1:=Zn4 hml hf.canon hown hpr x
    rw [ZOr,ZOo,e1,ZWe,← ZOo,← ZOr]
  · obtain ⟨z,hz,e⟩:=hout.ks y hy
    rcases hz with hz | hz
    · exact .inl ⟨z,hz,e⟩
    · obtain ⟨t,b,ht,hb,e2,hcl2⟩:=hpr.ks z hz
      obtain rfl:=ZAs.1 hb
      obtain ⟨u,hu,e3,hcl,_⟩:=wown t ht
      refine .inr ⟨u,hu,by rw [← e,e2,e3],hcl,?_⟩
      rw [← e3]; exact hcl2
def BMono (ds:List Int) (imgs:List (List Term)) (y m:A8):Prop:=∃ j u,j < ds.length∧0 < m.get j∧u∈imgs.getD j Zyt∧y=((leftA m j).add u.mono).add (backA m j)∧¬ Clash ds (leftA m j) u.mono∧¬ Clash ds ((leftA m j).add u.mono) (backA m j)
structure IsB (ds:List Int) (dr:Int) (imgs:List (List Term)) (m:A8) (n:Int) (out:List (A8×Int)) (i:Nat) (out':List (A8×Int)):Prop where
  ok:MapOk out'
  cf:∀ x,co out' x % 10007=(co out x+n * aP ds dr imgs m x i) % 10007
  mo:∀ y,y∈out'→(∃ z,z∈out∧z.1=y.1)∨BMono ds imgs y.1 m
theorem IsB.zero {ds:List Int} {dr:Int} {imgs:List (List Term)} {m:A8} {n:Int} {out:List (A8×Int)} (h:MapOk out):IsB ds dr imgs m n out 0 out:=⟨h,fun x=>by rw [aP,Int.mul_zero,ZOk],fun y hy=>.inl ⟨y,hy,rfl⟩⟩
theorem IsB.skip {ds:List Int} {dr:Int} {imgs:List (List Term)} {m:A8} {n:Int} {out o1:List (A8×Int)} {i:Nat} (h:IsB ds dr imgs m n out i o1) (hp:¬ m.get i > 0):IsB ds dr imgs m n out (i+1) o1:=⟨h.ok,fun x=>by rw [aP,if_neg hp,ZOk]; exact h.cf x,h.mo⟩
theorem IsB.step {ds:List Int} {dr v:Int} {imgs:List (List Term)} {m:A8} {n:Int} {out o1 o2:List (A8×Int)} {i:Nat} (h:IsB ds dr imgs m n out i o1) (hd:OkDeg ds) (hi:i < ds.length) (hm:OkMono ds m) (hp:m.get i > 0) (hv:v=aK1 ds dr m i * n) (ok:MapOk o2)
    (cf:∀ x,co o2 x % 10007=(co o1 x+v * triC ds (leftA m i) (backA m i) (imgs.getD i Zyt) x) % 10007)
    (mo:∀ y,y∈o2→(∃ z,z∈o1∧z.1=y.1)∨∃ u,u∈imgs.getD i Zyt∧y.1=((leftA m i).add u.mono).add (backA m i)∧¬ Clash ds (leftA m i) u.mono∧¬ Clash ds ((leftA m i).add u.mono) (backA m i)):IsB ds dr imgs m n out (i+1) o2:=by
  obtain ⟨f1,f2,f3⟩:=Zr1 hm hi hd.1 hp
  refine⟨ok,fun x=>?_,fun y hy=>?_⟩
  · rw [cf,aP,if_pos hp,Zr0 f1 f2 f3,hv,ZOr,h.cf,← ZOr,ZV5]
    congr 1
    rw [ZVw (aK1 ds dr m i) n,ZVx]
    omega
  · rcases mo y hy with ⟨z,hz,e⟩ | ⟨u,hu,e,c1,c2⟩
    · rcases h.mo z hz with ⟨w,hw,e2⟩ | q
      · exact .inl ⟨w,hw,e2.trans e⟩
      · exact .inr (by rw [← e]; exact q)
    · exact .inr ⟨i,u,hi,hp,hu,e,c1,c2⟩
end Go.Proofs.YtaagfepgbofmlaaGreat
namespace Go.Proofs.YtaagfepgbofmlaaGreat
open Go Vc
structure IsBM (ds:List Int) (dr:Int) (imgs:List (List Term)) (s out:List (A8×Int)):Prop where
  ok:MapOk out
  cf:∀ x,co out x % 10007=tot (fun p=>p.2 * aP ds dr imgs p.1 x ds.length) s % 10007
  mo:∀ y,y∈out→∃ t,t∈s∧BMono ds imgs y.1 t.1
theorem Zw2 {a : Alg} {dr : Int} {ms : List (List (A8 × Int))} {imgs : List (List Term)} {f : List Term} {s : List (A8 × Int)} {K : List (A8 × Int) → Prop} (hd : OkDeg a.degrees) (hdr : 0 ≤ dr ∧ dr ≤ 12) (hlen : ms.length = a.degrees.length) (hI : ∀ i, i < a.degrees.length → OkForm a.degrees (imgs.getD i Zyt) ∧ FitT (imgs.getD i Zyt) ∧ IsMap (imgs.getD i Zyt) (ms.getD i Zyt)) (hs : IsMap f s) (hf : OkForm a.degrees f) (ff : FitT f)
    (h:∀ out,IsBM a.degrees dr imgs s out→K out):Zhf (⟨a,dr,ms⟩:ZVu) s K:=by
  have h8:=hd.1
  unfold Zhf
  dsimp only
  refine Zfp (fun l' (out:List (A8×Int))=>(∀ p,p∈l'→p∈s)∧MapOk out∧(∀ x,(co out x+tot (fun p=>p.2 * aP a.degrees dr imgs p.1 x a.degrees.length) l') % 10007=tot (fun p=>p.2 * aP a.degrees dr imgs p.1 x a.degrees.length) s % 10007)∧(∀ y,y∈out→∃ t,t∈s∧BMono a.degrees imgs y.1 t.1)) ?_ ?_ s [] ⟨fun _ h=>h,MapOk.nil,fun x=>by rw [Zdl,ZAd],by simp⟩
  · intro l' p l'' out next hpk ⟨h0, h1, h2, h3⟩ hn
    have hperm:=Zfq hpk
    have hpm:p∈s:=h0 p (hperm.mem_iff.2 (by simp))
    have hpf:=hs.ok.2 p hpm
    obtain ⟨t,ht,et⟩:=hs.ks p hpm
    have hm:OkMono a.degrees p.1:=by rw [← et]; exact hf.mono ht
    have pm:∀ i,i < 8→0≤p.1.get i∧p.1.get i≤255:=by rw [← et]; exact ff.pos t ht
    have p20:=Zb1 (Zbe hm) pm
    have e3:∀ x,tot (fun p=>p.2 * aP a.degrees dr imgs p.1 x a.degrees.length) l'=p.2 * aP a.degrees dr imgs p.1 x a.degrees.length+tot (fun p=>p.2 * aP a.degrees dr imgs p.1 x a.degrees.length) l'':=fun x=>by rw [Zdj _ hperm]; rfl
    refine Xe (fun i (t:A8×List (A8×Int))=>t.1=frontA p.1 i∧IsB a.degrees dr imgs p.1 p.2 out i t.2) a.degrees.length ?_ ?_ _ _ _ (by omega) ⟨Zld _,IsB.zero h1⟩
    · rintro i ⟨t1,o1⟩ nx hi ⟨g1,g2⟩ hnx
      dsimp only at g1 g2 hnx ⊢
      subst g1
      have hi8:i < 8:=by omega
      have b8:0≤(i:Int)∧(i:Int) < 8:=by omega
      have pmi:=p20 i hi8
      refine⟨b8,?_⟩
      by_cases hp:p.1.get i > 0
      · refine Yx hp ?_
        obtain ⟨fw,fb⟩:=Zlp (i:=i) hm p20
        refine Zn8 hd (fun q hq=>by have:=fb q hq; omega) ?_
        rw [Zn9 h8 _ (Zy1 _),Nat.min_eq_left (by omega)]
        have wb:=Zc8 hd pm i (by omega)
        have wd0:0≤dr * wtU a.degrees p.1 i:=ZOx hdr.1 wb.1
        have wd1:dr * wtU a.degrees p.1 i≤12 * 24480:=ZOy hdr.2 (by omega) wb.1 (by omega)
        rw [i64_in (dr * wtU a.degrees p.1 i) (by omega)]
        have el:(frontA p.1 i).set i (ZA7.wrap (p.1.get i - 1))=leftA p.1 i:=by
          rw [i64_in _ (by omega)]
          refine ZK1 fun q hq=>?_
          rw [ZK0 hi8,frontA,leftA,ZOf _ hq,ZOf _ hq]
          by_cases e:q=i
          · subst e; rw [if_pos rfl,if_neg (by omega),if_pos rfl]
          · rw [if_neg e]
            by_cases c:q < i
            · rw [if_pos c,if_pos c]
            · rw [if_neg c,if_neg c,if_neg e]
        obtain ⟨okT,fT,mT⟩:=hI i hi
        have goal:∀ sgn:Int,sgn=sg (dr * wtU a.degrees p.1 i)→∀ (r:A8),r=backA p.1 i→Jc (Zz ([]:List (A8×Int)) ((frontA p.1 i).set i (ZA7.wrap (p.1.get i - 1))) 1) a.degrees (ms.getD i Zyt) (fun r24810=>Jc r24810 a.degrees (Zz ([]:List (A8×Int)) r 1) (fun r24823=>Zak (ZA7.wrap ((ZA7.wrap (sgn * p.2)) * (p.1.get i))) (fun r24792=>Zam o1 r24823 r24792 (fun m24798=>((0≤(i:Int)∧(i:Int) < 8)∧nx ((frontA p.1 i).set i (p.1.get i),m24798)))))):=by
          rintro sgn hsgn r rfl
          have pm1:=Zkd (dr * wtU a.degrees p.1 i)
          rw [← hsgn] at pm1
          have hb:-200120≤sgn * p.2 * p.1.get i∧sgn * p.2 * p.1.get i≤200120:=by
            have m1:0≤p.2 * p.1.get i∧p.2 * p.1.get i≤10006 * 20:=⟨ZOx (by omega) pmi.1,ZOy (by omega) pmi.2 pmi.1 (by omega)⟩
            rcases pm1 with e | e <;> rw [e,ZVx] <;> omega
          rw [el,i64_in (sgn * p.2) (by rcases pm1 with e | e <;> rw [e] <;> omega),i64_in (sgn * p.2 * p.1.get i) (by omega)]
          refine Zw1 hd hi okT fT hm pm hp g2.ok mT fun o2 q1 q2 q3=>⟨b8,hnx _ ⟨Zjd hi8,g2.step hd hi hm hp (v:=sgn * p.2 * p.1.get i) ?_ q1 q2 q3⟩⟩
          rw [aK1,← hsgn,ZVx,ZVx,ZVw p.2]
        have back:∀ (E:A8→Prop),E (backA p.1 i)→Xj (fun (s24543:A8×Int) next24544=>(if s24543.2 < ZA7.wrap ((i:Int)+1) then((0≤s24543.2∧s24543.2 < 8)∧next24544 (s24543.1.set s24543.2.toNat 0,ZA7.wrap (s24543.2+1))) else E s24543.1)) (p.1,0):=by
          intro E hE
          rw [i64_in ((i:Int)+1) (by omega)]
          refine X9 (fun (s:A8×Int)=>(0≤s.2∧s.2≤i+1)∧∀ q,q < 8→s.1.get q=if(q:Int) < s.2 then 0 else p.1.get q) (fun s=>i+1 - s.2.toNat) ?_ ⟨by dsimp only; omega,fun q hq=>by rw [if_neg (by dsimp only; omega)]⟩
          rintro ⟨r,j⟩ nx2 ⟨k1,k2⟩ hnx2
          dsimp only at k1 k2 hnx2 ⊢
          by_cases hj:j < (i:Int)+1
          · refine Yx hj ⟨by omega,?_⟩
            rw [i64_in (j+1) (by omega)]
            refine hnx2 _ ⟨by dsimp only; omega,fun q hq=>?_⟩ (by dsimp only; omega)
            dsimp only
            rw [ZK0 (by omega)]
            by_cases e:q=j.toNat
            · subst e; rw [if_pos rfl,if_pos (by omega)]
            · rw [if_neg e,k2 q hq]
              by_cases c:(q:Int) < j
              · rw [if_pos c,if_pos (by omega)]
              · rw [if_neg c,if_neg (by omega)]
          · refine Y4 hj ?_
            have er:r=backA p.1 i:=ZK1 fun q hq=>by
              rw [k2 q hq,backA,ZOf _ hq]
              by_cases c:i < q
              · rw [if_neg (by omega),if_pos c]
              · rw [if_pos (by omega),if_neg c]
            rw [er]; exact hE
        rcases Zlc wd0 with ⟨ho,es⟩ | ⟨ho,es⟩
        · refine Yx (by rw [ZAy wd0] at ho ⊢; omega) (back (fun r=>((0≤(i:Int)∧(i:Int) < 8)∧((0≤(i:Int)∧(i:Int) < (ms.length:Int))∧Jc (Zz ([]:List (A8×Int)) ((frontA p.1 i).set i (ZA7.wrap (p.1.get i - 1))) 1) a.degrees (ms.getD i Zyt) (fun r24810=>Jc r24810 a.degrees (Zz ([]:List (A8×Int)) r 1) (fun r24823=>Zak (ZA7.wrap ((ZA7.wrap ((-1) * p.2)) * (p.1.get i))) (fun r24792=>Zam o1 r24823 r24792 (fun m24798=>((0≤(i:Int)∧(i:Int) < 8)∧nx ((frontA p.1 i).set i (p.1.get i),m24798))))))))) ⟨b8,⟨b8.1,by omega⟩,goal (-1) es.symm _ rfl⟩)
        · refine Y4 (by rw [ZAy wd0] at ho ⊢; omega) (back (fun r=>((0≤(i:Int)∧(i:Int) < 8)∧((0≤(i:Int)∧(i:Int) < (ms.length:Int))∧Jc (Zz ([]:List (A8×Int)) ((frontA p.1 i).set i (ZA7.wrap (p.1.get i - 1))) 1) a.degrees (ms.getD i Zyt) (fun r24810=>Jc r24810 a.degrees (Zz ([]:List (A8×Int)) r 1) (fun r24823=>Zak (ZA7.wrap ((ZA7.wrap (1 * p.2)) * (p.1.get i))) (fun r24792=>Zam o1 r24823 r24792 (fun m24798=>((0≤(i:Int)∧(i:Int) < 8)∧nx ((frontA p.1 i).set i (p.1.get i),m24798))))))))) ⟨b8,⟨b8.1,by omega⟩,goal 1 es.symm _ rfl⟩)
      · exact Y4 hp ⟨b8,hnx _ ⟨Zjd hi8,g2.skip hp⟩⟩
    · rintro ⟨t1,o1⟩ ⟨g1,g2⟩
      refine hn _ ⟨fun q hq=>h0 q (hperm.mem_iff.2 (ZW3 _ hq)),g2.ok,fun x=>?_,fun y hy=>?_⟩
      · dsimp only
        rw [← h2 x,e3,ZOr,g2.cf,← ZOr,Int.add_assoc]
      · rcases g2.mo y hy with ⟨z,hz,e⟩ | q
        · obtain ⟨u,hu,q⟩:=h3 z hz
          exact⟨u,hu,by rw [← e]; exact q⟩
        · exact⟨p,hpm,q⟩
  · rintro out ⟨_,h1,h2,h3⟩
    exact h out ⟨h1,fun x=>by have:=h2 x; simpa [tot] using this,h3⟩
end Go.Proofs.YtaagfepgbofmlaaGreat
namespace Go.Proofs.YtaagfepgbofmlaaGreat
open Go Vc
def Big (n:Nat):Prop:=n < 9223372036854775808
structure LenAlg (a:Alg):Prop where
  deg:Big a.degrees.length
  img:Big a.images.length
  trm:∀ f,f∈a.images→Big f.terms.length
theorem Zw3 {x:Alg} {u v:Value} {fp:List Nat} {w:World} (h:TAlg.rep x [u,v] fp w):LenAlg x:=by
  have h1:=Xp (Yw h).1
  have h2:=Xp (Yw h).2
  refine⟨by unfold Big; omega,by unfold Big; omega,fun f hf=>?_⟩
  obtain ⟨i,hi,rfl⟩:=List.getElem_of_mem hf
  obtain ⟨A,c,hv,cs,hl,hc,hr⟩:=Zh0 (Yw h).2 i hi
  obtain ⟨z,rfl⟩:=ZI4.1 (show cs.length=1 from hl)
  have h3:=Xp (Xi hr)
  unfold Big; omega
theorem Zw4 {f:ZIb} {n:Int} {K:Int→Prop} (hl:Big f.terms.length) (hn:0≤n∧n≤1048576) (h1:(f.terms.length:Int)≤n→K (n - f.terms.length)) (h2:∀ r,r < 0→K r):Zeu f n K:=Zul (by unfold Big at hl; omega) hn h1 h2
theorem Zw5 {l:List ZIb} {n:Int} {K:Int→Prop} (hl:Big l.length) (ht:∀ f,f∈l→Big f.terms.length) (hn:0≤n∧n≤1048576) (h1:∀ r,0≤r→r≤n→(l.length:Int)≤n→(∀ i,i < l.length→(l.getD i Zyt).terms.length≤1048576)→K r) (h2:∀ r,r < 0→K r):Zgt l n K:=by
  unfold Zgt
  unfold Big at hl
  rw [i64_in _ (by omega)]
  split
  · exact h2 _ (by omega)
  · rename_i q
    refine Xe (fun i (s:Int)=>0≤s∧s≤n∧∀ j,j < i→(l.getD j Zyt).terms.length≤1048576) l.length ?_ ?_ _ _ _ (by omega) ⟨by omega,by omega,by intro j hj; omega⟩
    · intro i s next hi ⟨g1,g2,g3⟩ hn'
      refine Zw4 (ht _ (Ja hi)) (by omega) (fun hle=>?_) (fun r hr=>by rw [if_pos hr]; exact h2 _ (by omega))
      rw [if_neg (by omega)]
      refine hn' _ ⟨by omega,by omega,fun j hj=>?_⟩
      by_cases e:j=i
      · subst e; omega
      · exact g3 j (by omega)
    · intro s ⟨g1,g2,g3⟩
      exact h1 s g1 g2 (by omega) g3
theorem Zw6 {a:Alg} {K:Int→Prop} (hb:LenAlg a) (h1:∀ r,0≤r→a.degrees.length≤1048576→a.images.length≤1048576→(∀ i,i < a.images.length→(a.images.getD i Zyt).terms.length≤1048576)→K r) (h2:∀ r,r < 0→K r):Zgu a 1048576 K:=by
  unfold Zgu Zi2
  have hd:=hb.deg
  unfold Big at hd
  rw [i64_in _ (by omega)]
  split
  · dsimp only; rw [if_pos (by omega)]; exact h2 _ (by omega)
  · dsimp only; rw [if_neg (by omega)]
    refine Zw5 hb.img hb.trm (by omega) (fun r g1 g2 g3 g4=>?_) (fun r hr=>by rw [if_pos hr]; exact h2 _ (by omega))
    rw [if_neg (by omega)]
    exact h1 r g1 (by omega) (by omega) g4
theorem Zw7 {l:List ZIb} {K:List ZIb→Prop} (hl:l.length≤1048576) (ht:∀ i,i < l.length→(l.getD i Zyt).terms.length≤1048576) (h:K l):Zgv l K:=by
  unfold Zgv
  refine⟨by omega,?_⟩
  refine Xe (fun i (s:List ZIb)=>s.length=l.length∧∀ j,j < i→s.getD j Zyt=l.getD j Zyt) l.length ?_ ?_ _ _ _ (by omega) ⟨by simp,by intro j hj; omega⟩
  · intro i s next hi ⟨h1,h2⟩ hn
    refine Zuk (ht i hi) ⟨by omega,hn _ ⟨by simpa using h1,fun j hj=>?_⟩⟩
    rw [Zk9 (by omega)]
    by_cases e:j=i
    · rw [if_pos e,e]
    · rw [if_neg e]; exact h2 j (by omega)
  · intro s ⟨h1,h2⟩
    have:s=l:=ZBg h1 fun j hj hj'=>by have:=h2 j (by omega); simpa [Zzm,hj,hj'] using this
    rw [this]; exact h
theorem Zlq {a:Alg} {K:Alg→Prop} (h1:a.degrees.length≤1048576) (h2:a.images.length≤1048576) (h3:∀ i,i < a.images.length→(a.images.getD i Zyt).terms.length≤1048576) (h:K a):Zcs a K:=by
  unfold Zcs
  exact Ztp h1 (Zw7 h2 h3 h)
theorem Zw8 {a:Alg} {K:Bool→Prop} (h:K true):Zdw a a K:=Zuh (by simpa using h)
def GoodAlg (a:Alg):Prop:=(∀ x,x∈a.degrees→Fit .i64 x)∧∀ f,f∈a.images→∀ t,t∈f.terms→Za0 .u8 t.mono∧Fit .i64 t.factor
theorem GoodAlg.fit {a:Alg} (h:GoodAlg a) (h3:∀ i,i < a.images.length→(a.images.getD i Zyt).terms.length≤1048576):Zbo a:=fun i hi=>⟨fun t ht=>(h.2 _ (Ja hi) t ht).1,h3 i hi⟩
end Go.Proofs.YtaagfepgbofmlaaGreat
namespace Go.Proofs.YtaagfepgbofmlaaGreat
open Go Vc
end Go.Proofs.YtaagfepgbofmlaaGreat
namespace Go.Proofs.YtaagfepgbofmlaaGreat
open Go Vc
theorem Zw9 {k:Int} {K:Int→Prop} (hk:0≤k∧k≤12) (h:K (if k % 2=1 then 1 else 10006)):Zg9 k 1 K:=by
  unfold Zg9
  rw [i64_in (k * 1) (by omega),Int.mul_one,ZAy hk.1]
  by_cases q:k % 2=1
  · rw [if_pos q] at h; exact Yx (by omega) h
  · rw [if_neg q] at h; exact Y4 (by omega) h
theorem Zxa {k:Int} {K:Int→Prop} (hk:0≤k∧k≤12) (h:K (if k % 2=1 then 1 else 10006)):Zhg k K:=by
  unfold Zhg
  rw [ZAy hk.1]
  by_cases q:k % 2=1
  · rw [if_pos q] at h; exact Yx q h
  · rw [if_neg q] at h; exact Y4 q h
end Go.Proofs.YtaagfepgbofmlaaGreat
namespace Go.Proofs.YtaagfepgbofmlaaGreat
open Go Vc
theorem Ze2 (ds:List Int) (a b:A8):∀ k,wtU ds (a.add b) k=wtU ds a k+wtU ds b k:=by
  intro k
  induction k with
  | zero=>rfl
  | succ k ih=>simp only [wtU]; rw [ih,ZVt,ZV5]; omega
theorem Zo1 (ds : List Int) (m : A8) (j : Nat) : ∀ k, k ≤ 8 → wtU ds ((frontA m j).add (restA m j)) k = wtU ds m k - if j < k then ds.getD j Zyt else 0 := by
  intro k
  induction k with
  | zero=>intro _; simp [wtU]
  | succ k ih =>
    intro hk
    simp only [wtU]
    rw [ih (by omega),ZVt,frontA,restA,ZOf _ (by omega),ZOf _ (by omega)]
    by_cases c1:k < j
    · rw [if_pos c1,if_neg (by omega),if_neg (by omega),if_neg (by omega),if_neg (by omega),ZOk]; omega
    · by_cases c2:k=j
      · subst c2
        rw [if_neg (by omega),if_neg (by omega),if_neg (by omega),if_pos rfl,if_pos (by omega),ZAd,Int.mul_sub,Int.mul_one]; omega
      · rw [if_neg c1,if_pos (by omega),if_pos (by omega),if_pos (by omega),ZAd]; omega
theorem Zxb {ds:List Int} {imgs:List (List Term)} {y m:A8} (h8:ds.length≤8) (h:AMono ds imgs y m):∃ j u,j < ds.length∧u∈imgs.getD j Zyt∧wtU ds y ds.length=wtU ds m ds.length - ds.getD j Zyt+wtU ds u.mono ds.length:=by
  obtain ⟨j,u,h1,h2,h3,rfl,_,_⟩:=h
  refine⟨j,u,h1,h3,?_⟩
  have e:=Zo1 ds m j ds.length h8
  rw [Ze2,if_pos h1] at e
  rw [Ze2,Ze2]
  omega
theorem Zxc {ds:List Int} (hd:OkDeg ds) {y:A8} (hp:∀ q,q < 8→0≤y.get q):∀ k,k≤ds.length→0≤wtU ds y k∧∀ q,q < k→y.get q≤wtU ds y k:=by
  intro k
  induction k with
  | zero=>intro _; exact⟨Int.le_refl _,fun q hq=>by omega⟩
  | succ k ih =>
    intro hk
    have h8:=hd.1
    obtain ⟨i1,i2⟩:=ih (by omega)
    have hdk:=hd.2 k (by omega)
    have hy:=hp k (by omega)
    have hm:y.get k≤ds.getD k Zyt * y.get k:=by
      have:=ZVy (a:=1) (b:=ds.getD k Zyt) (c:=y.get k) (by omega) hy
      rwa [Int.one_mul] at this
    simp only [wtU]
    refine⟨by omega,fun q hq=>?_⟩
    by_cases c:q=k
    · subst c; omega
    · have:=i2 q (by omega); omega
theorem Zxd {ds:List Int} (hd:OkDeg ds) {y:A8} (hw:X2 ds y) (hp:∀ q,q < 8→0≤y.get q) (h:wtU ds y ds.length≤20):OkMono ds y:=fun q hq =>
  ⟨fun z=>⟨by have:=(Zxc hd hp ds.length (Zy1 _)).2 q z; omega,((hw q hq).1 z).2⟩,(hw q hq).2⟩
end Go.Proofs.YtaagfepgbofmlaaGreat
namespace Go.Proofs.YtaagfepgbofmlaaGreat
open Go Vc
end Go.Proofs.YtaagfepgbofmlaaGreat
namespace Go.Proofs.YtaagfepgbofmlaaGreat
open Go Vc
def Zar (g:Int→List A8):Nat→List A8
  | 0=>[]
  | k+1=>g k++Zar g k
def Ji (d n:Int):Int:=if d % 2=1 then(if 1 < (if 20 < n / d then 20 else n / d) then 1 else(if 20 < n / d then 20 else n / d)) else(if 20 < n / d then 20 else n / d)
def X7 (ds:List Int):Nat→Nat→A8→Int→List A8
  | 0,_,m,n=>if n=0 then [m] else []
  | f+1,i,m,n=>Zar (fun k=>X7 ds f (i+1) (m.set i k) (n - k * ds.getD i Zyt)) ((Ji (ds.getD i Zyt) n).toNat+1)
theorem Zjk {d n:Int} (hd:1≤d) (hn:0≤n):0≤Ji d n∧Ji d n≤20∧Ji d n * d≤n:=by
  have h0:0≤n / d:=ZWf hn (by omega)
  have h1:n / d * d≤n:=Int.ediv_mul_le n (by omega)
  have key:∀ x:Int,0≤x→x≤n / d→x * d≤n:=fun x _ hx=>ZV1 (ZVy hx (by omega)) h1
  have hb:0≤Ji d n∧Ji d n≤20∧Ji d n≤n / d:=by
    unfold Ji
    generalize n / d=q at *
    repeat' split
    all_goals omega
  exact⟨hb.1,hb.2.1,key _ hb.1 hb.2.2⟩
theorem Zo2 {c:Nat} {g rest l:List A8} (hl:l.length≤c+1):l++g.take ((c+1) - l.length)++rest.take ((c+1) - (l++g.take ((c+1) - l.length)).length)=l++(g++rest).take ((c+1) - l.length):=by
  rw [ZWg,List.take_append,ZBe,ZOn]
  congr 3
  omega
theorem set_set {m:A8} {i:Nat} {a b:Int} (hi:i < 8):(m.set i a).set i b=m.set i b:=by
  refine ZK1 fun q hq=>?_
  rw [ZK0 hi,ZK0 hi,ZK0 hi]
  split <;> rfl
theorem Zxe {k:Int} (h:0≤k∧k≤20):ZIk.wrap k=k:=Zif _ (by omega)
theorem Zo3 {d n:Int} (hn:0≤n):ZSf n d=n / d:=Int.tdiv_eq_ediv_of_nonneg hn
theorem Zxf {ds : List Int} (hd : OkDeg ds) : ∀ (f F i : Nat) (m : A8) (n : Int) (l : List A8) (K : List A8 → Prop), i + f = ds.length → f < F → (0 ≤ n ∧ n ≤ 40) → l.length ≤ 400 → K (l ++ (X7 ds f i m n).take (401 - l.length)) → f_spec_l01Fill F ds m i n l K := by
  intro f
  induction f with
  | zero =>
    intro F i m n l K hi hF hn hl h
    obtain ⟨F,rfl⟩:∃ G,F=G+1:=⟨F - 1,by omega⟩
    rw [f_spec_l01Fill.eq_2,if_pos (by omega)]
    unfold X7 at h
    split
    · rename_i q
      rw [if_pos q] at h
      refine⟨by unfold Yo; omega,?_⟩
      rwa [Zzz (by simp; omega)] at h
    · rename_i q
      rw [if_neg q] at h
      simpa using h
  | succ f ih =>
    intro F i m n l K hi hF hn hl h
    obtain ⟨F,rfl⟩:∃ G,F=G+1:=⟨F - 1,by omega⟩
    have h8:=hd.1
    have hdi:=hd.2 i (by omega)
    obtain ⟨t0,t20,tn⟩:=Zjk (d:=ds.getD i Zyt) (n:=n) hdi.1 hn.1
    have hq0:0≤n / ds.getD i Zyt:=ZWf hn.1 (by omega)
    have hq1:n / ds.getD i Zyt≤n:=Int.ediv_le_self _ hn.1
    rw [f_spec_l01Fill.eq_2,if_neg (by omega)]
    rw [ZVz,Zo3 hn.1,i64_in (n / ds.getD i Zyt) (by omega),i64_in ((i:Int)+1) (by omega)]
    have loop:∀ (t:Int),Ji (ds.getD i Zyt) n=t→Xj (fun (s80:A8×(List A8)×Int) next82=>(if s80.2.2≥0 then(if(s80.2.1.length:Int)≤400 then((0≤(i:Int)∧(i:Int) < 8)∧((0≤(i:Int)∧(i:Int) < (ds.length:Int))∧f_spec_l01Fill F ds (s80.1.set i (ZIk.wrap s80.2.2)) ((i:Int)+1) (ZA7.wrap (n - (ZA7.wrap (s80.2.2 * (ds.getD i Zyt))))) s80.2.1 (fun r105=>next82 (s80.1.set i (ZIk.wrap s80.2.2),r105,ZA7.wrap (s80.2.2 - 1))))) else K s80.2.1) else K s80.2.1)) (m,l,t):=by
      rintro t rfl
      rw [X7] at h
      refine X9 (fun (s:A8×List A8×Int)=>(∀ b,s.1.set i b=m.set i b)∧s.2.1.length≤401∧(-1≤s.2.2∧s.2.2≤Ji (ds.getD i Zyt) n)∧s.2.1++(Zar (fun k=>X7 ds f (i+1) (m.set i k) (n - k * ds.getD i Zyt)) (s.2.2+1).toNat).take (401 - s.2.1.length)=l++(Zar (fun k=>X7 ds f (i+1) (m.set i k) (n - k * ds.getD i Zyt)) ((Ji (ds.getD i Zyt) n).toNat+1)).take (401 - l.length)) (fun s=>(s.2.2+1).toNat) ?_ ⟨fun _=>rfl,by dsimp only; omega,by dsimp only; omega,by dsimp only; rw [show (Ji (ds.getD i Zyt) n+1).toNat=(Ji (ds.getD i Zyt) n).toNat+1 by omega]⟩
      rintro ⟨x,y,k⟩ next ⟨k1,k2,k3,k4⟩ hx
      dsimp only at k1 k2 k3 k4 hx ⊢
      split
      · rename_i hk
        have hkd0:0≤k * ds.getD i Zyt:=ZOx hk (by omega)
        have hkd:k * ds.getD i Zyt≤n:=ZV1 (ZVy k3.2 (by omega)) tn
        split
        · rename_i hy
          refine⟨by omega,by omega,?_⟩
          rw [Zxe ⟨hk,by omega⟩,i64_in (k * ds.getD i Zyt) (by omega),i64_in (n - k * ds.getD i Zyt) (by omega),i64_in (k - 1) (by omega),k1 k]
          have e:((i:Int)+1)=((i+1:Nat):Int):=by omega
          rw [e]
          refine ih F (i+1) _ _ _ _ (by omega) (by omega) (by omega) (by omega) (hx _ ⟨fun b=>by dsimp only; rw [set_set (by omega)],?_,by dsimp only; omega,?_⟩ (by dsimp only; omega))
          · dsimp only; rw [ZBe,ZOn]; omega
          · dsimp only
            rw [← k4,show (k+1).toNat=k.toNat+1 by omega,Zar,show (k - 1+1).toNat=k.toNat by omega,show ((k.toNat:Nat):Int)=k by omega]
            exact Zo2 (c:=400) k2
        · rename_i hy
          have e:y.length=401:=by omega
          rw [← k4,e] at h
          simpa using h
      · rename_i hk
        rw [← k4,show (k+1).toNat=0 by omega] at h
        simpa [Zar] using h
    have ht:Zyy (ds.getD i Zyt) 2=ds.getD i Zyt % 2:=ZAy (by omega)
    rw [ht]
    refine⟨by omega,by omega,by omega,?_⟩
    split
    · rename_i q
      refine loop _ ?_
      unfold Ji
      rw [if_pos (by omega)]
      clear loop h ih
      generalize n / ds.getD i Zyt=q at *
      repeat' split
      all_goals omega
    · rename_i q
      refine loop _ ?_
      unfold Ji
      rw [if_neg (by omega)]
theorem Zxg {ds : List Int} (hd : OkDeg ds) (c : Nat) (hc : c ≤ 1000) : ∀ (f F i : Nat) (m : A8) (n : Int) (l : List A8) (K : List A8 → Prop), i + f = ds.length → f < F → (0 ≤ n ∧ n ≤ 40) → l.length ≤ (c + 1) → K (l ++ (X7 ds f i m n).take ((c + 1) - l.length)) → f_impl_lister_from F (ds, (c : Int), l) i m n K := by
  intro f
  induction f with
  | zero =>
    intro F i m n l K hi hF hn hl h
    obtain ⟨F,rfl⟩:∃ G,F=G+1:=⟨F - 1,by omega⟩
    rw [f_impl_lister_from.eq_2]
    dsimp only
    unfold X7 at h
    split
    · rename_i q
      rw [show (c+1) - l.length=0 by omega] at h
      simpa using h
    · rename_i q
      rw [if_pos (by omega)]
      split
      · rename_i q
        rw [if_pos q] at h
        refine⟨by unfold Yo; omega,?_⟩
        rwa [Zzz (by simp; omega)] at h
      · rename_i q
        rw [if_neg q] at h
        simpa using h
  | succ f ih =>
    intro F i m n l K hi hF hn hl h
    obtain ⟨F,rfl⟩:∃ G,F=G+1:=⟨F - 1,by omega⟩
    have h8:=hd.1
    have hdi:=hd.2 i (by omega)
    obtain ⟨t0,t20,tn⟩:=Zjk (d:=ds.getD i Zyt) (n:=n) hdi.1 hn.1
    have hq0:0≤n / ds.getD i Zyt:=ZWf hn.1 (by omega)
    have hq1:n / ds.getD i Zyt≤n:=Int.ediv_le_self _ hn.1
    rw [f_impl_lister_from.eq_2]
    dsimp only
    split
    · rename_i q
      rw [show (c+1) - l.length=0 by omega] at h
      simpa using h
    rw [if_neg (by omega)]
    rw [ZVz,Zo3 hn.1,i64_in (n / ds.getD i Zyt) (by omega),i64_in ((i:Int)+1) (by omega)]
    have loop:∀ (t:Int),Ji (ds.getD i Zyt) n=t→Xj (fun (s65:A8×(List A8)×Int) next67=>(if s65.2.2≥0 then((0≤(i:Int)∧(i:Int) < 8)∧f_impl_lister_from F (ds,(c:Int),s65.2.1) ((i:Int)+1) (s65.1.set i s65.2.2) (ZA7.wrap (n - (ZA7.wrap (s65.2.2 * (ds.getD i Zyt))))) (fun m79=>next67 (s65.1.set i s65.2.2,m79,ZA7.wrap (s65.2.2 - 1)))) else K s65.2.1)) (m,l,t):=by
      rintro t rfl
      rw [X7] at h
      refine X9 (fun (s:A8×List A8×Int)=>(∀ b,s.1.set i b=m.set i b)∧s.2.1.length≤(c+1)∧(-1≤s.2.2∧s.2.2≤Ji (ds.getD i Zyt) n)∧s.2.1++(Zar (fun k=>X7 ds f (i+1) (m.set i k) (n - k * ds.getD i Zyt)) (s.2.2+1).toNat).take ((c+1) - s.2.1.length)=l++(Zar (fun k=>X7 ds f (i+1) (m.set i k) (n - k * ds.getD i Zyt)) ((Ji (ds.getD i Zyt) n).toNat+1)).take ((c+1) - l.length)) (fun s=>(s.2.2+1).toNat) ?_ ⟨fun _=>rfl,by dsimp only; omega,by dsimp only; omega,by dsimp only; rw [show (Ji (ds.getD i Zyt) n+1).toNat=(Ji (ds.getD i Zyt) n).toNat+1 by omega]⟩
      rintro ⟨x,y,k⟩ next ⟨k1,k2,k3,k4⟩ hx
      dsimp only at k1 k2 k3 k4 hx ⊢
      split
      · rename_i hk
        have hkd0:0≤k * ds.getD i Zyt:=ZOx hk (by omega)
        have hkd:k * ds.getD i Zyt≤n:=ZV1 (ZVy k3.2 (by omega)) tn
        refine⟨by omega,?_⟩
        rw [i64_in (k * ds.getD i Zyt) (by omega),i64_in (n - k * ds.getD i Zyt) (by omega),i64_in (k - 1) (by omega),k1 k]
        have e:((i:Int)+1)=((i+1:Nat):Int):=by omega
        rw [e]
        refine ih F (i+1) _ _ _ _ (by omega) (by omega) (by omega) k2 (hx _ ⟨fun b=>by dsimp only; rw [set_set (by omega)],?_,by dsimp only; omega,?_⟩ (by dsimp only; omega))
        · dsimp only; rw [ZBe,ZOn]; omega
        · dsimp only
          rw [← k4,show (k+1).toNat=k.toNat+1 by omega,Zar,show (k - 1+1).toNat=k.toNat by omega,show ((k.toNat:Nat):Int)=k by omega]
          exact Zo2 k2
      · rename_i hk
        rw [← k4,show (k+1).toNat=0 by omega] at h
        simpa [Zar] using h
    have ht:Zyy (ds.getD i Zyt) 2=ds.getD i Zyt % 2:=ZAy (by omega)
    rw [ht]
    refine⟨by omega,by omega,?_⟩
    split
    · rename_i q
      refine loop _ ?_
      unfold Ji
      rw [if_pos q]
    · rename_i q
      refine loop _ ?_
      unfold Ji
      rw [if_neg q]
def Zhm (p:A8):Prop:=∀ q,q < 8→0≤p.get q∧p.get q≤20
theorem Zjl {g:Int→List A8} {p:A8}:∀ {t:Nat}, p∈Zar g t→∃ k:Nat,k < t∧p∈g k:=by
  intro t
  induction t with
  | zero=>intro h; simp [Zar] at h
  | succ t ih =>
    intro h
    rw [Zar] at h
    rcases Zzu.1 h with h | h
    · exact⟨t,by omega,h⟩
    · obtain ⟨k,hk,hp⟩:=ih h
      exact⟨k,by omega,hp⟩
theorem Zxh {ds:List Int} (hd:OkDeg ds):∀ (f i:Nat) (m:A8) (n:Int),i+f=ds.length→0≤n→Zhm m→∀ p,p∈X7 ds f i m n→Zhm p:=by
  intro f
  induction f with
  | zero =>
    intro i m n hi hn hm p hp
    unfold X7 at hp
    split at hp
    · rw [ZAs.1 hp]; exact hm
    · simp at hp
  | succ f ih =>
    intro i m n hi hn hm p hp
    have h8:=hd.1
    have hdi:=hd.2 i (by omega)
    obtain ⟨t0,t20,tn⟩:=Zjk (d:=ds.getD i Zyt) (n:=n) hdi.1 hn
    rw [X7] at hp
    obtain ⟨k,hk,hp⟩:=Zjl hp
    have hkd:(k:Int) * ds.getD i Zyt≤n:=ZV1 (ZVy (by omega) (by omega)) tn
    refine ih (i+1) _ _ (by omega) (by omega) (fun q hq=>?_) p hp
    rw [ZK0 (by omega)]
    split
    · omega
    · exact hm q hq
def mons (ds:List Int) (n:Int):List A8:=if n < 0 then [] else X7 ds ds.length 0 ZIg n
theorem Zxi {ds:List Int} (hd:OkDeg ds) {n:Int}:∀ p,p∈mons ds n→Zhm p:=fun p hp=>by
  unfold mons at hp
  split at hp
  · simp at hp
  · exact Zxh hd _ _ _ _ (by omega) (by omega) (fun q hq=>by rw [ZV6]; omega) p hp
def Fits (ds:List Int) (n:Int):Prop:=(mons ds n).length≤120
instance (ds:List Int) (n:Int):Decidable (Fits ds n):=inferInstanceAs (Decidable (_≤_))
theorem kb {K:List A8→Bool→Prop} {a c:List A8} {b d:Bool} (h:K a b) (e1:c=a) (e2:d=b):K c d:=by rw [e1,e2]; exact h
theorem Zxj {ds:List Int} (hd:OkDeg ds) {n:Int} (hn:n≤40) {K:List A8→Bool→Prop} (h1:Fits ds n→K (mons ds n) true) (h2:¬ Fits ds n→∀ l,K l false):Zhe ds n 120 K:=by
  unfold Zhe
  by_cases h0:n≥0
  · rw [if_pos h0]
    have h8:=hd.1
    have e:mons ds n=X7 ds ds.length 0 ZIg n:=by unfold mons; rw [if_neg (by omega)]
    refine Zxg hd 120 (by omega) ds.length 9 0 ZIg n [] _ (by omega) (by omega) (by omega) (by simp) ?_
    rw [← e]
    have et:([]:List A8)++(mons ds n).take (120+1 - ([]:List A8).length)=(mons ds n).take 121:=by simp
    by_cases hf:Fits ds n
    · have hf':(mons ds n).length≤120:=hf
      exact kb (h1 hf) (by rw [et,Zzz (by omega)]) (decide_eq_true (by rw [et,ZOn]; omega))
    · have hf':¬ (mons ds n).length≤120:=hf
      exact kb (h2 hf _) rfl (decide_eq_false (by rw [et,ZOn]; omega))
  · rw [if_neg h0]
    have e:mons ds n=[]:=by unfold mons; rw [if_pos (by omega)]
    have:=h1 (by unfold Fits; rw [e]; simp)
    rw [e] at this
    exact this
theorem Zlr {ds:List Int} (hd:OkDeg ds) {n:Int} (hn:0≤n∧n≤40) {K:List A8→Prop} (h:K ((mons ds n).take 401)):Zd1 ds n K:=by
  unfold Zd1
  have h8:=hd.1
  have e:mons ds n=X7 ds ds.length 0 ZIg n:=by unfold mons; rw [if_neg (by omega)]
  rw [e] at h
  exact Zxf hd ds.length 9 0 ZIg n [] _ (by omega) (by omega) hn (by simp) h
end Go.Proofs.YtaagfepgbofmlaaGreat
namespace Go.Proofs.YtaagfepgbofmlaaGreat
open Go Vc
theorem Zdc:∀ (l xs ys:List Int) (x y:Int),y < x→J3 (l++x::xs) (l++y::ys) < 0:=by
  intro l
  induction l with
  | nil=>intro xs ys x y h; simp only [List.nil_append,J3]; split <;> (try split) <;> omega
  | cons a l ih=>intro xs ys x y h; simp only [List.cons_append,J3]; split <;> (try split) <;> first | omega | exact ih xs ys x y h
theorem Zxk {a b:A8} {i:Nat} (hi:i < 8) (h:∀ q,q < i→a.get q=b.get q) (hg:b.get i < a.get i):pcmp a b < 0:=by
  have hl:∀ c:A8,c.list=[c.get 0,c.get 1,c.get 2,c.get 3,c.get 4,c.get 5,c.get 6,c.get 7]:=fun _=>rfl
  unfold pcmp
  rw [hl a,hl b]
  match i,hi with
  | 0,_=>exact Zdc [] _ _ _ _ hg
  | 1,_=>rw [h 0 (by omega)]; exact Zdc [_] _ _ _ _ hg
  | 2,_=>rw [h 0 (by omega),h 1 (by omega)]; exact Zdc [_,_] _ _ _ _ hg
  | 3,_=>rw [h 0 (by omega),h 1 (by omega),h 2 (by omega)]; exact Zdc [_,_,_] _ _ _ _ hg
  | 4,_=>rw [h 0 (by omega),h 1 (by omega),h 2 (by omega),h 3 (by omega)]; exact Zdc [_,_,_,_] _ _ _ _ hg
  | 5,_=>rw [h 0 (by omega),h 1 (by omega),h 2 (by omega),h 3 (by omega),h 4 (by omega)]; exact Zdc [_,_,_,_,_] _ _ _ _ hg
  | 6,_=>rw [h 0 (by omega),h 1 (by omega),h 2 (by omega),h 3 (by omega),h 4 (by omega),h 5 (by omega)]; exact Zdc [_,_,_,_,_,_] _ _ _ _ hg
  | 7,_=>rw [h 0 (by omega),h 1 (by omega),h 2 (by omega),h 3 (by omega),h 4 (by omega),h 5 (by omega),h 6 (by omega)]; exact Zdc [_,_,_,_,_,_,_] _ _ _ _ hg
theorem Zls {ds:List Int}:∀ (f i:Nat) (m:A8) (n:Int),i+f=ds.length→ds.length≤8→∀ p,p∈X7 ds f i m n→∀ q,q < i→p.get q=m.get q:=by
  intro f
  induction f with
  | zero =>
    intro i m n hi h8 p hp q hq
    unfold X7 at hp
    split at hp
    · rw [ZAs.1 hp]
    · simp at hp
  | succ f ih =>
    intro i m n hi h8 p hp q hq
    rw [X7] at hp
    obtain ⟨k,hk,hp⟩:=Zjl hp
    have:=ih (i+1) _ _ (by omega) h8 p hp q (by omega)
    rw [this,ZK0 (by omega),if_neg (by omega)]
theorem Zxl {ds:List Int} {f i:Nat} {m:A8} {n k:Int} (hi:i+(f+1)=ds.length) (h8:ds.length≤8) {p:A8} (hp:p∈X7 ds f (i+1) (m.set i k) n):p.get i=k:=by
  have:=Zls f (i+1) (m.set i k) n (by omega) h8 p hp i (by omega)
  rw [this,ZK0 (by omega),if_pos rfl]
theorem Zxm {g:Int→List A8} {i:Nat} (hi:i < 8) (hag:∀ k k':Int,∀ a,a∈g k→∀ b,b∈g k'→∀ q,q < i→a.get q=b.get q) (hat:∀ k:Int,∀ a,a∈g k→a.get i=k) (hs:∀ k:Int,(g k).Pairwise (fun a b=>pcmp a b < 0)) :
    ∀ t,(Zar g t).Pairwise (fun a b=>pcmp a b < 0):=by
  intro t
  induction t with
  | zero=>exact ZC9
  | succ t ih =>
    rw [Zar]
    refine ZDa.2 ⟨hs _,ih,fun a ha b hb=>?_⟩
    obtain ⟨k,hk,hb⟩:=Zjl hb
    refine Zxk hi (hag _ _ a ha b hb) ?_
    rw [hat _ a ha,hat _ b hb]; omega
theorem Zxn {ds:List Int} (h8:ds.length≤8):∀ (f i:Nat) (m:A8) (n:Int),i+f=ds.length→(X7 ds f i m n).Pairwise (fun a b=>pcmp a b < 0):=by
  intro f
  induction f with
  | zero =>
    intro i m n hi
    unfold X7
    split
    · exact ZWq _ _
    · exact ZC9
  | succ f ih =>
    intro i m n hi
    rw [X7]
    refine Zxm (i:=i) (by omega) (fun k k' a ha b hb q hq=>?_) (fun k a ha=>Zxl hi h8 ha) (fun k=>ih (i+1) _ _ (by omega)) _
    have e1:=Zls f (i+1) _ _ (by omega) h8 a ha q (by omega)
    have e2:=Zls f (i+1) _ _ (by omega) h8 b hb q (by omega)
    rw [e1,e2,ZK0 (by omega),ZK0 (by omega),if_neg (by omega),if_neg (by omega)]
theorem Zxo {ds:List Int} (h8:ds.length≤8) (n:Int):(mons ds n).Pairwise (fun a b=>pcmp a b < 0):=by
  unfold mons
  split
  · exact ZC9
  · exact Zxn h8 _ _ _ _ (by omega)
def Zbq (ds:List Int) (p:A8):Nat→Nat→Int
  | 0,_=>0
  | r+1,j=>ds.getD j Zyt * p.get j+Zbq ds p r (j+1)
theorem Zo4 {ds:List Int} (hd:OkDeg ds) {p:A8} (hp:∀ i,i < 8→0≤p.get i):∀ r j,j+r=ds.length→0≤Zbq ds p r j:=by
  intro r
  induction r with
  | zero=>intro j _; exact Int.le_refl _
  | succ r ih =>
    intro j hj
    have h8:=hd.1
    have:=ih (j+1) (by omega)
    have h1:=ZOx (a:=ds.getD j Zyt) (b:=p.get j) (by have:=hd.2 j (by omega); omega) (hp j (by omega))
    simp only [Zbq]; omega
theorem Zxp {g:Int→List A8} {p:A8} {k:Nat} (hp:p∈g k):∀ t,k < t→p∈Zar g t:=by
  intro t
  induction t with
  | zero=>intro h; omega
  | succ t ih =>
    intro h
    rw [Zar]
    by_cases e:k=t
    · subst e; exact ZA1 _ hp
    · exact ZA2 _ (ih (by omega))
theorem Zxq {ds : List Int} (hd : OkDeg ds) {p : A8} (hp : ∀ i, i < 8 → 0 ≤ p.get i) (hm : OkMono ds p) : ∀ (f i : Nat) (m : A8) (n : Int), i + f = ds.length → (∀ q, q < 8 → m.get q = if q < i then p.get q else 0) → Zbq ds p f i = n → p ∈ X7 ds f i m n := by
  intro f
  induction f with
  | zero =>
    intro i m n hi hag hn
    unfold X7
    simp only [Zbq] at hn
    rw [if_pos hn.symm,ZAs]
    refine ZK1 fun q hq=>?_
    rw [hag q hq]
    split
    · rfl
    · exact(hm q hq).2 (by omega)
  | succ f ih =>
    intro i m n hi hag hn
    have h8:=hd.1
    have hdi:=hd.2 i (by omega)
    have hpi:=hp i (by omega)
    have hmi:=(hm i (by omega)).1 (by omega)
    simp only [Zbq] at hn
    have hr:=Zo4 hd hp f (i+1) (by omega)
    rw [X7]
    have hk:p.get i≤n / ds.getD i Zyt:=Int.le_ediv_of_mul_le (by omega) (by rw [ZVw]; omega)
    have htop:p.get i≤Ji (ds.getD i Zyt) n:=by
      unfold Ji
      by_cases o:ds.getD i Zyt % 2=1
      · have h1:=hmi.2 (by rw [ZAy (by omega)]; omega)
        rw [if_pos o]
        generalize n / ds.getD i Zyt=t at *
        repeat' split
        all_goals omega
      · rw [if_neg o]
        generalize n / ds.getD i Zyt=t at *
        repeat' split
        all_goals omega
    refine Zxp (k:=(p.get i).toNat) ?_ _ (by omega)
    have e:(((p.get i).toNat:Nat):Int)=p.get i:=by omega
    rw [e]
    refine ih (i+1) _ _ (by omega) (fun q hq=>?_) ?_
    · rw [ZK0 (by omega)]
      by_cases c:q=i
      · subst c; rw [if_pos rfl,if_pos (by omega)]
      · rw [if_neg c,hag q hq]
        by_cases c2:q < i
        · rw [if_pos c2,if_pos (by omega)]
        · rw [if_neg c2,if_neg (by omega)]
    · rw [ZVw (p.get i)]; omega
theorem Zxr (ds:List Int) (p:A8):∀ (r j:Nat),Zbq ds p (r+1) j=Zbq ds p r j+ds.getD (j+r) Zyt * p.get (j+r):=by
  intro r
  induction r with
  | zero=>intro j; simp [Zbq]
  | succ r ih =>
    intro j
    rw [Zbq,ih (j+1),show j+1+r=j+(r+1) by omega]
    simp only [Zbq]; omega
theorem Zo5 (ds:List Int) (p:A8):∀ k,Zbq ds p k 0=wtU ds p k:=by
  intro k
  induction k with
  | zero=>rfl
  | succ k ih=>rw [Zxr,ih,Nat.zero_add,wtU]
theorem Zxs {ds:List Int} (hd:OkDeg ds) {p:A8} (hp:∀ i,i < 8→0≤p.get i) (hm:OkMono ds p):p∈mons ds (wtU ds p ds.length):=by
  have h0:=Zo4 hd hp ds.length 0 (by omega)
  rw [Zo5] at h0
  unfold mons
  rw [if_neg (by omega)]
  exact Zxq hd hp hm _ _ _ _ (by omega) (fun q hq=>by rw [ZV6,if_neg (by omega)]) (Zo5 ds p _)
end Go.Proofs.YtaagfepgbofmlaaGreat
namespace Go.Proofs.YtaagfepgbofmlaaGreat
open Go Vc
theorem Zcb {a b:Int} {K:Int→Prop} (h:K (if a≠0 then a else b)):Zdx [a,b] K:=by
  simp only [Zdx,Yt,List.length_cons,List.length_nil,List.getD_cons_zero,List.getD_cons_succ]
  split
  · rename_i q; rwa [if_pos q] at h
  · rename_i q
    rw [if_neg q] at h
    split
    · exact h
    · rename_i q2
      have q2:b=0:=ZOh.1 q2
      rwa [q2] at h
def Jl (ds:List Int) (k:Int) (j:Nat):List A8:=mons ds (ds.getD j Zyt - k)
def Xa (ds:List Int) (k:Int):Nat→Nat
  | 0=>0
  | j+1=>Xa ds k j+(Jl ds k j).length
def Jd (ds:List Int) (k:Int):Nat→List Elem
  | 0=>[]
  | j+1=>Jd ds k j++(Jl ds k j).map fun m=>⟨(j:Int),m⟩
theorem Zcc (ds:List Int) (k:Int):∀ j,(Jd ds k j).length=Xa ds k j
  | 0=>rfl
  | j+1=>by rw [Jd,Xa,ZBe,ZO3,Zcc ds k j]
theorem Zlt (ds : List Int) (k : Int) (j : Nat) : ∀ n, j ≤ n → Xa ds k j ≤ Xa ds k n := by
  intro n
  induction n with
  | zero => intro h; obtain rfl : j = 0 := by omega
            exact Zy1 _
  | succ n ih =>
    intro h
    by_cases e:j=n+1
    · subst e; exact Zy1 _
    · have:=ih (by omega); rw [Xa]; omega
theorem Zjm {ds:List Int} (hd:OkDeg ds) {k:Int} (hk:0≤k∧k≤12) {j:Nat} (hj:j < ds.length):ZA7.wrap (ds.getD j Zyt - k)=ds.getD j Zyt - k:=by
  have:=hd.2 j hj; exact i64_in _ (by omega)
theorem Zhn {α β:Type} [Inhabited α] (f:α→β) {l:List α} {i:Nat} (h:i < l.length):(l.take (i+1)).map f=(l.take i).map f++[f (l.getD i Zyt)]:=by
  rw [J4 h,ZV7]; rfl
theorem Zlu {a : Alg} {k : Int} {K : List Elem → Int → Prop} (hd : OkDeg a.degrees) (hk : 0 ≤ k ∧ k ≤ 12) (h1 : Xa a.degrees k a.degrees.length ≤ 120 → K (Jd a.degrees k a.degrees.length) 0) (h2 : ¬ Xa a.degrees k a.degrees.length ≤ 120 → K [] 3) : Zez a k K := by
  unfold Zez
  have h8:=hd.1
  refine Xe (fun i s=>s=Jd a.degrees k i∧Xa a.degrees k i≤120) a.degrees.length ?_ ?_ _ _ _ (by omega) ⟨rfl,by simp [Xa]⟩
  · rintro i s next hi ⟨rfl,ht⟩ hn
    have hdi:=hd.2 i hi
    have hm:=Zlt a.degrees k (i+1) a.degrees.length (by omega)
    rw [Xa] at hm
    rw [Zjm hd hk hi]
    refine Zxj hd (by omega) (fun hf=>?_) (fun no l=>?_)
    · have hf':(Jl a.degrees k i).length≤120:=hf
      refine Y4 (by simp) ?_
      rw [Zcc]
      show if ZA7.wrap (((Xa a.degrees k i:Nat):Int)+((Jl a.degrees k i).length:Int)) > 120 then _ else _
      rw [i64_in _ (by omega)]
      by_cases q:((Xa a.degrees k i:Nat):Int)+((Jl a.degrees k i).length:Int) > 120
      · exact Yx q (h2 (by omega))
      · refine Y4 q ?_
        refine Xe (fun j s=>s=Jd a.degrees k i++((Jl a.degrees k i).take j).map fun m=>⟨(i:Int),m⟩) (Jl a.degrees k i).length ?_ ?_ _ _ _ (Nat.zero_add _) (by simp)
        · rintro j s nx hj rfl hnx
          refine⟨?_,hnx _ ?_⟩
          · rw [ZBe,ZO3,ZOn,Zcc]; unfold Yo; omega
          · rw [Zhn _ hj,← ZWg]; rfl
        · rintro s rfl
          rw [ZV8]
          exact hn _ ⟨rfl,by rw [Xa]; omega⟩
    · have no':¬ (Jl a.degrees k i).length≤120:=no
      exact Yx (by simp) (h2 (by omega))
  · rintro s ⟨rfl,ht⟩; exact h1 ht
def Zas (ds:List Int) (k:Int):Nat→Nat
  | 0=>0
  | j+1=>Zas ds k j+min 401 (Jl ds k j).length
theorem Zo6 (ds:List Int) (k:Int):∀ j,Zas ds k j≤401 * j
  | 0=>Zy1 _
  | j+1=>by have:=Zo6 ds k j; rw [Zas]; omega
theorem Zo7 (ds:List Int) (k:Int):∀ j,Zas ds k j≤120↔Xa ds k j≤120
  | 0=>Iff.rfl
  | j + 1 => by
    have h:=Zo7 ds k j
    have:Zas ds k j≤Xa ds k j:=by
      clear h
      induction j with
      | zero=>exact Zy1 _
      | succ j ih=>rw [Zas,Xa]; omega
    have eq:Xa ds k j≤120→Zas ds k j=Xa ds k j:=by
      clear h this
      induction j with
      | zero=>intro _; rfl
      | succ j ih=>intro q; rw [Xa] at q; rw [Zas,Xa,ih (by omega)]; omega
    rw [Zas,Xa]
    by_cases q:Xa ds k j≤120
    · rw [eq q]; omega
    · have:¬ Zas ds k j≤120:=fun z=>q (h.1 z)
      omega
theorem Zxt {a:Alg} {k:Int} {K:Int→Prop} (hd:OkDeg a.degrees) (hk:0≤k∧k≤12) (h:K (Zas a.degrees k a.degrees.length)):Zd2 a k K:=by
  unfold Zd2
  have h8:=hd.1
  refine X9 (fun (s:Int×Int)=>(0≤s.2∧s.2≤a.degrees.length)∧s.1=Zas a.degrees k s.2.toNat) (fun s=>a.degrees.length - s.2.toNat) ?_ ⟨by dsimp only; omega,rfl⟩
  rintro ⟨c,i⟩ next ⟨g1,g2⟩ hn
  dsimp only at g1 g2 hn ⊢
  subst g2
  have hb:=Zo6 a.degrees k i.toNat
  by_cases hi:i < (a.degrees.length:Int)
  · refine Yx hi ⟨⟨g1.1,hi⟩,?_⟩
    have hdi:=hd.2 i.toNat (by omega)
    rw [i64_in (i+1) (by omega)]
    have hstep:Zas a.degrees k (i+1).toNat=Zas a.degrees k i.toNat+min 401 (Jl a.degrees k i.toNat).length:=by
      rw [show (i+1).toNat=i.toNat+1 by omega,Zas]
    by_cases q:a.degrees.getD i.toNat Zyt≥k
    · refine Yx q ⟨⟨g1.1,hi⟩,?_⟩
      rw [Zjm hd hk (by omega)]
      refine Zlr hd (by omega) ?_
      show next (ZA7.wrap (((Zas a.degrees k i.toNat:Nat):Int)+(((Jl a.degrees k i.toNat).take 401).length:Int)),i+1)
      rw [ZOn,i64_in _ (by omega)]
      exact hn _ ⟨by dsimp only; omega,by dsimp only; rw [hstep]; omega⟩ (by dsimp only; omega)
    · refine Y4 q (hn _ ⟨by dsimp only; omega,?_⟩ (by dsimp only; omega))
      dsimp only
      have e:Jl a.degrees k i.toNat=[]:=by unfold Jl mons; rw [if_pos (by omega)]
      rw [hstep,e]; rfl
  · refine Y4 hi ?_
    rw [show i.toNat=a.degrees.length by omega]; exact h
def Zan (n:Nat) (k:Int) (e:Elem):Der:=⟨k,(Zy0 n (⟨[]⟩:ZIb)).set e.gen.toNat ⟨[⟨e.mono,1⟩]⟩⟩
theorem Zxu {a : Alg} {k : Int} {K : List Der → Prop} (hd : OkDeg a.degrees) (hk : 0 ≤ k ∧ k ≤ 12) (ht : Xa a.degrees k a.degrees.length ≤ 120) (h : K ((Jd a.degrees k a.degrees.length).map (Zan a.degrees.length k))) : Zg4 a k K := by
  unfold Zg4
  have h8:=hd.1
  refine X9 (fun (s:List Der×Int)=>(0≤s.2∧s.2≤a.degrees.length)∧s.1=(Jd a.degrees k s.2.toNat).map (Zan a.degrees.length k)) (fun s=>a.degrees.length - s.2.toNat) ?_ ⟨by dsimp only; omega,rfl⟩
  rintro ⟨c,i⟩ next ⟨g1,g2⟩ hn
  dsimp only at g1 g2 hn ⊢
  subst g2
  by_cases hi:i < (a.degrees.length:Int)
  · refine Yx hi ⟨⟨g1.1,hi⟩,?_⟩
    have hdi:=hd.2 i.toNat (by omega)
    rw [i64_in (i+1) (by omega)]
    have hstep:(Jd a.degrees k (i+1).toNat).map (Zan a.degrees.length k)=(Jd a.degrees k i.toNat).map (Zan a.degrees.length k)++(Jl a.degrees k i.toNat).map (fun m=>Zan a.degrees.length k ⟨((i.toNat:Nat):Int),m⟩):=by
      rw [show (i+1).toNat=i.toNat+1 by omega,Jd,ZV7,List.map_map]; rfl
    have hm1:=Zlt a.degrees k (i.toNat+1) a.degrees.length (by omega)
    rw [Xa] at hm1
    by_cases q:a.degrees.getD i.toNat Zyt < k
    · refine Yx q (hn _ ⟨by dsimp only; omega,?_⟩ (by dsimp only; omega))
      dsimp only
      have e:Jl a.degrees k i.toNat=[]:=by unfold Jl mons; rw [if_pos (by omega)]
      rw [hstep,e,List.map_nil,List.append_nil]
    · refine Y4 q ⟨⟨g1.1,hi⟩,?_⟩
      rw [Zjm hd hk (by omega)]
      refine Zlr hd (by omega) ?_
      have et:(mons a.degrees (a.degrees.getD i.toNat Zyt - k)).take 401=Jl a.degrees k i.toNat:=Zzz (by show (Jl a.degrees k i.toNat).length≤401; omega)
      rw [et]
      refine Xe (fun j s=>s=(Jd a.degrees k i.toNat).map (Zan a.degrees.length k)++((Jl a.degrees k i.toNat).take j).map (fun m=>Zan a.degrees.length k ⟨((i.toNat:Nat):Int),m⟩)) (Jl a.degrees k i.toNat).length ?_ ?_ _ _ _ (by omega) (by simp)
      · rintro j s nx hj rfl hnx
        refine⟨⟨by omega,by omega⟩,Zja ⟨⟨g1.1,?_⟩,?_,hnx _ ?_⟩⟩
        · rw [ZXa]; omega
        · rw [ZBe,ZO3,ZO3,ZOn,Zcc]; unfold Yo; omega
        · rw [Zhn _ hj,← ZWg,ZVz]
          simp only [Zan,ZVz]
      · rintro s rfl
        rw [ZV8]
        exact hn _ ⟨by dsimp only; omega,by dsimp only; rw [hstep]⟩ (by dsimp only; omega)
  · refine Y4 hi ?_
    rw [show i.toNat=a.degrees.length by omega]; exact h
def Ze3 (n:Nat) (e:Elem):List (List (A8×Int)):=(Zzj n).map fun (i:Nat)=>if(i:Int)=e.gen then Zz ([]:List (A8×Int)) e.mono 1 else []
theorem Zo8 {β:Type} (f:Nat→β) (i:Nat):(Zzj (i+1)).map f=(Zzj i).map f++[f i]:=by
  rw [List.range_succ,ZV7]; rfl
end Go.Proofs.YtaagfepgbofmlaaGreat
namespace Go.Proofs.YtaagfepgbofmlaaGreat
open Go Vc
theorem Zxv {ds:List Int} {m:A8} {i:Nat} {k:Int} (hi:i < 8):∀ j,j≤i→wtU ds (m.set i k) j=wtU ds m j:=by
  intro j
  induction j with
  | zero=>intro _; rfl
  | succ j ih=>intro hj; simp only [wtU]; rw [ih (by omega),ZK0 hi,if_neg (by omega)]
theorem Zo9 {ds : List Int} (hd : OkDeg ds) : ∀ (f i : Nat) (m : A8) (n : Int), i + f = ds.length → 0 ≤ n → (∀ q, q < 8 → i ≤ q → m.get q = 0) → (∀ q, q < i → m.get q ≤ 20 ∧ (Zyy (ds.getD q Zyt) 2 ≠ 0 → m.get q ≤ 1)) → ∀ p, p ∈ X7 ds f i m n → OkMono ds p ∧ wtU ds p ds.length = wtU ds m i + n := by
  intro f
  induction f with
  | zero =>
    intro i m n hi hn h0 h1 p hp
    unfold X7 at hp
    split at hp
    · rename_i e
      rw [ZAs.1 hp]
      refine⟨fun q hq=>⟨fun hl=>h1 q (by omega),fun hl=>h0 q hq (by omega)⟩,?_⟩
      rw [show ds.length=i by omega,e,ZOk]
    · simp at hp
  | succ f ih =>
    intro i m n hi hn h0 h1 p hp
    have h8:=hd.1
    have hdi:=hd.2 i (by omega)
    obtain ⟨t0,t20,tn⟩:=Zjk (d:=ds.getD i Zyt) (n:=n) hdi.1 hn
    rw [X7] at hp
    obtain ⟨k,hk,hp⟩:=Zjl hp
    have hkt:(k:Int)≤Ji (ds.getD i Zyt) n:=by omega
    have hkd:(k:Int) * ds.getD i Zyt≤n:=ZV1 (ZVy hkt (by omega)) tn
    have odd1:Zyy (ds.getD i Zyt) 2≠0→(k:Int)≤1:=fun o=>by
      rw [ZAy (by omega)] at o
      have:Ji (ds.getD i Zyt) n≤1:=by
        unfold Ji
        rw [if_pos (by omega)]
        clear hkt hkd hp t0 t20 tn hk
        generalize n / ds.getD i Zyt=q at *
        repeat' split
        all_goals omega
      omega
    obtain ⟨r1,r2⟩:=ih (i+1) (m.set i k) (n - k * ds.getD i Zyt) (by omega) (by omega) (fun q hq hq2=>by rw [ZK0 (by omega),if_neg (by omega)]; exact h0 q hq (by omega)) (fun q hq=>by
      rw [ZK0 (by omega)]
      by_cases e:q=i
      · subst e; rw [if_pos rfl]; exact⟨by omega,odd1⟩
      · rw [if_neg e]; exact h1 q (by omega)) p hp
    refine⟨r1,?_⟩
    rw [r2,wtU,Zxv (by omega) i (Zy1 _),ZK0 (by omega),if_pos rfl,ZVw (k:Int)]
    omega
theorem Zpa {ds:List Int} (hd:OkDeg ds) {n:Int} {p:A8} (h:p∈mons ds n):OkMono ds p∧wtU ds p ds.length=n∧Zhm p:=by
  refine⟨?_,?_,Zxi hd p h⟩ <;> (unfold mons at h; split at h; · simp at h)
  · exact(Zo9 hd _ _ _ _ (by omega) (by omega) (fun q hq _=>ZV6 ..) (fun q hq=>by omega) p h).1
  · have:=(Zo9 hd _ _ _ _ (by omega) (by omega) (fun q hq _=>ZV6 ..) (fun q hq=>by omega) p h).2
    rw [this]; simp [wtU]
theorem Zxw {p:A8} (h:Zhm p):Za0 .u8 p:=fun x hx=>by
  obtain ⟨i,hi,rfl⟩:=A8.mem_list.1 hx
  have:=h i hi
  simp only [Fit,Lit.wf,Bool.and_eq_true,decide_eq_true_eq]
  simp [IntKind.min,IntKind.max,IntKind.signed,IntKind.bits]
  omega
theorem Zxx {m:A8} {j:Nat}:(leftA m j).add (backA m j)=(frontA m j).add (restA m j):=ZK1 fun q hq=>by
  rw [ZVt,ZVt,leftA,backA,frontA,restA,ZOf _ hq,ZOf _ hq,ZOf _ hq,ZOf _ hq]
  by_cases a:q < j
  · rw [if_pos a,if_pos a,if_neg (by omega),if_neg (by omega),if_neg (by omega)]
  · by_cases b:q=j
    · subst b; rw [if_neg a,if_pos rfl,if_neg (by omega)]; omega
    · rw [if_neg a,if_neg b,if_pos (by omega),if_neg a]
theorem Zxy {ds:List Int} {imgs:List (List Term)} {y m:A8} (h8:ds.length≤8) (hm:OkMono ds m) (h:DMono ds imgs y m):∃ j u,j < ds.length∧0 < m.get j∧u∈imgs.getD j Zyt∧wtU ds y ds.length=wtU ds m ds.length - ds.getD j Zyt+wtU ds u.mono ds.length:=by
  obtain ⟨j,u,h1,h2,h3,rfl,_,_⟩:=h
  have hj:j < ds.length:=Nat.lt_of_not_le fun z=>by have:=(hm j h1).2 z; omega
  refine⟨j,u,hj,h2,h3,?_⟩
  have e:=Zo1 ds m j ds.length h8
  rw [← Zxx,Ze2,if_pos hj] at e
  rw [Ze2,Ze2]
  omega
theorem Zxz {ds:List Int} {imgs:List (List Term)} {y m:A8} (h8:ds.length≤8) (hm:OkMono ds m) (pm:∀ i,i < 8→0≤m.get i∧m.get i≤20) (hI:∀ j u,u∈imgs.getD j Zyt→OkMono ds u.mono∧∀ i,i < 8→0≤u.mono.get i∧u.mono.get i≤20) (h:DMono ds imgs y m):X2 ds y∧∀ q,q < 8→0≤y.get q:=by
  obtain ⟨j,u,h1,h2,h3,rfl,c1,c2⟩:=h
  obtain ⟨lb,bb,lbb⟩:=Zjc pm h2
  obtain ⟨wl,wb⟩:=Zik hm h1 h2
  obtain ⟨ou,bu⟩:=hI j u h3
  have w1:=Zc1 wl ou.wk (fun q hq=>(lb q hq).1) (fun q hq=>(bu q hq).1) (fun q hq=>by have:=lb q hq; have:=bu q hq; omega) c1
  have b1:∀ q,q < 8→0≤((leftA m j).add u.mono).get q∧((leftA m j).add u.mono).get q≤40:=fun q hq=>by rw [ZVt]; have:=lb q hq; have:=bu q hq; omega
  exact⟨Zc1 w1 wb (fun q hq=>(b1 q hq).1) (fun q hq=>(bb q hq).1) (fun q hq=>by have:=b1 q hq; have:=bb q hq; omega) c2,fun q hq=>by rw [ZVt]; have:=b1 q hq; have:=bb q hq; omega⟩
theorem Zx0 {ds:List Int} {imgs:List (List Term)} {y m:A8} (h8:ds.length≤8) (hm:OkMono ds m) (pm:∀ i,i < 8→0≤m.get i∧m.get i≤20) (hI:∀ j u,u∈imgs.getD j Zyt→OkMono ds u.mono∧∀ i,i < 8→0≤u.mono.get i∧u.mono.get i≤20) (h:AMono ds imgs y m):X2 ds y∧∀ q,q < 8→0≤y.get q:=by
  obtain ⟨j,u,h1,h2,h3,rfl,c1,c2⟩:=h
  obtain ⟨wl,lb⟩:=Zlp (i:=j) hm pm
  obtain ⟨wb,bb⟩:=Zo0 hm (by omega) h2 pm
  obtain ⟨ou,bu⟩:=hI j u h3
  have w1:=Zc1 wl ou.wk (fun q hq=>(lb q hq).1) (fun q hq=>(bu q hq).1) (fun q hq=>by have:=lb q hq; have:=bu q hq; omega) c1
  have b1:∀ q,q < 8→0≤((frontA m j).add u.mono).get q∧((frontA m j).add u.mono).get q≤40:=fun q hq=>by rw [ZVt]; have:=lb q hq; have:=bu q hq; omega
  exact⟨Zc1 w1 wb (fun q hq=>(b1 q hq).1) (fun q hq=>(bb q hq).1) (fun q hq=>by have:=b1 q hq; have:=bb q hq; omega) c2,fun q hq=>by rw [ZVt]; have:=b1 q hq; have:=bb q hq; omega⟩
theorem Zpb {ds:List Int} (hd:OkDeg ds) {y:A8} {n:Int} (hw:X2 ds y) (hp:∀ q,q < 8→0≤y.get q) (h:wtU ds y ds.length=n) (hn:n≤20):y∈mons ds n:=by
  rw [← h]; exact Zxs hd hp (Zxd hd hw hp (by omega))
theorem Zpc:∀ {l:List Term}, Canon l→∀ {t:Term}, t∈l→coT l t.mono=t.factor
  | [],_,t,ht=>by simp at ht
  | s :: l, hc, t, ht => by
    rcases Zyz.1 ht with e | ht'
    · rw [e]; exact hc.at_head
    · rw [Zdk,if_neg (Zcn (hc.head t ht')),ZAd]; exact Zpc hc.tail ht'
theorem Zpd {l:List A8} (hs:l.Pairwise (fun a b=>pcmp a b < 0)) {k:Nat} {a b:A8} (ha:a∈l.take k) (hb:b∈l.drop k):pcmp a b < 0:=by
  rw [← ZCk k l] at hs
  exact(ZDa.1 hs).2.2 a ha b hb
theorem Zpe {α:Type} [Inhabited α] {l:List α} {k:Nat} (hk:k < l.length):l.drop k=l.getD k Zyt::l.drop (k+1):=by
  rw [List.drop_eq_getElem_cons hk]; simp [Zzm,hk]
theorem Zx1 {f : List Term} {l : List A8} {K : List Int → Prop} (hc : Canon f) (hs : l.Pairwise (fun a b => pcmp a b < 0)) (hin : ∀ t, t ∈ f → t.mono ∈ l) (hl : l.length ≤ 1000000) (h : K (l.map (coT f))) : Zg5 ⟨f⟩ l K := by
  have hfl:f.length≤1000000:=by
    have hn:(f.map Term.mono).Nodup:=by
      refine ZO1.2 (hc.1.imp fun q=>Zcn q)
    have:=hn.length_le_of_subset (l₂:=l) (fun x hx=>by obtain ⟨t,ht,rfl⟩:=Zy2.1 hx; exact hin t ht)
    rw [ZO3] at this; omega
  unfold Zg5
  dsimp only
  refine⟨by omega,?_⟩
  rw [ZVz]
  refine X9 (fun (s:List Int×Int×Int)=>(0≤s.2.1∧s.2.1≤f.length)∧(0≤s.2.2∧s.2.2≤l.length)∧s.1.length=l.length∧(∀ j,j < l.length→s.1.getD j Zyt=if j < s.2.2.toNat then coT f (l.getD j Zyt) else 0)∧(∀ t,t∈f.take s.2.1.toNat→t.mono∈l.take s.2.2.toNat)∧∀ t,t∈f.drop s.2.1.toNat→t.mono∈l.drop s.2.2.toNat) (fun s=>l.length - s.2.2.toNat) ?_ ⟨by dsimp only; omega,by dsimp only; omega,by simp,fun j hj=>by simp [Zzm,hj],by simp,by simpa using hin⟩
  rintro ⟨out,at1,k⟩ next ⟨g1,g2,g3,g4,g5,g6⟩ hn
  dsimp only at g1 g2 g3 g4 g5 g6 hn ⊢
  have fin:(∀ j,j < l.length→¬ j < k.toNat→coT f (l.getD j Zyt)=0)→K out:=fun q=>by
    have e:out=l.map (coT f):=by
      refine ZBg (by simp [g3]) fun j h1 h2=>?_
      have hj:j < l.length:=by omega
      have:=g4 j hj
      rw [show out.getD j Zyt=out[j] by simp [Zzm,h1]] at this
      rw [this,List.getElem_map,show l[j]=l.getD j Zyt by simp [Zzm,hj]]
      split
      · rfl
      · rename_i z; exact(q j hj z).symm
    rw [e]; exact h
  by_cases hk:k < (l.length:Int)
  · have hkn:k.toNat < l.length:=by omega
    refine Yx hk ?_
    have ki:(k+1).toNat=k.toNat+1:=by omega
    by_cases ha:at1 < (f.length:Int)
    · have han:at1.toNat < f.length:=by omega
      have ai:(at1+1).toNat=at1.toNat+1:=by omega
      refine Yx ha ⟨⟨g1.1,ha⟩,⟨g2.1,hk⟩,?_⟩
      rw [i64_in (k+1) (by omega),i64_in (at1+1) (by omega)]
      have hdl:=Zpe hkn
      have hdf:=Zpe han
      have hlk:l.getD k.toNat Zyt∈l.drop k.toNat:=by rw [hdl]; simp
      have hfa:f.getD at1.toNat Zyt∈f.drop at1.toNat:=by rw [hdf]; simp
      have hfm:f.getD at1.toNat Zyt∈f:=Zz5 hfa
      have tk:∀ t,t∈f.take at1.toNat→t.mono≠l.getD k.toNat Zyt:=fun t ht=>Zcn (Zpd hs (g5 t ht) hlk)
      have t2:∀ t,t∈f.drop (at1.toNat+1)→pcmp (f.getD at1.toNat Zyt).mono t.mono < 0:=fun t ht=>by
        have hp:=hc.1.sublist (List.drop_sublist at1.toNat f)
        rw [hdf] at hp
        exact(Zzy.1 hp).1 t ht
      have step:∀ t:Term,t.mono∈l.drop k.toNat→t.mono≠l.getD k.toNat Zyt→t.mono∈l.drop (k.toNat+1):=fun t h1 h2=>by
        rw [hdl] at h1
        rcases Zyz.1 h1 with q | q
        · exact absurd q h2
        · exact q
      have takeS:∀ t:Term,t.mono∈l.take k.toNat→t.mono∈l.take (k.toNat+1):=fun t h1=>by
        rw [J4 hkn]; exact ZA1 _ h1
      by_cases q:(f.getD at1.toNat Zyt).mono=l.getD k.toNat Zyt
      · refine Yx q ⟨⟨g1.1,ha⟩,⟨g2.1,by rw [g3]; exact hk⟩,hn _ ⟨by dsimp only; omega,by dsimp only; omega,by dsimp only; rw [List.length_set]; exact g3,fun j hj=>?_,fun t ht=>?_,fun t ht=>?_⟩ (by dsimp only; omega)⟩
        · dsimp only
          rw [Zk9 (by omega),ki]
          by_cases e:j=k.toNat
          · subst e
            rw [if_pos rfl,if_pos (by omega),← q,Zpc hc hfm]
          · rw [if_neg e,g4 j hj]
            by_cases c:j < k.toNat
            · rw [if_pos c,if_pos (by omega)]
            · rw [if_neg c,if_neg (by omega)]
        · dsimp only at ht ⊢
          rw [ai,J4 han] at ht
          rw [ki]
          rcases Zzu.1 ht with z | z
          · exact takeS t (g5 t z)
          · obtain rfl:=ZAs.1 z
            rw [J4 hkn,q]; simp
        · dsimp only at ht ⊢
          rw [ai] at ht
          rw [ki]
          exact step t (g6 t (by rw [hdf]; exact ZW3 _ ht)) (fun z=>Zcn (t2 t ht) (by rw [q,z]))
      · have hz : ∀ t, t ∈ f → t.mono ≠ l.getD k.toNat Zyt := fun t ht => by
          rw [← ZCk at1.toNat f] at ht
          rcases Zzu.1 ht with z | z
          · exact tk t z
          · rw [hdf] at z
            rcases Zyz.1 z with rfl | z
            · exact q
            · intro e
              have h1:=step _ (g6 _ hfa) q
              have h2:pcmp (l.getD k.toNat Zyt) (f.getD at1.toNat Zyt).mono < 0:=by
                have hp:=hs.sublist (List.drop_sublist k.toNat l)
                rw [hdl] at hp
                exact(Zzy.1 hp).1 _ h1
              have h3:=t2 t z
              rw [e] at h3
              exact Zke h2 h3
        refine Y4 q (hn _ ⟨by dsimp only; omega,by dsimp only; omega,g3,fun j hj=>?_,fun t ht=>?_,fun t ht=>?_⟩ (by dsimp only; omega))
        · dsimp only
          rw [g4 j hj,ki]
          by_cases e:j=k.toNat
          · subst e
            rw [if_neg (by omega),if_pos (by omega),Zdm hz]
          · by_cases c:j < k.toNat
            · rw [if_pos c,if_pos (by omega)]
            · rw [if_neg c,if_neg (by omega)]
        · dsimp only at ht ⊢
          rw [ki]; exact takeS t (g5 t ht)
        · dsimp only at ht ⊢
          rw [ki]; exact step t (g6 t ht) (hz t (Zz5 ht))
    · refine Y4 ha (fin fun j hj hjk=>Zdm fun t ht=>?_)
      have:t∈f.take at1.toNat:=by rw [Zzz (by omega)]; exact ht
      refine Zcn (Zpd hs (g5 t this) ?_)
      rw [List.mem_iff_getElem]
      exact⟨j - k.toNat,by rw [List.length_drop]; omega,by rw [List.getElem_drop]; simp [Zzm,hj,show k.toNat+(j - k.toNat)=j by omega]⟩
  · exact Y4 hk (fin fun j hj hjk=>by omega)
end Go.Proofs.YtaagfepgbofmlaaGreat
namespace Go.Proofs.YtaagfepgbofmlaaGreat
open Go Vc
def Ti (e:Elem) (i:Nat):List Term:=if(i:Int)=e.gen then [⟨e.mono,1⟩] else []
def Zbr (n:Nat) (e:Elem):List (List Term):=(Zzj n).map (Ti e)
def sgK (k:Int):Int:=if k % 2=1 then 1 else 10006
def ze (a:Alg) (k:Int) (e:Elem) (i:Nat) (x:A8):Int :=
  (tot (fun t=>dT a.degrees (imgsT a) t.mono t.factor x) (Ti e i)+sgK k * aT1 a.degrees k (Zbr a.degrees.length e) (a.images.getD i Zyt).terms x) % 10007
theorem Zpf {a b c d:Int} (k:Int) (h1:a % 10007=b % 10007) (h2:c % 10007=d % 10007):(a+k * c) % 10007=(b+k * d) % 10007:=by
  rw [ZOr,ZOo k c,h1,h2,← ZOo,← ZOr]
theorem Zx2 {l:List Term} {q:Nat} (hq:q < l.length):l.getD q Zyt=l[q]:=by simp [Zzm,hq]
theorem Zpg (k:Int):0≤sgK k∧sgK k≤10006:=by unfold sgK; split <;> omega
theorem Zph {n:Nat} {e:Elem} {i:Nat} (h:i < n):(Zbr n e).getD i Zyt=Ti e i:=by simp [Zbr,Zzm,h]
theorem Zd6 (n:Nat) (k:Int) (e:Elem):(Zan n k e).images.length=n:=by show ((Zy0 n _).set _ _).length=n; rw [List.length_set,ZXa]
theorem Zlv {n:Nat} {k:Int} {e:Elem} (he:0≤e.gen∧e.gen < n) {i:Nat} (h:i < n):(Zan n k e).images.getD i Zyt=⟨Ti e i⟩:=by
  show ((Zy0 n (⟨[]⟩:ZIb)).set e.gen.toNat ⟨[⟨e.mono,1⟩]⟩).getD i Zyt=_
  simp only [Zzm]
  by_cases q:(i:Int)=e.gen
  · have:i=e.gen.toNat:=by omega
    rw [← this,List.getElem?_set_self (by simpa using h)]
    simp [Ti,q]
  · rw [List.getElem?_set_ne (by omega)]
    simp [Ti,q,h]
theorem Zx3 {n:Nat} {k:Int} {e:Elem} (he:0≤e.gen∧e.gen < n):(Zan n k e).images.map (·.terms)=Zbr n e:=by
  refine ZBg (by rw [ZO3,Zd6]; simp [Zbr]) fun i h1 h2=>?_
  have hi:i < n:=by rw [ZO3,Zd6] at h1; exact h1
  have:=Zlv (k:=k) he hi
  rw [List.getElem_map]
  rw [show (Zan n k e).images.getD i Zyt=(Zan n k e).images[i]'(by rw [Zd6]; exact hi) by simp [Zzm,Zd6,hi]] at this
  rw [this]; simp [Zbr]
structure OkE (ds:List Int) (k:Int) (e:Elem):Prop where
  gen:0≤e.gen∧e.gen < ds.length
  mem:e.mono∈mons ds (ds.getD e.gen.toNat Zyt - k)
theorem Zlw {ds:List Int} {k:Int} (hd:OkDeg ds):∀ n,n≤ds.length→∀ e,e∈Jd ds k n→OkE ds k e:=by
  intro n
  induction n with
  | zero=>intro _ e he; simp [Jd] at he
  | succ n ih =>
    intro hn e he
    rw [Jd] at he
    rcases Zzu.1 he with q | q
    · exact ih (by omega) e q
    · obtain ⟨m,hm,rfl⟩:=Zy2.1 q
      exact⟨⟨by dsimp only; omega,by dsimp only; omega⟩,by dsimp only; rw [ZVz]; exact hm⟩
theorem Zho {ds:List Int} {k:Int} {e:Elem} (hd:OkDeg ds) (he:OkE ds k e) (i:Nat):OkForm ds (Ti e i)∧FitT (Ti e i):=by
  obtain ⟨o1,o2,o3⟩:=Zpa hd he.mem
  unfold Ti
  split
  · refine⟨⟨by simp,fun j hj=>?_⟩,fun t ht=>?_⟩
    · obtain rfl:j=0:=by simpa using hj
      exact⟨o1,by simp,fun h=>absurd h (by omega)⟩
    · obtain rfl:=ZAs.1 ht; exact Zxw o3
  · exact⟨⟨by simp,fun j hj=>by simp at hj⟩,fun t ht=>by simp at ht⟩
theorem Zpi {e:Elem} {i:Nat} {t:Term} (h:t∈Ti e i):(i:Int)=e.gen∧t.mono=e.mono:=by
  unfold Ti at h
  split at h
  · rename_i q; obtain rfl:=ZAs.1 h; exact⟨q,rfl⟩
  · simp at h
theorem Zpj {n:Nat} {e:Elem} {j:Nat} {u:Term} (h:u∈(Zbr n e).getD j Zyt):j < n∧(j:Int)=e.gen∧u.mono=e.mono:=by
  by_cases hj:j < n
  · rw [Zph hj] at h
    exact⟨hj,Zpi h⟩
  · simp [Zbr,Zzm,hj] at h
    cases h
structure ZF (a:Alg) (k:Int) (e:Elem) (i:Nat) (l:List Term):Prop where
  can:Canon l
  cf:∀ x,coT l x=ze a k e i x
  mem:∀ t,t∈l→t.mono∈mons a.degrees (a.degrees.getD i Zyt - (k - 1))
theorem Zx4 {a : Alg} {k : Int} {e : Elem} {K : Der → Prop} (ok : OkAlg a) (hf : Zbo a) (hk : 1 ≤ k ∧ k ≤ 12) (he : OkE a.degrees k e) (h : ∀ fs : List ZIb, fs.length = a.degrees.length → (∀ i, i < a.degrees.length → ZF a k e i (fs.getD i Zyt).terms) → K ⟨k - 1, fs⟩) : Zha a (Zan a.degrees.length k e) K := by
  have hd:=ok.deg
  have h8:=hd.1
  have ha:=ok.algF hf
  have hl:=ok.len
  obtain ⟨o1,o2,o3⟩:=Zpa hd he.mem
  unfold Zha
  rw [Zd6]
  have hdr:(Zan a.degrees.length k e).drop=k:=rfl
  rw [hdr,i64_in (k - 1) (by omega)]
  refine X9 (fun (s:List ZIb×Int)=>(0≤s.2∧s.2≤a.degrees.length)∧s.1.length=s.2.toNat∧∀ i,i < s.2.toNat→ZF a k e i (s.1.getD i Zyt).terms) (fun s=>a.degrees.length - s.2.toNat) ?_ ⟨by dsimp only; omega,rfl,fun i hi=>absurd hi (by dsimp only; omega)⟩
  rintro ⟨fs,i⟩ next ⟨g1,g2,g3⟩ hn
  dsimp only at g1 g2 g3 hn ⊢
  by_cases hi:i < (a.degrees.length:Int)
  · have hin:i.toNat < a.degrees.length:=by omega
    have hii:i.toNat < a.images.length:=by omega
    have hdi:=hd.2 i.toNat hin
    refine Yx hi ⟨⟨g1.1,hi⟩,⟨g1.1,by omega⟩,?_⟩
    rw [Zlv he.gen hin,i64_in (i+1) (by omega)]
    obtain ⟨tf,tt⟩:=Zho hd he i.toNat
    refine Zob ha tf tt fun dout hD lD=>?_
    have hfi:=ok.frm i.toNat hii
    have ffi:=(hf i.toNat hii).1
    have eI:a.images.getD i.toNat Zyt=⟨(a.images.getD i.toNat Zyt).terms⟩:=rfl
    rw [eI]
    refine Zw0 (t:=Zan a.degrees.length k e) hd (Zd6 _ _ _) (fun j hj=>?_) hfi ffi (by rw [hdr]; omega) fun aout hA=>?_
    · rw [Zd6] at hj
      rw [Zlv he.gen hj]; exact Zho hd he j
    rw [Zx3 he.gen,hdr] at hA
    refine Zw9 (by omega) ?_
    have lA:=hA.ln
    have l4:=hfi.1
    refine Zgw (k:=sgK k) hD.can hA.can (Zpg k) (by omega) (by omega) fun out ho=>⟨?_,hn _ ⟨by dsimp only; omega,by dsimp only; rw [ZBe,ZW0]; omega,fun j hj=>?_⟩ (by dsimp only; omega)⟩
    · unfold Yo; omega
    · dsimp only at hj ⊢
      by_cases q:j < i.toNat
      · have:(fs++[(⟨out⟩:ZIb)]).getD j Zyt=fs.getD j Zyt:=by simp only [Zzm]; rw [List.getElem?_append_left (by omega)]
        rw [this]; exact g3 j q
      · obtain rfl:j=i.toNat:=by omega
        have:(fs++[(⟨out⟩:ZIb)]).getD i.toNat Zyt=⟨out⟩:=by simp only [Zzm]; rw [List.getElem?_append_right (by omega),g2]; simp
        rw [this]
        refine⟨ho.can,fun x=>?_,fun t ht=>?_⟩
        · have hr:=ho.can.range x
          have e1:=ho.cf x
          show coT out x=_
          unfold ze
          rw [Zpf (sgK k) (hD.cf x).symm (hA.cf x).symm,← e1]; omega
        · have small:∀ j u,u∈(Zbr a.degrees.length e).getD j Zyt→OkMono a.degrees u.mono∧∀ i,i < 8→0≤u.mono.get i∧u.mono.get i≤20:=fun j u hu=>by
            rw [(Zpj hu).2.2]; exact⟨o1,o3⟩
          have smallI:∀ j u,u∈(imgsT a).getD j Zyt→OkMono a.degrees u.mono∧∀ i,i < 8→0≤u.mono.get i∧u.mono.get i≤20:=fun j u hu=>by
            by_cases hj:j < a.images.length
            · rw [Zdy a hj] at hu
              have:=(ok.frm j hj).mono hu
              exact⟨this,Zb1 (Zbe this) ((ha.fit j hj).pos u hu)⟩
            · simp [imgsT,Zzm,hj] at hu; cases hu
          have hgn:e.gen.toNat < a.degrees.length:=by have:=he.gen; omega
          have homI:∀ j u,u∈(imgsT a).getD j Zyt→j < a.degrees.length→wtU a.degrees u.mono a.degrees.length=a.degrees.getD j Zyt+1:=fun j u hu hj=>by
            rw [Zdy a (by omega)] at hu
            obtain ⟨q,hq,rfl⟩:=List.getElem_of_mem hu
            have:=ok.hom j (by omega) q hq
            rwa [Zx2 hq] at this
          obtain ⟨y,hy,ey⟩:=ho.mo t ht
          rw [← ey]
          rcases hy with hy | hy
          · obtain ⟨s,hs,hm⟩:=hD.mo y hy
            obtain ⟨eg,em⟩:=Zpi hs
            rw [em] at hm
            obtain ⟨w1,w2⟩:=Zxz h8 o1 o3 smallI hm
            obtain ⟨j,u,hj,_,hu,ew⟩:=Zxy h8 o1 hm
            rw [homI j u hu hj,o2] at ew
            refine Zpb hd w1 w2 ?_ (by omega)
            rw [ew,show e.gen.toNat=i.toNat by omega]; omega
          · obtain ⟨s,hs,hm⟩:=hA.mo y hy
            have sm:=hfi.mono hs
            have s20:=Zb1 (Zbe sm) (ffi.pos s hs)
            obtain ⟨w1,w2⟩:=Zx0 h8 sm s20 small hm
            obtain ⟨j,u,hj,hu,ew⟩:=Zxb h8 hm
            obtain ⟨_,ej,eu⟩:=Zpj hu
            have hw:=homI i.toNat s (by rw [Zdy a hii]; exact hs) hin
            rw [eu,o2,hw,show e.gen.toNat=j by omega] at ew
            exact Zpb hd w1 w2 (by rw [ew]; omega) (by omega)
  · refine Y4 hi (h fs (by rw [g2]; omega) fun j hj=>g3 j (by omega))
theorem Zpk {n:Nat} {e:Elem} {i:Nat} (h:i < n):IsMap (Ti e i) ((Ze3 n e).getD i Zyt):=by
  have:(Ze3 n e).getD i Zyt=if(i:Int)=e.gen then Zz ([]:List (A8×Int)) e.mono 1 else []:=by simp [Ze3,Zzm,h]
  rw [this]
  unfold Ti
  split
  · exact Zk8 (Zjb _) (Zgy _) fun x=>by show co [(e.mono,1)] x % 10007=_; simp [co,coT,tot]
  · exact⟨MapOk.nil,fun x=>rfl,by simp⟩
theorem Zx5 {m:List (A8×Int)} (h:MapOk m) (x:A8):0≤co m x∧co m x≤10006:=by
  obtain ⟨l,hl,e,_⟩:=Zoc h
  rw [← e]; exact hl.range x
theorem Zx6 {a : Alg} {k : Int} {e : Elem} {K : Int → List (List (A8 × Int)) → Prop} (ok : OkAlg a) (hf : Zbo a) (hk : 1 ≤ k ∧ k ≤ 12) (he : OkE a.degrees k e) (h : ∀ ms : List (List (A8 × Int)), ms.length = a.degrees.length → (∀ i, i < a.degrees.length → MapOk (ms.getD i []) ∧ ∀ x, co (ms.getD i []) x = ze a k e i x) → K (k - 1) ms) : Zhh (⟨a, k, Ze3 a.degrees.length e⟩ : ZVu) K := by
  have hd:=ok.deg
  have h8:=hd.1
  have ha:=ok.algF hf
  have hl:=ok.len
  have hsl:(Ze3 a.degrees.length e).length=a.degrees.length:=by simp [Ze3]
  unfold Zhh
  dsimp only
  rw [i64_in (k - 1) (by omega),hsl]
  refine Xe (fun i (s:List (List (A8×Int)))=>s.length=i∧∀ j,j < i→MapOk (s.getD j [])∧∀ x,co (s.getD j []) x=ze a k e j x) a.degrees.length ?_ ?_ _ _ _ (by omega) ⟨rfl,fun j hj=>absurd hj (by omega)⟩
  · rintro i s next hi ⟨g1,g2⟩ hn
    have hii:i < a.images.length:=by omega
    obtain ⟨tf,tt⟩:=Zho hd he i
    have hfi:=ok.frm i hii
    have ffi:=(hf i hii).1
    have mT:=Zpk (n:=a.degrees.length) (e:=e) hi
    refine m_d ha mT tf tt fun dm hD=>⟨by omega,?_⟩
    have eI:a.images.getD i Zyt=⟨(a.images.getD i Zyt).terms⟩:=rfl
    rw [eI]
    refine Zk5 hfi.canon ffi fun fm hfm=>?_
    refine Zw2 (imgs:=Zbr a.degrees.length e) hd (by omega) hsl (fun j hj=>?_) hfm hfi ffi fun am hA=>?_
    · rw [Zph hj]
      exact⟨(Zho hd he j).1,(Zho hd he j).2,Zpk hj⟩
    refine Zxa (by omega) (Zk6 (k:=sgK k) hD.ok hA.ok (Zpg k) fun out ho=>⟨by unfold Yo; omega,hn _ ⟨by rw [ZBe,g1]; rfl,fun j hj=>?_⟩⟩)
    by_cases q:j < i
    · have:(s++[out]).getD j []=s.getD j []:=by simp only [Zzm]; rw [List.getElem?_append_left (by omega)]
      rw [this]; exact g2 j q
    · obtain rfl:j=i:=by omega
      have:(s++[out]).getD j []=out:=by simp only [Zzm]; rw [List.getElem?_append_right (by omega),g1]; simp
      rw [this]
      refine⟨ho.ok,fun x=>?_⟩
      have hr:=Zx5 ho.ok x
      have e1:=ho.cf x
      have e2:co dm x % 10007=tot (fun t=>dT a.degrees (imgsT a) t.mono t.factor x) (Ti e j) % 10007:=by
        rw [hD.cf,Zgx mT tf.canon (fun m n=>dT a.degrees (imgsT a) m n x) (fun m=>Zkj _ _ _ _)]
      have e3:co am x % 10007=aT1 a.degrees k (Zbr a.degrees.length e) (a.images.getD j Zyt).terms x % 10007:=by
        rw [hA.cf,aT1,Zgx hfm hfi.canon (fun m n=>n * aP a.degrees k (Zbr a.degrees.length e) m x a.degrees.length) (fun m=>ZWh _)]
      unfold ze
      rw [Zpf (sgK k) e2.symm e3.symm,← e1]; omega
  · rintro s ⟨g1,g2⟩
    exact h s g1 g2
def Zbf (a:Alg) (k:Int) (e:Elem) (n:Nat):List Int:=(Jd a.degrees (k - 1) n).map fun f=>ze a k e f.gen.toNat f.mono
def Zcd (a:Alg) (k:Int):List (List Int):=(Jd a.degrees k a.degrees.length).map fun e=>Zbf a k e a.degrees.length
theorem Zx7 {a : Alg} {k : Int} {e : Elem} {fs : List ZIb} {K : List Int → Prop} (ok : OkAlg a) (hk : 1 ≤ k ∧ k ≤ 12) (ht : Xa a.degrees (k - 1) a.degrees.length ≤ 120) (hl : fs.length = a.degrees.length) (hz : ∀ i, i < a.degrees.length → ZF a k e i (fs.getD i Zyt).terms) (h : K (Zbf a k e a.degrees.length)) : Zg6 a (⟨k - 1, fs⟩ : Der) K := by
  have hd:=ok.deg
  have h8:=hd.1
  unfold Zg6
  dsimp only
  refine X9 (fun (s:List Int×Int)=>(0≤s.2∧s.2≤a.degrees.length)∧s.1=Zbf a k e s.2.toNat) (fun s=>a.degrees.length - s.2.toNat) ?_ ⟨by dsimp only; omega,rfl⟩
  rintro ⟨row,i⟩ next ⟨g1,g2⟩ hn
  dsimp only at g1 g2 hn ⊢
  subst g2
  by_cases hi:i < (a.degrees.length:Int)
  · have hin:i.toNat < a.degrees.length:=by omega
    have hdi:=hd.2 i.toNat hin
    have hm1:=Zlt a.degrees (k - 1) (i.toNat+1) a.degrees.length (by omega)
    rw [Xa] at hm1
    refine Yx hi ⟨⟨g1.1,hi⟩,?_⟩
    rw [i64_in (i+1) (by omega),Zjm hd (k:=k - 1) (by omega) hin]
    have hstep:Zbf a k e (i+1).toNat=Zbf a k e i.toNat++(Jl a.degrees (k - 1) i.toNat).map (fun m=>ze a k e i.toNat m):=by
      rw [show (i+1).toNat=i.toNat+1 by omega,Zbf,Jd,ZV7,List.map_map]
      congr 1
    have hlen:(Zbf a k e i.toNat).length=Xa a.degrees (k - 1) i.toNat:=by rw [Zbf,ZO3,Zcc]
    by_cases q:a.degrees.getD i.toNat Zyt≥k - 1
    · refine Yx q ⟨⟨g1.1,by rw [hl]; exact hi⟩,⟨g1.1,hi⟩,Zlr hd (by omega) ?_⟩
      have hmk:(Jl a.degrees (k - 1) i.toNat).length≤120:=by omega
      have et:(mons a.degrees (a.degrees.getD i.toNat Zyt - (k - 1))).take 401=Jl a.degrees (k - 1) i.toNat:=Zzz (by show (Jl a.degrees (k - 1) i.toNat).length≤401; omega)
      rw [et]
      have z:=hz i.toNat hin
      have eF:fs.getD i.toNat Zyt=⟨(fs.getD i.toNat Zyt).terms⟩:=rfl
      rw [eF]
      refine Zx1 z.can (Zxo h8 _) z.mem (by omega) ⟨?_,hn _ ⟨by dsimp only; omega,?_⟩ (by dsimp only; omega)⟩
      · rw [ZO3,hlen]; unfold Yo; omega
      · dsimp only; rw [hstep]; congr 1
        exact List.map_congr_left fun m _=>z.cf m
    · refine Y4 q (hn _ ⟨by dsimp only; omega,?_⟩ (by dsimp only; omega))
      dsimp only
      have e0:Jl a.degrees (k - 1) i.toNat=[]:=by unfold Jl mons; rw [if_pos (by omega)]
      rw [hstep,e0,List.map_nil,List.append_nil]
  · refine Y4 hi ?_
    rw [show i.toNat=a.degrees.length by omega]; exact h
theorem Zpl {a:Alg} {k:Int} {K:List (List Int)→Prop} (ok:OkAlg a) (hf:Zbo a) (hk:1≤k∧k≤12) (ht0:Xa a.degrees k a.degrees.length≤120) (ht:Xa a.degrees (k - 1) a.degrees.length≤120) (h:K (Zcd a k)):Zex a k K:=by
  have hd:=ok.deg
  unfold Zex
  refine Zxu hd (by omega) ht0 ?_
  have hlen:=Zcc a.degrees k a.degrees.length
  refine Xe (fun i s=>s=((Jd a.degrees k a.degrees.length).take i).map (fun e=>Zbf a k e a.degrees.length)) (Jd a.degrees k a.degrees.length).length ?_ ?_ _ _ _ (by rw [ZO3]; omega) (by simp)
  · rintro i s next hi rfl hn
    have he:((Jd a.degrees k a.degrees.length).map (Zan a.degrees.length k)).getD i Zyt=Zan a.degrees.length k ((Jd a.degrees k a.degrees.length).getD i Zyt):=by simp [Zzm,hi]
    rw [he]
    have oe:=Zlw (k:=k) hd _ (Zy1 _) _ (Ja hi)
    refine Zx4 (a:=⟨a.degrees,a.images⟩) ok hf hk oe fun fs hl hz=>Zx7 (a:=⟨a.degrees,a.images⟩) ok hk ht hl hz ⟨?_,hn _ ?_⟩
    · rw [ZO3,ZOn]; unfold Yo; omega
    · rw [Zhn _ hi]
  · rintro s rfl
    rw [Zzz (Zy1 _)]; exact h
theorem Zlx {a : Alg} {k : Int} {K : List (List Int) → Int → Prop} (ok : OkAlg a) (hf : Zbo a) (hk : 1 ≤ k ∧ k ≤ 12) (h0 : Xa a.degrees k a.degrees.length ≤ 120 → Xa a.degrees (k - 1) a.degrees.length ≤ 120 → K (Zcd a k) 0) (h1 : ¬ (Xa a.degrees k a.degrees.length ≤ 120 ∧ Xa a.degrees (k - 1) a.degrees.length ≤ 120) → K [] 3) : Ze0 a k K := by
  have hd:=ok.deg
  have h8:=hd.1
  unfold Ze0
  rw [i64_in (k - 1) (by omega)]
  refine Zlu hd (by omega) (fun t0=>?_) (fun n0=>?_)
  · refine Zlu hd (by omega) (fun t1=>Zcb ?_) (fun n1=>Zcb ?_)
    · refine Y4 (by decide) ?_
      have hlen:=Zcc a.degrees k a.degrees.length
      have hlen1:=Zcc a.degrees (k - 1) a.degrees.length
      refine Xe (fun i s=>s=((Jd a.degrees k a.degrees.length).take i).map (fun e=>Zbf a k e a.degrees.length)) (Jd a.degrees k a.degrees.length).length ?_ ?_ _ _ _ (by omega) (by simp)
      · rintro i s next hi rfl hn
        have oe:=Zlw (k:=k) hd _ (Zy1 _) _ (Ja hi)
        generalize hE:(Jd a.degrees k a.degrees.length).getD i Zyt=e at oe ⊢
        refine Xe (fun j (t:List (List (A8×Int)))=>t=(Zzj j).map fun (q:Nat)=>if(q:Int)=e.gen then Zz ([]:List (A8×Int)) e.mono 1 else []) a.degrees.length ?_ ?_ _ _ _ (by omega) rfl
        · rintro j t nx hj rfl hnx
          by_cases q:(j:Int)=e.gen
          · refine Yx q ⟨by simp [Yo]; omega,hnx _ ?_⟩
            rw [Zo8,if_pos q]
          · refine Y4 q ⟨by simp [Yo]; omega,hnx _ ?_⟩
            rw [Zo8,if_neg q]
        · rintro t rfl
          refine Zx6 ok hf hk oe fun ms hml hms=>?_
          refine Xe (fun j (r:List Int)=>r=((Jd a.degrees (k - 1) a.degrees.length).take j).map fun f=>ze a k e f.gen.toNat f.mono) (Jd a.degrees (k - 1) a.degrees.length).length ?_ ?_ _ _ _ (by omega) (by simp)
          · rintro j r nx hj rfl hnx
            have of:=Zlw (k:=k - 1) hd _ (Zy1 _) _ (Ja hj)
            have hg:=of.gen
            refine⟨⟨hg.1,by rw [hml]; exact hg.2⟩,?_,hnx _ ?_⟩
            · rw [ZO3,ZOn]; unfold Yo; omega
            · obtain ⟨mo,mc⟩:=hms _ (show ((Jd a.degrees (k - 1) a.degrees.length).getD j Zyt).gen.toNat < a.degrees.length by omega)
              rw [Zhn _ hj,Zdn mo.1,mc]
          · rintro r rfl
            rw [ZV8]
            refine⟨?_,hn _ ?_⟩
            · rw [ZO3,ZOn]; unfold Yo; omega
            · rw [Zhn _ hi,hE]; rfl
      · rintro s rfl
        rw [ZV8]; exact h0 t0 t1
    · exact Yx (by decide) (h1 (fun z=>n1 z.2))
  · refine Zlu hd (by omega) (fun t1=>Zcb ?_) (fun n1=>Zcb ?_) <;> exact Yx (by decide) (h1 (fun z=>n0 z.1))
theorem Zx8 {a : Alg} {k hi : Int} {more : Int} {K : Int → Prop} (hf : Zbo a) (hh : 1 ≤ hi ∧ hi + more ≤ 12) (hm : 0 ≤ more) (h1 : ¬ OkAlg a → K 1) (h2 : OkAlg a → ¬ (1 ≤ k ∧ k ≤ hi) → K 2) (h3 : OkAlg a → (1 ≤ k ∧ k ≤ hi) → ¬ (∀ n : Int, k - 1 ≤ n → n ≤ k + more → Xa a.degrees n a.degrees.length ≤ 120) → K 3) (h0 : OkAlg a → (1 ≤ k ∧ k ≤ hi) → (∀ n : Int, k - 1 ≤ n → n ≤ k + more → Xa a.degrees n a.degrees.length ≤ 120) → K 0) : Zg3 a k 1 hi more K := by
  unfold Zg3
  refine Zux hf (fun ok=>?_) (fun no=>Yx (by simp) (h1 no))
  refine Y4 (by simp) (Zky ?_)
  by_cases hk:1≤k∧k≤hi
  · rw [decide_eq_true hk]
    refine Y4 (by simp) ?_
    rw [i64_in (k - 1) (by omega),i64_in (k+more) (by omega),if_neg (by omega)]
    refine X9 (fun (s:Int)=>(k - 1≤s∧s≤k+more+1)∧∀ n:Int,k - 1≤n→n < s→Xa a.degrees n a.degrees.length≤120) (fun s=>(k+more+2 - s).toNat) ?_ ⟨by omega,fun n q1 q2=>by omega⟩
    rintro s next ⟨g1,g2⟩ hn
    by_cases q:s≤k+more
    · refine Yx q ?_
      rw [i64_in (s+1) (by omega)]
      have go:Zd2 a s (fun r=>if r > 120 then K 3 else next (s+1)):=by
        refine Zxt ok.deg (by omega) ?_
        have ht:=Zo7 a.degrees s a.degrees.length
        by_cases q3:((Zas a.degrees s a.degrees.length:Nat):Int) > 120
        · refine Yx q3 (h3 ok hk fun z=>?_)
          have:=ht.2 (z s g1.1 q); omega
        · refine Y4 q3 (hn _ ⟨by omega,fun n q1 q2=>?_⟩ (by omega))
          by_cases c:n=s
          · subst c; exact ht.1 (by omega)
          · exact g2 n q1 (by omega)
      by_cases q2:s≥k
      · exact Yx q2 go
      · exact Y4 q2 (Yx (by decide) go)
    · exact Y4 q (h0 ok hk fun n q1 q2=>g2 n q1 (by omega))
  · rw [decide_eq_false hk]
    exact Yx (by simp) (h2 ok hk)
end Go.Proofs.YtaagfepgbofmlaaGreat
namespace Vc
abbrev Vec:=Nat→Int
inductive Sp (S:Vec→Prop):Vec→Prop
  | zero {u:Vec}:(∀ j,u j % 10007=0)→Sp S u
  | add {r v u:Vec} (k:Int):S r→Sp S v→(∀ j,u j % 10007=(v j+k * r j) % 10007)→Sp S u
theorem Zpm {a b c d:Int} (k:Int) (h1:a % 10007=b % 10007) (h2:c % 10007=d % 10007):(a+k * c) % 10007=(b+k * d) % 10007:=by
  rw [ZOr,ZOo k c,h1,h2,← ZOo,← ZOr]
theorem Sp.cong {S:Vec→Prop} {u v:Vec} (h:Sp S u) (e:∀ j,v j % 10007=u j % 10007):Sp S v:=by
  cases h with
  | zero z=>exact .zero fun j=>by rw [e,z]
  | add k hr hv q=>exact .add k hr hv fun j=>by rw [e,q]
theorem Sp.nil (S:Vec→Prop):Sp S (fun _=>0):=.zero fun _=>rfl
theorem Sp.gen {S:Vec→Prop} {r:Vec} (h:S r):Sp S r:=.add 1 h (Sp.nil S) fun j=>by simp
theorem Sp.sum {S:Vec→Prop} {u v:Vec} (k:Int) (hu:Sp S u) (hv:Sp S v):∀ {w:Vec}, (∀ j,w j % 10007=(u j+k * v j) % 10007)→Sp S w:=by
  induction hv with
  | @zero v z=>intro w e; exact hu.cong fun j=>by rw [e,ZOr,ZOo,z]; simp
  | @add r v' u' k' hr hv q ih =>
    intro w e
    refine .add (k * k') hr (ih (w:=fun j=>u j+k * v' j) fun _=>rfl) fun j=>?_
    rw [e,Zpm k rfl (q j)]
    congr 1
    rw [ZV5,ZVx]
    omega
theorem Sp.mono {S T:Vec→Prop} (h:∀ r,S r→Sp T r) {u:Vec} (hu:Sp S u):Sp T u:=by
  induction hu with
  | zero z=>exact .zero z
  | add k hr hv q ih=>exact ih.sum k (h _ hr) q
def vec (a:List Int):Vec:=fun j=>a.getD j 0
def ld:List Int→Nat
  | []=>0
  | x::xs=>if x=0 then ld xs+1 else 0
theorem Zpn (x:Int) (xs:List Int) (j:Nat):vec (x::xs) (j+1)=vec xs j:=rfl
theorem Za7 {a:List Int} {j:Nat} (h:a.length≤j):vec a j=0:=by simp [vec,Zzm,List.getElem?_eq_none h]
theorem Zce {a:List Int} {j:Nat} (h:j < a.length):vec a j=a[j]:=by simp [vec,Zzm,h]
theorem Za8:∀ {a:List Int} {q:Nat}, q < ld a→vec a q=0
  | [],q,h=>by simp [ld] at h
  | x :: xs, q, h => by
    unfold ld at h
    split at h
    · rename_i e
      cases q with
      | zero=>exact e
      | succ q=>rw [Zpn]; exact Za8 (by omega)
    · omega
theorem Zly:∀ {a:List Int}, ld a < a.length→vec a (ld a)≠0
  | [],h=>by simp at h
  | x :: xs, h => by
    unfold ld at h ⊢
    split
    · rename_i e
      rw [if_pos e] at h
      rw [Zpn]; exact Zly (by simp at h; omega)
    · rename_i e; exact e
theorem Zpo {a:List Int} {k:Nat} (h:vec a k≠0):k < a.length:=Nat.lt_of_not_le fun z=>h (Za7 z)
theorem Zjn {a:List Int} {k:Nat} (h1:∀ q,q < k→vec a q=0) (h2:vec a k≠0):ld a=k:=by
  have hk:=Zpo h2
  rcases ZWi (ld a) k with q | q | q
  · exact absurd (h1 _ q) (Zly (by omega))
  · exact q
  · exact absurd (Za8 q) h2
structure RowOk (n:Nat) (a:List Int):Prop where
  len:a.length=n
  rng:∀ j,0≤vec a j∧vec a j≤10006
theorem RowOk.mod {n:Nat} {a:List Int} (h:RowOk n a) (j:Nat):vec a j % 10007=vec a j:=by have:=h.rng j; omega
theorem Zlz {a b:List Int} (hl:a.length=b.length) (h:∀ j,vec a j=vec b j):a=b:=by
  refine ZBg hl fun i h1 h2=>?_
  have:=h i
  rwa [Zce h1,Zce h2] at this
theorem RowOk.ext {n:Nat} {a b:List Int} (ha:RowOk n a) (hb:RowOk n b) (h:∀ j,vec a j % 10007=vec b j % 10007):a=b :=
  Zlz (ha.len.trans hb.len.symm) fun j=>by have:=h j; rwa [ha.mod,hb.mod] at this
def subR (k:Int) (a b:List Int):List Int:=List.zipWith (fun x y=>(x - k * y) % 10007) a b
theorem Zhp {k:Int} {a b:List Int} (h:a.length=b.length):(subR k a b).length=a.length:=by simp [subR,h]
theorem Zbg {k:Int} {a b:List Int} (h:a.length=b.length) (j:Nat):vec (subR k a b) j=(vec a j - k * vec b j) % 10007:=by
  by_cases hj:j < a.length
  · rw [Zce (by rw [Zhp h]; exact hj),Zce hj,Zce (by omega)]
    simp [subR]
  · rw [Za7 (by rw [Zhp h]; omega),Za7 (by omega),Za7 (by omega)]; simp
theorem Zhq {n:Nat} {k:Int} {a b:List Int} (ha:RowOk n a) (hb:RowOk n b):RowOk n (subR k a b):=by
  have h:=ha.len.trans hb.len.symm
  exact⟨by rw [Zhp h,ha.len],fun j=>by rw [Zbg h]; omega⟩
theorem Zjo {n:Nat} {a b:List Int} (ha:RowOk n a) (hb:RowOk n b):subR 0 a b=a:=by
  have h:=ha.len.trans hb.len.symm
  refine(Zhq ha hb).ext ha fun j=>?_
  rw [Zbg h]; simp
def Xw (k:Int) (a:List Int):List Int:=a.map fun x=>x * k % 10007
theorem Zbs (k:Int) (a:List Int) (j:Nat):vec (Xw k a) j=vec a j * k % 10007:=by
  by_cases hj:j < a.length
  · rw [Zce (by simpa [Xw] using hj),Zce hj]; simp [Xw]
  · rw [Za7 (by simp [Xw]; omega),Za7 (by omega)]; simp
theorem Ze4 {n:Nat} {k:Int} {a:List Int} (ha:RowOk n a):RowOk n (Xw k a):=⟨by simp [Xw,ha.len],fun j=>by rw [Zbs]; omega⟩
def tt {α:Type} (f:α→Int):List α→Int
  | []=>0
  | a::l=>f a+tt f l
theorem Zpp {α:Type} {f:α→Int}:∀ {l:List α}, (∀ a,a∈l→f a=0)→tt f l=0
  | [],_=>rfl
  | a::l,h=>by simp only [tt]; rw [h a (by simp),Zpp fun b hb=>h b (by simp [hb])]; rfl
theorem Zl0 {α:Type} {f:α→Int}:∀ {l:List α}, (∀ a,a∈l→f a % 10007=0)→tt f l % 10007=0
  | [],_=>rfl
  | a :: l, h => by
    have h1:=h a (by simp)
    have h2:=Zl0 (f:=f) (l:=l) fun b hb=>h b (by simp [hb])
    simp only [tt]; omega
theorem Zpq {α:Type} {f g e:α→Int} (k:Int):∀ {l:List α}, (∀ a,a∈l→e a % 10007=(f a+k * g a) % 10007)→tt e l % 10007=(tt f l+k * tt g l) % 10007
  | [],_=>by simp [tt]
  | a :: l, h => by
    have h1:=h a (by simp)
    have h2:=Zpq (f:=f) (g:=g) (e:=e) k (l:=l) fun b hb=>h b (by simp [hb])
    simp only [tt,ZV5]
    generalize k * g a=x at *
    generalize k * tt g l=y at *
    omega
structure Rref (n:Nat) (out:List (List Int)):Prop where
  ok:∀ a,a∈out→RowOk n a∧vec a (ld a)=1
  pw:out.Pairwise (fun a b=>ld a < ld b∧vec a (ld b)=0)
def gens (rows:List (List Int)):Vec→Prop:=fun v=>∃ a,a∈rows∧v=vec a
theorem J0 {rows:List (List Int)} {a:List Int} (h:a∈rows):Sp (gens rows) (vec a):=.gen ⟨a,h,rfl⟩
def SpEq (a b:List (List Int)):Prop:=∀ u,Sp (gens a) u↔Sp (gens b) u
theorem SpEq.refl (a:List (List Int)):SpEq a a:=fun _=>Iff.rfl
theorem SpEq.symm {a b:List (List Int)} (h:SpEq a b):SpEq b a:=fun u=>(h u).symm
theorem SpEq.trans {a b c:List (List Int)} (h:SpEq a b) (h':SpEq b c):SpEq a c:=fun u=>(h u).trans (h' u)
theorem Zl1 {a b:List (List Int)} (h1:∀ x,x∈a→Sp (gens b) (vec x)) (h2:∀ x,x∈b→Sp (gens a) (vec x)):SpEq a b:=fun u =>
  ⟨Sp.mono fun r ⟨x,hx,e⟩=>e ▸ h1 x hx,Sp.mono fun r ⟨x,hx,e⟩=>e ▸ h2 x hx⟩
theorem Zpr {q:Nat}:∀ {out:List (List Int)}, (∀ a,a∈out→vec a (ld a)=1)→out.Pairwise (fun a b=>ld a < ld b∧vec a (ld b)=0)→∀ a,a∈out→tt (fun z=>vec a (ld z) * vec z q) out=vec a q
  | [],_,_,a,ha=>by simp at ha
  | z0 :: l, h1, hp, a, ha => by
    obtain ⟨p1,p2⟩:=Zzy.1 hp
    simp only [tt]
    rcases Zyz.1 ha with rfl | ha
    · rw [h1 a (by simp),Zpp fun z hz=>by rw [(p1 z hz).2,ZWh]]; omega
    · rw [Za8 (p1 a ha).1,ZWh,ZAd]
      exact Zpr (fun b hb=>h1 b (by simp [hb])) p2 a ha
theorem Rref.comb {n:Nat} {out:List (List Int)} (h:Rref n out) {u:Vec} (hu:Sp (gens out) u) (q:Nat):u q % 10007=tt (fun z=>u (ld z) * vec z q) out % 10007:=by
  induction hu with
  | zero z=>rw [z,Zl0 fun a ha=>by rw [ZOo,z]; simp]
  | @add r v u k hr hv e ih =>
    obtain ⟨a,ha,rfl⟩:=hr
    rw [e,Zpm k ih (b:=tt (fun z=>v (ld z) * vec z q) out) (d:=tt (fun z=>vec a (ld z) * vec z q) out) (by rw [Zpr (fun b hb=>(h.ok b hb).2) h.pw a ha])]
    refine(Zpq k fun z hz=>?_).symm
    rw [ZOo,e,← ZOo,Int.add_mul,ZVx]
theorem Rref.leads {n:Nat} {out:List (List Int)} (h:Rref n out) {u:Vec} (hu:Sp (gens out) u) {q:Nat} (h0:∀ j,j < q→u j % 10007=0) (h1:u q % 10007≠0):∃ z,z∈out∧ld z=q:=by
  refine Classical.byContradiction fun no=>h1 ?_
  rw [h.comb hu]
  refine Zl0 fun z hz=>?_
  rcases ZWi (ld z) q with c | c | c
  · rw [ZOo,h0 _ c]; simp
  · exact absurd ⟨z,hz,c⟩ no
  · rw [Za8 c]; simp
theorem Rref.sep {n:Nat} {out:List (List Int)} (h:Rref n out):∀ {y z:List Int}, y∈out→z∈out→(y=z∨(ld y≠ld z∧vec z (ld y)=0)):=by
  have hp:=h.pw
  clear h
  induction out with
  | nil=>intro y z hy; simp at hy
  | cons x l ih =>
    obtain ⟨p1,p2⟩:=Zzy.1 hp
    intro y z hy hz
    rcases Zyz.1 hy with ey | hy'
    · rcases Zyz.1 hz with ez | hz'
      · exact .inl (ey.trans ez.symm)
      · have:=(p1 z hz').1; rw [ey]; exact .inr ⟨by omega,Za8 this⟩
    · rcases Zyz.1 hz with ez | hz'
      · have:=p1 y hy'; rw [ez]; exact .inr ⟨by omega,this.2⟩
      · exact ih p2 hy' hz'
theorem Zps {α : Type} {R : α → α → Prop} (hR : ∀ a b, R a b → ¬ R b a) : ∀ {a b : List α}, a.Pairwise R → b.Pairwise R → (∀ x, x ∈ a ↔ x ∈ b) → a = b
  | [],[],_,_,_=>rfl
  | [],y::b,_,_,h=>absurd ((h y).2 (by simp)) (by simp)
  | x::a,[],_,_,h=>absurd ((h x).1 (by simp)) (by simp)
  | x :: a, y :: b, ha, hb, h => by
    obtain ⟨a1,a2⟩:=Zzy.1 ha
    obtain ⟨b1,b2⟩:=Zzy.1 hb
    have e:x=y:=by
      rcases Zyz.1 ((h x).1 (by simp)) with q | q
      · exact q
      · rcases Zyz.1 ((h y).2 (by simp)) with q' | q'
        · exact q'.symm
        · exact absurd (a1 y q') (hR _ _ (b1 x q))
    subst e
    have irr:∀ z,¬ R z z:=fun z hz=>hR z z hz hz
    rw [Zps hR a2 b2 fun z=>⟨fun hz=>?_,fun hz=>?_⟩]
    · rcases Zyz.1 ((h z).1 (by simp [hz])) with q | q
      · subst q; exact absurd (a1 z hz) (irr z)
      · exact q
    · rcases Zyz.1 ((h z).2 (by simp [hz])) with q | q
      · subst q; exact absurd (b1 z hz) (irr z)
      · exact q
theorem Zpt {p:Nat→Prop} [DecidablePred p]:∀ {n:Nat}, p n→∃ m,p m∧∀ j,j < m→¬ p j:=by
  intro n
  induction n using Nat.strongRecOn with
  | _ n ih =>
    intro hn
    by_cases h:∃ j,j < n∧p j
    · obtain ⟨j,hj,pj⟩:=h; exact ih j hj pj
    · exact⟨n,hn,fun j hj pj=>h ⟨j,hj,pj⟩⟩
theorem Rref.in_of {n:Nat} {a b:List (List Int)} (ha:Rref n a) (hb:Rref n b) (h:SpEq a b) {x:List Int} (hx:x∈a):x∈b:=by
  have lead:∀ {a b:List (List Int)}, Rref n a→Rref n b→SpEq a b→∀ x,x∈a→∃ z,z∈b∧ld z=ld x:=fun ha hb h x hx =>
    hb.leads ((h _).1 (J0 hx)) (fun j hj=>by rw [Za8 hj]; rfl) (by rw [(ha.ok x hx).2]; decide)
  obtain ⟨z,hz,ez⟩:=lead ha hb h x hx
  have:x=z:=by
    refine(ha.ok x hx).1.ext (hb.ok z hz).1 fun j=>?_
    refine Decidable.byContradiction fun nj=>?_
    have hd:Sp (gens b) (fun j=>vec x j - vec z j):=Sp.sum (-1) ((h _).1 (J0 hx)) (J0 hz) fun j=>by congr 1; omega
    have nj':(vec x j - vec z j) % 10007≠0:=by omega
    obtain ⟨q,h1,h2⟩:=Zpt (p:=fun j=>(vec x j - vec z j) % 10007≠0) nj'
    obtain ⟨y,hy,ey⟩:=hb.leads hd (q:=q) (fun j hj=>ZOh.1 (h2 j hj)) h1
    refine h1 ?_
    rw [← ey]
    rcases hb.sep hy hz with e | ⟨e1,e2⟩
    · subst e
      rw [(hb.ok y hy).2,ez,(ha.ok x hx).2]; rfl
    · obtain ⟨y',hy',ey'⟩:=lead hb ha h.symm y hy
      rcases ha.sep hy' hx with e | ⟨_,e4⟩
      · subst e; omega
      · rw [e2,← ey',e4]; rfl
  rw [this]; exact hz
theorem Rref.unique {n:Nat} {a b:List (List Int)} (ha:Rref n a) (hb:Rref n b) (h:SpEq a b):a=b :=
  Zps (R:=fun a b=>ld a < ld b∧vec a (ld b)=0) (fun a b h1 h2=>by omega) ha.pw hb.pw fun x=>⟨ha.in_of hb h,hb.in_of ha h.symm⟩
structure IsRref (n:Nat) (rows out:List (List Int)):Prop where
  red:Rref n out
  sp:SpEq rows out
theorem IsRref.unique {n:Nat} {rows a b:List (List Int)} (ha:IsRref n rows a) (hb:IsRref n rows b):a=b:=ha.red.unique hb.red (ha.sp.symm.trans hb.sp)
theorem Rref.nil (n:Nat):Rref n []:=⟨by simp,.nil⟩
theorem Zpu {n:Nat} {a:List Int} (h:RowOk n a∧vec a (ld a)=1):ld a < n:=by
  have:=Zpo (a:=a) (k:=ld a) (by rw [h.2]; decide)
  rw [h.1.len] at this; exact this
structure Elim (n:Nat) (row z f:List Int):Prop where
  ok:RowOk n f
  ldq:Vc.ld f=Vc.ld z
  one:vec f (Vc.ld z)=1
  at0:vec f (Vc.ld row)=0
  oth:∀ q,vec row q=0→vec f q=vec z q
theorem elim {n:Nat} {row z:List Int} (hr:RowOk n row) (h1:vec row (ld row)=1) (hz:RowOk n z) (hz1:vec z (ld z)=1) (h0:vec row (ld z)=0):Elim n row z (subR (vec z (ld row)) z row):=by
  have hl:=hz.len.trans hr.len.symm
  have oth:∀ q,vec row q=0→vec (subR (vec z (ld row)) z row) q=vec z q:=fun q hq=>by rw [Zbg hl,hq,Int.mul_zero,Int.sub_zero,hz.mod]
  have one:vec (subR (vec z (ld row)) z row) (ld z)=1:=by rw [oth _ h0,hz1]
  refine⟨Zhq hz hr,Zjn (fun q hq=>?_) (by rw [one]; decide),one,by rw [Zbg hl,h1]; simp,oth⟩
  rcases ZWi q (ld row) with c | c | c
  · rw [oth _ (Za8 c),Za8 hq]
  · have:vec z (ld row)=0:=by rw [← c]; exact Za8 hq
    rw [this,Zjo hz hr,Za8 hq]
  · have:vec z (ld row)=0:=Za8 (by omega)
    rw [this,Zjo hz hr,Za8 hq]
theorem Rref.insert {n:Nat} {l1 l2:List (List Int)} {row:List Int} (h:Rref n (l1++l2)) (hr:RowOk n row) (h1:vec row (ld row)=1) (h0:∀ z,z∈l1++l2→vec row (ld z)=0) (hb:∀ z,z∈l1→ld z < ld row) (ha:∀ z,z∈l2→ld row < ld z) :
    Rref n (l1.map (fun z=>subR (vec z (ld row)) z row)++row::l2.map (fun z=>subR (vec z (ld row)) z row)):=by
  have he:∀ z,z∈l1++l2→Elim n row z (subR (vec z (ld row)) z row):=fun z hz=>elim hr h1 (h.ok z hz).1 (h.ok z hz).2 (h0 z hz)
  have m1:∀ {z}, z∈l1→z∈l1++l2:=fun q=>ZA1 _ q
  have m2:∀ {z}, z∈l2→z∈l1++l2:=fun q=>ZA2 _ q
  obtain ⟨p1,p2,p3⟩:=ZDa.1 h.pw
  have keep:∀ {y z}, y∈l1++l2→z∈l1++l2→(ld y < ld z∧vec y (ld z)=0)→(ld (subR (vec y (ld row)) y row) < ld (subR (vec z (ld row)) z row)∧vec (subR (vec y (ld row)) y row) (ld (subR (vec z (ld row)) z row))=0):=fun {y z} hy hz q=>by
    rw [(he y hy).ldq,(he z hz).ldq,(he y hy).oth _ (h0 z hz)]; exact q
  refine⟨fun a ha'=>?_,ZDa.2 ⟨?_,Zzy.2 ⟨?_,?_⟩,?_⟩⟩
  · have fin:∀ z,z∈l1++l2→RowOk n (subR (vec z (ld row)) z row)∧vec (subR (vec z (ld row)) z row) (ld (subR (vec z (ld row)) z row))=1:=fun z hz=>⟨(he z hz).ok,by rw [(he z hz).ldq]; exact(he z hz).one⟩
    rcases Zzu.1 ha' with q | q
    · obtain ⟨z,hz,rfl⟩:=Zy2.1 q; exact fin z (m1 hz)
    · rcases Zyz.1 q with rfl | q
      · exact⟨hr,h1⟩
      · obtain ⟨z,hz,rfl⟩:=Zy2.1 q; exact fin z (m2 hz)
  · exact ZO1.2 (p1.imp_of_mem fun ha hb q=>keep (m1 ha) (m1 hb) q)
  · intro f hf
    obtain ⟨z,hz,rfl⟩:=Zy2.1 hf
    rw [(he z (m2 hz)).ldq]
    exact⟨ha z hz,h0 z (m2 hz)⟩
  · exact ZO1.2 (p2.imp_of_mem fun ha hb q=>keep (m2 ha) (m2 hb) q)
  · intro f hf g hg
    obtain ⟨y,hy,rfl⟩:=Zy2.1 hf
    rcases Zyz.1 hg with rfl | hg
    · rw [(he y (m1 hy)).ldq]; exact⟨hb y hy,(he y (m1 hy)).at0⟩
    · obtain ⟨z,hz,rfl⟩:=Zy2.1 hg
      exact keep (m1 hy) (m2 hz) (p3 y hy z hz)
theorem Zpv {S:Vec→Prop} {k:Int} {a b:List Int} (h:a.length=b.length) (ha:Sp S (vec a)) (hb:Sp S (vec b)):Sp S (vec (subR k a b)) :=
  Sp.sum (-k) ha hb fun j=>by rw [Zbg h,ZWe,Int.neg_mul]; congr 1
theorem Zpw {S:Vec→Prop} {k:Int} {a b:List Int} (h:a.length=b.length) (ha:Sp S (vec (subR k a b))) (hb:Sp S (vec b)):Sp S (vec a) :=
  Sp.sum k ha hb fun j=>by
    rw [Zbg h]
    generalize k * vec b j=x
    omega
end Vc
