import Derived.Test.YtaagfepgbofmlaaGreatQ5
set_option linter.unusedSectionVars false
set_option linter.unusedSimpArgs false
set_option linter.unusedVariables false
open Go renaming wp_seq→ZIa,wp_skip→ZIe,wp_block→ZIj,wp_ret→ZIi,wp_exit→ZIr
open Go.IntKind renaming i64→ZA7
open Go.Proofs.Tryz renaming func192→ZKx,underlying115→ZKw,underlying85→ZSo,underlying22→ZIs,underlying187→ZUg,underlying73→ZJf,prog→ZId,underlying122→ZUi,func163→ZUj,f159→ZUk,func159→ZUl,underlying144→ZUm,func125→ZIx,underlying32→ZIq
open Go.Value renaming ownBlock→Zzn,int→ZK4
open Inhabited renaming default→Zyt
open Int renaming tdiv→ZSf,natCast_nonneg→ZIv,ofNat_lt→ZJi,toNat_of_nonneg→ZK5
open List renaming mem_singleton→ZAs,toArray→ZH8,mem_append→Zzu,mem_cons→Zyz,replicate→Zy0,length_eq_one_iff→ZI4,not_mem_nil→ZAt,mem_singleton_self→ZOi,mem_append_left→ZA1
open Nat renaming le_trans→Zy6,le_of_ble_eq_true→ZIc,le_refl→Zy1
open Option renaming toList→ZI5
open Vc renaming TForm→ZIo
open Vc.A8 renaming enc→ZH6,zero→ZIg,enc_set→ZI3
open Vc.Ctx renaming start→ZIt
open Vc.Enc renaming encs_append→ZIz
open Vc.Tr renaming sl→ZOd,item→ZIm
open Vc.Ty renaming item→ZH7,allItem→ZUf
set_option maxRecDepth 4000
set_option maxHeartbeats 4000000
namespace Go.Proofs.YtaagfepgbofmlaaGreat
open Go Go.RowKit Vc
def Zhc (a0:List (List Int)) (a1:List Int) (K:List (List Int)→Prop):Prop :=
 Zhb a1 a0 (fun r6=>Zbp r6 (fun r10=>(if r10 < 0 then K a0 else((0≤r10∧r10 < (r6.length:Int))∧(((0≤(r6.length:Int)∧(r6.length:Int) * 8≤281474976710656)∧Zd4 (r6.getD r10.toNat Zyt) (fun r20=>Jh (ZA7.wrap (0 - r20)) (fun r21=>Js (Zy0 ((r6.length:Int).toNat) (0:Int)) r6 r21 (fun r15=>Yt (fun i10 (s10:(List (List Int))×Bool) nx10=>(if¬ (s10.2=true) then Zbp (a0.getD i10 Zyt) (fun r18=>(if r18 > r10 then(Yo (s10.1.length+1) 24∧((0≤r10∧r10 < ((a0.getD i10 Zyt).length:Int))∧Js (a0.getD i10 Zyt) r15 ((a0.getD i10 Zyt).getD r10.toNat Zyt) (fun r12=>(Yo ((s10.1++[r15]).length+1) 24∧nx10 ((s10.1++[r15])++[r12],true))))) else((0≤r10∧r10 < ((a0.getD i10 Zyt).length:Int))∧Js (a0.getD i10 Zyt) r15 ((a0.getD i10 Zyt).getD r10.toNat Zyt) (fun r13=>(Yo (s10.1.length+1) 24∧nx10 (s10.1++[r13],s10.2)))))) else((0≤r10∧r10 < ((a0.getD i10 Zyt).length:Int))∧Js (a0.getD i10 Zyt) r15 ((a0.getD i10 Zyt).getD r10.toNat Zyt) (fun r14=>(Yo (s10.1.length+1) 24∧nx10 (s10.1++[r14],s10.2)))))) (fun (s10:(List (List Int))×Bool)=>(if¬ (s10.2=true) then(Yo (s10.1.length+1) 24∧K (s10.1++[r15])) else K s10.1)) a0.length 0 ([],false)))))∧Zd4 (r6.getD r10.toNat Zyt) (fun r19=>(((0≤(r6.length:Int)∧(r6.length:Int) * 8≤281474976710656)∧Jh (ZA7.wrap (0 - r19)) (fun r22=>Js (Zy0 ((r6.length:Int).toNat) (0:Int)) r6 r22 (fun r16=>Yt (fun i10 (s10:(List (List Int))×Bool) nx10=>(if¬ (s10.2=true) then Zbp (a0.getD i10 Zyt) (fun r18=>(if r18 > r10 then(Yo (s10.1.length+1) 24∧((0≤r10∧r10 < ((a0.getD i10 Zyt).length:Int))∧Js (a0.getD i10 Zyt) r16 ((a0.getD i10 Zyt).getD r10.toNat Zyt) (fun r12=>(Yo ((s10.1++[r16]).length+1) 24∧nx10 ((s10.1++[r16])++[r12],true))))) else((0≤r10∧r10 < ((a0.getD i10 Zyt).length:Int))∧Js (a0.getD i10 Zyt) r16 ((a0.getD i10 Zyt).getD r10.toNat Zyt) (fun r13=>(Yo (s10.1.length+1) 24∧nx10 (s10.1++[r13],s10.2)))))) else((0≤r10∧r10 < ((a0.getD i10 Zyt).length:Int))∧Js (a0.getD i10 Zyt) r16 ((a0.getD i10 Zyt).getD r10.toNat Zyt) (fun r14=>(Yo (s10.1.length+1) 24∧nx10 (s10.1++[r14],s10.2)))))) (fun (s10:(List (List Int))×Bool)=>(if¬ (s10.2=true) then(Yo (s10.1.length+1) 24∧K (s10.1++[r16])) else K s10.1)) a0.length 0 ([],false))))∧Jh (ZA7.wrap (0 - r19)) (fun r23=>((0≤(r6.length:Int)∧(r6.length:Int) * 8≤281474976710656)∧Js (Zy0 ((r6.length:Int).toNat) (0:Int)) r6 r23 (fun r17=>Yt (fun i10 (s10:(List (List Int))×Bool) nx10=>(if¬ (s10.2=true) then Zbp (a0.getD i10 Zyt) (fun r18=>(if r18 > r10 then(Yo (s10.1.length+1) 24∧((0≤r10∧r10 < ((a0.getD i10 Zyt).length:Int))∧Js (a0.getD i10 Zyt) r17 ((a0.getD i10 Zyt).getD r10.toNat Zyt) (fun r12=>(Yo ((s10.1++[r17]).length+1) 24∧nx10 ((s10.1++[r17])++[r12],true))))) else((0≤r10∧r10 < ((a0.getD i10 Zyt).length:Int))∧Js (a0.getD i10 Zyt) r17 ((a0.getD i10 Zyt).getD r10.toNat Zyt) (fun r13=>(Yo (s10.1.length+1) 24∧nx10 (s10.1++[r13],s10.2)))))) else((0≤r10∧r10 < ((a0.getD i10 Zyt).length:Int))∧Js (a0.getD i10 Zyt) r17 ((a0.getD i10 Zyt).getD r10.toNat Zyt) (fun r14=>(Yo (s10.1.length+1) 24∧nx10 (s10.1++[r14],s10.2)))))) (fun (s10:(List (List Int))×Bool)=>(if¬ (s10.2=true) then(Yo (s10.1.length+1) 24∧K (s10.1++[r17])) else K s10.1)) a0.length 0 ([],false)))))))))))
theorem Zwi (a0:List (List Int)) (a1:List Int) {u0_0:Value} {u1_0:Value} {fp0:List Nat} {fp1:List Nat} {K:List (List Int)→Prop} (h:Zhc a0 a1 K) (w0:World) (q0:(((EI .i64).ty.sl).sl).rep a0 [u0_0] fp0 w0) (q1:((EI .i64).ty.sl).rep a1 [u1_0] fp1 w0) :
  Calls ZId 106 #[u0_0,u1_0] w0 fun e w'=>∃ (r0:List (List Int)) (z0_0:Value) (fz0:List Nat),
   e=.returned (z0_0)∧K r0∧(((EI .i64).ty.sl).sl).rep r0 [z0_0] fz0 w'∧(∀ b,b∈fz0→w0.heap.size≤b∨b∈(fp0++(fp1)))∧Bel w0 w':=by
 unfold Zhc at h
 refine Z4 (args:=[u0_0,u1_0]) Tryz.func106 rfl 74 Tryz.ntmps106 (ZIc rfl) ?_
 have hC:=ZIt (X:=Nox) w0 [ZH7 (((EI .i64).ty.sl).sl) a0 [u0_0] fp0,ZH7 ((EI .i64).ty.sl) a1 [u1_0] fp1] (by simp only [Zyz,ZAt,or_false,forall_eq_or_imp,forall_eq]; exact⟨q0,q1⟩)
 refine sr (Zc (v:=.slice none 0 0) rfl (dn (sr (Zb (v:=u1_0) rfl (Zb (v:=u0_0) rfl ?_)))))
 refine Zg [u1_0,u0_0] _ Tryz.func127 rfl rfl rfl (Zwh a1 a0 h _ (hC.getP 1 rfl) (hC.getP 0 rfl)) (fun ret3 w5 hR4=>?_)
 obtain ⟨r6,u7,f8,rfl,h,hr9,hf10,hB10⟩:=hR4
 refine⟨_,rfl,?_⟩
 have hs26:∀ b,b∈f8→w0.heap.size≤b∨b∈(fp0++(fp1)):=(fun b hb=>(hf10 b hb).elim (fun h_=>.inl (Zy6 hC.size h_)) (fun hb=>(Zzu.1 hb).elim (fun hb=>.inr (List.mem_append_right _ hb)) (fun hb=>.inr (ZA1 _ hb))))
 replace hC:=hC.pushR hB10 (ZH7 ((EI .i64).ty.sl) r6 [u7] f8) hr9 (fun b hb=>(hf10 b hb).elim .inl (fun hb=>.inr ((Zzu.1 hb).elim (fun hb=>⟨_,List.mem_of_getElem? (i:=1) rfl,hb⟩) (fun hb=>⟨_,List.mem_of_getElem? (i:=0) rfl,hb⟩))))
 refine Zc (v:=u7) rfl (dn (sr (Zb (v:=u7) rfl ?_)))
 refine Zg [u7] _ Tryz.func126 rfl rfl rfl (Zlo r6 h _ (hC.getP 0 rfl)) (fun ret10 w10 hR10=>?_)
 obtain ⟨r10,rfl,h,hB11⟩:=hR10
 refine⟨_,rfl,?_⟩
 replace hC:=hC.grow hB11
 refine Zc (v:=.int .i64 r10) rfl (dn (ZIa (sr (Zb (v:=.int .i64 r10) rfl (Zt rfl rfl (dn ?_))))))
 refine Zr rfl (fun hb11=>?_) (fun hb11=>?_)
 ·replace h:=ift h (ct hb11)
  refine sr (Zb (v:=u0_0) rfl (Zc (v:=u0_0) rfl (dn ?_)))
  refine ZIi (Zo ?_)
  refine Zp (fn:=Tryz.f106) rfl ?_ ⟨a0,u0_0,fp0,rfl,h,(hC.getP 1 rfl),(fun b hb=>.inr (ZA1 _ hb)),hC.below⟩ (.inl rfl)
  exact Zi rfl
 ·replace h:=Zk h (cf hb11)
  refine ZIe (Zd (ZIa ?_))
  refine Yg 11 Ye [0,1,3,0,0,0,48,112,240,496,1008,2047,4095] [1,6,7] [0,3,4,5,9] (by kernel_rfl) (by kernel_rfl) (by kernel_rfl) (fun hM17 hM13 w11 hB_=>?_)
  replace hC:=hC.grow hB_
  refine aF 0 (u7) rfl rfl (hM13 0 rfl) (rfl) (fun _=>by exact Zf (v:=u7) rfl) (Za 13 1) ?_
  obtain ⟨Ad20,c10,hv21⟩:=Z1 (hC.getP 0 rfl)
  refine aL 1 (.int .i64 (r6.length:Int)) rfl rfl (hM17 1 rfl) (rfl) (fun _ hB_=>by exact Zb5 ZIs (by exact tr rfl hv21)) (Za 13 3) (aF 3 (u7) rfl rfl (hM13 3 rfl) (rfl) (fun _=>by exact Zf (v:=u7) rfl) (Za 13 11) (aF 4 (u7) rfl rfl (hM13 4 rfl) (rfl) (fun _=>by exact Zf (v:=u7) rfl) (Za 13 27) (aF 5 (.int .i64 r10) rfl rfl (hM13 5 rfl) (rfl) (fun _=>by exact Zf (v:=.int .i64 r10) rfl) (Za 13 59) ?_)))
  obtain ⟨⟨h10,h11⟩,h⟩:=h
  obtain ⟨Ad10,c11,hv10⟩:=Z0 (hC.getP 0 rfl) r10.toNat (show r10.toNat < r6.length by omega)
  refine aL 6 (.pointer (some (Ad10.add (r10.toNat * 1)))) rfl rfl (hM17 6 rfl) (rfl) (fun _ hB_=>by exact Yp (len:=r6.length) ZIs sc2.size (by exact tr rfl hv10) rfl h10 h11) (Za 13 123) (aL 7 (.int .i64 (r6.getD r10.toNat Zyt)) rfl rfl (hM17 7 rfl) (rfl) (fun _ hB_=>by exact Xc (.int .i64 (r6.getD r10.toNat Zyt)) (Yf ((hC.grow hB_).getP 0 rfl) hv10 r10.toNat (show r10.toNat < r6.length by omega)) sc2 rfl) (Za 13 251) ?_)
  refine Zbj (fun e_ w_=>∃ (u10:Value),∃ (r11:List Int),Z3 e_ [(0,u0_0),(1,u10),(5,.int .i64 r10)]∧Ctx Nox w0 w_ [own 2 1 u10 r11.length ((EI .i64).encs r11)] [ZH7 (((EI .i64).ty.sl).sl) a0 [u0_0] fp0,ZH7 ((EI .i64).ty.sl) a1 [u1_0] fp1]∧(Yt (fun i10 (s10:(List (List Int))×Bool) nx10=>(if¬ (s10.2=true) then Zbp (a0.getD i10 Zyt) (fun r18=>(if r18 > r10 then(Yo (s10.1.length+1) 24∧((0≤r10∧r10 < ((a0.getD i10 Zyt).length:Int))∧Js (a0.getD i10 Zyt) r11 ((a0.getD i10 Zyt).getD r10.toNat Zyt) (fun r12=>(Yo ((s10.1++[r11]).length+1) 24∧nx10 ((s10.1++[r11])++[r12],true))))) else((0≤r10∧r10 < ((a0.getD i10 Zyt).length:Int))∧Js (a0.getD i10 Zyt) r11 ((a0.getD i10 Zyt).getD r10.toNat Zyt) (fun r13=>(Yo (s10.1.length+1) 24∧nx10 (s10.1++[r13],s10.2)))))) else((0≤r10∧r10 < ((a0.getD i10 Zyt).length:Int))∧Js (a0.getD i10 Zyt) r11 ((a0.getD i10 Zyt).getD r10.toNat Zyt) (fun r14=>(Yo (s10.1.length+1) 24∧nx10 (s10.1++[r14],s10.2)))))) (fun (s10:(List (List Int))×Bool)=>(if¬ (s10.2=true) then(Yo (s10.1.length+1) 24∧K (s10.1++[r11])) else K s10.1)) a0.length 0 ([],false))) ?_ ?_
  ·clear hC h
   rintro e_ w12 ⟨u10,r11,hS_,hC,h⟩
   rw [ue hS_]
   refine Zd (sr (Xr (sz:=1) hC [] [] rfl (fun _=>Zg2 _) rfl (by decide) fun b15 w13 hB_ hC=>?_))
   replace hC:=hC.pushE (ZUf ((EI .i64).ty.sl) [] [] []) (Zvd _ _) rfl
   refine Zc (v:=.slice (some ⟨b15,0,none⟩) 0 0) rfl (Zc (v:=.bool false) rfl (dn (ZIa (sr (Zc (v:=.int .i64 0) rfl (dn (ZIj ?_)))))))
   have hs10:=X5 hC 1 rfl
   replace hC:=hC.thaw 1 rfl (ZH7 ((EI .i64).ty.sl) r11 [u10] (ZI5 (Zzn u10))) Y2 (fun _ hb_=>hb_)
   have hN10:a0.length≤9223372036854775807:=Xp (hC.getP 2 rfl)
   refine Y9 (S:=(List (List Int))×Bool) _ _ (fun i10 s10 e_ w_=>∃ (v10:Value),∃ (cs10:List Value),∃ (f10:List Nat),Z3 e_ [(0,u0_0),(1,u10),(5,.int .i64 r10),(6,v10),(7,.bool s10.2),(8,.int .i64 (i10:Int))]∧(∀ b,b∈f10→w0.heap.size≤b∨b∈(fp0++(fp1)))∧Ctx Nox w0 w_ [own 22 1 v10 s10.1.length cs10] [ZUf ((EI .i64).ty.sl) s10.1 cs10 f10,ZH7 ((EI .i64).ty.sl) r11 [u10] (ZI5 (Zzn u10)),ZH7 (((EI .i64).ty.sl).sl) a0 [u0_0] fp0,ZH7 ((EI .i64).ty.sl) a1 [u1_0] fp1]) a0.length ?_ ?_ (s0:=([],false)) ?_ h
   ·clear hC h
    rintro i10 s10 e_ w14 nx10 K10 hi10 ⟨v10,cs10,f10,hS_,hq10,hC⟩ h hK10
    rw [ue hS_]
    refine ZIa (sr (Zb (v:=.int .i64 (i10:Int)) rfl (Zb (v:=u0_0) rfl ?_)))
    obtain ⟨Ad21,c12,hv22⟩:=Z1 (hC.getP 2 rfl)
    refine Zx ZSo (tr rfl hv22) (Zt rfl rfl (dn (Yr rfl (decide_eq_true (by omega)) (ZIe (Zd (ZIa (ZIj (ZIa (sr (Zb (v:=.bool s10.2) rfl (Jf rfl ?_)))))))))))
    refine Zb (v:=.bool (!s10.2)) rfl ?_
    refine Xh (!s10.2) (fun hb10=>?_) (fun hb10=>?_)
    ·replace h:=ift h (Xz (Jp hb10))
     refine Zl 2 38 rfl rfl hb10 (Zb (v:=u0_0) rfl (Zl 2 38 rfl rfl hb10 (Zb (v:=.int .i64 (i10:Int)) rfl (Zl 2 38 rfl rfl hb10 ?_))))
     obtain ⟨Ad22,c13,hv11⟩:=Z0 (hC.getP 2 rfl) i10 hi10
     refine Xb (len:=a0.length) ZSo sc22.size (tr rfl hv11) rfl (ZIv _) (ZJi.2 hi10) (Zl 2 38 rfl rfl hb10 ?_)
     obtain ⟨cs_,hl10,hc10,hr10⟩:=Xs (hC.getP 2 rfl) hv11 i10 hi10
     obtain ⟨u20,rfl⟩:=ZI4.1 hl10
     clear hl10
     rw [Xt _ _ hi10] at hr10
     replace hC:=hC.derive 2 rfl (ZH7 ((EI .i64).ty.sl) (a0.getD i10 Zyt) [u20] fp0) (fun _=>hr10) (fun _ hb_=>hb_)
     refine Xm (u20) hc10 sc22 rfl (Zl 2 38 rfl rfl hb10 ?_)
     refine Zg [u20] _ Tryz.func126 rfl rfl rfl (Zlo (a0.getD i10 Zyt) h _ (hC.getP 0 rfl)) (fun ret11 w15 hR11=>?_)
     obtain ⟨r18,rfl,h,hB12⟩:=hR11
     refine⟨_,rfl,?_⟩
     replace hC:=hC.grow hB12
     refine Zl 2 38 rfl rfl hb10 (Zb (v:=.int .i64 r10) rfl (Zl 2 38 rfl rfl hb10 (Jj rfl rfl (Yc (v:=.bool (decide (r18 > r10))) (b:=true) (tr rfl (congrArg _ hb10)) rfl (dn ?_)))))
     refine Zr rfl (fun hb12=>?_) (fun hb12=>?_)
     ·replace h:=ift h (ct hb12)
      refine sr (Zb (v:=v10) rfl (Zb (v:=u10) rfl (Xr (sz:=1) hC [(0,u10)] [u10] rfl (fun _=>Zc9 u10 (Zc3 (hC.getP 2 rfl)) _) rfl (by decide) fun b10 w16 hB_ hC=>?_)))
      have hf11:=X5 hC 0 rfl
      replace hC:=hC.thaw 0 rfl (own 22 1 (.slice (some ⟨b10,0,none⟩) 1 1) 1 [u10]) id (fun _ hb_=>hb_)
      replace hC:=hC.joinP 0 3 rfl rfl (ZH7 (((EI .i64).ty.sl).sl) [r11] [.slice (some ⟨b10,0,none⟩) 1 1] ((ZI5 (Zzn (.slice (some ⟨b10,0,none⟩) 1 1)))++(ZI5 (Zzn u10)))) (fun a_ b_=>Zcx a_ (Zgp b_)) (fun c_ hc_=>Zzu.1 hc_)
      have hs11:∀ b,b∈((ZI5 (Zzn (.slice (some ⟨b10,0,none⟩) 1 1)))++(ZI5 (Zzn u10)))→w0.heap.size≤b:=(fun b hb=>(Zzu.1 hb).elim (fun hb=>hf11 b hb) (fun hb=>hs10 b hb))
      obtain ⟨cs11,hd10,ha10⟩:=Zg0 (hC.getP 0 rfl)
      replace hC:=hC.derive 0 rfl (ZUf ((EI .i64).ty.sl) [r11] cs11 ((ZI5 (Zzn (.slice (some ⟨b10,0,none⟩) 1 1)))++(ZI5 (Zzn u10)))) (fun _=>ha10) (fun _ h_=>h_)
      obtain ⟨hm13,h⟩:=h
      refine Zaw hC 0 ZSo Zda rfl (by decide) (by decide) rfl hd10 (fun q_ hq_=>ha10.2.2.1 q_ hq_) rfl rfl hm13 fun v12 w17 hC=>?_
      replace hC:=Jg hC 0 ((s10.1++[r11]).length) (cs10++cs11) rfl (by simp) (by simp)
      have hs12:∀ b,b∈(f10++((ZI5 (Zzn (.slice (some ⟨b10,0,none⟩) 1 1)))++(ZI5 (Zzn u10))))→w0.heap.size≤b∨b∈(fp0++(fp1)):=(fun b hb=>(Zzu.1 hb).elim (fun hb=>hq10 b hb) (fun hb=>.inl (hs11 b hb)))
      replace hC:=hC.joinP 4 0 rfl rfl (ZUf ((EI .i64).ty.sl) (s10.1++[r11]) (cs10++cs11) (f10++((ZI5 (Zzn (.slice (some ⟨b10,0,none⟩) 1 1)))++(ZI5 (Zzn u10))))) (fun a_ b_=>Zg1 a_ b_) (fun c_ hc_=>Zzu.1 hc_)
      refine Zc (v:=v12) rfl (dn (Zh (Zc (v:=.bool true) rfl (dn ?_))))
      refine Yg 15 Ye [0,0,0,6,14,0,0,0,192,448,0,1984,4032,8190,16382,32767,65535] [3,4,8,9,11,12] [0,1,2,5,6,7,10] (by kernel_rfl) (by kernel_rfl) (by kernel_rfl) (fun hM14 hM10 w18 hB_=>?_)
      replace hC:=hC.grow hB_
      refine aF 0 (v12) rfl rfl (hM10 0 rfl) (rfl) (fun _=>by exact Zf (v:=v12) rfl) (Za 17 1) (aF 1 (u0_0) rfl rfl (hM10 1 rfl) (rfl) (fun _=>by exact Zf (v:=u0_0) rfl) (Za 17 3) (aF 2 (.int .i64 (i10:Int)) rfl rfl (hM10 2 rfl) (rfl) (fun _=>by exact Zf (v:=.int .i64 (i10:Int)) rfl) (Za 17 7) ?_))
      obtain ⟨Ad11,c14,hv12⟩:=Z0 (hC.getP 7 rfl) i10 hi10
      refine aL 3 (.pointer (some (Ad11.add (i10 * 1)))) rfl rfl (hM14 3 rfl) (rfl) (fun _ hB_=>by exact Yp (len:=a0.length) ZSo sc22.size (by exact tr rfl hv12) rfl (ZIv _) (ZJi.2 hi10)) (Za 17 15) ?_
      obtain ⟨cs_,hl11,hc11,hr11⟩:=Xs (hC.getP 7 rfl) hv12 i10 hi10
      obtain ⟨u17,rfl⟩:=ZI4.1 hl11
      clear hl11
      rw [Xt _ _ hi10] at hr11
      replace hC:=hC.derive 7 rfl (ZH7 ((EI .i64).ty.sl) (a0.getD i10 Zyt) [u17] fp0) (fun _=>hr11) (fun _ hb_=>hb_)
      refine aL 4 (u17) rfl rfl (hM14 4 rfl) (rfl) (fun _ hB_=>by exact Xc (u17) (Jz hB_ hc11) sc22 rfl) (Za 17 31) (aF 5 (u10) rfl rfl (hM10 5 rfl) (rfl) (fun _=>by exact Zf (v:=u10) rfl) (Za 17 63) (aF 6 (u0_0) rfl rfl (hM10 6 rfl) (rfl) (fun _=>by exact Zf (v:=u0_0) rfl) (Za 17 127) (aF 7 (.int .i64 (i10:Int)) rfl rfl (hM10 7 rfl) (rfl) (fun _=>by exact Zf (v:=.int .i64 (i10:Int)) rfl) (Za 17 255) ?_)))
      obtain ⟨Ad12,c15,hv13⟩:=Z0 (hC.getP 8 rfl) i10 hi10
      refine aL 8 (.pointer (some (Ad12.add (i10 * 1)))) rfl rfl (hM14 8 rfl) (rfl) (fun _ hB_=>by exact Yp (len:=a0.length) ZSo sc22.size (by exact tr rfl hv13) rfl (ZIv _) (ZJi.2 hi10)) (Za 17 511) ?_
      obtain ⟨cs_,hl12,hc12,hr12⟩:=Xs (hC.getP 8 rfl) hv13 i10 hi10
      obtain ⟨u21,rfl⟩:=ZI4.1 hl12
      clear hl12
      rw [Xt _ _ hi10] at hr12
      replace hC:=hC.derive 8 rfl (ZH7 ((EI .i64).ty.sl) (a0.getD i10 Zyt) [u21] fp0) (fun _=>hr12) (fun _ hb_=>hb_)
      refine aL 9 (u21) rfl rfl (hM14 9 rfl) (rfl) (fun _ hB_=>by exact Xc (u21) (Jz hB_ hc12) sc22 rfl) (Za 17 1023) (aF 10 (.int .i64 r10) rfl rfl (hM10 10 rfl) (rfl) (fun _=>by exact Zf (v:=.int .i64 r10) rfl) (Za 17 2047) ?_)
      obtain ⟨⟨h12,h13⟩,h⟩:=h
      obtain ⟨Ad13,c16,hv14⟩:=Z0 (hC.getP 0 rfl) r10.toNat (show r10.toNat < (a0.getD i10 Zyt).length by omega)
      refine aL 11 (.pointer (some (Ad13.add (r10.toNat * 1)))) rfl rfl (hM14 11 rfl) (rfl) (fun _ hB_=>by exact Yp (len:=(a0.getD i10 Zyt).length) ZIs sc2.size (by exact tr rfl hv14) rfl h12 h13) (Za 17 4095) (aL 12 (.int .i64 ((a0.getD i10 Zyt).getD r10.toNat Zyt)) rfl rfl (hM14 12 rfl) (rfl) (fun _ hB_=>by exact Xc (.int .i64 ((a0.getD i10 Zyt).getD r10.toNat Zyt)) (Yf ((hC.grow hB_).getP 0 rfl) hv14 r10.toNat (show r10.toNat < (a0.getD i10 Zyt).length by omega)) sc2 rfl) (Za 17 8191) (aO 13 rfl ?_))
      refine Zg [u17,u10,.int .i64 ((a0.getD i10 Zyt).getD r10.toNat Zyt)] _ ZUj rfl rfl rfl (Zd3 (a0.getD i10 Zyt) r11 ((a0.getD i10 Zyt).getD r10.toNat Zyt) h _ (hC.getP 1 rfl) (hC.getP 8 rfl)) (fun ret12 w19 hR12=>?_)
      obtain ⟨r12,u11,f11,rfl,h,hr17,hf12,hB13⟩:=hR12
      refine⟨_,rfl,?_⟩
      replace hC:=hC.push hB13 (ZIm (ZOd 2 ((EI .i64).tr)) r12 [u11] f11) hr17 hf12
      obtain ⟨ho10,hf13⟩:=Zac (hC.getM 0 rfl).1
      subst hf13
      replace hC:=hC.recast (c:=own 2 1 u11 r12.length ((EI .i64).encs r12)) (fun _ h_=>h_) (fun _=>ho10)
      refine done (aK (by assumption) (Za 17 16383) (aO 14 rfl ?_))
      have hs13:=X5 hC 0 rfl
      replace hC:=hC.thaw 0 rfl (ZH7 ((EI .i64).ty.sl) r12 [u11] (ZI5 (Zzn u11))) Y2 (fun _ hb_=>hb_)
      refine Xr (sz:=1) hC [(0,u11)] [u11] rfl (fun _=>Zc9 u11 (Zc3 (hC.getP 0 rfl)) _) rfl (by decide) fun b12 w20 hB_ hC=>?_
      have hf14:=X5 hC 0 rfl
      replace hC:=hC.thaw 0 rfl (own 22 1 (.slice (some ⟨b12,0,none⟩) 1 1) 1 [u11]) id (fun _ hb_=>hb_)
      replace hC:=hC.joinP 0 1 rfl rfl (ZH7 (((EI .i64).ty.sl).sl) [r12] [.slice (some ⟨b12,0,none⟩) 1 1] ((ZI5 (Zzn (.slice (some ⟨b12,0,none⟩) 1 1)))++(ZI5 (Zzn u11)))) (fun a_ b_=>Zcx a_ (Zgp b_)) (fun c_ hc_=>Zzu.1 hc_)
      have hs14:∀ b,b∈((ZI5 (Zzn (.slice (some ⟨b12,0,none⟩) 1 1)))++(ZI5 (Zzn u11)))→w0.heap.size≤b:=(fun b hb=>(Zzu.1 hb).elim (fun hb=>hf14 b hb) (fun hb=>hs13 b hb))
      refine done (aK (by assumption) (Za 17 32767) (Zu 15 (by decide) (by decide) (by kernel_rfl) (by kernel_rfl) rfl ?_))
      obtain ⟨cs12,hd11,ha11⟩:=Zg0 (hC.getP 0 rfl)
      replace hC:=hC.derive 0 rfl (ZUf ((EI .i64).ty.sl) [r12] cs12 ((ZI5 (Zzn (.slice (some ⟨b12,0,none⟩) 1 1)))++(ZI5 (Zzn u11)))) (fun _=>ha11) (fun _ h_=>h_)
      obtain ⟨hm14,h⟩:=h
      refine Zaw hC 0 ZSo Zda rfl (by decide) (by decide) rfl hd11 (fun q_ hq_=>ha11.2.2.1 q_ hq_) rfl rfl hm14 fun v13 w21 hC=>?_
      replace hC:=Jg hC 0 (((s10.1++[r11])++[r12]).length) ((cs10++cs11)++cs12) rfl (by simp) (by simp)
      have hs15:∀ b,b∈((f10++((ZI5 (Zzn (.slice (some ⟨b10,0,none⟩) 1 1)))++(ZI5 (Zzn u10))))++((ZI5 (Zzn (.slice (some ⟨b12,0,none⟩) 1 1)))++(ZI5 (Zzn u11))))→w0.heap.size≤b∨b∈(fp0++(fp1)):=(fun b hb=>(Zzu.1 hb).elim (fun hb=>hs12 b hb) (fun hb=>.inl (hs14 b hb)))
      replace hC:=hC.joinP 6 0 rfl rfl (ZUf ((EI .i64).ty.sl) ((s10.1++[r11])++[r12]) ((cs10++cs11)++cs12) ((f10++((ZI5 (Zzn (.slice (some ⟨b10,0,none⟩) 1 1)))++(ZI5 (Zzn u10))))++((ZI5 (Zzn (.slice (some ⟨b12,0,none⟩) 1 1)))++(ZI5 (Zzn u11))))) (fun a_ b_=>Zg1 a_ b_) (fun c_ hc_=>Zzu.1 hc_)
      refine Zc (v:=v13) rfl (done (Zv (Zs (Zd (Zh (Zb (v:=.int .i64 (i10:Int)) rfl (Zq rfl rfl (Zc (v:=.int .i64 (ZA7.wrap ((i10:Int)+1))) rfl (done ?_)))))))))
      replace hC:=hC.sP [0,13,14,15] (Ps':=[ZUf ((EI .i64).ty.sl) ((s10.1++[r11])++[r12]) ((cs10++cs11)++cs12) ((f10++((ZI5 (Zzn (.slice (some ⟨b10,0,none⟩) 1 1)))++(ZI5 (Zzn u10))))++((ZI5 (Zzn (.slice (some ⟨b12,0,none⟩) 1 1)))++(ZI5 (Zzn u11)))),ZH7 ((EI .i64).ty.sl) r11 [u10] (ZI5 (Zzn u10)),ZH7 (((EI .i64).ty.sl).sl) a0 [u0_0] fp0,ZH7 ((EI .i64).ty.sl) a1 [u1_0] fp1]) rfl
      exact hK10 ((s10.1++[r11])++[r12],true) _ _ ⟨v13,(cs10++cs11)++cs12,((f10++((ZI5 (Zzn (.slice (some ⟨b10,0,none⟩) 1 1)))++(ZI5 (Zzn u10))))++((ZI5 (Zzn (.slice (some ⟨b12,0,none⟩) 1 1)))++(ZI5 (Zzn u11)))),(sl ⟨rfl,rfl,rfl,rfl,rfl,(tr rfl (congrArg _ (Yh hi10 hN10))),trivial⟩),hs15,hC⟩ h
     ·replace h:=Zk h (cf hb12)
      refine ZIe (Zd ?_)
      refine Yg 15 Ye [0,0,0,6,14,0,0,0,192,448,0,1984,4032,8190,16382,32767,65535] [3,4,8,9,11,12] [0,1,2,5,6,7,10] (by kernel_rfl) (by kernel_rfl) (by kernel_rfl) (fun hM15 hM11 w22 hB_=>?_)
      replace hC:=hC.grow hB_
      refine aF 0 (v10) rfl rfl (hM11 0 rfl) (rfl) (fun _=>by exact Zf (v:=v10) rfl) (Za 17 1) (aF 1 (u0_0) rfl rfl (hM11 1 rfl) (rfl) (fun _=>by exact Zf (v:=u0_0) rfl) (Za 17 3) (aF 2 (.int .i64 (i10:Int)) rfl rfl (hM11 2 rfl) (rfl) (fun _=>by exact Zf (v:=.int .i64 (i10:Int)) rfl) (Za 17 7) ?_))
      obtain ⟨Ad14,c17,hv15⟩:=Z0 (hC.getP 3 rfl) i10 hi10
      refine aL 3 (.pointer (some (Ad14.add (i10 * 1)))) rfl rfl (hM15 3 rfl) (rfl) (fun _ hB_=>by exact Yp (len:=a0.length) ZSo sc22.size (by exact tr rfl hv15) rfl (ZIv _) (ZJi.2 hi10)) (Za 17 15) ?_
      obtain ⟨cs_,hl13,hc13,hr13⟩:=Xs (hC.getP 3 rfl) hv15 i10 hi10
      obtain ⟨u18,rfl⟩:=ZI4.1 hl13
      clear hl13
      rw [Xt _ _ hi10] at hr13
      replace hC:=hC.derive 3 rfl (ZH7 ((EI .i64).ty.sl) (a0.getD i10 Zyt) [u18] fp0) (fun _=>hr13) (fun _ hb_=>hb_)
      refine aL 4 (u18) rfl rfl (hM15 4 rfl) (rfl) (fun _ hB_=>by exact Xc (u18) (Jz hB_ hc13) sc22 rfl) (Za 17 31) (aF 5 (u10) rfl rfl (hM11 5 rfl) (rfl) (fun _=>by exact Zf (v:=u10) rfl) (Za 17 63) (aF 6 (u0_0) rfl rfl (hM11 6 rfl) (rfl) (fun _=>by exact Zf (v:=u0_0) rfl) (Za 17 127) (aF 7 (.int .i64 (i10:Int)) rfl rfl (hM11 7 rfl) (rfl) (fun _=>by exact Zf (v:=.int .i64 (i10:Int)) rfl) (Za 17 255) ?_)))
      obtain ⟨Ad15,c18,hv16⟩:=Z0 (hC.getP 4 rfl) i10 hi10
      refine aL 8 (.pointer (some (Ad15.add (i10 * 1)))) rfl rfl (hM15 8 rfl) (rfl) (fun _ hB_=>by exact Yp (len:=a0.length) ZSo sc22.size (by exact tr rfl hv16) rfl (ZIv _) (ZJi.2 hi10)) (Za 17 511) ?_
      obtain ⟨cs_,hl14,hc14,hr14⟩:=Xs (hC.getP 4 rfl) hv16 i10 hi10
      obtain ⟨u22,rfl⟩:=ZI4.1 hl14
      clear hl14
      rw [Xt _ _ hi10] at hr14
      replace hC:=hC.derive 4 rfl (ZH7 ((EI .i64).ty.sl) (a0.getD i10 Zyt) [u22] fp0) (fun _=>hr14) (fun _ hb_=>hb_)
      refine aL 9 (u22) rfl rfl (hM15 9 rfl) (rfl) (fun _ hB_=>by exact Xc (u22) (Jz hB_ hc14) sc22 rfl) (Za 17 1023) (aF 10 (.int .i64 r10) rfl rfl (hM11 10 rfl) (rfl) (fun _=>by exact Zf (v:=.int .i64 r10) rfl) (Za 17 2047) ?_)
      obtain ⟨⟨h14,h15⟩,h⟩:=h
      obtain ⟨Ad16,c19,hv17⟩:=Z0 (hC.getP 0 rfl) r10.toNat (show r10.toNat < (a0.getD i10 Zyt).length by omega)
      refine aL 11 (.pointer (some (Ad16.add (r10.toNat * 1)))) rfl rfl (hM15 11 rfl) (rfl) (fun _ hB_=>by exact Yp (len:=(a0.getD i10 Zyt).length) ZIs sc2.size (by exact tr rfl hv17) rfl h14 h15) (Za 17 4095) (aL 12 (.int .i64 ((a0.getD i10 Zyt).getD r10.toNat Zyt)) rfl rfl (hM15 12 rfl) (rfl) (fun _ hB_=>by exact Xc (.int .i64 ((a0.getD i10 Zyt).getD r10.toNat Zyt)) (Yf ((hC.grow hB_).getP 0 rfl) hv17 r10.toNat (show r10.toNat < (a0.getD i10 Zyt).length by omega)) sc2 rfl) (Za 17 8191) (aO 13 rfl ?_))
      refine Zg [u18,u10,.int .i64 ((a0.getD i10 Zyt).getD r10.toNat Zyt)] _ ZUj rfl rfl rfl (Zd3 (a0.getD i10 Zyt) r11 ((a0.getD i10 Zyt).getD r10.toNat Zyt) h _ (hC.getP 1 rfl) (hC.getP 4 rfl)) (fun ret13 w23 hR13=>?_)
      obtain ⟨r13,u12,f12,rfl,h,hr18,hf15,hB14⟩:=hR13
      refine⟨_,rfl,?_⟩
      replace hC:=hC.push hB14 (ZIm (ZOd 2 ((EI .i64).tr)) r13 [u12] f12) hr18 hf15
      obtain ⟨ho11,hf16⟩:=Zac (hC.getM 0 rfl).1
      subst hf16
      replace hC:=hC.recast (c:=own 2 1 u12 r13.length ((EI .i64).encs r13)) (fun _ h_=>h_) (fun _=>ho11)
      refine done (aK (by assumption) (Za 17 16383) (aO 14 rfl ?_))
      have hs16:=X5 hC 0 rfl
      replace hC:=hC.thaw 0 rfl (ZH7 ((EI .i64).ty.sl) r13 [u12] (ZI5 (Zzn u12))) Y2 (fun _ hb_=>hb_)
      refine Xr (sz:=1) hC [(0,u12)] [u12] rfl (fun _=>Zc9 u12 (Zc3 (hC.getP 0 rfl)) _) rfl (by decide) fun b13 w24 hB_ hC=>?_
      have hf17:=X5 hC 0 rfl
      replace hC:=hC.thaw 0 rfl (own 22 1 (.slice (some ⟨b13,0,none⟩) 1 1) 1 [u12]) id (fun _ hb_=>hb_)
      replace hC:=hC.joinP 0 1 rfl rfl (ZH7 (((EI .i64).ty.sl).sl) [r13] [.slice (some ⟨b13,0,none⟩) 1 1] ((ZI5 (Zzn (.slice (some ⟨b13,0,none⟩) 1 1)))++(ZI5 (Zzn u12)))) (fun a_ b_=>Zcx a_ (Zgp b_)) (fun c_ hc_=>Zzu.1 hc_)
      have hs17:∀ b,b∈((ZI5 (Zzn (.slice (some ⟨b13,0,none⟩) 1 1)))++(ZI5 (Zzn u12)))→w0.heap.size≤b:=(fun b hb=>(Zzu.1 hb).elim (fun hb=>hf17 b hb) (fun hb=>hs16 b hb))
      refine done (aK (by assumption) (Za 17 32767) (Zu 15 (by decide) (by decide) (by kernel_rfl) (by kernel_rfl) rfl ?_))
      obtain ⟨cs13,hd12,ha12⟩:=Zg0 (hC.getP 0 rfl)
      replace hC:=hC.derive 0 rfl (ZUf ((EI .i64).ty.sl) [r13] cs13 ((ZI5 (Zzn (.slice (some ⟨b13,0,none⟩) 1 1)))++(ZI5 (Zzn u12)))) (fun _=>ha12) (fun _ h_=>h_)
      obtain ⟨hm15,h⟩:=h
      refine Zaw hC 0 ZSo Zda rfl (by decide) (by decide) rfl hd12 (fun q_ hq_=>ha12.2.2.1 q_ hq_) rfl rfl hm15 fun v14 w25 hC=>?_
      replace hC:=Jg hC 0 ((s10.1++[r13]).length) (cs10++cs13) rfl (by simp) (by simp)
      have hs18:∀ b,b∈(f10++((ZI5 (Zzn (.slice (some ⟨b13,0,none⟩) 1 1)))++(ZI5 (Zzn u12))))→w0.heap.size≤b∨b∈(fp0++(fp1)):=(fun b hb=>(Zzu.1 hb).elim (fun hb=>hq10 b hb) (fun hb=>.inl (hs17 b hb)))
      replace hC:=hC.joinP 7 0 rfl rfl (ZUf ((EI .i64).ty.sl) (s10.1++[r13]) (cs10++cs13) (f10++((ZI5 (Zzn (.slice (some ⟨b13,0,none⟩) 1 1)))++(ZI5 (Zzn u12))))) (fun a_ b_=>Zg1 a_ b_) (fun c_ hc_=>Zzu.1 hc_)
      refine Zc (v:=v14) rfl (done (Zv (Zs (Zd (Zh (Zb (v:=.int .i64 (i10:Int)) rfl (Zq rfl rfl (Zc (v:=.int .i64 (ZA7.wrap ((i10:Int)+1))) rfl (done ?_)))))))))
      replace hC:=hC.sP [0,9,10,11] (Ps':=[ZUf ((EI .i64).ty.sl) (s10.1++[r13]) (cs10++cs13) (f10++((ZI5 (Zzn (.slice (some ⟨b13,0,none⟩) 1 1)))++(ZI5 (Zzn u12)))),ZH7 ((EI .i64).ty.sl) r11 [u10] (ZI5 (Zzn u10)),ZH7 (((EI .i64).ty.sl).sl) a0 [u0_0] fp0,ZH7 ((EI .i64).ty.sl) a1 [u1_0] fp1]) rfl
      exact hK10 (s10.1++[r13],s10.2) _ _ ⟨v14,cs10++cs13,(f10++((ZI5 (Zzn (.slice (some ⟨b13,0,none⟩) 1 1)))++(ZI5 (Zzn u12)))),(sl ⟨rfl,rfl,rfl,rfl,rfl,(tr rfl (congrArg _ (Yh hi10 hN10))),trivial⟩),hs18,hC⟩ h
    ·replace h:=Zk h (not_not_intro ((Jq hb10)))
     refine Zn (b:=false) 2 38 rfl (tr rfl (congrArg _ hb10)) (by decide) (Zn (b:=false) 2 38 rfl (tr rfl (congrArg _ hb10)) (by decide) (Zn (b:=false) 2 38 rfl (tr rfl (congrArg _ hb10)) (by decide) (Zn (b:=false) 2 38 rfl (tr rfl (congrArg _ hb10)) (by decide) (Zn (b:=false) 2 38 rfl (tr rfl (congrArg _ hb10)) (by decide) (Zn (b:=false) 2 38 rfl (tr rfl (congrArg _ hb10)) (by decide) (Zn (b:=false) 2 38 rfl (tr rfl (congrArg _ hb10)) (by decide) (Yc (v:=.bool false) (b:=false) (tr rfl (congrArg _ hb10)) rfl (dn (Yi rfl rfl (ZIe (Zd ?_)))))))))))
     refine Yg 15 Ye [0,0,0,6,14,0,0,0,192,448,0,1984,4032,8190,16382,32767,65535] [3,4,8,9,11,12] [0,1,2,5,6,7,10] (by kernel_rfl) (by kernel_rfl) (by kernel_rfl) (fun hM16 hM12 w26 hB_=>?_)
     replace hC:=hC.grow hB_
     refine aF 0 (v10) rfl rfl (hM12 0 rfl) (rfl) (fun _=>by exact Zf (v:=v10) rfl) (Za 17 1) (aF 1 (u0_0) rfl rfl (hM12 1 rfl) (rfl) (fun _=>by exact Zf (v:=u0_0) rfl) (Za 17 3) (aF 2 (.int .i64 (i10:Int)) rfl rfl (hM12 2 rfl) (rfl) (fun _=>by exact Zf (v:=.int .i64 (i10:Int)) rfl) (Za 17 7) ?_))
     obtain ⟨Ad17,c20,hv18⟩:=Z0 (hC.getP 2 rfl) i10 hi10
     refine aL 3 (.pointer (some (Ad17.add (i10 * 1)))) rfl rfl (hM16 3 rfl) (rfl) (fun _ hB_=>by exact Yp (len:=a0.length) ZSo sc22.size (by exact tr rfl hv18) rfl (ZIv _) (ZJi.2 hi10)) (Za 17 15) ?_
     obtain ⟨cs_,hl15,hc15,hr15⟩:=Xs (hC.getP 2 rfl) hv18 i10 hi10
     obtain ⟨u19,rfl⟩:=ZI4.1 hl15
     clear hl15
     rw [Xt _ _ hi10] at hr15
     replace hC:=hC.derive 2 rfl (ZH7 ((EI .i64).ty.sl) (a0.getD i10 Zyt) [u19] fp0) (fun _=>hr15) (fun _ hb_=>hb_)
     refine aL 4 (u19) rfl rfl (hM16 4 rfl) (rfl) (fun _ hB_=>by exact Xc (u19) (Jz hB_ hc15) sc22 rfl) (Za 17 31) (aF 5 (u10) rfl rfl (hM12 5 rfl) (rfl) (fun _=>by exact Zf (v:=u10) rfl) (Za 17 63) (aF 6 (u0_0) rfl rfl (hM12 6 rfl) (rfl) (fun _=>by exact Zf (v:=u0_0) rfl) (Za 17 127) (aF 7 (.int .i64 (i10:Int)) rfl rfl (hM12 7 rfl) (rfl) (fun _=>by exact Zf (v:=.int .i64 (i10:Int)) rfl) (Za 17 255) ?_)))
     obtain ⟨Ad18,c21,hv19⟩:=Z0 (hC.getP 3 rfl) i10 hi10
     refine aL 8 (.pointer (some (Ad18.add (i10 * 1)))) rfl rfl (hM16 8 rfl) (rfl) (fun _ hB_=>by exact Yp (len:=a0.length) ZSo sc22.size (by exact tr rfl hv19) rfl (ZIv _) (ZJi.2 hi10)) (Za 17 511) ?_
     obtain ⟨cs_,hl16,hc16,hr16⟩:=Xs (hC.getP 3 rfl) hv19 i10 hi10
     obtain ⟨u23,rfl⟩:=ZI4.1 hl16
     clear hl16
     rw [Xt _ _ hi10] at hr16
     replace hC:=hC.derive 3 rfl (ZH7 ((EI .i64).ty.sl) (a0.getD i10 Zyt) [u23] fp0) (fun _=>hr16) (fun _ hb_=>hb_)
     refine aL 9 (u23) rfl rfl (hM16 9 rfl) (rfl) (fun _ hB_=>by exact Xc (u23) (Jz hB_ hc16) sc22 rfl) (Za 17 1023) (aF 10 (.int .i64 r10) rfl rfl (hM12 10 rfl) (rfl) (fun _=>by exact Zf (v:=.int .i64 r10) rfl) (Za 17 2047) ?_)
     obtain ⟨⟨h16,h17⟩,h⟩:=h
     obtain ⟨Ad19,c22,hv20⟩:=Z0 (hC.getP 0 rfl) r10.toNat (show r10.toNat < (a0.getD i10 Zyt).length by omega)
     refine aL 11 (.pointer (some (Ad19.add (r10.toNat * 1)))) rfl rfl (hM16 11 rfl) (rfl) (fun _ hB_=>by exact Yp (len:=(a0.getD i10 Zyt).length) ZIs sc2.size (by exact tr rfl hv20) rfl h16 h17) (Za 17 4095) (aL 12 (.int .i64 ((a0.getD i10 Zyt).getD r10.toNat Zyt)) rfl rfl (hM16 12 rfl) (rfl) (fun _ hB_=>by exact Xc (.int .i64 ((a0.getD i10 Zyt).getD r10.toNat Zyt)) (Yf ((hC.grow hB_).getP 0 rfl) hv20 r10.toNat (show r10.toNat < (a0.getD i10 Zyt).length by omega)) sc2 rfl) (Za 17 8191) (aO 13 rfl ?_))
     refine Zg [u19,u10,.int .i64 ((a0.getD i10 Zyt).getD r10.toNat Zyt)] _ ZUj rfl rfl rfl (Zd3 (a0.getD i10 Zyt) r11 ((a0.getD i10 Zyt).getD r10.toNat Zyt) h _ (hC.getP 1 rfl) (hC.getP 3 rfl)) (fun ret14 w27 hR14=>?_)
     obtain ⟨r14,u13,f13,rfl,h,hr19,hf18,hB15⟩:=hR14
     refine⟨_,rfl,?_⟩
     replace hC:=hC.push hB15 (ZIm (ZOd 2 ((EI .i64).tr)) r14 [u13] f13) hr19 hf18
     obtain ⟨ho12,hf19⟩:=Zac (hC.getM 0 rfl).1
     subst hf19
     replace hC:=hC.recast (c:=own 2 1 u13 r14.length ((EI .i64).encs r14)) (fun _ h_=>h_) (fun _=>ho12)
     refine done (aK (by assumption) (Za 17 16383) (aO 14 rfl ?_))
     have hs19:=X5 hC 0 rfl
     replace hC:=hC.thaw 0 rfl (ZH7 ((EI .i64).ty.sl) r14 [u13] (ZI5 (Zzn u13))) Y2 (fun _ hb_=>hb_)
     refine Xr (sz:=1) hC [(0,u13)] [u13] rfl (fun _=>Zc9 u13 (Zc3 (hC.getP 0 rfl)) _) rfl (by decide) fun b14 w28 hB_ hC=>?_
     have hf20:=X5 hC 0 rfl
     replace hC:=hC.thaw 0 rfl (own 22 1 (.slice (some ⟨b14,0,none⟩) 1 1) 1 [u13]) id (fun _ hb_=>hb_)
     replace hC:=hC.joinP 0 1 rfl rfl (ZH7 (((EI .i64).ty.sl).sl) [r14] [.slice (some ⟨b14,0,none⟩) 1 1] ((ZI5 (Zzn (.slice (some ⟨b14,0,none⟩) 1 1)))++(ZI5 (Zzn u13)))) (fun a_ b_=>Zcx a_ (Zgp b_)) (fun c_ hc_=>Zzu.1 hc_)
     have hs20:∀ b,b∈((ZI5 (Zzn (.slice (some ⟨b14,0,none⟩) 1 1)))++(ZI5 (Zzn u13)))→w0.heap.size≤b:=(fun b hb=>(Zzu.1 hb).elim (fun hb=>hf20 b hb) (fun hb=>hs19 b hb))
     refine done (aK (by assumption) (Za 17 32767) (Zu 15 (by decide) (by decide) (by kernel_rfl) (by kernel_rfl) rfl ?_))
     obtain ⟨cs14,hd13,ha13⟩:=Zg0 (hC.getP 0 rfl)
     replace hC:=hC.derive 0 rfl (ZUf ((EI .i64).ty.sl) [r14] cs14 ((ZI5 (Zzn (.slice (some ⟨b14,0,none⟩) 1 1)))++(ZI5 (Zzn u13)))) (fun _=>ha13) (fun _ h_=>h_)
     obtain ⟨hm16,h⟩:=h
     refine Zaw hC 0 ZSo Zda rfl (by decide) (by decide) rfl hd13 (fun q_ hq_=>ha13.2.2.1 q_ hq_) rfl rfl hm16 fun v15 w29 hC=>?_
     replace hC:=Jg hC 0 ((s10.1++[r14]).length) (cs10++cs14) rfl (by simp) (by simp)
     have hs21:∀ b,b∈(f10++((ZI5 (Zzn (.slice (some ⟨b14,0,none⟩) 1 1)))++(ZI5 (Zzn u13))))→w0.heap.size≤b∨b∈(fp0++(fp1)):=(fun b hb=>(Zzu.1 hb).elim (fun hb=>hq10 b hb) (fun hb=>.inl (hs20 b hb)))
     replace hC:=hC.joinP 6 0 rfl rfl (ZUf ((EI .i64).ty.sl) (s10.1++[r14]) (cs10++cs14) (f10++((ZI5 (Zzn (.slice (some ⟨b14,0,none⟩) 1 1)))++(ZI5 (Zzn u13))))) (fun a_ b_=>Zg1 a_ b_) (fun c_ hc_=>Zzu.1 hc_)
     refine Zc (v:=v15) rfl (done (Zv (Zs (Zd (Zh (Zb (v:=.int .i64 (i10:Int)) rfl (Zq rfl rfl (Zc (v:=.int .i64 (ZA7.wrap ((i10:Int)+1))) rfl (done ?_)))))))))
     replace hC:=hC.sP [0,8,9,10] (Ps':=[ZUf ((EI .i64).ty.sl) (s10.1++[r14]) (cs10++cs14) (f10++((ZI5 (Zzn (.slice (some ⟨b14,0,none⟩) 1 1)))++(ZI5 (Zzn u13)))),ZH7 ((EI .i64).ty.sl) r11 [u10] (ZI5 (Zzn u10)),ZH7 (((EI .i64).ty.sl).sl) a0 [u0_0] fp0,ZH7 ((EI .i64).ty.sl) a1 [u1_0] fp1]) rfl
     exact hK10 (s10.1++[r14],s10.2) _ _ ⟨v15,cs10++cs14,(f10++((ZI5 (Zzn (.slice (some ⟨b14,0,none⟩) 1 1)))++(ZI5 (Zzn u13)))),(sl ⟨rfl,rfl,rfl,rfl,rfl,(tr rfl (congrArg _ (Yh hi10 hN10))),trivial⟩),hs21,hC⟩ h
   ·clear hC h
    rintro s10 e_ w30 K10 ⟨v10,cs10,f10,hS_,hq10,hC⟩ h
    rw [ue hS_]
    refine ZIa (sr (Zb (v:=.int .i64 (a0.length:Int)) rfl (Zb (v:=u0_0) rfl ?_)))
    obtain ⟨Ad23,c23,hv23⟩:=Z1 (hC.getP 2 rfl)
    refine Zx ZSo (tr rfl hv23) (Zt rfl rfl (dn (Yi rfl (decide_eq_false (by omega)) ?_)))
    refine ZIr (Zj (Zj (Z9 ?_)))
    refine Zd (ZIa (sr (Zb (v:=.bool s10.2) rfl (Jf rfl (dn ?_)))))
    refine Zr rfl (fun hb13=>?_) (fun hb13=>?_)
    ·replace h:=ift h (Xz (Jp hb13))
     refine Zh (Zb (v:=v10) rfl (Zb (v:=u10) rfl (Xr (sz:=1) hC [(0,u10)] [u10] rfl (fun _=>Zc9 u10 (Zc3 (hC.getP 1 rfl)) _) rfl (by decide) fun b11 w31 hB_ hC=>?_)))
     have hf21:=X5 hC 0 rfl
     replace hC:=hC.thaw 0 rfl (own 22 1 (.slice (some ⟨b11,0,none⟩) 1 1) 1 [u10]) id (fun _ hb_=>hb_)
     replace hC:=hC.joinP 0 2 rfl rfl (ZH7 (((EI .i64).ty.sl).sl) [r11] [.slice (some ⟨b11,0,none⟩) 1 1] ((ZI5 (Zzn (.slice (some ⟨b11,0,none⟩) 1 1)))++(ZI5 (Zzn u10)))) (fun a_ b_=>Zcx a_ (Zgp b_)) (fun c_ hc_=>Zzu.1 hc_)
     have hs22:∀ b,b∈((ZI5 (Zzn (.slice (some ⟨b11,0,none⟩) 1 1)))++(ZI5 (Zzn u10)))→w0.heap.size≤b:=(fun b hb=>(Zzu.1 hb).elim (fun hb=>hf21 b hb) (fun hb=>hs10 b hb))
     obtain ⟨cs15,hd14,ha14⟩:=Zg0 (hC.getP 0 rfl)
     replace hC:=hC.derive 0 rfl (ZUf ((EI .i64).ty.sl) [r11] cs15 ((ZI5 (Zzn (.slice (some ⟨b11,0,none⟩) 1 1)))++(ZI5 (Zzn u10)))) (fun _=>ha14) (fun _ h_=>h_)
     obtain ⟨hm17,h⟩:=h
     refine Zaw hC 0 ZSo Zda rfl (by decide) (by decide) rfl hd14 (fun q_ hq_=>ha14.2.2.1 q_ hq_) rfl rfl hm17 fun v11 w32 hC=>?_
     replace hC:=Jg hC 0 ((s10.1++[r11]).length) (cs10++cs15) rfl (by simp) (by simp)
     have hs23:∀ b,b∈(f10++((ZI5 (Zzn (.slice (some ⟨b11,0,none⟩) 1 1)))++(ZI5 (Zzn u10))))→w0.heap.size≤b∨b∈(fp0++(fp1)):=(fun b hb=>(Zzu.1 hb).elim (fun hb=>hq10 b hb) (fun hb=>.inl (hs22 b hb)))
     replace hC:=hC.joinP 3 0 rfl rfl (ZUf ((EI .i64).ty.sl) (s10.1++[r11]) (cs10++cs15) (f10++((ZI5 (Zzn (.slice (some ⟨b11,0,none⟩) 1 1)))++(ZI5 (Zzn u10))))) (fun a_ b_=>Zg1 a_ b_) (fun c_ hc_=>Zzu.1 hc_)
     refine Zc (v:=v11) rfl (dn (sr (Zb (v:=v11) rfl (Zc (v:=v11) rfl (dn (ZIi ?_))))))
     have hf22:=X5 hC 0 rfl
     replace hC:=hC.thaw 0 rfl (own 22 1 v11 ((s10.1++[r11]).length) (cs10++cs15)) id (fun _ hb_=>hb_)
     replace hC:=hC.joinP 0 1 rfl rfl (ZH7 (((EI .i64).ty.sl).sl) (s10.1++[r11]) [v11] ((ZI5 (Zzn v11))++(f10++((ZI5 (Zzn (.slice (some ⟨b11,0,none⟩) 1 1)))++(ZI5 (Zzn u10)))))) (fun a_ b_=>Zcx a_ b_) (fun c_ hc_=>Zzu.1 hc_)
     have hs24:∀ b,b∈((ZI5 (Zzn v11))++(f10++((ZI5 (Zzn (.slice (some ⟨b11,0,none⟩) 1 1)))++(ZI5 (Zzn u10)))))→w0.heap.size≤b∨b∈(fp0++(fp1)):=(fun b hb=>(Zzu.1 hb).elim (fun hb=>.inl (hf22 b hb)) (fun hb=>hs23 b hb))
     refine Zp (fn:=Tryz.f106) rfl ?_ ⟨s10.1++[r11],v11,((ZI5 (Zzn v11))++(f10++((ZI5 (Zzn (.slice (some ⟨b11,0,none⟩) 1 1)))++(ZI5 (Zzn u10))))),rfl,h,(hC.getP 0 rfl),(fun b hb=>hs24 b hb),hC.below⟩ (.inl rfl)
     exact Zi rfl
    ·replace h:=Zk h (not_not_intro ((Jq hb13)))
     refine ZIe (Zd (sr (Zb (v:=v10) rfl (Zc (v:=v10) rfl (dn (ZIi ?_))))))
     have hf23:=X5 hC 0 rfl
     replace hC:=hC.thaw 0 rfl (own 22 1 v10 s10.1.length cs10) id (fun _ hb_=>hb_)
     replace hC:=hC.joinP 0 1 rfl rfl (ZH7 (((EI .i64).ty.sl).sl) s10.1 [v10] ((ZI5 (Zzn v10))++f10)) (fun a_ b_=>Zcx a_ b_) (fun c_ hc_=>Zzu.1 hc_)
     have hs25:∀ b,b∈((ZI5 (Zzn v10))++f10)→w0.heap.size≤b∨b∈(fp0++(fp1)):=(fun b hb=>(Zzu.1 hb).elim (fun hb=>.inl (hf23 b hb)) (fun hb=>hq10 b hb))
     refine Zp (fn:=Tryz.f106) rfl ?_ ⟨s10.1,v10,((ZI5 (Zzn v10))++f10),rfl,h,(hC.getP 0 rfl),(fun b hb=>hs25 b hb),hC.below⟩ (.inl rfl)
     exact Zi rfl
   ·skip
    replace hC:=hC.sP [1,0,2,3] (Ps':=[ZUf ((EI .i64).ty.sl) [] [] [],ZH7 ((EI .i64).ty.sl) r11 [u10] (ZI5 (Zzn u10)),ZH7 (((EI .i64).ty.sl).sl) a0 [u0_0] fp0,ZH7 ((EI .i64).ty.sl) a1 [u1_0] fp1]) rfl
    exact⟨.slice (some ⟨b15,0,none⟩) 0 0,[],[],(sl ⟨rfl,rfl,rfl,rfl,rfl,rfl,trivial⟩),(fun b hb=>.inl ((fun b hb=>absurd hb (by simp)) b hb)),hC⟩
  refine Xg 2 8 rfl rfl (by kernel_rfl) ?_ ?_
  ·skip
   replace h:=h.1
   obtain ⟨hm10,h⟩:=h
   refine Zck (sz:=1) hC ((EI .i64).encs (Zy0 ((r6.length:Int).toNat) (0:Int))) ZIs el2 (tr rfl (congrArg (ZK4 .i64) (ZK5 hm10.1).symm)) (tr rfl (congrArg (ZK4 .i64) (ZK5 hm10.1).symm)) (by omega) (by omega) (Zcl (E:=(EI .i64)) _ _) fun v16 w33 hB_ hC=>?_
   replace hC:=Jg hC 0 ((Zy0 ((r6.length:Int).toNat) (0:Int)).length) ((EI .i64).encs (Zy0 ((r6.length:Int).toNat) (0:Int))) rfl (by simp) rfl
   refine done (aK (by assumption) (Za 13 255) (aO 8 rfl ?_))
   refine Zg [.int .i64 (r6.getD r10.toNat Zyt)] _ Tryz.func164 rfl rfl rfl (Zou (r6.getD r10.toNat Zyt) h _) (fun ret15 w34 hR15=>?_)
   obtain ⟨r20,rfl,h,hB16⟩:=hR15
   refine⟨_,rfl,?_⟩
   replace hC:=hC.grow hB16
   refine done (aK (by assumption) (Za 13 511) (aF 9 (.int .i64 (ZA7.wrap (0 - r20))) rfl rfl (hM13 9 rfl) (rfl) (fun _=>by exact Zmi rfl) (Za 13 1023) (aO 10 rfl ?_)))
   refine Zg [.int .i64 (ZA7.wrap (0 - r20))] _ ZIx rfl rfl rfl (Zbn (ZA7.wrap (0 - r20)) h _) (fun ret16 w35 hR16=>?_)
   obtain ⟨r21,rfl,h,hB17⟩:=hR16
   refine⟨_,rfl,?_⟩
   replace hC:=hC.grow hB17
   refine done (aK (by assumption) (Za 13 2047) (Zu 11 (by decide) (by decide) (by kernel_rfl) (by kernel_rfl) rfl ?_))
   refine Zg [v16,u7,.int .i64 r21] _ ZUj rfl rfl rfl (Zd3 (Zy0 ((r6.length:Int).toNat) (0:Int)) r6 r21 h _ (Y2 (hC.getM 0 rfl)) (hC.getP 0 rfl)) (fun ret17 w36 hR17=>?_)
   obtain ⟨r15,u14,f14,rfl,h,hr20,hf24,hB18⟩:=hR17
   refine⟨_,rfl,?_⟩
   replace hC:=hC.push hB18 (ZIm (ZOd 2 ((EI .i64).tr)) r15 [u14] f14) hr20 hf24
   obtain ⟨ho13,hf25⟩:=Zac (hC.getM 0 rfl).1
   subst hf25
   replace hC:=hC.recast (c:=own 2 1 u14 r15.length ((EI .i64).encs r15)) (fun _ h_=>h_) (fun _=>ho13)
   refine Zc (v:=u14) rfl (done (Zv ?_))
   replace hC:=hC.sM [0] (M':=[own 2 1 u14 r15.length ((EI .i64).encs r15)]) (by decide) rfl
   replace hC:=hC.sP [1,2] (Ps':=[ZH7 (((EI .i64).ty.sl).sl) a0 [u0_0] fp0,ZH7 ((EI .i64).ty.sl) a1 [u1_0] fp1]) rfl
   exact⟨rfl,_,rfl,⟨u14,r15,(sl ⟨rfl,rfl,rfl,trivial⟩),hC,h⟩⟩
  ·skip
   replace h:=h.2
   refine Zg [.int .i64 (r6.getD r10.toNat Zyt)] _ Tryz.func164 rfl rfl rfl (Zou (r6.getD r10.toNat Zyt) h _) (fun ret18 w37 hR18=>?_)
   obtain ⟨r19,rfl,h,hB19⟩:=hR18
   refine⟨_,rfl,?_⟩
   replace hC:=hC.grow hB19
   refine done (aK (by assumption) (Za 13 507) (aF 9 (.int .i64 (ZA7.wrap (0 - r19))) rfl rfl (hM13 9 rfl) (rfl) (fun _=>by exact Zmi rfl) (Za 13 1019) ?_))
   refine Xg 2 10 rfl rfl (by kernel_rfl) ?_ ?_
   ·skip
    replace h:=h.1
    obtain ⟨hm11,h⟩:=h
    refine Zck (sz:=1) hC ((EI .i64).encs (Zy0 ((r6.length:Int).toNat) (0:Int))) ZIs el2 (tr rfl (congrArg (ZK4 .i64) (ZK5 hm11.1).symm)) (tr rfl (congrArg (ZK4 .i64) (ZK5 hm11.1).symm)) (by omega) (by omega) (Zcl (E:=(EI .i64)) _ _) fun v17 w38 hB_ hC=>?_
    replace hC:=Jg hC 0 ((Zy0 ((r6.length:Int).toNat) (0:Int)).length) ((EI .i64).encs (Zy0 ((r6.length:Int).toNat) (0:Int))) rfl (by simp) rfl
    refine done (aK (by assumption) (Za 13 1023) (aO 10 rfl ?_))
    refine Zg [.int .i64 (ZA7.wrap (0 - r19))] _ ZIx rfl rfl rfl (Zbn (ZA7.wrap (0 - r19)) h _) (fun ret19 w39 hR19=>?_)
    obtain ⟨r22,rfl,h,hB20⟩:=hR19
    refine⟨_,rfl,?_⟩
    replace hC:=hC.grow hB20
    refine done (aK (by assumption) (Za 13 2047) (Zu 11 (by decide) (by decide) (by kernel_rfl) (by kernel_rfl) rfl ?_))
    refine Zg [v17,u7,.int .i64 r22] _ ZUj rfl rfl rfl (Zd3 (Zy0 ((r6.length:Int).toNat) (0:Int)) r6 r22 h _ (Y2 (hC.getM 0 rfl)) (hC.getP 0 rfl)) (fun ret20 w40 hR20=>?_)
    obtain ⟨r16,u15,f15,rfl,h,hr21,hf26,hB21⟩:=hR20
    refine⟨_,rfl,?_⟩
    replace hC:=hC.push hB21 (ZIm (ZOd 2 ((EI .i64).tr)) r16 [u15] f15) hr21 hf26
    obtain ⟨ho14,hf27⟩:=Zac (hC.getM 0 rfl).1
    subst hf27
    replace hC:=hC.recast (c:=own 2 1 u15 r16.length ((EI .i64).encs r16)) (fun _ h_=>h_) (fun _=>ho14)
    refine Zc (v:=u15) rfl (done (Zv ?_))
    replace hC:=hC.sM [0] (M':=[own 2 1 u15 r16.length ((EI .i64).encs r16)]) (by decide) rfl
    replace hC:=hC.sP [1,2] (Ps':=[ZH7 (((EI .i64).ty.sl).sl) a0 [u0_0] fp0,ZH7 ((EI .i64).ty.sl) a1 [u1_0] fp1]) rfl
    exact⟨rfl,_,rfl,⟨u15,r16,(sl ⟨rfl,rfl,rfl,trivial⟩),hC,h⟩⟩
   ·skip
    replace h:=h.2
    refine Zg [.int .i64 (ZA7.wrap (0 - r19))] _ ZIx rfl rfl rfl (Zbn (ZA7.wrap (0 - r19)) h _) (fun ret21 w41 hR21=>?_)
    obtain ⟨r23,rfl,h,hB22⟩:=hR21
    refine⟨_,rfl,?_⟩
    replace hC:=hC.grow hB22
    refine done (aK (by assumption) (Za 13 2043) (aO 2 rfl ?_))
    obtain ⟨hm12,h⟩:=h
    refine Zck (sz:=1) hC ((EI .i64).encs (Zy0 ((r6.length:Int).toNat) (0:Int))) ZIs el2 (tr rfl (congrArg (ZK4 .i64) (ZK5 hm12.1).symm)) (tr rfl (congrArg (ZK4 .i64) (ZK5 hm12.1).symm)) (by omega) (by omega) (Zcl (E:=(EI .i64)) _ _) fun v18 w42 hB_ hC=>?_
    replace hC:=Jg hC 0 ((Zy0 ((r6.length:Int).toNat) (0:Int)).length) ((EI .i64).encs (Zy0 ((r6.length:Int).toNat) (0:Int))) rfl (by simp) rfl
    refine done (aK (by assumption) (Za 13 2047) (Zu 11 (by decide) (by decide) (by kernel_rfl) (by kernel_rfl) rfl ?_))
    refine Zg [v18,u7,.int .i64 r23] _ ZUj rfl rfl rfl (Zd3 (Zy0 ((r6.length:Int).toNat) (0:Int)) r6 r23 h _ (Y2 (hC.getM 0 rfl)) (hC.getP 0 rfl)) (fun ret22 w43 hR22=>?_)
    obtain ⟨r17,u16,f16,rfl,h,hr22,hf28,hB23⟩:=hR22
    refine⟨_,rfl,?_⟩
    replace hC:=hC.push hB23 (ZIm (ZOd 2 ((EI .i64).tr)) r17 [u16] f16) hr22 hf28
    obtain ⟨ho15,hf29⟩:=Zac (hC.getM 0 rfl).1
    subst hf29
    replace hC:=hC.recast (c:=own 2 1 u16 r17.length ((EI .i64).encs r17)) (fun _ h_=>h_) (fun _=>ho15)
    refine Zc (v:=u16) rfl (done (Zv ?_))
    replace hC:=hC.sM [0] (M':=[own 2 1 u16 r17.length ((EI .i64).encs r17)]) (by decide) rfl
    replace hC:=hC.sP [1,2] (Ps':=[ZH7 (((EI .i64).ty.sl).sl) a0 [u0_0] fp0,ZH7 ((EI .i64).ty.sl) a1 [u1_0] fp1]) rfl
    exact⟨rfl,_,rfl,⟨u16,r17,(sl ⟨rfl,rfl,rfl,trivial⟩),hC,h⟩⟩
def Zey (a0:List (List Int)) (K:List (List Int)→Prop):Prop :=
 Yt (fun i10 (s10:(List (List Int))) nx10=>Zhc s10 (a0.getD i10 Zyt) (fun r10=>nx10 r10)) (fun (s10:(List (List Int)))=>K s10) a0.length 0 []
theorem Zov (a0:List (List Int)) {u0_0:Value} {fp0:List Nat} {K:List (List Int)→Prop} (h:Zey a0 K) (w0:World) (q0:(((EI .i64).ty.sl).sl).rep a0 [u0_0] fp0 w0) :
  Calls ZId 55 #[u0_0] w0 fun e w'=>∃ (r0:List (List Int)) (z0_0:Value) (fz0:List Nat),
   e=.returned (z0_0)∧K r0∧(((EI .i64).ty.sl).sl).rep r0 [z0_0] fz0 w'∧(∀ b,b∈fz0→w0.heap.size≤b∨b∈(fp0))∧Bel w0 w':=by
 unfold Zey at h
 refine Z4 (args:=[u0_0]) Tryz.func55 rfl 19 Tryz.ntmps55 (ZIc rfl) ?_
 have hC:=ZIt (X:=Nox) w0 [ZH7 (((EI .i64).ty.sl).sl) a0 [u0_0] fp0] (by simp only [Zyz,ZAt,or_false,forall_eq_or_imp,forall_eq]; exact q0)
 refine sr (Zc (v:=.slice none 0 0) rfl (dn (sr (Xr (sz:=1) hC [] [] rfl (fun _=>Zg2 _) rfl (by decide) fun b2 w3 hB_ hC=>?_))))
 replace hC:=hC.pushM0 (Ym (ZOd 2 ((EI .i64).tr)) ([]:List (List Int)) [] []) (Za5 _ _) rfl
 replace hC:=hC.gather (c:=ZIm (ZOd 22 (ZOd 2 ((EI .i64).tr))) [] [.slice (some ⟨b2,0,none⟩) 0 0] ((ZI5 (Zzn (.slice (some ⟨b2,0,none⟩) 0 0)))++([]:List (List Nat)).flatten)) (fun x_ hx_=>(Zzu.1 hx_).symm) (fun h1_ h2_ hd_=>Zal h2_ h1_ (fun b_ hb_ hb2_=>hd_ b_ hb2_ hb_))
 refine Zc (v:=.slice (some ⟨b2,0,none⟩) 0 0) rfl (dn (ZIa (sr (Zc (v:=.int .i64 0) rfl (dn (ZIj ?_))))))
 have hs5:=Zbl hC 0 rfl
 replace hC:=hC.thaw 0 rfl (ZH7 (((EI .i64).ty.sl).sl) [] [.slice (some ⟨b2,0,none⟩) 0 0] ((ZI5 (Zzn (.slice (some ⟨b2,0,none⟩) 0 0)))++([]:List (List Nat)).flatten)) (fun h_=>Tr.trep _ h_.1) (fun _ hb_=>hb_)
 have hN10:a0.length≤9223372036854775807:=Xp (hC.getP 1 rfl)
 refine Y9 (S:=(List (List Int))) _ _ (fun i10 s10 e_ w_=>∃ (v10:Value),∃ (f10:List Nat),Z3 e_ [(0,u0_0),(3,v10),(4,.int .i64 (i10:Int))]∧(∀ b,b∈f10→w0.heap.size≤b∨b∈(fp0))∧Ctx Nox w0 w_ [] [ZH7 (((EI .i64).ty.sl).sl) s10 [v10] f10,ZH7 (((EI .i64).ty.sl).sl) a0 [u0_0] fp0]) a0.length ?_ ?_ (s0:=[]) ?_ h
 ·clear hC h
  rintro i10 s10 e_ w10 nx10 K10 hi10 ⟨v10,f10,hS_,hq10,hC⟩ h hK10
  rw [ue hS_]
  refine ZIa (sr (Zb (v:=.int .i64 (i10:Int)) rfl (Zb (v:=u0_0) rfl ?_)))
  obtain ⟨Ad10,c10,hv11⟩:=Z1 (hC.getP 1 rfl)
  refine Zx ZSo (tr rfl hv11) (Zt rfl rfl (dn (Yr rfl (decide_eq_true (by omega)) (ZIe (Zd (ZIa (ZIj (Zh (Zb (v:=v10) rfl (Zb (v:=u0_0) rfl (Zb (v:=.int .i64 (i10:Int)) rfl ?_)))))))))))
  obtain ⟨Ad11,c11,hv10⟩:=Z0 (hC.getP 1 rfl) i10 hi10
  refine Xb (len:=a0.length) ZSo sc22.size (tr rfl hv10) rfl (ZIv _) (ZJi.2 hi10) ?_
  obtain ⟨cs_,hl10,hc10,hr10⟩:=Xs (hC.getP 1 rfl) hv10 i10 hi10
  obtain ⟨u11,rfl⟩:=ZI4.1 hl10
  clear hl10
  rw [Xt _ _ hi10] at hr10
  replace hC:=hC.derive 1 rfl (ZH7 ((EI .i64).ty.sl) (a0.getD i10 Zyt) [u11] fp0) (fun _=>hr10) (fun _ hb_=>hb_)
  refine Xm (u11) hc10 sc22 rfl ?_
  refine Zg [v10,u11] _ Tryz.func106 rfl rfl rfl (Zwi s10 (a0.getD i10 Zyt) h _ (hC.getP 1 rfl) (hC.getP 0 rfl)) (fun ret10 w11 hR10=>?_)
  obtain ⟨r10,u10,f11,rfl,h,hr11,hf10,hB10⟩:=hR10
  refine⟨_,rfl,?_⟩
  have hs10:∀ b,b∈f11→w0.heap.size≤b∨b∈(fp0):=(fun b hb=>(hf10 b hb).elim (fun h_=>.inl (Zy6 hC.size h_)) (fun hb=>(Zzu.1 hb).elim (fun hb=>hq10 b hb) (fun hb=>.inr hb)))
  replace hC:=hC.pushR hB10 (ZH7 (((EI .i64).ty.sl).sl) r10 [u10] f11) hr11 (fun b hb=>(hf10 b hb).elim .inl (fun hb=>.inr ((Zzu.1 hb).elim (fun hb=>⟨_,List.mem_of_getElem? (i:=1) rfl,hb⟩) (fun hb=>⟨_,List.mem_of_getElem? (i:=0) rfl,hb⟩))))
  refine Zc (v:=u10) rfl (done (Zs (Zd (Zh (Zb (v:=.int .i64 (i10:Int)) rfl (Zq rfl rfl (Zc (v:=.int .i64 (ZA7.wrap ((i10:Int)+1))) rfl (done ?_))))))))
  replace hC:=hC.sP [0,3] (Ps':=[ZH7 (((EI .i64).ty.sl).sl) r10 [u10] f11,ZH7 (((EI .i64).ty.sl).sl) a0 [u0_0] fp0]) rfl
  exact hK10 r10 _ _ ⟨u10,f11,(sl ⟨rfl,rfl,(tr rfl (congrArg _ (Yh hi10 hN10))),trivial⟩),hs10,hC⟩ h
 ·clear hC h
  rintro s10 e_ w12 K10 ⟨v10,f10,hS_,hq10,hC⟩ h
  rw [ue hS_]
  refine ZIa (sr (Zb (v:=.int .i64 (a0.length:Int)) rfl (Zb (v:=u0_0) rfl ?_)))
  obtain ⟨Ad12,c12,hv12⟩:=Z1 (hC.getP 1 rfl)
  refine Zx ZSo (tr rfl hv12) (Zt rfl rfl (dn (Yi rfl (decide_eq_false (by omega)) ?_)))
  refine ZIr (Zj (Zj (Z9 ?_)))
  refine Zd (sr (Zb (v:=v10) rfl (Zc (v:=v10) rfl (dn (ZIi ?_)))))
  refine Zp (fn:=Tryz.f55) rfl ?_ ⟨s10,v10,f10,rfl,h,(hC.getP 0 rfl),(fun b hb=>hq10 b hb),hC.below⟩ (.inl rfl)
  exact Zi rfl
 ·skip
  exact⟨.slice (some ⟨b2,0,none⟩) 0 0,((ZI5 (Zzn (.slice (some ⟨b2,0,none⟩) 0 0)))++([]:List (List Nat)).flatten),(sl ⟨rfl,rfl,rfl,trivial⟩),(fun b hb=>.inl (hs5 b hb)),hC⟩
def Zhd (a0:Alg) (a1:Int) (K:Int→Int→Prop):Prop :=
 Zg3 a0 a1 1 11 1 (fun r10=>(if r10≠0 then K 0 r10 else Zex a0 a1 (fun r11=>Zex a0 (ZA7.wrap (a1+1)) (fun r12=>Zey r11 (fun r13=>Zey r12 (fun r14=>K (ZA7.wrap ((ZA7.wrap ((r11.length:Int) - (r13.length:Int))) - (r14.length:Int))) 0))))))
theorem Zwj (a0:Alg) (a1:Int) {u0_0:Value} {u0_1:Value} {fp0:List Nat} {K:Int→Int→Prop} (h:Zhd a0 a1 K) (w0:World) (q0:TAlg.rep a0 [u0_0,u0_1] fp0 w0) :
  Calls ZId 19 #[.agg #[u0_0,u0_1],.int .i64 a1] w0 fun e w'=>∃ (r0:Int) (r1:Int),
   e=.returned (.tuple #[.int .i64 r0,.int .i64 r1])∧K r0 r1∧Bel w0 w':=by
 unfold Zhd at h
 refine Z4 (args:=[.agg #[u0_0,u0_1],.int .i64 a1]) Tryz.func19 rfl 32 Tryz.ntmps19 (ZIc rfl) ?_
 have hC:=ZIt (X:=Nox) w0 [ZH7 TAlg a0 [u0_0,u0_1] fp0] (by simp only [Zyz,ZAt,or_false,forall_eq_or_imp,forall_eq]; exact q0)
 have hp2:=(hC.getP 0 rfl)
 replace hC:=hC.derive 0 rfl (ZH7 ((EI .i64).ty.sl) a0.degrees [u0_0] fp0) (fun _=>(Yw hp2).1) (fun _ hb_=>hb_)
 replace hC:=hC.derive 1 rfl (ZH7 ZIo.sl a0.images [u0_1] fp0) (fun _=>(Yw hp2).2) (fun _ hb_=>hb_)
 refine sr (Yl (v:=.agg #[u0_0,u0_1]) hC [u0_0,u0_1] rfl rfl fun b5 w7 hB_ hC=>Zc (v:=.int .i64 0) rfl (Zc (v:=.int .i64 0) rfl (dn (ZIa (sr (Yy hC 0 [u0_0,u0_1] rfl ag32 rfl rfl rfl (Zb (v:=.int .i64 a1) rfl ?_)))))))
 refine Zg [.agg #[u0_0,u0_1],.int .i64 a1,.int .i64 1,.int .i64 11,.int .i64 1] _ Tryz.func39 rfl rfl rfl (Zv9 a0 a1 1 11 1 h _ (Xy (hC.getP 1 rfl) (hC.getP 0 rfl))) (fun ret8 w10 hR9=>?_)
 obtain ⟨r10,rfl,h,hB10⟩:=hR9
 refine⟨_,rfl,?_⟩
 replace hC:=hC.grow hB10
 refine Zc (v:=.int .i64 r10) rfl (dn (sr (Zb (v:=.int .i64 r10) rfl (Xl rfl rfl (dn ?_)))))
 refine Zr rfl (fun hb10=>?_) (fun hb10=>?_)
 ·replace h:=ift h (ct hb10)
  refine sr (Zb (v:=.int .i64 r10) rfl (Zc (v:=.int .i64 0) rfl (Zc (v:=.int .i64 r10) rfl (dn ?_))))
  refine ZIi (Zo ?_)
  refine Jo (fn:=Tryz.f19) rfl ?_ ?_ ⟨0,r10,rfl,h,hC.below⟩ (.inl rfl)
  ·exact Zi rfl
  ·exact Zi rfl
 ·replace h:=Zk h (cf hb10)
  refine ZIe (Zd (ZIa ?_))
  refine Yg 6 Ye [0,0,3,0,0,16,63,127,255] [0,3] [1,4,5] (by kernel_rfl) (by kernel_rfl) (by kernel_rfl) (fun hM11 hM10 w11 hB_=>?_)
  replace hC:=hC.grow hB_
  refine aL 0 (.agg #[u0_0,u0_1]) rfl rfl (hM11 0 rfl) (rfl) (fun _ hB_=>by exact Yv (hC.grow hB_) 0 [u0_0,u0_1] rfl ag32 rfl rfl rfl) (Za 9 1) (aF 1 (.int .i64 a1) rfl rfl (hM10 1 rfl) (rfl) (fun _=>by exact Zf (v:=.int .i64 a1) rfl) (Za 9 3) (aL 3 (.agg #[u0_0,u0_1]) rfl rfl (hM11 3 rfl) (rfl) (fun _ hB_=>by exact Yv (hC.grow hB_) 0 [u0_0,u0_1] rfl ag32 rfl rfl rfl) (Za 9 11) (aF 4 (.int .i64 a1) rfl rfl (hM10 4 rfl) (rfl) (fun _=>by exact Zf (v:=.int .i64 a1) rfl) (Za 9 27) (aF 5 (.int .i64 (ZA7.wrap (a1+1))) rfl rfl (hM10 5 rfl) (rfl) (fun _=>by exact Zdh rfl rfl) (Za 9 59) (aO 2 rfl ?_)))))
  refine Zg [.agg #[u0_0,u0_1],.int .i64 a1] _ Tryz.func54 rfl rfl rfl (Zot a0 a1 h _ (Xy (hC.getP 1 rfl) (hC.getP 0 rfl))) (fun ret10 w12 hR10=>?_)
  obtain ⟨r11,u10,f10,rfl,h,hr10,hf12,hB11⟩:=hR10
  refine⟨_,rfl,?_⟩
  replace hC:=hC.push hB11 (ZIm (ZOd 22 (ZOd 2 ((EI .i64).tr))) r11 [u10] f10) hr10 hf12
  refine done (aK (by assumption) (Za 9 63) (Zu 6 (by decide) (by decide) (by kernel_rfl) (by kernel_rfl) rfl ?_))
  refine Zg [.agg #[u0_0,u0_1],.int .i64 (ZA7.wrap (a1+1))] _ Tryz.func54 rfl rfl rfl (Zot a0 (ZA7.wrap (a1+1)) h _ (Xy (hC.getP 1 rfl) (hC.getP 0 rfl))) (fun ret11 w13 hR11=>?_)
  obtain ⟨r12,u11,f11,rfl,h,hr11,hf13,hB12⟩:=hR11
  refine⟨_,rfl,?_⟩
  replace hC:=hC.push hB12 (ZIm (ZOd 22 (ZOd 2 ((EI .i64).tr))) r12 [u11] f11) hr11 hf13
  refine Zc (v:=u10) rfl (Zc (v:=u11) rfl (done (Zv (Zd (sr (Zb (v:=u10) rfl ?_))))))
  obtain ⟨Ad10,c10,hv10⟩:=Zfw (hC.getM 1 rfl)
  refine Zx ZSo (tr rfl hv10) (Zb (v:=u10) rfl ?_)
  have hs10:=Zbl hC 1 rfl
  replace hC:=hC.thaw 1 rfl (ZH7 (((EI .i64).ty.sl).sl) r11 [u10] f10) (fun h_=>Tr.trep _ h_.1) (fun _ hb_=>hb_)
  refine Zg [u10] _ Tryz.func55 rfl rfl rfl (Zov r11 h _ (hC.getP 0 rfl)) (fun ret12 w14 hR12=>?_)
  obtain ⟨r13,u12,f12,rfl,h,hr12,hf10,hB13⟩:=hR12
  refine⟨_,rfl,?_⟩
  have hs12:∀ b,b∈f12→w0.heap.size≤b∨b∈(fp0):=(fun b hb=>(hf10 b hb).elim (fun h_=>.inl (Zy6 hC.size h_)) (fun hb=>.inl (hs10 b hb)))
  replace hC:=hC.pushR hB13 (ZH7 (((EI .i64).ty.sl).sl) r13 [u12] f12) hr12 (fun b hb=>(hf10 b hb).elim .inl (fun hb=>.inr (⟨_,List.mem_of_getElem? (i:=0) rfl,hb⟩)))
  obtain ⟨Ad11,c11,hv11⟩:=Z1 (hC.getP 0 rfl)
  refine Zx ZSo (tr rfl hv11) (Jt rfl rfl (Zb (v:=u11) rfl ?_))
  have hs11:=Zbl hC 0 rfl
  replace hC:=hC.thaw 0 rfl (ZH7 (((EI .i64).ty.sl).sl) r12 [u11] f11) (fun h_=>Tr.trep _ h_.1) (fun _ hb_=>hb_)
  refine Zg [u11] _ Tryz.func55 rfl rfl rfl (Zov r12 h _ (hC.getP 0 rfl)) (fun ret13 w15 hR13=>?_)
  obtain ⟨r14,u13,f13,rfl,h,hr13,hf11,hB14⟩:=hR13
  refine⟨_,rfl,?_⟩
  have hs13:∀ b,b∈f13→w0.heap.size≤b∨b∈(fp0):=(fun b hb=>(hf11 b hb).elim (fun h_=>.inl (Zy6 hC.size h_)) (fun hb=>.inl (hs11 b hb)))
  replace hC:=hC.pushR hB14 (ZH7 (((EI .i64).ty.sl).sl) r14 [u13] f13) hr13 (fun b hb=>(hf11 b hb).elim .inl (fun hb=>.inr (⟨_,List.mem_of_getElem? (i:=0) rfl,hb⟩)))
  obtain ⟨Ad12,c12,hv12⟩:=Z1 (hC.getP 0 rfl)
  refine Zx ZSo (tr rfl hv12) (Jt rfl rfl (Zc (v:=.int .i64 (ZA7.wrap ((ZA7.wrap ((r11.length:Int) - (r13.length:Int))) - (r14.length:Int)))) rfl (Zc (v:=.int .i64 0) rfl (dn (ZIi ?_)))))
  refine Jo (fn:=Tryz.f19) rfl ?_ ?_ ⟨ZA7.wrap ((ZA7.wrap ((r11.length:Int) - (r13.length:Int))) - (r14.length:Int)),0,rfl,h,hC.below⟩ (.inl rfl)
  ·exact Zi rfl
  ·exact Zi rfl
def f_impl_lister_from (fu_:Nat) (a0:List Int×Int×List A8) (a1:Int) (a2:A8) (a3:Int) (K:List A8→Prop):Prop :=
 match fu_ with
 | 0=>False
 | fu_+1=>(if(a0.2.2.length:Int) > a0.2.1 then K a0.2.2 else(if a1=(a0.1.length:Int) then(if a3=0 then(Yo (a0.2.2.length+1) 64∧K (a0.2.2++[a2])) else K a0.2.2) else((0≤a1∧a1 < (a0.1.length:Int))∧((a0.1.getD a1.toNat Zyt)≠0∧(if Int.tmod (a0.1.getD a1.toNat Zyt) 2=1 then Xj (fun (s10:A8×(List A8)×Int) nx10=>(if s10.2.2≥0 then((0≤a1∧a1 < 8)∧f_impl_lister_from fu_ (⟨a0.1,a0.2.1,s10.2.1⟩:List Int×Int×List A8) (ZA7.wrap (a1+1)) (s10.1.set a1.toNat s10.2.2) (ZA7.wrap (a3 - (ZA7.wrap (s10.2.2 * (a0.1.getD a1.toNat Zyt))))) (fun m10=>nx10 (s10.1.set a1.toNat s10.2.2,m10,ZA7.wrap (s10.2.2 - 1)))) else K s10.2.1)) (a2,a0.2.2,(if 1 < (if 20 < ZA7.wrap (ZSf a3 (a0.1.getD a1.toNat Zyt)) then 20 else ZA7.wrap (ZSf a3 (a0.1.getD a1.toNat Zyt))) then 1 else(if 20 < ZA7.wrap (ZSf a3 (a0.1.getD a1.toNat Zyt)) then 20 else ZA7.wrap (ZSf a3 (a0.1.getD a1.toNat Zyt))))) else Xj (fun (s11:A8×(List A8)×Int) nx11=>(if s11.2.2≥0 then((0≤a1∧a1 < 8)∧f_impl_lister_from fu_ (⟨a0.1,a0.2.1,s11.2.1⟩:List Int×Int×List A8) (ZA7.wrap (a1+1)) (s11.1.set a1.toNat s11.2.2) (ZA7.wrap (a3 - (ZA7.wrap (s11.2.2 * (a0.1.getD a1.toNat Zyt))))) (fun m11=>nx11 (s11.1.set a1.toNat s11.2.2,m11,ZA7.wrap (s11.2.2 - 1)))) else K s11.2.1)) (a2,a0.2.2,(if 20 < ZA7.wrap (ZSf a3 (a0.1.getD a1.toNat Zyt)) then 20 else ZA7.wrap (ZSf a3 (a0.1.getD a1.toNat Zyt)))))))))
theorem Zwk (fu_:Nat):∀ (a0:List Int×Int×List A8) (a1:Int) (a2:A8) (a3:Int) {b0:Nat} {u0_0:Value} {u0_2:Value} {fp0:List Nat} {K:List A8→Prop} (h:f_impl_lister_from fu_ a0 a1 a2 a3 K) (w0:World) (q0:(ZH7 ((EI .i64).ty.sl) a0.1 [u0_0] fp0).holds w0) (qb0:(blk b0 187 [u0_0,.int .i64 a0.2.1,u0_2]).holds w0) (qo0:(own 73 8 u0_2 a0.2.2.length ((EA .i64).encs a0.2.2)).holds w0) (db0:b0∉ZI5 (Zzn u0_2)) (dq0:∀ b,b∈fp0→b∉b0::ZI5 (Zzn u0_2)),
  Calls ZId 159 #[.pointer (some ⟨b0,0,none⟩),.int .i64 a1,.agg (ZH8 (ZH6 .i64 a2)),.int .i64 a3] w0 fun e w'=>∃ (m0:List A8) (y0:Value),
   e=.returned (.tuple #[])∧K m0∧(blk b0 187 [u0_0,.int .i64 a0.2.1,y0]).holds w'∧(own 73 8 y0 m0.length ((EA .i64).encs m0)).holds w'∧(∀ b,b∈ZI5 (Zzn y0)→b∈ZI5 (Zzn u0_2)∨w0.heap.size≤b)∧BelO (b0::ZI5 (Zzn u0_2)) w0 w':=by
 induction fu_ with
 | zero =>
  intro a0 a1 a2 a3 b0 u0_0 u0_2 fp0 K h w0 q0 qb0 qo0 db0 dq0
  exact False.elim h
 | succ fu_ ih_ =>
  intro a0 a1 a2 a3 b0 u0_0 u0_2 fp0 K h w0 q0 qb0 qo0 db0 dq0
  rw [f_impl_lister_from.eq_2] at h
  refine Z4 (args:=[.pointer (some ⟨b0,0,none⟩),.int .i64 a1,.agg (ZH8 (ZH6 .i64 a2)),.int .i64 a3]) ZUl rfl 74 Tryz.ntmps159 (ZIc rfl) ?_
  have hC:=Ctx.startL w0 (b0::ZI5 (Zzn u0_2)) [blk b0 187 [u0_0,.int .i64 a0.2.1,u0_2],own 73 8 u0_2 a0.2.2.length ((EA .i64).encs a0.2.2)] [ZH7 ((EI .i64).ty.sl) a0.1 [u0_0] fp0] (by simp only [Zyz,ZAt,or_false,forall_eq_or_imp,forall_eq]; exact⟨qb0,qo0⟩) (by simp only [Zyz,ZAt,or_false,forall_eq_or_imp,forall_eq]; exact q0) (fun it_ hi_ b_ hb_=>(Zyz.1 hi_).elim (fun e_=>by subst e_; exact Zyz.2 (.inl (ZAs.1 hb_))) (fun hi_=>by obtain rfl:=ZAs.1 hi_; exact List.mem_cons_of_mem _ hb_)) (List.pairwise_cons.2 ⟨(fun it_ hi_ b_ hb_ hb2_=>by obtain rfl:=ZAs.1 hi_; exact db0 (ZAs.1 hb_ ▸ hb2_)),List.pairwise_singleton _ _⟩) (fun it_ hi_ b_ hb_=>by obtain rfl:=ZAs.1 hi_; exact dq0 b_ hb_)
  refine sr (Yl (v:=.agg (ZH8 (ZH6 .i64 a2))) hC (ZH6 .i64 a2) rfl rfl fun b4 w6 hB_ hC=>dn (ZIa (ZIa ?_)))
  refine Yg 9 Ye [0,1,3,7,15,0,32,96,224,511] [3,4,8] [0,1,2,5,6,7] (by kernel_rfl) (by kernel_rfl) (by kernel_rfl) (fun hM8 hM9 w7 hB_=>?_)
  replace hC:=hC.grow hB_
  refine aF 0 (.pointer (some ⟨b0,0,none⟩)) rfl rfl (hM9 0 rfl) (rfl) (fun _=>by exact Zf (v:=.pointer (some ⟨b0,0,none⟩)) rfl) (Za 10 1) (aF 1 (.pointer (some ⟨b0,0,none⟩)) rfl rfl (hM9 1 rfl) (rfl) (fun _=>by exact J9 rfl) (Za 10 3) (aF 2 (.pointer (some ⟨b0,2,none⟩)) rfl rfl (hM9 2 rfl) (rfl) (fun _=>by exact Z7 2 ZUg rfl sc122.size rfl rfl) (Za 10 7) (aL 3 (u0_2) rfl rfl (hM8 3 rfl) (rfl) (fun _ hB_=>by exact Z5 (hC.grow hB_) 1 (u0_2) rfl sc122 rfl rfl) (Za 10 15) ?_)))
  obtain ⟨Ad10,c10,hv11⟩:=J1 (hC.getM 2 rfl)
  refine aL 4 (.int .i64 (a0.2.2.length:Int)) rfl rfl (hM8 4 rfl) (rfl) (fun _ hB_=>by exact Zb5 ZUi (by exact tr rfl hv11)) (Za 10 31) (aF 5 (.pointer (some ⟨b0,0,none⟩)) rfl rfl (hM9 5 rfl) (rfl) (fun _=>by exact Zf (v:=.pointer (some ⟨b0,0,none⟩)) rfl) (Za 10 63) (aF 6 (.pointer (some ⟨b0,0,none⟩)) rfl rfl (hM9 6 rfl) (rfl) (fun _=>by exact J9 rfl) (Za 10 127) (aF 7 (.pointer (some ⟨b0,1,none⟩)) rfl rfl (hM9 7 rfl) (rfl) (fun _=>by exact Z7 1 ZUg rfl sc3.size rfl rfl) (Za 10 255) (aL 8 (.int .i64 a0.2.1) rfl rfl (hM8 8 rfl) (rfl) (fun _ hB_=>by exact Z5 (hC.grow hB_) 1 (.int .i64 a0.2.1) rfl sc3 rfl rfl) (Za 10 511) (Zu 9 (by decide) (by decide) (by kernel_rfl) (by kernel_rfl) rfl (Jj rfl rfl (done (Zv (Zd ?_)))))))))
  refine Zr rfl (fun hb10=>?_) (fun hb10=>?_)
  ·replace h:=ift h (ct hb10)
   refine ZIi (Zo ?_)
   refine Zcj (fn:=ZUk) rfl  ⟨a0.2.2,u0_2,rfl,h,(hC.getM 1 rfl),(hC.getM 2 rfl),(fun b_ hb_=>(hC.mfp _ (List.mem_of_getElem? (i:=2) rfl) b_ hb_).elim .inr (fun q_=>(Zyz.1 q_).elim (fun e_=>absurd hb_ (fun hb_=>hC.mm 1 2 rfl rfl (by decide) b_ (ZAs.2 e_) hb_)) .inl)),hC.belO⟩ (.inl rfl)
  ·replace h:=Zk h (cf hb10)
   refine ZIe (Zd (ZIa (sr (Zb (v:=.int .i64 a1) rfl (Zb (v:=.pointer (some ⟨b0,0,none⟩)) rfl (Zaf rfl (Z6 0 ZUg rfl sc22.size rfl rfl (Z8 hC 1 (u0_0) rfl sc22 rfl rfl ?_))))))))
   obtain ⟨Ad11,c11,hv12⟩:=Z1 (hC.getP 0 rfl)
   refine Zx ZIs (tr rfl hv12) (Jm rfl rfl (dn ?_))
   refine Zr rfl (fun hb11=>?_) (fun hb11=>?_)
   ·replace h:=ift h (ct hb11)
    refine ZIa (sr (Zb (v:=.int .i64 a3) rfl (Jm rfl rfl (dn ?_))))
    refine Zr rfl (fun hb12=>?_) (fun hb12=>?_)
    ·replace h:=ift h (ct hb12)
     refine Yg 7 Ye [0,0,2,6,14,0,32,126,255,511,1023] [4,5] [0,1,2,3] (by kernel_rfl) (by kernel_rfl) (by kernel_rfl) (fun hM11 hM10 w10 hB_=>?_)
     replace hC:=hC.grow hB_
     refine aF 0 (.pointer (some ⟨b0,0,none⟩)) rfl rfl (hM10 0 rfl) (rfl) (fun _=>by exact Zf (v:=.pointer (some ⟨b0,0,none⟩)) rfl) (Za 11 1) (aF 1 (.pointer (some ⟨b0,0,none⟩)) rfl rfl (hM10 1 rfl) (rfl) (fun _=>by exact Zf (v:=.pointer (some ⟨b0,0,none⟩)) rfl) (Za 11 3) (aF 2 (.pointer (some ⟨b0,0,none⟩)) rfl rfl (hM10 2 rfl) (rfl) (fun _=>by exact J9 rfl) (Za 11 7) (aF 3 (.pointer (some ⟨b0,2,none⟩)) rfl rfl (hM10 3 rfl) (rfl) (fun _=>by exact Z7 2 ZUg rfl sc122.size rfl rfl) (Za 11 15) (aL 4 (u0_2) rfl rfl (hM11 4 rfl) (rfl) (fun _ hB_=>by exact Z5 (hC.grow hB_) 1 (u0_2) rfl sc122 rfl rfl) (Za 11 31) (aL 5 (.agg (ZH8 (ZH6 .i64 a2))) rfl rfl (hM11 5 rfl) (rfl) (fun _ hB_=>by exact Yv (hC.grow hB_) 0 (ZH6 .i64 a2) rfl ag73 rfl rfl rfl) (Za 11 63) (aO 6 rfl (Xr (sz:=8) hC [(0,.agg (ZH8 (ZH6 .i64 a2)))] ((EA .i64).encs [a2]) rfl (fun _=>Zsp a2 _) rfl (by decide) fun b10 w11 hB_ hC=>done (aK (by assumption) (Za 11 127) (aO 7 rfl ?_)))))))))
     obtain ⟨hm10,h⟩:=h
     refine Zaw hC 3 ZUi Zsq rfl (by decide) (by decide) rfl (Za9 (hC.getM 0 rfl)) (fun q hq=>Enc.encs_one' (E:=(EA .i64)) _ q hq) rfl rfl hm10 fun v12 w12 hC=>?_
     replace hC:=Jg hC 3 ((a0.2.2++[a2]).length) ((EA .i64).encs (a0.2.2++[a2])) rfl (by simp) (by first | (simp [ZIz]; done) | simp [ZIz,Enc.encs])
     refine done (Zib (by decide) (l9:=(Za 11 255)) (by kernel_rfl) (Zu 8 (by decide) (by decide) (by kernel_rfl) (by kernel_rfl) rfl (Zaf rfl (Z6 2 ZUg rfl sc122.size rfl rfl (Zw (v:=v12) hC 2 [v12] [u0_0,.int .i64 a0.2.1,v12] rfl sc122.size rfl rfl (Zcm (hC.getM 3 rfl)) rfl (Y6 (Xn (hC.getM 3 rfl)) rfl) (ZIc rfl) rfl fun w13 hC=>done (Zv (Zd ?_)))))))
     refine ZIi (Zo ?_)
     refine Zcj (fn:=ZUk) rfl  ⟨a0.2.2++[a2],v12,rfl,h,(hC.getM 2 rfl),(hC.getM 3 rfl),(fun b_ hb_=>(hC.mfp _ (List.mem_of_getElem? (i:=3) rfl) b_ hb_).elim .inr (fun q_=>(Zyz.1 q_).elim (fun e_=>absurd hb_ (fun hb_=>hC.mm 2 3 rfl rfl (by decide) b_ (ZAs.2 e_) hb_)) .inl)),hC.belO⟩ (.inl rfl)
    ·replace h:=Zk h (cf hb12)
     refine ZIe (Zd ?_)
     refine ZIi (Zo ?_)
     refine Zcj (fn:=ZUk) rfl  ⟨a0.2.2,u0_2,rfl,h,(hC.getM 1 rfl),(hC.getM 2 rfl),(fun b_ hb_=>(hC.mfp _ (List.mem_of_getElem? (i:=2) rfl) b_ hb_).elim .inr (fun q_=>(Zyz.1 q_).elim (fun e_=>absurd hb_ (fun hb_=>hC.mm 1 2 rfl rfl (by decide) b_ (ZAs.2 e_) hb_)) .inl)),hC.belO⟩ (.inl rfl)
   ·replace h:=Zk h (cf hb11)
    refine ZIe (Zd (sr (Zb (v:=.pointer (some ⟨b0,0,none⟩)) rfl (Zaf rfl (Z6 0 ZUg rfl sc22.size rfl rfl (Z8 hC 1 (u0_0) rfl sc22 rfl rfl (Zb (v:=.int .i64 a1) rfl ?_)))))))
    obtain ⟨⟨h10,h11⟩,h⟩:=h
    obtain ⟨Ad12,c12,hv10⟩:=Z0 (hC.getP 0 rfl) a1.toNat (show a1.toNat < a0.1.length by omega)
    refine Xb (len:=a0.1.length) ZIs sc2.size (tr rfl hv10) rfl h10 h11 (Xm (.int .i64 (a0.1.getD a1.toNat Zyt)) (Yf (hC.getP 0 rfl) hv10 a1.toNat (show a1.toNat < a0.1.length by omega)) sc2 rfl (Zc (v:=.int .i64 (a0.1.getD a1.toNat Zyt)) rfl (dn (sr (Zb (v:=.int .i64 a3) rfl (Zb (v:=.int .i64 (a0.1.getD a1.toNat Zyt)) rfl ?_))))))
    obtain ⟨h12,h⟩:=h
    refine Zd8 rfl rfl h12 (Zgz rfl rfl (Zc (v:=.int .i64 (if 20 < ZA7.wrap (ZSf a3 (a0.1.getD a1.toNat Zyt)) then 20 else ZA7.wrap (ZSf a3 (a0.1.getD a1.toNat Zyt)))) rfl (dn (ZIa (sr (Zb (v:=.int .i64 (a0.1.getD a1.toNat Zyt)) rfl (X0 rfl rfl (by decide) (Jm rfl rfl (dn ?_)))))))))
    refine Zr rfl (fun hb13=>?_) (fun hb13=>?_)
    ·replace h:=ift h (ct hb13)
     refine Zh (Zb (v:=.int .i64 (if 20 < ZA7.wrap (ZSf a3 (a0.1.getD a1.toNat Zyt)) then 20 else ZA7.wrap (ZSf a3 (a0.1.getD a1.toNat Zyt)))) rfl (Zgz rfl rfl (Zc (v:=.int .i64 (if 1 < (if 20 < ZA7.wrap (ZSf a3 (a0.1.getD a1.toNat Zyt)) then 20 else ZA7.wrap (ZSf a3 (a0.1.getD a1.toNat Zyt))) then 1 else(if 20 < ZA7.wrap (ZSf a3 (a0.1.getD a1.toNat Zyt)) then 20 else ZA7.wrap (ZSf a3 (a0.1.getD a1.toNat Zyt))))) rfl (dn (sr (Zb (v:=.int .i64 (if 1 < (if 20 < ZA7.wrap (ZSf a3 (a0.1.getD a1.toNat Zyt)) then 20 else ZA7.wrap (ZSf a3 (a0.1.getD a1.toNat Zyt))) then 1 else(if 20 < ZA7.wrap (ZSf a3 (a0.1.getD a1.toNat Zyt)) then 20 else ZA7.wrap (ZSf a3 (a0.1.getD a1.toNat Zyt))))) rfl (Zc (v:=.int .i64 (if 1 < (if 20 < ZA7.wrap (ZSf a3 (a0.1.getD a1.toNat Zyt)) then 20 else ZA7.wrap (ZSf a3 (a0.1.getD a1.toNat Zyt))) then 1 else(if 20 < ZA7.wrap (ZSf a3 (a0.1.getD a1.toNat Zyt)) then 20 else ZA7.wrap (ZSf a3 (a0.1.getD a1.toNat Zyt))))) rfl (dn (ZIj ?_)))))))))
     refine X1 (S:=A8×(List A8)×Int) _ (fun s10 e_ w_=>∃ (v10:Value),Z3 e_ [(0,.pointer (some ⟨b0,0,none⟩)),(1,.int .i64 a1),(3,.int .i64 a3),(6,.pointer (some ⟨b4,0,none⟩)),(8,.int .i64 (a0.1.getD a1.toNat Zyt)),(10,.int .i64 s10.2.2)]∧Ctx (fun c_=>c_∈b0::ZI5 (Zzn u0_2)) w0 w_ [blk b4 73 (ZH6 .i64 s10.1),blk b0 187 [u0_0,.int .i64 a0.2.1,v10],own 73 8 v10 s10.2.1.length ((EA .i64).encs s10.2.1)] [ZH7 ((EI .i64).ty.sl) a0.1 [u0_0] fp0]) ?_ (s0:=(a2,a0.2.2,(if 1 < (if 20 < ZA7.wrap (ZSf a3 (a0.1.getD a1.toNat Zyt)) then 20 else ZA7.wrap (ZSf a3 (a0.1.getD a1.toNat Zyt))) then 1 else(if 20 < ZA7.wrap (ZSf a3 (a0.1.getD a1.toNat Zyt)) then 20 else ZA7.wrap (ZSf a3 (a0.1.getD a1.toNat Zyt)))))) ?_ h
     ·clear hC h
      rintro s10 e_ w14 nx10 K10 ⟨v10,hS_,hC⟩ h hK10
      rw [ue hS_]
      refine ZIa (sr (Zb (v:=.int .i64 s10.2.2) rfl (Zat rfl rfl (dn ?_))))
      refine Zr rfl (fun hb14=>?_) (fun hb14=>?_)
      ·replace h:=ift h (ct hb14)
       refine ZIe (Zd (ZIa (ZIj (sr (Zb (v:=.int .i64 a1) rfl (Zb (v:=.int .i64 s10.2.2) rfl ?_))))))
       obtain ⟨⟨h13,h14⟩,h⟩:=h
       refine Y5 a1.toNat ZJf sc3.size rfl rfl h13 h14 (by omega) (Zw (v:=.int .i64 s10.2.2) hC 0 [.int .i64 s10.2.2] (ZH6 .i64 (s10.1.set a1.toNat s10.2.2)) rfl sc3.size rfl rfl rfl rfl rfl (show a1.toNat < 8 by omega) (ZI3 _ _ _ (show a1.toNat < 8 by omega)) fun w15 hC=>dn (Zh (Zb (v:=.pointer (some ⟨b0,0,none⟩)) rfl (Zb (v:=.int .i64 a1) rfl (Zq rfl rfl (Yy hC 0 (ZH6 .i64 (s10.1.set a1.toNat s10.2.2)) rfl ag73 rfl rfl rfl (Zb (v:=.int .i64 a3) rfl (Zb (v:=.int .i64 s10.2.2) rfl (Zb (v:=.int .i64 (a0.1.getD a1.toNat Zyt)) rfl (Ju rfl rfl ?_))))))))))
       refine Jt rfl rfl ?_
       replace hC:=hC.sM [1,2,0] (M':=[blk b0 187 [u0_0,.int .i64 a0.2.1,v10],own 73 8 v10 s10.2.1.length ((EA .i64).encs s10.2.1),blk b4 73 (ZH6 .i64 (s10.1.set a1.toNat s10.2.2))]) (by decide) rfl
       refine Zg [.pointer (some ⟨b0,0,none⟩),.int .i64 (ZA7.wrap (a1+1)),.agg (ZH8 (ZH6 .i64 (s10.1.set a1.toNat s10.2.2))),.int .i64 (ZA7.wrap (a3 - (ZA7.wrap (s10.2.2 * (a0.1.getD a1.toNat Zyt)))))] _ ZUl rfl rfl rfl (ih_ (⟨a0.1,a0.2.1,s10.2.1⟩:List Int×Int×List A8) (ZA7.wrap (a1+1)) (s10.1.set a1.toNat s10.2.2) (ZA7.wrap (a3 - (ZA7.wrap (s10.2.2 * (a0.1.getD a1.toNat Zyt))))) h _ (hC.getP 0 rfl) (hC.getM 0 rfl) (hC.getM 1 rfl) (fun hb_=>hC.mm 0 1 rfl rfl (by decide) _ (ZOi _) hb_) (fun b_ hb_ hb2_=>(Zyz.1 hb2_).elim (fun e_=>hC.pd _ (List.mem_of_getElem? (i:=0) rfl) b_ hb_ _ (List.mem_of_getElem? (i:=0) rfl) (ZAs.2 e_)) (fun hb2_=>hC.pd _ (List.mem_of_getElem? (i:=0) rfl) b_ hb_ _ (List.mem_of_getElem? (i:=1) rfl) hb2_))) (fun ret10 w16 hR10=>?_)
       obtain ⟨m10,v13,rfl,h,hm11,hm12,hm13,hB10⟩:=hR10
       refine⟨_,rfl,?_⟩
       replace hC:=hC.turnS hB10 hm11 hm12 hm13
       refine done (Zs (Zd (Zh (Zb (v:=.int .i64 s10.2.2) rfl (Jt rfl rfl (Zc (v:=.int .i64 (ZA7.wrap (s10.2.2 - 1))) rfl (done ?_)))))))
       replace hC:=hC.sM [2,0,1] (M':=[blk b4 73 (ZH6 .i64 (s10.1.set a1.toNat s10.2.2)),blk b0 187 [u0_0,.int .i64 a0.2.1,v13],own 73 8 v13 m10.length ((EA .i64).encs m10)]) (by decide) rfl
       exact hK10 (s10.1.set a1.toNat s10.2.2,m10,ZA7.wrap (s10.2.2 - 1)) _ _ ⟨v13,(sl ⟨rfl,rfl,rfl,rfl,rfl,rfl,trivial⟩),hC⟩ h
      ·replace h:=Zk h (cf hb14)
       refine ZIr (Zj (Zj (Z9 ?_)))
       refine Zcj (fn:=ZUk) rfl  ⟨s10.2.1,v10,rfl,h,(hC.getM 1 rfl),(hC.getM 2 rfl),(fun b_ hb_=>(hC.mfp _ (List.mem_of_getElem? (i:=2) rfl) b_ hb_).elim .inr (fun q_=>(Zyz.1 q_).elim (fun e_=>absurd hb_ (fun hb_=>hC.mm 1 2 rfl rfl (by decide) b_ (ZAs.2 e_) hb_)) .inl)),hC.belO⟩ (.inr rfl)
     ·skip
      exact⟨u0_2,(sl ⟨rfl,rfl,rfl,rfl,rfl,rfl,trivial⟩),hC⟩
    ·replace h:=Zk h (cf hb13)
     refine ZIe (Zd (sr (Zb (v:=.int .i64 (if 20 < ZA7.wrap (ZSf a3 (a0.1.getD a1.toNat Zyt)) then 20 else ZA7.wrap (ZSf a3 (a0.1.getD a1.toNat Zyt)))) rfl (Zc (v:=.int .i64 (if 20 < ZA7.wrap (ZSf a3 (a0.1.getD a1.toNat Zyt)) then 20 else ZA7.wrap (ZSf a3 (a0.1.getD a1.toNat Zyt)))) rfl (dn (ZIj ?_))))))
     refine X1 (S:=A8×(List A8)×Int) _ (fun s11 e_ w_=>∃ (v11:Value),Z3 e_ [(0,.pointer (some ⟨b0,0,none⟩)),(1,.int .i64 a1),(3,.int .i64 a3),(6,.pointer (some ⟨b4,0,none⟩)),(8,.int .i64 (a0.1.getD a1.toNat Zyt)),(10,.int .i64 s11.2.2)]∧Ctx (fun c_=>c_∈b0::ZI5 (Zzn u0_2)) w0 w_ [blk b4 73 (ZH6 .i64 s11.1),blk b0 187 [u0_0,.int .i64 a0.2.1,v11],own 73 8 v11 s11.2.1.length ((EA .i64).encs s11.2.1)] [ZH7 ((EI .i64).ty.sl) a0.1 [u0_0] fp0]) ?_ (s0:=(a2,a0.2.2,(if 20 < ZA7.wrap (ZSf a3 (a0.1.getD a1.toNat Zyt)) then 20 else ZA7.wrap (ZSf a3 (a0.1.getD a1.toNat Zyt))))) ?_ h
     ·clear hC h
      rintro s11 e_ w17 nx11 K11 ⟨v11,hS_,hC⟩ h hK11
      rw [ue hS_]
      refine ZIa (sr (Zb (v:=.int .i64 s11.2.2) rfl (Zat rfl rfl (dn ?_))))
      refine Zr rfl (fun hb15=>?_) (fun hb15=>?_)
      ·replace h:=ift h (ct hb15)
       refine ZIe (Zd (ZIa (ZIj (sr (Zb (v:=.int .i64 a1) rfl (Zb (v:=.int .i64 s11.2.2) rfl ?_))))))
       obtain ⟨⟨h15,h16⟩,h⟩:=h
       refine Y5 a1.toNat ZJf sc3.size rfl rfl h15 h16 (by omega) (Zw (v:=.int .i64 s11.2.2) hC 0 [.int .i64 s11.2.2] (ZH6 .i64 (s11.1.set a1.toNat s11.2.2)) rfl sc3.size rfl rfl rfl rfl rfl (show a1.toNat < 8 by omega) (ZI3 _ _ _ (show a1.toNat < 8 by omega)) fun w18 hC=>dn (Zh (Zb (v:=.pointer (some ⟨b0,0,none⟩)) rfl (Zb (v:=.int .i64 a1) rfl (Zq rfl rfl (Yy hC 0 (ZH6 .i64 (s11.1.set a1.toNat s11.2.2)) rfl ag73 rfl rfl rfl (Zb (v:=.int .i64 a3) rfl (Zb (v:=.int .i64 s11.2.2) rfl (Zb (v:=.int .i64 (a0.1.getD a1.toNat Zyt)) rfl (Ju rfl rfl ?_))))))))))
       refine Jt rfl rfl ?_
       replace hC:=hC.sM [1,2,0] (M':=[blk b0 187 [u0_0,.int .i64 a0.2.1,v11],own 73 8 v11 s11.2.1.length ((EA .i64).encs s11.2.1),blk b4 73 (ZH6 .i64 (s11.1.set a1.toNat s11.2.2))]) (by decide) rfl
       refine Zg [.pointer (some ⟨b0,0,none⟩),.int .i64 (ZA7.wrap (a1+1)),.agg (ZH8 (ZH6 .i64 (s11.1.set a1.toNat s11.2.2))),.int .i64 (ZA7.wrap (a3 - (ZA7.wrap (s11.2.2 * (a0.1.getD a1.toNat Zyt)))))] _ ZUl rfl rfl rfl (ih_ (⟨a0.1,a0.2.1,s11.2.1⟩:List Int×Int×List A8) (ZA7.wrap (a1+1)) (s11.1.set a1.toNat s11.2.2) (ZA7.wrap (a3 - (ZA7.wrap (s11.2.2 * (a0.1.getD a1.toNat Zyt))))) h _ (hC.getP 0 rfl) (hC.getM 0 rfl) (hC.getM 1 rfl) (fun hb_=>hC.mm 0 1 rfl rfl (by decide) _ (ZOi _) hb_) (fun b_ hb_ hb2_=>(Zyz.1 hb2_).elim (fun e_=>hC.pd _ (List.mem_of_getElem? (i:=0) rfl) b_ hb_ _ (List.mem_of_getElem? (i:=0) rfl) (ZAs.2 e_)) (fun hb2_=>hC.pd _ (List.mem_of_getElem? (i:=0) rfl) b_ hb_ _ (List.mem_of_getElem? (i:=1) rfl) hb2_))) (fun ret11 w19 hR11=>?_)
       obtain ⟨m11,v14,rfl,h,hm14,hm15,hm16,hB11⟩:=hR11
       refine⟨_,rfl,?_⟩
       replace hC:=hC.turnS hB11 hm14 hm15 hm16
       refine done (Zs (Zd (Zh (Zb (v:=.int .i64 s11.2.2) rfl (Jt rfl rfl (Zc (v:=.int .i64 (ZA7.wrap (s11.2.2 - 1))) rfl (done ?_)))))))
       replace hC:=hC.sM [2,0,1] (M':=[blk b4 73 (ZH6 .i64 (s11.1.set a1.toNat s11.2.2)),blk b0 187 [u0_0,.int .i64 a0.2.1,v14],own 73 8 v14 m11.length ((EA .i64).encs m11)]) (by decide) rfl
       exact hK11 (s11.1.set a1.toNat s11.2.2,m11,ZA7.wrap (s11.2.2 - 1)) _ _ ⟨v14,(sl ⟨rfl,rfl,rfl,rfl,rfl,rfl,trivial⟩),hC⟩ h
      ·replace h:=Zk h (cf hb15)
       refine ZIr (Zj (Zj (Z9 ?_)))
       refine Zcj (fn:=ZUk) rfl  ⟨s11.2.1,v11,rfl,h,(hC.getM 1 rfl),(hC.getM 2 rfl),(fun b_ hb_=>(hC.mfp _ (List.mem_of_getElem? (i:=2) rfl) b_ hb_).elim .inr (fun q_=>(Zyz.1 q_).elim (fun e_=>absurd hb_ (fun hb_=>hC.mm 1 2 rfl rfl (by decide) b_ (ZAs.2 e_) hb_)) .inl)),hC.belO⟩ (.inr rfl)
     ·skip
      exact⟨u0_2,(sl ⟨rfl,rfl,rfl,rfl,rfl,rfl,trivial⟩),hC⟩
def Zhe (a0:List Int) (a1:Int) (a2:Int) (K:List A8→Bool→Prop):Prop :=
 (if a1≥0 then f_impl_lister_from 9 (⟨a0,a2,[]⟩:List Int×Int×List A8) 0 ZIg a1 (fun m10=>K m10 (decide ((m10.length:Int)≤a2))) else K [] (decide (0≤a2)))
theorem Zwl (a0:List Int) (a1:Int) (a2:Int) {u0_0:Value} {fp0:List Nat} {K:List A8→Bool→Prop} (h:Zhe a0 a1 a2 K) (w0:World) (q0:((EI .i64).ty.sl).rep a0 [u0_0] fp0 w0) :
  Calls ZId 100 #[u0_0,.int .i64 a1,.int .i64 a2] w0 fun e w'=>∃ (r0:List A8) (z0_0:Value) (fz0:List Nat) (r1:Bool),
   e=.returned (.tuple #[z0_0,.bool r1])∧K r0 r1∧(ZIm (ZOd 73 ((EA .i64).tr)) r0 [z0_0] fz0).holds w'∧(∀ b,b∈fz0→w0.heap.size≤b)∧Bel w0 w':=by
 unfold Zhe at h
 refine Z4 (args:=[u0_0,.int .i64 a1,.int .i64 a2]) Tryz.func100 rfl 30 Tryz.ntmps100 (ZIc rfl) ?_
 have hC:=ZIt (X:=Nox) w0 [ZH7 ((EI .i64).ty.sl) a0 [u0_0] fp0] (by simp only [Zyz,ZAt,or_false,forall_eq_or_imp,forall_eq]; exact q0)
 refine sr (Zc (v:=.slice none 0 0) rfl (Zc (v:=.bool false) rfl (dn (sr (Zb (v:=u0_0) rfl (Zb (v:=.int .i64 a2) rfl (Jn [(0,u0_0),(1,.int .i64 a2)] rfl (Zv2 u0_0 a2 (Zc3 (hC.getP 0 rfl)) _) (Yl (v:=.agg #[u0_0,.int .i64 a2,.slice none 0 0]) hC [u0_0,.int .i64 a2,.slice none 0 0] rfl rfl fun b2 w4 hB_ hC=>Zc (v:=.pointer (some ⟨b2,0,none⟩)) rfl (dn (ZIa ?_))))))))))
 refine sr (Zb (v:=.int .i64 a1) rfl (Zat rfl rfl (dn ?_)))
 refine Zr rfl (fun hb5=>?_) (fun hb5=>?_)
 ·replace h:=ift h (ct hb5)
  refine Zh (Zb (v:=.pointer (some ⟨b2,0,none⟩)) rfl (Jn [] rfl (Zf0   _) (Zb (v:=.int .i64 a1) rfl ?_)))
  replace hC:=hC.pushNil 73 8
  replace hC:=hC.sM [1,0] (M':=[blk b2 187 [u0_0,.int .i64 a2,.slice none 0 0],own 73 8 (.slice none 0 0) 0 ((EA .i64).encs [])]) (by decide) rfl
  refine Zg [.pointer (some ⟨b2,0,none⟩),.int .i64 0,.agg (ZH8 (ZH6 .i64 ZIg)),.int .i64 a1] _ ZUl rfl rfl rfl (Zwk 9 (⟨a0,a2,[]⟩:List Int×Int×List A8) 0 ZIg a1 h _ (hC.getP 0 rfl) (hC.getM 0 rfl) (hC.getM 1 rfl) (fun hb_=>hC.mm 0 1 rfl rfl (by decide) _ (ZOi _) hb_) (fun b_ hb_ hb2_=>(Zyz.1 hb2_).elim (fun e_=>hC.pd _ (List.mem_of_getElem? (i:=0) rfl) b_ hb_ _ (List.mem_of_getElem? (i:=0) rfl) (ZAs.2 e_)) (fun hb2_=>hC.pd _ (List.mem_of_getElem? (i:=0) rfl) b_ hb_ _ (List.mem_of_getElem? (i:=1) rfl) hb2_))) (fun ret7 w9 hR8=>?_)
  obtain ⟨m10,v10,rfl,h,hm10,hm11,hm12,hB10⟩:=hR8
  refine⟨_,rfl,?_⟩
  replace hC:=hC.turnS hB10 hm10 hm11 hm12
  refine dn (ZIa ?_)
  refine Yg 12 Ye [0,1,3,7,0,16,48,112,240,0,1008,15,4095] [3,7,8] [0,1,2,4,5,6,9,10,11] (by kernel_rfl) (by kernel_rfl) (by kernel_rfl) (fun hM12 hM10 w10 hB_=>?_)
  replace hC:=hC.grow hB_
  refine aF 0 (.pointer (some ⟨b2,0,none⟩)) rfl rfl (hM10 0 rfl) (rfl) (fun _=>by exact Zf (v:=.pointer (some ⟨b2,0,none⟩)) rfl) (Za 13 1) (aF 1 (.pointer (some ⟨b2,0,none⟩)) rfl rfl (hM10 1 rfl) (rfl) (fun _=>by exact J9 rfl) (Za 13 3) (aF 2 (.pointer (some ⟨b2,2,none⟩)) rfl rfl (hM10 2 rfl) (rfl) (fun _=>by exact Z7 2 ZUg rfl sc122.size rfl rfl) (Za 13 7) (aL 3 (v10) rfl rfl (hM12 3 rfl) (rfl) (fun _ hB_=>by exact Z5 (hC.grow hB_) 0 (v10) rfl sc122 rfl rfl) (Za 13 15) (aF 4 (.pointer (some ⟨b2,0,none⟩)) rfl rfl (hM10 4 rfl) (rfl) (fun _=>by exact Zf (v:=.pointer (some ⟨b2,0,none⟩)) rfl) (Za 13 31) (aF 5 (.pointer (some ⟨b2,0,none⟩)) rfl rfl (hM10 5 rfl) (rfl) (fun _=>by exact J9 rfl) (Za 13 63) (aF 6 (.pointer (some ⟨b2,2,none⟩)) rfl rfl (hM10 6 rfl) (rfl) (fun _=>by exact Z7 2 ZUg rfl sc122.size rfl rfl) (Za 13 127) (aL 7 (v10) rfl rfl (hM12 7 rfl) (rfl) (fun _ hB_=>by exact Z5 (hC.grow hB_) 0 (v10) rfl sc122 rfl rfl) (Za 13 255) ?_)))))))
  obtain ⟨Ad10,c10,hv10⟩:=J1 (hC.getM 1 rfl)
  refine aL 8 (.int .i64 (m10.length:Int)) rfl rfl (hM12 8 rfl) (rfl) (fun _ hB_=>by exact Zb5 ZUi (by exact tr rfl hv10)) (Za 13 511) (aF 9 (.int .i64 a2) rfl rfl (hM10 9 rfl) (rfl) (fun _=>by exact Zf (v:=.int .i64 a2) rfl) (Za 13 1023) (aF 10 (.bool (decide ((m10.length:Int)≤a2))) rfl rfl (hM10 10 rfl) (rfl) (fun _=>by exact Zmg rfl rfl) (Za 13 2047) (aF 11 (v10) rfl rfl (hM10 11 rfl) (rfl) (fun _=>by exact Zhv (v:=v10) rfl) (Za 13 4095) (Zu 12 (by decide) (by decide) (by kernel_rfl) (by kernel_rfl) rfl (Zc (v:=.bool (decide ((m10.length:Int)≤a2))) rfl (done (Zv (Zd (ZIi ?_)))))))))
  refine Jo (fn:=Tryz.f100) rfl ?_ ?_ ⟨m10,v10,(ZI5 (Zzn v10)),decide ((m10.length:Int)≤a2),rfl,h,(Jr (hC.getM 1 rfl)),(X5 hC 1 rfl),hC.below⟩ (.inl rfl)
  ·exact Zi rfl
  ·exact Zi rfl
 ·replace h:=Zk h (cf hb5)
  refine ZIe (Zd (ZIa ?_))
  refine Yg 12 Ye [0,1,3,7,0,16,48,112,240,0,1008,15,4095] [3,7,8] [0,1,2,4,5,6,9,10,11] (by kernel_rfl) (by kernel_rfl) (by kernel_rfl) (fun hM13 hM11 w11 hB_=>?_)
  replace hC:=hC.grow hB_
  refine aF 0 (.pointer (some ⟨b2,0,none⟩)) rfl rfl (hM11 0 rfl) (rfl) (fun _=>by exact Zf (v:=.pointer (some ⟨b2,0,none⟩)) rfl) (Za 13 1) (aF 1 (.pointer (some ⟨b2,0,none⟩)) rfl rfl (hM11 1 rfl) (rfl) (fun _=>by exact J9 rfl) (Za 13 3) (aF 2 (.pointer (some ⟨b2,2,none⟩)) rfl rfl (hM11 2 rfl) (rfl) (fun _=>by exact Z7 2 ZUg rfl sc122.size rfl rfl) (Za 13 7) (aL 3 (.slice none 0 0) rfl rfl (hM13 3 rfl) (rfl) (fun _ hB_=>by exact Z5 (hC.grow hB_) 0 (.slice none 0 0) rfl sc122 rfl rfl) (Za 13 15) (aF 4 (.pointer (some ⟨b2,0,none⟩)) rfl rfl (hM11 4 rfl) (rfl) (fun _=>by exact Zf (v:=.pointer (some ⟨b2,0,none⟩)) rfl) (Za 13 31) (aF 5 (.pointer (some ⟨b2,0,none⟩)) rfl rfl (hM11 5 rfl) (rfl) (fun _=>by exact J9 rfl) (Za 13 63) (aF 6 (.pointer (some ⟨b2,2,none⟩)) rfl rfl (hM11 6 rfl) (rfl) (fun _=>by exact Z7 2 ZUg rfl sc122.size rfl rfl) (Za 13 127) (aL 7 (.slice none 0 0) rfl rfl (hM13 7 rfl) (rfl) (fun _ hB_=>by exact Z5 (hC.grow hB_) 0 (.slice none 0 0) rfl sc122 rfl rfl) (Za 13 255) (aL 8 (.int .i64 0) rfl rfl (hM13 8 rfl) (rfl) (fun _ hB_=>by exact Zb5 ZUi rfl) (Za 13 511) (aF 9 (.int .i64 a2) rfl rfl (hM11 9 rfl) (rfl) (fun _=>by exact Zf (v:=.int .i64 a2) rfl) (Za 13 1023) (aF 10 (.bool (decide (0≤a2))) rfl rfl (hM11 10 rfl) (rfl) (fun _=>by exact Zmg rfl rfl) (Za 13 2047) (aF 11 (.slice none 0 0) rfl rfl (hM11 11 rfl) (rfl) (fun _=>by exact Zhv (v:=.slice none 0 0) rfl) (Za 13 4095) ?_)))))))))))
  refine Zu 12 (by decide) (by decide) (by kernel_rfl) (by kernel_rfl) rfl (Zc (v:=.bool (decide (0≤a2))) rfl (done (Zv (Zd (ZIi ?_)))))
  refine Jo (fn:=Tryz.f100) rfl ?_ ?_ ⟨[],.slice none 0 0,[],decide (0≤a2),rfl,h,(Zbz _ _ _),(fun b hb=>absurd hb (by simp)),hC.below⟩ (.inl rfl)
  ·exact Zi rfl
  ·exact Zi rfl
def Zez (a0:Alg) (a1:Int) (K:List Elem→Int→Prop):Prop :=
 Yt (fun i10 (s11:(List Elem)) nx10=>Zhe a0.degrees (ZA7.wrap ((a0.degrees.getD i10 Zyt) - a1)) 120 (fun r10 r11=>(if¬ (r11=true) then K [] 3 else(if ZA7.wrap ((s11.length:Int)+(r10.length:Int)) > 120 then K [] 3 else Yt (fun i11 (s10:(List Elem)) nx11=>(Yo (s10.length+1) 72∧nx11 (s10++[(⟨(i10:Int),r10.getD i11 Zyt⟩:Elem)]))) (fun (s10:(List Elem))=>nx10 s10) r10.length 0 s11)))) (fun (s11:(List Elem))=>K s11 0) a0.degrees.length 0 []
theorem Zow (a0:Alg) (a1:Int) {b0:Nat} {u0_0:Value} {u0_1:Value} {fp0:List Nat} {K:List Elem→Int→Prop} (h:Zez a0 a1 K) (w0:World) (q0:TAlg.rep a0 [u0_0,u0_1] fp0 w0) (qb0:(blk b0 32 [u0_0,u0_1]).holds w0) :
  Calls ZId 47 #[.pointer (some ⟨b0,0,none⟩),.int .i64 a1] w0 fun e w'=>∃ (r0:List Elem) (z0_0:Value) (fz0:List Nat) (r1:Int),
   e=.returned (.tuple #[z0_0,.int .i64 r1])∧K r0 r1∧(ZIm (ZOd 75 EElem.tr) r0 [z0_0] fz0).holds w'∧(∀ b,b∈fz0→w0.heap.size≤b)∧Bel w0 w':=by
 unfold Zez at h
 refine Z4 (args:=[.pointer (some ⟨b0,0,none⟩),.int .i64 a1]) Tryz.func47 rfl 60 Tryz.ntmps47 (ZIc rfl) ?_
 have hC:=ZIt (X:=Nox) w0 [ZH7 TAlg a0 [u0_0,u0_1] fp0,blk b0 32 [u0_0,u0_1]] (by simp only [Zyz,ZAt,or_false,forall_eq_or_imp,forall_eq]; exact⟨q0,qb0⟩)
 have hp3:=(hC.getP 0 rfl)
 replace hC:=hC.derive 0 rfl (ZH7 ((EI .i64).ty.sl) a0.degrees [u0_0] fp0) (fun _=>(Yw hp3).1) (fun _ hb_=>hb_)
 replace hC:=hC.derive 1 rfl (ZH7 ZIo.sl a0.images [u0_1] fp0) (fun _=>(Yw hp3).2) (fun _ hb_=>hb_)
 refine sr (Zc (v:=.slice none 0 0) rfl (Zc (v:=.int .i64 0) rfl (dn (sr (Xr (sz:=9) hC [] (EElem.encs []) rfl (fun _=>Zv3  _) rfl (by decide) fun b6 w7 hB_ hC=>Zc (v:=.slice (some ⟨b6,0,none⟩) 0 0) rfl (dn (ZIa (sr (Zb (v:=.pointer (some ⟨b0,0,none⟩)) rfl (Zaf rfl ?_))))))))))
 refine Z6 0 ZIq rfl sc22.size rfl rfl (Zbv (u0_0) (hC.getP 3 rfl) sc22 rfl rfl ?_)
 obtain ⟨Ad9,c10,hv12⟩:=Z1 (hC.getP 1 rfl)
 refine Zx ZIs (tr rfl hv12) (Zb (v:=.int .i64 0) rfl (dn (ZIj ?_)))
 have hN10:a0.degrees.length≤9223372036854775807:=Xp (hC.getP 1 rfl)
 refine Y9 (S:=(List Elem)) _ _ (fun i10 s11 e_ w_=>∃ (v10:Value),Z3 e_ [(0,.pointer (some ⟨b0,0,none⟩)),(1,.int .i64 a1),(6,v10),(17,u0_0),(18,.int .i64 (a0.degrees.length:Int)),(19,.int .i64 (i10:Int))]∧Ctx Nox w0 w_ [own 75 9 v10 s11.length (EElem.encs s11)] [ZH7 ZIo.sl a0.images [u0_1] fp0,ZH7 ((EI .i64).ty.sl) a0.degrees [u0_0] fp0,ZH7 TAlg a0 [u0_0,u0_1] fp0,blk b0 32 [u0_0,u0_1]]) a0.degrees.length ?_ ?_ (s0:=[]) ?_ h
 ·clear hC h
  rintro i10 s11 e_ w10 nx10 K10 hi10 ⟨v10,hS_,hC⟩ h hK10
  rw [ue hS_]
  refine sr (Zt rfl rfl (dn (ZIa (Yr rfl (decide_eq_true (by omega)) (ZIe (Zd (ZIa (ZIj (sr (Zb (v:=.int .i64 (i10:Int)) rfl ?_))))))))))
  obtain ⟨Ad10,c11,hv10⟩:=Z0 (hC.getP 1 rfl) i10 hi10
  refine Xb (len:=a0.degrees.length) ZIs sc2.size (tr rfl hv10) rfl (ZIv _) (ZJi.2 hi10) (Xm (.int .i64 (a0.degrees.getD i10 Zyt)) (Yf (hC.getP 1 rfl) hv10 i10 hi10) sc2 rfl (Zc (v:=.int .i64 (i10:Int)) rfl (Zc (v:=.int .i64 (a0.degrees.getD i10 Zyt)) rfl (dn (sr (Zb (v:=.pointer (some ⟨b0,0,none⟩)) rfl (Zaf rfl (Z6 0 ZIq rfl sc22.size rfl rfl (Zbv (u0_0) (hC.getP 3 rfl) sc22 rfl rfl (Zb (v:=.int .i64 (a0.degrees.getD i10 Zyt)) rfl (Zb (v:=.int .i64 a1) rfl ?_)))))))))))
  refine Jt rfl rfl ?_
  refine Zg [u0_0,.int .i64 (ZA7.wrap ((a0.degrees.getD i10 Zyt) - a1)),.int .i64 120] _ Tryz.func100 rfl rfl rfl (Zwl a0.degrees (ZA7.wrap ((a0.degrees.getD i10 Zyt) - a1)) 120 h _ (hC.getP 1 rfl)) (fun ret10 w11 hR10=>?_)
  obtain ⟨r10,u10,f10,r11,rfl,h,hr10,hf10,hB10⟩:=hR10
  refine⟨_,rfl,?_⟩
  replace hC:=hC.push hB10 (ZIm (ZOd 73 ((EA .i64).tr)) r10 [u10] f10) hr10 hf10
  obtain ⟨ho10,hf11⟩:=Zac (hC.getM 0 rfl).1
  subst hf11
  replace hC:=hC.recast (c:=own 73 8 u10 r10.length ((EA .i64).encs r10)) (fun _ h_=>h_) (fun _=>ho10)
  refine Zb (v:=.tuple #[u10,.bool r11]) rfl (Xk (v:=u10) rfl rfl (Xk (v:=.bool r11) rfl rfl (Zc (v:=u10) rfl (Zc (v:=.bool r11) rfl (dn (ZIa (sr (Zb (v:=.bool r11) rfl (Jf rfl (Zb (v:=.bool (!r11)) rfl ?_))))))))))
  refine Xh (!r11) (fun hb10=>?_) (fun hb10=>?_)
  ·replace h:=ift h (Xz (Jp hb10))
   refine Zn (b:=true) 2 37 rfl (tr rfl (congrArg _ hb10)) (by decide) (Zn (b:=true) 2 37 rfl (tr rfl (congrArg _ hb10)) (by decide) (Zn (b:=true) 2 37 rfl (tr rfl (congrArg _ hb10)) (by decide) (Zn (b:=true) 2 37 rfl (tr rfl (congrArg _ hb10)) (by decide) (Zn (b:=true) 2 37 rfl (tr rfl (congrArg _ hb10)) (by decide) (Zn (b:=true) 2 37 rfl (tr rfl (congrArg _ hb10)) (by decide) (Yc (v:=.bool true) (b:=true) (tr rfl (congrArg _ hb10)) rfl (dn (Yr rfl rfl (sr (Zc (v:=.slice none 0 0) rfl (Zc (v:=.int .i64 3) rfl ?_)))))))))))
   refine dn ?_
   refine ZIi (Zo (Yd (Zo (Zo (Yd (Zo ?_))))))
   refine Jo (fn:=Tryz.f47) rfl ?_ ?_ ⟨[],.slice none 0 0,[],3,rfl,h,(Zbz _ _ _),(fun b hb=>absurd hb (by simp)),hC.below⟩ (.inl rfl)
   ·exact Zi rfl
   ·exact Zi rfl
  ·replace h:=Zk h (not_not_intro ((Jq hb10)))
   refine Zl 2 37 rfl rfl hb10 (Zb (v:=v10) rfl (Zl 2 37 rfl rfl hb10 ?_))
   obtain ⟨Ad11,c12,hv13⟩:=J1 (hC.getM 1 rfl)
   refine Zx Tryz.underlying69 (tr rfl hv13) (Zl 2 37 rfl rfl hb10 (Zb (v:=u10) rfl (Zl 2 37 rfl rfl hb10 ?_)))
   obtain ⟨Ad12,c13,hv14⟩:=J1 (hC.getM 0 rfl)
   refine Zx ZUi (tr rfl hv14) (Zl 2 37 rfl rfl hb10 (Zq rfl rfl (Zl 2 37 rfl rfl hb10 (Jj rfl rfl (Yc (v:=.bool (decide (ZA7.wrap ((s11.length:Int)+(r10.length:Int)) > 120))) (b:=false) (tr rfl (congrArg _ hb10)) rfl (dn ?_))))))
   refine Zr rfl (fun hb11=>?_) (fun hb11=>?_)
   ·replace h:=ift h (ct hb11)
    refine sr (Zc (v:=.slice none 0 0) rfl (Zc (v:=.int .i64 3) rfl (dn ?_)))
    refine ZIi (Zo (Yd (Zo (Zo (Yd (Zo ?_))))))
    refine Jo (fn:=Tryz.f47) rfl ?_ ?_ ⟨[],.slice none 0 0,[],3,rfl,h,(Zbz _ _ _),(fun b hb=>absurd hb (by simp)),hC.below⟩ (.inl rfl)
    ·exact Zi rfl
    ·exact Zi rfl
   ·replace h:=Zk h (cf hb11)
    refine ZIe (Zd (sr (Zb (v:=u10) rfl ?_)))
    obtain ⟨Ad13,c14,hv15⟩:=J1 (hC.getM 0 rfl)
    refine Zx ZUi (tr rfl hv15) (Zb (v:=.int .i64 0) rfl (dn (ZIj ?_)))
    have hN11:r10.length≤9223372036854775807:=Zh3 (hC.getM 0 rfl)
    refine Y9 (S:=(List Elem)) _ _ (fun i11 s10 e_ w_=>∃ (v11:Value),Z3 e_ [(0,.pointer (some ⟨b0,0,none⟩)),(1,.int .i64 a1),(6,v11),(7,.int .i64 (i10:Int)),(17,u0_0),(18,.int .i64 (a0.degrees.length:Int)),(19,.int .i64 (i10:Int)),(45,u10),(46,.int .i64 (r10.length:Int)),(47,.int .i64 (i11:Int))]∧Ctx Nox w0 w_ [own 73 8 u10 r10.length ((EA .i64).encs r10),own 75 9 v11 s10.length (EElem.encs s10)] [ZH7 ZIo.sl a0.images [u0_1] fp0,ZH7 ((EI .i64).ty.sl) a0.degrees [u0_0] fp0,ZH7 TAlg a0 [u0_0,u0_1] fp0,blk b0 32 [u0_0,u0_1]]) r10.length ?_ ?_ (s0:=s11) ?_ h
    ·clear hC h
     rintro i11 s10 e_ w12 nx11 K11 hi11 ⟨v11,hS_,hC⟩ h hK11
     rw [ue hS_]
     refine sr (Zt rfl rfl (dn (ZIa (Yr rfl (decide_eq_true (by omega)) (ZIe (Zd (ZIa (ZIj (sr ?_)))))))))
     obtain ⟨Ad14,c15,hv11⟩:=Zai (hC.getM 0 rfl) (Nat.lt_of_le_of_lt (Nat.zero_le _) hi11)
     refine Zao (i11 * 8) ZUi ag73.size (tr rfl hv11) rfl (ZIv _) (ZJi.2 hi11) rfl (Zav (ZH6 .i64 (r10.getD i11 Zyt)) (Zb6 (hC.getM 0 rfl) hv11 i11 hi11) ag73 rfl rfl (Yj hC (ZH6 .i64 ZIg) z73 rfl fun b10 w13 hB_ hC=>Zw (v:=.agg (ZH8 (ZH6 .i64 (r10.getD i11 Zyt)))) hC 0 (ZH6 .i64 (r10.getD i11 Zyt)) (ZH6 .i64 (r10.getD i11 Zyt)) rfl ag73.size rfl rfl rfl rfl rfl (ZIc rfl) rfl fun w14 hC=>dn (Zh (Zb (v:=v11) rfl (Zb (v:=.int .i64 (i10:Int)) rfl (Yy hC 0 (ZH6 .i64 (r10.getD i11 Zyt)) rfl ag73 rfl rfl rfl (Jn [(0,.int .i64 (i10:Int)),(1,.agg (ZH8 (ZH6 .i64 (r10.getD i11 Zyt))))] rfl (Zv4 (i10:Int) (r10.getD i11 Zyt)  _) (Xr (sz:=9) hC [(0,.agg (ZH8 (Elem.enc (⟨(i10:Int),r10.getD i11 Zyt⟩:Elem))))] (EElem.encs [(⟨(i10:Int),r10.getD i11 Zyt⟩:Elem)]) rfl (fun _=>Zv5 (⟨(i10:Int),r10.getD i11 Zyt⟩:Elem) _) rfl (by decide) fun b11 w15 hB_ hC=>?_))))))))
     obtain ⟨hm10,h⟩:=h
     refine Zaw hC 3 Tryz.underlying69 Zv6 rfl (by decide) (by decide) rfl (Za9 (hC.getM 0 rfl)) (fun q hq=>Enc.encs_one' (E:=EElem) _ q hq) rfl rfl hm10 fun v12 w16 hC=>?_
     replace hC:=Jg hC 3 ((s10++[(⟨(i10:Int),r10.getD i11 Zyt⟩:Elem)]).length) (EElem.encs (s10++[(⟨(i10:Int),r10.getD i11 Zyt⟩:Elem)])) rfl (by simp) (by first | (simp [ZIz]; done) | simp [ZIz,Enc.encs])
     refine Zc (v:=v12) rfl (done (Zs (Zd (Zh (Zq rfl rfl (Zb (v:=.int .i64 (ZA7.wrap ((i11:Int)+1))) rfl (done ?_)))))))
     replace hC:=hC.sM [2,3] (M':=[own 73 8 u10 r10.length ((EA .i64).encs r10),own 75 9 v12 ((s10++[(⟨(i10:Int),r10.getD i11 Zyt⟩:Elem)]).length) (EElem.encs (s10++[(⟨(i10:Int),r10.getD i11 Zyt⟩:Elem)]))]) (by decide) rfl
     exact hK11 (s10++[(⟨(i10:Int),r10.getD i11 Zyt⟩:Elem)]) _ _ ⟨v12,(sl ⟨rfl,rfl,rfl,rfl,rfl,rfl,rfl,rfl,rfl,(tr rfl (congrArg _ (Yh hi11 hN11))),trivial⟩),hC⟩ h
    ·clear hC h
     rintro s10 e_ w17 K11 ⟨v11,hS_,hC⟩ h
     rw [ue hS_]
     refine sr (Zt rfl rfl (dn (ZIa (Yi rfl (decide_eq_false (by omega)) ?_))))
     refine ZIr (Zj (Zj (Z9 ?_)))
     refine Zs (Zd (Zh (Zq rfl rfl (Zb (v:=.int .i64 (ZA7.wrap ((i10:Int)+1))) rfl (done ?_)))))
     replace hC:=hC.sM [1] (M':=[own 75 9 v11 s10.length (EElem.encs s10)]) (by decide) rfl
     exact hK10 s10 _ _ ⟨v11,(sl ⟨rfl,rfl,rfl,rfl,rfl,(tr rfl (congrArg _ (Yh hi10 hN10))),trivial⟩),hC⟩ h
    ·skip
     exact⟨v10,(sl ⟨rfl,rfl,rfl,rfl,rfl,rfl,rfl,rfl,rfl,rfl,trivial⟩),hC⟩
 ·clear hC h
  rintro s11 e_ w18 K10 ⟨v10,hS_,hC⟩ h
  rw [ue hS_]
  refine sr (Zt rfl rfl (dn (ZIa (Yi rfl (decide_eq_false (by omega)) ?_))))
  refine ZIr (Zj (Zj (Z9 ?_)))
  refine Zd (sr (Zb (v:=v10) rfl (Zc (v:=v10) rfl (Zc (v:=.int .i64 0) rfl (dn (ZIi ?_))))))
  refine Jo (fn:=Tryz.f47) rfl ?_ ?_ ⟨s11,v10,(ZI5 (Zzn v10)),0,rfl,h,(Jr (hC.getM 0 rfl)),(X5 hC 0 rfl),hC.below⟩ (.inl rfl)
  ·exact Zi rfl
  ·exact Zi rfl
 ·skip
  exact⟨.slice (some ⟨b6,0,none⟩) 0 0,(sl ⟨rfl,rfl,rfl,rfl,rfl,rfl,trivial⟩),hC⟩
def Zhf (a0:Vc.Derive) (a1:List (A8×Int)) (K:List (A8×Int)→Prop):Prop :=
 Zbx (fun (q10:A8×Int) (s13:(List (A8×Int))) nx13=>Yt (fun i10 (s10:A8×(List (A8×Int))) nx10=>((0≤(i10:Int)∧(i10:Int) < 8)∧(if q10.1.get i10 > 0 then Zer s10.1 a0.alg.degrees (fun r37=>(if Int.tmod (ZA7.wrap (a0.drop * r37)) 2=1 then Xj (fun (s11:A8×Int) nx11=>(if s11.2 < ZA7.wrap ((i10:Int)+1) then((0≤s11.2∧s11.2 < 8)∧nx11 (s11.1.set s11.2.toNat 0,ZA7.wrap (s11.2+1))) else((0≤(i10:Int)∧(i10:Int) < 8)∧((0≤(i10:Int)∧(i10:Int) < (a0.images.length:Int))∧Jc (Zz ([]:List (A8×Int)) (s10.1.set i10 (ZA7.wrap ((q10.1.get i10) - 1))) 1) a0.alg.degrees (a0.images.getD i10 Zyt) (fun r15=>Jc r15 a0.alg.degrees (Zz ([]:List (A8×Int)) s11.1 1) (fun r13=>Zak (ZA7.wrap ((ZA7.wrap ((-1) * q10.2)) * (q10.1.get i10))) (fun r11=>Zam s10.2 r13 r11 (fun m10=>((0≤(i10:Int)∧(i10:Int) < 8)∧nx10 (s10.1.set i10 (q10.1.get i10),m10)))))))))) (q10.1,0) else Xj (fun (s12:A8×Int) nx12=>(if s12.2 < ZA7.wrap ((i10:Int)+1) then((0≤s12.2∧s12.2 < 8)∧nx12 (s12.1.set s12.2.toNat 0,ZA7.wrap (s12.2+1))) else((0≤(i10:Int)∧(i10:Int) < 8)∧((0≤(i10:Int)∧(i10:Int) < (a0.images.length:Int))∧Jc (Zz ([]:List (A8×Int)) (s10.1.set i10 (ZA7.wrap ((q10.1.get i10) - 1))) 1) a0.alg.degrees (a0.images.getD i10 Zyt) (fun r16=>Jc r16 a0.alg.degrees (Zz ([]:List (A8×Int)) s12.1 1) (fun r14=>Zak (ZA7.wrap ((ZA7.wrap (1 * q10.2)) * (q10.1.get i10))) (fun r12=>Zam s10.2 r14 r12 (fun m11=>((0≤(i10:Int)∧(i10:Int) < 8)∧nx10 (s10.1.set i10 (q10.1.get i10),m11)))))))))) (q10.1,0))) else((0≤(i10:Int)∧(i10:Int) < 8)∧nx10 (s10.1.set i10 (q10.1.get i10),s10.2))))) (fun (s10:A8×(List (A8×Int)))=>nx13 s10.2) a0.alg.degrees.length 0 (ZIg,s13)) (fun (s13:(List (A8×Int)))=>K s13) a1.length a1 ([]:List (A8×Int))
theorem Zwm (a0 : Vc.Derive) (a1 : List (A8 × Int)) {b0 : Nat} {b1 : Nat} {u0_0 : Value} {u0_1 : Value} {u0_2 : Value} {fp0 : List Nat} {K : List (A8 × Int) → Prop} (h : Zhf a0 a1 K) (w0 : World) (q0 : (Xq 32).rep a0 [u0_0, u0_1, u0_2] fp0 w0) (qb0 : (blk b0 144 [u0_0, u0_1, u0_2]).holds w0) (q1 : (Ze (kvA .i64) (vvI .i64) b1 a1).holds w0) :
  Calls ZId 166 #[.pointer (some ⟨b0,0,none⟩),.map (some b1)] w0 fun e w'=>∃ (r0:List (A8×Int)) (zb0:Nat),
   e=.returned (.map (some zb0))∧K r0∧(Ze (kvA .i64) (vvI .i64) zb0 r0).holds w'∧w0.heap.size≤zb0∧Bel w0 w':=by
 unfold Zhf at h
 refine Z4 (args:=[.pointer (some ⟨b0,0,none⟩),.map (some b1)]) Tryz.func166 rfl 98 Tryz.ntmps166 (ZIc rfl) ?_
 have hC:=ZIt (X:=Nox) w0 [ZH7 (Xq 32) a0 [u0_0,u0_1,u0_2] fp0,blk b0 144 [u0_0,u0_1,u0_2],Ze (kvA .i64) (vvI .i64) b1 a1] (by simp only [Zyz,ZAt,or_false,forall_eq_or_imp,forall_eq]; exact⟨q0,qb0,q1⟩)
 have hp4:=(hC.getP 0 rfl)
 obtain ⟨b5,u6,u7,rfl,rfl,hbf8,hk9,ha10,hi11⟩:=Zog hp4
 have hp10:=ha10
 replace hC:=hC.derive 0 rfl (ZH7 ((EI .i64).ty.sl) a0.alg.degrees [u6] fp0) (fun _=>(Yw hp10).1) (fun _ hb_=>hb_)
 replace hC:=hC.derive 1 rfl (ZH7 ZIo.sl a0.alg.images [u7] fp0) (fun _=>(Yw hp10).2) (fun _ hb_=>hb_)
 replace hC:=hC.derive 2 rfl (blk b5 32 [u6,u7]) (fun _=>hk9) (fun c_ hc_=>by obtain rfl:=ZAs.1 hc_; exact hbf8)
 replace hC:=hC.derive 3 rfl (ZH7 ((Xv (kvA .i64) (vvI .i64)).sl) a0.images [u0_2] fp0) (fun _=>hi11) (fun _ hb_=>hb_)
 refine sr (Zc (v:=.map none) rfl (dn (ZIa ?_)))
 refine Yg 9 Ye [0,0,2,6,14,30,62,126,1,511] [4,7] [1,2,3,5,6,8] (by kernel_rfl) (by kernel_rfl) (by kernel_rfl) (fun hM16 hM12 w14 hB_=>?_)
 replace hC:=hC.grow hB_
 refine aF 1 (.pointer (some ⟨b0,0,none⟩)) rfl rfl (hM12 1 rfl) (rfl) (fun _=>by exact Zf (v:=.pointer (some ⟨b0,0,none⟩)) rfl) (Za 10 2) (aF 2 (.pointer (some ⟨b0,0,none⟩)) rfl rfl (hM12 2 rfl) (rfl) (fun _=>by exact J9 rfl) (Za 10 6) (aF 3 (.pointer (some ⟨b0,0,none⟩)) rfl rfl (hM12 3 rfl) (rfl) (fun _=>by exact Z7 0 ZUm rfl sc66.size rfl rfl) (Za 10 14) (aL 4 (.pointer (some ⟨b5,0,none⟩)) rfl rfl (hM16 4 rfl) (rfl) (fun _ hB_=>by exact Zaz (.pointer (some ⟨b5,0,none⟩)) ((hC.grow hB_).getP 5 rfl) sc66 rfl rfl) (Za 10 30) (aF 5 (.pointer (some ⟨b5,0,none⟩)) rfl rfl (hM12 5 rfl) (rfl) (fun _=>by exact J9 rfl) (Za 10 62) (aF 6 (.pointer (some ⟨b5,0,none⟩)) rfl rfl (hM12 6 rfl) (rfl) (fun _=>by exact Z7 0 ZIq rfl sc22.size rfl rfl) (Za 10 126) (aL 7 (u6) rfl rfl (hM16 7 rfl) (rfl) (fun _ hB_=>by exact Zaz (u6) ((hC.grow hB_).getP 1 rfl) sc22 rfl rfl) (Za 10 254) (aO 0 rfl (Zfj hC (kvA .i64) (vvI .i64) fun b10 w15 hB_ hC=>done (aK (by assumption) (Za 10 255) (aF 8 (.map (some b10)) rfl rfl (hM12 8 rfl) (rfl) (fun _=>by exact Zhv (v:=.map (some b10)) rfl) (Za 10 511) ?_))))))))))
 refine Zu 9 (by decide) (by decide) (by kernel_rfl) (by kernel_rfl) rfl (Zc (v:=u6) rfl (done (Zv (Zd (ZIa (sr (Zb (v:=.map (some b1)) rfl (Zfk hC 6 rfl ZKw rfl fun r10 es10 ck10 w16 hB_ hn10 hbn10 hC=>dn (ZIj ?_)))))))))
 refine Zfo (S:=(List (A8×Int))) _ _ (fun l11 s13 e_ w_=>∃ (la10:Option MapEntry),Z3 e_ [(0,.pointer (some ⟨b0,0,none⟩)),(5,.map (some b10)),(6,u6),(26,.pointer (some ⟨r10,0,none⟩))]∧Ctx Nox w0 w_ [itI (kvA .i64) (vvI .i64) r10 b1 es10 ck10 la10 l11,Ze (kvA .i64) (vvI .i64) b10 s13] [Y3 b1 es10 ck10,ZH7 ((Xv (kvA .i64) (vvI .i64)).sl) a0.images [u0_2] fp0,blk b5 32 [u6,u7],ZH7 ZIo.sl a0.alg.images [u7] fp0,ZH7 ((EI .i64).ty.sl) a0.alg.degrees [u6] fp0,ZH7 (Xq 32) a0 [.pointer (some ⟨b5,0,none⟩),.int .i64 a0.drop,u0_2] fp0,blk b0 144 [.pointer (some ⟨b5,0,none⟩),.int .i64 a0.drop,u0_2],Ze (kvA .i64) (vvI .i64) b1 a1]) ?_ (l0:=a1) (s0:=([]:List (A8×Int))) ?_ h
 ·clear hC h
  rintro l11 s13 e_ w17 nx13 K11 ⟨la10,hS_,hC⟩ h hK11
  rw [ue hS_]
  refine sr ?_
  refine Zfl hC 0 0 rfl rfl hn10 hbn10 rfl (fun hr12=>?_) (fun q10 l10 ent10 w18 hp11 hk10 hv12 hC=>?_)
  ·replace h:=h.1 hr12
   refine Xk (v:=.bool false) rfl rfl (dn (ZIa (Yi rfl rfl ?_)))
   refine ZIr (Zj (Zj (Z9 ?_)))
   refine Zd (sr (Zb (v:=.map (some b10)) rfl (Zc (v:=.map (some b10)) rfl (dn (ZIi ?_)))))
   refine Zp (fn:=Tryz.f166) rfl ?_ ⟨s13,b10,rfl,h,(hC.getM 1 rfl),(Zfi hC 1 rfl),hC.below⟩ (.inl rfl)
   exact Zi rfl
  ·replace h := h.2 q10 l10 hp11
   refine Xk (v:=.bool true) rfl rfl (dn (ZIa (Yr rfl rfl (ZIe (Zd (ZIj (sr (Zfm hC 0 0 q10 rfl rfl hn10 rfl hk10 hv12 (Xk (v:=.agg (ZH8 (ZH6 .i64 q10.1))) rfl rfl (Xk (v:=.int .i64 q10.2) rfl rfl (Yj hC (ZH6 .i64 ZIg) z73 rfl fun b11 w19 hB_ hC=>?_)))))))))))
   refine Zw (v:=.agg (ZH8 (ZH6 .i64 q10.1))) hC 0 (ZH6 .i64 q10.1) (ZH6 .i64 q10.1) rfl ag73.size rfl rfl rfl rfl rfl (ZIc rfl) rfl fun w20 hC=>Zc (v:=.int .i64 q10.2) rfl (dn (sr (Jn [] rfl (Zf0   _) (Yj hC (ZH6 .i64 ZIg) z73 rfl fun b12 w21 hB_ hC=>Zw (v:=.agg (ZH8 (ZH6 .i64 ZIg))) hC 0 (ZH6 .i64 ZIg) (ZH6 .i64 ZIg) rfl ag73.size rfl rfl rfl rfl rfl (ZIc rfl) rfl fun w22 hC=>dn (sr (Zb (v:=u6) rfl ?_))))))
   obtain ⟨Ad12,c10,hv13⟩:=Z1 (hC.getP 4 rfl)
   refine Zx ZIs (tr rfl hv13) (Zb (v:=.int .i64 0) rfl (dn (ZIj ?_)))
   have hN10:a0.alg.degrees.length≤9223372036854775807:=Xp (hC.getP 4 rfl)
   refine Y9 (S:=A8×(List (A8×Int))) _ _ (fun i10 s10 e_ w_=>Z3 e_ [(0,.pointer (some ⟨b0,0,none⟩)),(5,.map (some b10)),(6,u6),(7,.pointer (some ⟨b11,0,none⟩)),(8,.int .i64 q10.2),(9,.pointer (some ⟨b12,0,none⟩)),(26,.pointer (some ⟨r10,0,none⟩)),(34,.int .i64 (a0.alg.degrees.length:Int)),(35,.int .i64 (i10:Int))]∧Ctx Nox w0 w_ [blk b12 73 (ZH6 .i64 s10.1),blk b11 73 (ZH6 .i64 q10.1),itI (kvA .i64) (vvI .i64) r10 b1 es10 ck10 (some ent10) l10,Ze (kvA .i64) (vvI .i64) b10 s10.2] [Y3 b1 es10 ck10,ZH7 ((Xv (kvA .i64) (vvI .i64)).sl) a0.images [u0_2] fp0,blk b5 32 [u6,u7],ZH7 ZIo.sl a0.alg.images [u7] fp0,ZH7 ((EI .i64).ty.sl) a0.alg.degrees [u6] fp0,ZH7 (Xq 32) a0 [.pointer (some ⟨b5,0,none⟩),.int .i64 a0.drop,u0_2] fp0,blk b0 144 [.pointer (some ⟨b5,0,none⟩),.int .i64 a0.drop,u0_2],Ze (kvA .i64) (vvI .i64) b1 a1]) a0.alg.degrees.length ?_ ?_ (s0:=(ZIg,s13)) ?_ h
   ·clear hC h
    rintro i10 s10 e_ w23 nx10 K10 hi10 ⟨hS_,hC⟩ h hK10
    rw [ue hS_]
    refine sr (Zt rfl rfl (dn (ZIa (Yr rfl (decide_eq_true (by omega)) (ZIe (Zd (ZIa (ZIj (sr (Zb (v:=.int .i64 (i10:Int)) rfl (Zc (v:=.int .i64 (i10:Int)) rfl ?_)))))))))))
    refine dn (sr (Zb (v:=.int .i64 (i10:Int)) rfl ?_))
    obtain ⟨⟨h10,h11⟩,h⟩:=h
    refine Y5 i10 ZJf sc3.size rfl rfl h10 h11 (by omega) (Z8 hC 1 (.int .i64 (q10.1.get i10)) rfl sc3 rfl (A8.enc_get _ _ (show i10 < 8 by omega)) (Zc (v:=.int .i64 (q10.1.get i10)) rfl (dn (ZIa (sr (Zb (v:=.int .i64 (q10.1.get i10)) rfl (Jj rfl rfl (dn ?_))))))))
    refine Zr rfl (fun hb10=>?_) (fun hb10=>?_)
    ·replace h := ift h (ct hb10)
     refine sr (Zc (v:=.int .i64 1) rfl (dn (ZIa (ZIa ?_))))
     refine Yg 7 Ye [0,1,3,7,0,0,48,127,255,511] [3,4] [0,1,2,5] (by kernel_rfl) (by kernel_rfl) (by kernel_rfl) (fun hM17 hM15 w24 hB_=>?_)
     replace hC:=hC.grow hB_
     refine aF 0 (.pointer (some ⟨b0,0,none⟩)) rfl rfl (hM15 0 rfl) (rfl) (fun _=>by exact Zf (v:=.pointer (some ⟨b0,0,none⟩)) rfl) (Za 10 1) (aF 1 (.pointer (some ⟨b0,0,none⟩)) rfl rfl (hM15 1 rfl) (rfl) (fun _=>by exact J9 rfl) (Za 10 3) (aF 2 (.pointer (some ⟨b0,1,none⟩)) rfl rfl (hM15 2 rfl) (rfl) (fun _=>by exact Z7 1 ZUm rfl sc2.size rfl rfl) (Za 10 7) (aL 3 (.int .i64 a0.drop) rfl rfl (hM17 3 rfl) (rfl) (fun _ hB_=>by exact Zaz (.int .i64 a0.drop) ((hC.grow hB_).getP 6 rfl) sc2 rfl rfl) (Za 10 15) (aL 4 (.agg (ZH8 (ZH6 .i64 s10.1))) rfl rfl (hM17 4 rfl) (rfl) (fun _ hB_=>by exact Yv (hC.grow hB_) 0 (ZH6 .i64 s10.1) rfl ag73 rfl rfl rfl) (Za 10 31) (aF 5 (u6) rfl rfl (hM15 5 rfl) (rfl) (fun _=>by exact Zf (v:=u6) rfl) (Za 10 63) (aO 6 rfl ?_))))))
     refine Zg [.agg (ZH8 (ZH6 .i64 s10.1)),u6] _ Tryz.func183 rfl rfl rfl (Znz s10.1 a0.alg.degrees h _ (hC.getP 4 rfl)) (fun ret10 w25 hR10=>?_)
     obtain ⟨r37,rfl,h,hB10⟩:=hR10
     refine⟨_,rfl,?_⟩
     replace hC:=hC.grow hB10
     refine done (aK (by assumption) (Za 10 127) (Zu 7 (by decide) (by decide) (by kernel_rfl) (by kernel_rfl) rfl (Ju rfl rfl (X0 rfl rfl (by decide) (Jm rfl rfl (done (Zv (Zd ?_))))))))
     refine Zr rfl (fun hb11=>?_) (fun hb11=>?_)
     ·replace h:=ift h (ct hb11)
      refine Zh (Zc (v:=.int .i64 (-1)) rfl (dn (ZIa ?_)))
      refine Zei 5 Ye [0,0,0,0,13,31] [0,1] [] (by kernel_rfl) (by kernel_rfl) (by kernel_rfl) (fun hM18 hM20 w10 hB_=>?_)
      replace hC:=hC.grow hB_
      have hN_:w10.heap.size≤w10.heap.size:=Zy1 _
      refine Jy (Yb _) 0 (.agg (ZH8 (ZH6 .i64 q10.1))) rfl rfl (by kernel_rfl) (hM18 0 rfl) (fun w_ hB_=>.inl ⟨rfl,by exact Yv (hC.grow (Zaj hB_)) 1 (ZH6 .i64 q10.1) rfl ag73 rfl rfl rfl⟩) (l9:=(Za 6 1)) (by kernel_rfl) (Jy (Yb _) 1 (.agg (ZH8 (ZH6 .i64 s10.1))) rfl rfl (by kernel_rfl) (hM18 1 rfl) (fun w_ hB_=>.inl ⟨rfl,by exact Yv (hC.grow (Zaj hB_)) 0 (ZH6 .i64 s10.1) rfl ag73 rfl rfl rfl⟩) (l9:=(Za 6 3)) (by kernel_rfl) ?_)
      refine Zbj (fun e_ w_=>∃ (b25:Nat),∃ (b26:Nat),Z3 e_ [(0,.pointer (some ⟨b0,0,none⟩)),(5,.map (some b10)),(6,u6),(7,.pointer (some ⟨b11,0,none⟩)),(8,.int .i64 q10.2),(9,.pointer (some ⟨b12,0,none⟩)),(10,.int .i64 (i10:Int)),(11,.int .i64 (q10.1.get i10)),(12,.int .i64 (-1)),(13,.pointer (some ⟨b26,0,none⟩)),(14,.pointer (some ⟨b25,0,none⟩)),(26,.pointer (some ⟨r10,0,none⟩)),(34,.int .i64 (a0.alg.degrees.length:Int)),(35,.int .i64 (i10:Int))]∧Ctx Nox w0 w_ [blk b25 73 (ZH6 .i64 s10.1),blk b26 73 (ZH6 .i64 q10.1),blk b12 73 (ZH6 .i64 s10.1),blk b11 73 (ZH6 .i64 q10.1),itI (kvA .i64) (vvI .i64) r10 b1 es10 ck10 (some ent10) l10,Ze (kvA .i64) (vvI .i64) b10 s10.2] [Y3 b1 es10 ck10,ZH7 ((Xv (kvA .i64) (vvI .i64)).sl) a0.images [u0_2] fp0,blk b5 32 [u6,u7],ZH7 ZIo.sl a0.alg.images [u7] fp0,ZH7 ((EI .i64).ty.sl) a0.alg.degrees [u6] fp0,ZH7 (Xq 32) a0 [.pointer (some ⟨b5,0,none⟩),.int .i64 a0.drop,u0_2] fp0,blk b0 144 [.pointer (some ⟨b5,0,none⟩),.int .i64 a0.drop,u0_2],Ze (kvA .i64) (vvI .i64) b1 a1]∧(Xj (fun (s11:A8×Int) nx11=>(if s11.2 < ZA7.wrap ((i10:Int)+1) then((0≤s11.2∧s11.2 < 8)∧nx11 (s11.1.set s11.2.toNat 0,ZA7.wrap (s11.2+1))) else((0≤(i10:Int)∧(i10:Int) < 8)∧((0≤(i10:Int)∧(i10:Int) < (a0.images.length:Int))∧Jc (Zz ([]:List (A8×Int)) (s10.1.set i10 (ZA7.wrap ((q10.1.get i10) - 1))) 1) a0.alg.degrees (a0.images.getD i10 Zyt) (fun r15=>Jc r15 a0.alg.degrees (Zz ([]:List (A8×Int)) s11.1 1) (fun r13=>Zak (ZA7.wrap ((ZA7.wrap ((-1) * q10.2)) * (q10.1.get i10))) (fun r11=>Zam s10.2 r13 r11 (fun m10=>((0≤(i10:Int)∧(i10:Int) < 8)∧nx10 (s10.1.set i10 (q10.1.get i10),m10)))))))))) (q10.1,0))) ?_ ?_
      ·clear hC h
       rintro e_ w26 ⟨b25,b26,hS_,hC,h⟩
       rw [ue hS_]
       refine Zd (ZIa (sr (Zb (v:=.int .i64 (i10:Int)) rfl (Zq rfl rfl (Zb (v:=.int .i64 0) rfl (dn (ZIj ?_)))))))
       refine X1 (S:=A8×Int) _ (fun s11 e_ w_=>Z3 e_ [(0,.pointer (some ⟨b0,0,none⟩)),(5,.map (some b10)),(6,u6),(7,.pointer (some ⟨b11,0,none⟩)),(8,.int .i64 q10.2),(9,.pointer (some ⟨b12,0,none⟩)),(10,.int .i64 (i10:Int)),(11,.int .i64 (q10.1.get i10)),(12,.int .i64 (-1)),(13,.pointer (some ⟨b26,0,none⟩)),(14,.pointer (some ⟨b25,0,none⟩)),(26,.pointer (some ⟨r10,0,none⟩)),(34,.int .i64 (a0.alg.degrees.length:Int)),(35,.int .i64 (i10:Int)),(56,.int .i64 (ZA7.wrap ((i10:Int)+1))),(57,.int .i64 s11.2)]∧Ctx Nox w0 w_ [blk b25 73 (ZH6 .i64 s10.1),blk b26 73 (ZH6 .i64 s11.1),blk b12 73 (ZH6 .i64 s10.1),blk b11 73 (ZH6 .i64 q10.1),itI (kvA .i64) (vvI .i64) r10 b1 es10 ck10 (some ent10) l10,Ze (kvA .i64) (vvI .i64) b10 s10.2] [Y3 b1 es10 ck10,ZH7 ((Xv (kvA .i64) (vvI .i64)).sl) a0.images [u0_2] fp0,blk b5 32 [u6,u7],ZH7 ZIo.sl a0.alg.images [u7] fp0,ZH7 ((EI .i64).ty.sl) a0.alg.degrees [u6] fp0,ZH7 (Xq 32) a0 [.pointer (some ⟨b5,0,none⟩),.int .i64 a0.drop,u0_2] fp0,blk b0 144 [.pointer (some ⟨b5,0,none⟩),.int .i64 a0.drop,u0_2],Ze (kvA .i64) (vvI .i64) b1 a1]) ?_ (s0:=(q10.1,0)) ?_ h
       ·clear hC h
        rintro s11 e_ w27 nx11 K12 ⟨hS_,hC⟩ h hK12
        rw [ue hS_]
        refine sr (Zt rfl rfl (dn (ZIa ?_)))
        refine Zr rfl (fun hb12=>?_) (fun hb12=>?_)
        ·replace h:=ift h (ct hb12)
         refine ZIe (Zd (ZIa (ZIj (sr (Zb (v:=.int .i64 s11.2) rfl (Zc (v:=.int .i64 s11.2) rfl (dn (Zh (Zb (v:=.int .i64 s11.2) rfl ?_)))))))))
         obtain ⟨⟨h12,h13⟩,h⟩:=h
         refine Y5 s11.2.toNat ZJf sc3.size rfl rfl h12 h13 (by omega) (Zw (v:=.int .i64 0) hC 1 [.int .i64 0] (ZH6 .i64 (s11.1.set s11.2.toNat 0)) rfl sc3.size rfl rfl rfl rfl rfl (show s11.2.toNat < 8 by omega) (ZI3 _ _ _ (show s11.2.toNat < 8 by omega)) fun w28 hC=>done (Zs (Zd (Zh (Zq rfl rfl (Zb (v:=.int .i64 (ZA7.wrap (s11.2+1))) rfl (done ?_)))))))
         exact hK12 (s11.1.set s11.2.toNat 0,ZA7.wrap (s11.2+1)) _ _ ⟨(sl ⟨rfl,rfl,rfl,rfl,rfl,rfl,rfl,rfl,rfl,rfl,rfl,rfl,rfl,rfl,rfl,rfl,trivial⟩),hC⟩ h
        ·replace h:=Zk h (cf hb12)
         refine ZIr (Zj (Zj (Z9 ?_)))
         refine Zd (sr (Zb (v:=.int .i64 (i10:Int)) rfl (Zb (v:=.int .i64 (q10.1.get i10)) rfl (Jt rfl rfl ?_))))
         obtain ⟨⟨h14,h15⟩,h⟩:=h
         refine Y5 i10 ZJf sc3.size rfl rfl h14 h15 (by omega) (Zw (v:=.int .i64 (ZA7.wrap ((q10.1.get i10) - 1))) hC 0 [.int .i64 (ZA7.wrap ((q10.1.get i10) - 1))] (ZH6 .i64 (s10.1.set i10 (ZA7.wrap ((q10.1.get i10) - 1)))) rfl sc3.size rfl rfl rfl rfl rfl (show i10 < 8 by omega) (ZI3 _ _ _ (show i10 < 8 by omega)) fun w29 hC=>dn (ZIa ?_))
         refine Zei 18 Ye [0,0,3,7,0,0,32,96,224,0,992,2016,4095,0,0,0,49152,114688,262143,524287] [1,8,10,11,15] [3,4,5,6,7,9,13,17] (by kernel_rfl) (by kernel_rfl) (by kernel_rfl) (fun hM13 hM10 w11 hB_=>?_)
         replace hC:=hC.grow hB_
         have hN_:w11.heap.size≤w11.heap.size:=Zy1 _
         refine Jy (Yb _) 1 (.agg (ZH8 (ZH6 .i64 (s10.1.set i10 (ZA7.wrap ((q10.1.get i10) - 1)))))) rfl rfl (by kernel_rfl) (hM13 1 rfl) (fun w_ hB_=>.inl ⟨rfl,by exact Yv (hC.grow (Zaj hB_)) 0 (ZH6 .i64 (s10.1.set i10 (ZA7.wrap ((q10.1.get i10) - 1)))) rfl ag73 rfl rfl rfl⟩) (l9:=(Za 20 2)) (by kernel_rfl) (Zm (Yb _) 4 (u6) rfl rfl (by kernel_rfl) (hM10 4 rfl) (fun w_=>.inl ⟨rfl,by exact Zf (v:=u6) rfl⟩) (l9:=(Za 20 18)) (by kernel_rfl) (Zm (Yb _) 5 (.pointer (some ⟨b0,0,none⟩)) rfl rfl (by kernel_rfl) (hM10 5 rfl) (fun w_=>.inl ⟨rfl,by exact Zf (v:=.pointer (some ⟨b0,0,none⟩)) rfl⟩) (l9:=(Za 20 50)) (by kernel_rfl) (Zm (Yb _) 6 (.pointer (some ⟨b0,0,none⟩)) rfl rfl (by kernel_rfl) (hM10 6 rfl) (fun w_=>.inl ⟨rfl,by exact J9 rfl⟩) (l9:=(Za 20 114)) (by kernel_rfl) (Zm (Yb _) 7 (.pointer (some ⟨b0,2,none⟩)) rfl rfl (by kernel_rfl) (hM10 7 rfl) (fun w_=>.inl ⟨rfl,by exact Z7 2 ZUm rfl sc142.size rfl rfl⟩) (l9:=(Za 20 242)) (by kernel_rfl) (Jy (Yb _) 8 (u0_2) rfl rfl (by kernel_rfl) (hM13 8 rfl) (fun w_ hB_=>.inl ⟨rfl,by exact Zaz (u0_2) ((hC.grow (Zaj hB_)).getP 6 rfl) sc142 rfl rfl⟩) (l9:=(Za 20 498)) (by kernel_rfl) (Zm (Yb _) 9 (.int .i64 (i10:Int)) rfl rfl (by kernel_rfl) (hM10 9 rfl) (fun w_=>.inl ⟨rfl,by exact Zf (v:=.int .i64 (i10:Int)) rfl⟩) (l9:=(Za 20 1010)) (by kernel_rfl) ?_))))))
         obtain ⟨⟨h16,h17⟩,h⟩:=h
         obtain ⟨Ad10,c11,hv10⟩:=Z0 (hC.getP 1 rfl) i10 (show i10 < a0.images.length by omega)
         refine Jy (Yb _) 10 (.pointer (some (Ad10.add (i10 * 1)))) rfl rfl (by kernel_rfl) (hM13 10 rfl) (fun w_ hB_=>.inl ⟨rfl,by exact Yp (len:=a0.images.length) Tryz.underlying142 sc115.size (by exact tr rfl hv10) rfl h16 h17⟩) (l9:=(Za 20 2034)) (by kernel_rfl) ?_
         obtain ⟨cs_,hl10,hc10,hr10⟩:=Xs (hC.getP 1 rfl) hv10 i10 (show i10 < a0.images.length by omega)
         obtain ⟨u10,rfl⟩:=ZI4.1 hl10
         clear hl10
         rw [Xt _ _ (show i10 < a0.images.length by omega)] at hr10
         obtain ⟨b13,rfl,hbf10,hm10⟩:=Zlf hr10
         replace hC:=hC.derive 1 rfl (Ze (kvA .i64) (vvI .i64) b13 (a0.images.getD i10 Zyt)) (fun _=>hm10) (fun c_ hc_=>by obtain rfl:=ZAs.1 hc_; exact hbf10)
         refine Jy (Yb _) 11 (.map (some b13)) rfl rfl (by kernel_rfl) (hM13 11 rfl) (fun w_ hB_=>.inl ⟨rfl,by exact Xc (.map (some b13)) (Jz (Zaj hB_) hc10) sc115 rfl⟩) (l9:=(Za 20 4082)) (by kernel_rfl) (Zm (Yb _) 13 (u6) rfl rfl (by kernel_rfl) (hM10 13 rfl) (fun w_=>.inl ⟨rfl,by exact Zf (v:=u6) rfl⟩) (l9:=(Za 20 12274)) (by kernel_rfl) (Jy (Yb _) 15 (.agg (ZH8 (ZH6 .i64 s11.1))) rfl rfl (by kernel_rfl) (hM13 15 rfl) (fun w_ hB_=>.inl ⟨rfl,by exact Yv (hC.grow (Zaj hB_)) 1 (ZH6 .i64 s11.1) rfl ag73 rfl rfl rfl⟩) (l9:=(Za 20 45042)) (by kernel_rfl) ?_))
         refine Zbj (fun e_ w_=>∃ (b27:Nat),∃ (r17:List (A8×Int)),Z3 e_ [(0,.pointer (some ⟨b0,0,none⟩)),(5,.map (some b10)),(6,u6),(7,.pointer (some ⟨b11,0,none⟩)),(8,.int .i64 q10.2),(9,.pointer (some ⟨b12,0,none⟩)),(10,.int .i64 (i10:Int)),(11,.int .i64 (q10.1.get i10)),(12,.int .i64 (-1)),(16,.map (some b27)),(26,.pointer (some ⟨r10,0,none⟩)),(34,.int .i64 (a0.alg.degrees.length:Int)),(35,.int .i64 (i10:Int))]∧Ctx Nox w0 w_ [Ze (kvA .i64) (vvI .i64) b27 r17,blk b12 73 (ZH6 .i64 s10.1),blk b11 73 (ZH6 .i64 q10.1),itI (kvA .i64) (vvI .i64) r10 b1 es10 ck10 (some ent10) l10,Ze (kvA .i64) (vvI .i64) b10 s10.2] [Y3 b1 es10 ck10,ZH7 ((Xv (kvA .i64) (vvI .i64)).sl) a0.images [u0_2] fp0,blk b5 32 [u6,u7],ZH7 ZIo.sl a0.alg.images [u7] fp0,ZH7 ((EI .i64).ty.sl) a0.alg.degrees [u6] fp0,ZH7 (Xq 32) a0 [.pointer (some ⟨b5,0,none⟩),.int .i64 a0.drop,u0_2] fp0,blk b0 144 [.pointer (some ⟨b5,0,none⟩),.int .i64 a0.drop,u0_2],Ze (kvA .i64) (vvI .i64) b1 a1]∧(Zak (ZA7.wrap ((ZA7.wrap ((-1) * q10.2)) * (q10.1.get i10))) (fun r11=>Zam s10.2 r17 r11 (fun m10=>((0≤(i10:Int)∧(i10:Int) < 8)∧nx10 (s10.1.set i10 (q10.1.get i10),m10)))))) ?_ ?_
         ·clear hC h
          rintro e_ w30 ⟨b27,r17,hS_,hC,h⟩
          rw [ue hS_]
          refine Zd (Zh (Zb (v:=.map (some b10)) rfl (Zb (v:=.map (some b27)) rfl (Zb (v:=.int .i64 (-1)) rfl (Zb (v:=.int .i64 q10.2) rfl (Ju rfl rfl (Zb (v:=.int .i64 (q10.1.get i10)) rfl (Ju rfl rfl ?_))))))))
          refine Zg [.int .i64 (ZA7.wrap ((ZA7.wrap ((-1) * q10.2)) * (q10.1.get i10)))] _ Tryz.func187 rfl rfl rfl (Zf8 (ZA7.wrap ((ZA7.wrap ((-1) * q10.2)) * (q10.1.get i10))) h _) (fun ret11 w31 hR11=>?_)
          obtain ⟨r11,rfl,h,hB11⟩:=hR11
          refine⟨_,rfl,?_⟩
          replace hC:=hC.grow hB11
          refine Zg [.map (some b10),.map (some b27),.int .i64 r11] _ Tryz.func165 rfl rfl rfl (Ziq s10.2 r17 r11 h _ (hC.getM 4 rfl) (fun c_ hc_ e_=>hC.mm 0 4 rfl rfl (by decide) c_ hc_ (ZAs.2 e_)) (hC.getM 0 rfl)) (fun ret12 w32 hR12=>?_)
          obtain ⟨m10,rfl,h,hm11,hB12⟩:=hR12
          refine⟨_,rfl,?_⟩
          replace hC:=hC.turnB 4 rfl hB12 rfl rfl hm11
          refine dn (Zh (Zb (v:=.int .i64 (i10:Int)) rfl (Zb (v:=.int .i64 (q10.1.get i10)) rfl ?_)))
          obtain ⟨⟨h18,h19⟩,h⟩:=h
          refine Y5 i10 ZJf sc3.size rfl rfl h18 h19 (by omega) (Zw (v:=.int .i64 (q10.1.get i10)) hC 1 [.int .i64 (q10.1.get i10)] (ZH6 .i64 (s10.1.set i10 (q10.1.get i10))) rfl sc3.size rfl rfl rfl rfl rfl (show i10 < 8 by omega) (ZI3 _ _ _ (show i10 < 8 by omega)) fun w33 hC=>done (Zs (Zd (Zh (Zq rfl rfl (Zb (v:=.int .i64 (ZA7.wrap ((i10:Int)+1))) rfl (done ?_)))))))
          replace hC:=hC.sM [1,2,3,4] (M':=[blk b12 73 (ZH6 .i64 (s10.1.set i10 (q10.1.get i10))),blk b11 73 (ZH6 .i64 q10.1),itI (kvA .i64) (vvI .i64) r10 b1 es10 ck10 (some ent10) l10,Ze (kvA .i64) (vvI .i64) b10 m10]) (by decide) rfl
          exact hK10 (s10.1.set i10 (q10.1.get i10),m10) _ _ ⟨(sl ⟨rfl,rfl,rfl,rfl,rfl,rfl,rfl,rfl,(tr rfl (congrArg _ (Yh hi10 hN10))),trivial⟩),hC⟩ h
         refine Xg 0 14 rfl rfl (by kernel_rfl) ?_ ?_
         ·skip
          refine Zad hC (kvA .i64) (vvI .i64) fun b15 w34 hn_ hB_ hC=>?_
          have hnb_b24803:=Zy6 hN_ hn_
          refine done ?_
          refine Zy (Ys hN_ (by assumption)) hN_ (l9:=(Za 20 45043)) (by kernel_rfl) (fun hN_=>?_)
          refine Xg 2 14 rfl rfl (by kernel_rfl) ?_ ?_
          ·skip
           refine Y7 hC 0 (s10.1.set i10 (ZA7.wrap ((q10.1.get i10) - 1))) 1 rfl Y0 ZKw rfl rfl rfl (fun w35 hBB_ hC=>?_) (.inr rfl)
           refine done ?_
           refine Zy (Yz hN_ hnb_b24803 hBB_) hN_ (l9:=(Za 20 45047)) (by kernel_rfl) (fun hN_=>?_)
           refine Zm (Yb _) 3 (.map (some b15)) rfl rfl (by kernel_rfl) (hM10 3 rfl) (fun w_=>.inl ⟨rfl,by exact Zf (v:=.map (some b15)) rfl⟩) (l9:=(Za 20 45055)) (by kernel_rfl) ?_
           refine Xg 12 14 rfl rfl (by kernel_rfl) ?_ ?_
           ·skip
            refine Zg [.map (some b15),u6,.map (some b13)] _ ZKx rfl rfl rfl (Yu (Zz ([]:List (A8×Int)) (s10.1.set i10 (ZA7.wrap ((q10.1.get i10) - 1))) 1) a0.alg.degrees (a0.images.getD i10 Zyt) h _ (hC.getM 0 rfl) (hC.getP 5 rfl) (hC.getP 0 rfl)) (fun ret13 w36 hR13=>?_)
            obtain ⟨r15,b55,rfl,h,hr13,hf10,hB13⟩:=hR13
            refine⟨_,rfl,?_⟩
            replace hC:=hC.push hB13 (Ze (kvA .i64) (vvI .i64) b55 r15) hr13 (fun b_ hb_=>by obtain rfl:=ZAs.1 hb_; exact hf10)
            refine done ?_
            refine Zy (Ys hN_ (by assumption)) hN_ (l9:=(Za 20 49151)) (by kernel_rfl) (fun hN_=>?_)
            refine aO 14 rfl (Zad hC (kvA .i64) (vvI .i64) fun b51 w37 hn_ hB_ hC=>?_)
            have hnb_b24816:=Zy6 hN_ hn_
            refine done ?_
            refine Zy (Ys hN_ (by assumption)) hN_ (l9:=(Za 20 65535)) (by kernel_rfl) (fun hN_=>?_)
            refine aO 16 rfl ?_
            refine Y7 hC 0 s11.1 1 rfl Y0 ZKw rfl rfl rfl (fun w38 hBB_ hC=>?_) (.inr rfl)
            refine done ?_
            refine Zy (Yz hN_ hnb_b24816 hBB_) hN_ (l9:=(Za 20 131071)) (by kernel_rfl) (fun hN_=>?_)
            refine Zm (Yb _) 17 (.map (some b51)) rfl rfl (by kernel_rfl) (hM10 17 rfl) (fun w_=>.inl ⟨rfl,by exact Zf (v:=.map (some b51)) rfl⟩) (l9:=(Za 20 262143)) (by kernel_rfl) (Zu 18 (by decide) (by decide) (by kernel_rfl) (by kernel_rfl) rfl ?_)
            refine Zg [.map (some b55),u6,.map (some b51)] _ ZKx rfl rfl rfl (Yu r15 a0.alg.degrees (Zz ([]:List (A8×Int)) s11.1 1) h _ (hC.getM 1 rfl) (hC.getP 5 rfl) (hC.getM 0 rfl)) (fun ret14 w39 hR14=>?_)
            obtain ⟨r13,b31,rfl,h,hr14,hf11,hB14⟩:=hR14
            refine⟨_,rfl,?_⟩
            replace hC:=hC.push hB14 (Ze (kvA .i64) (vvI .i64) b31 r13) hr14 (fun b_ hb_=>by obtain rfl:=ZAs.1 hb_; exact hf11)
            refine Zc (v:=.map (some b31)) rfl (done (Zv ?_))
            replace hC:=hC.sM [0,6,7,8,9] (M':=[Ze (kvA .i64) (vvI .i64) b31 r13,blk b12 73 (ZH6 .i64 s10.1),blk b11 73 (ZH6 .i64 q10.1),itI (kvA .i64) (vvI .i64) r10 b1 es10 ck10 (some ent10) l10,Ze (kvA .i64) (vvI .i64) b10 s10.2]) (by decide) rfl
            replace hC:=hC.sP [1,2,3,4,5,6,7,8] (Ps':=[Y3 b1 es10 ck10,ZH7 ((Xv (kvA .i64) (vvI .i64)).sl) a0.images [u0_2] fp0,blk b5 32 [u6,u7],ZH7 ZIo.sl a0.alg.images [u7] fp0,ZH7 ((EI .i64).ty.sl) a0.alg.degrees [u6] fp0,ZH7 (Xq 32) a0 [.pointer (some ⟨b5,0,none⟩),.int .i64 a0.drop,u0_2] fp0,blk b0 144 [.pointer (some ⟨b5,0,none⟩),.int .i64 a0.drop,u0_2],Ze (kvA .i64) (vvI .i64) b1 a1]) rfl
            exact⟨rfl,_,rfl,⟨b31,r13,(sl ⟨rfl,rfl,rfl,rfl,rfl,rfl,rfl,rfl,rfl,rfl,rfl,rfl,rfl,trivial⟩),hC,h⟩⟩
           ·skip
            refine Zad hC (kvA .i64) (vvI .i64) fun b23 w40 hn_ hB_ hC=>?_
            have hnb_b24829:=Zy6 hN_ hn_
            refine done ?_
            refine Zy (Ys hN_ (by assumption)) hN_ (l9:=(Za 20 61439)) (by kernel_rfl) (fun hN_=>?_)
            refine Xg 12 16 rfl rfl (by kernel_rfl) ?_ ?_
            ·skip
             refine Zg [.map (some b15),u6,.map (some b13)] _ ZKx rfl rfl rfl (Yu (Zz ([]:List (A8×Int)) (s10.1.set i10 (ZA7.wrap ((q10.1.get i10) - 1))) 1) a0.alg.degrees (a0.images.getD i10 Zyt) h _ (hC.getM 1 rfl) (hC.getP 5 rfl) (hC.getP 0 rfl)) (fun ret15 w41 hR15=>?_)
             obtain ⟨r38,b56,rfl,h,hr15,hf12,hB15⟩:=hR15
             refine⟨_,rfl,?_⟩
             replace hC:=hC.push hB15 (Ze (kvA .i64) (vvI .i64) b56 r38) hr15 (fun b_ hb_=>by obtain rfl:=ZAs.1 hb_; exact hf12)
             refine done ?_
             refine Zy (Ys hN_ (by assumption)) hN_ (l9:=(Za 20 65535)) (by kernel_rfl) (fun hN_=>?_)
             refine aO 16 rfl ?_
             refine Y7 hC 1 s11.1 1 rfl Y0 ZKw rfl rfl rfl (fun w42 hBB_ hC=>?_) (.inr rfl)
             refine done ?_
             refine Zy (Yz hN_ hnb_b24829 hBB_) hN_ (l9:=(Za 20 131071)) (by kernel_rfl) (fun hN_=>?_)
             refine Zm (Yb _) 17 (.map (some b23)) rfl rfl (by kernel_rfl) (hM10 17 rfl) (fun w_=>.inl ⟨rfl,by exact Zf (v:=.map (some b23)) rfl⟩) (l9:=(Za 20 262143)) (by kernel_rfl) (Zu 18 (by decide) (by decide) (by kernel_rfl) (by kernel_rfl) rfl ?_)
             refine Zg [.map (some b56),u6,.map (some b23)] _ ZKx rfl rfl rfl (Yu r38 a0.alg.degrees (Zz ([]:List (A8×Int)) s11.1 1) h _ (hC.getM 0 rfl) (hC.getP 5 rfl) (hC.getM 1 rfl)) (fun ret16 w43 hR16=>?_)
             obtain ⟨r19,b32,rfl,h,hr16,hf13,hB16⟩:=hR16
             refine⟨_,rfl,?_⟩
             replace hC:=hC.push hB16 (Ze (kvA .i64) (vvI .i64) b32 r19) hr16 (fun b_ hb_=>by obtain rfl:=ZAs.1 hb_; exact hf13)
             refine Zc (v:=.map (some b32)) rfl (done (Zv ?_))
             replace hC:=hC.sM [0,6,7,8,9] (M':=[Ze (kvA .i64) (vvI .i64) b32 r19,blk b12 73 (ZH6 .i64 s10.1),blk b11 73 (ZH6 .i64 q10.1),itI (kvA .i64) (vvI .i64) r10 b1 es10 ck10 (some ent10) l10,Ze (kvA .i64) (vvI .i64) b10 s10.2]) (by decide) rfl
             replace hC:=hC.sP [1,2,3,4,5,6,7,8] (Ps':=[Y3 b1 es10 ck10,ZH7 ((Xv (kvA .i64) (vvI .i64)).sl) a0.images [u0_2] fp0,blk b5 32 [u6,u7],ZH7 ZIo.sl a0.alg.images [u7] fp0,ZH7 ((EI .i64).ty.sl) a0.alg.degrees [u6] fp0,ZH7 (Xq 32) a0 [.pointer (some ⟨b5,0,none⟩),.int .i64 a0.drop,u0_2] fp0,blk b0 144 [.pointer (some ⟨b5,0,none⟩),.int .i64 a0.drop,u0_2],Ze (kvA .i64) (vvI .i64) b1 a1]) rfl
             exact⟨rfl,_,rfl,⟨b32,r19,(sl ⟨rfl,rfl,rfl,rfl,rfl,rfl,rfl,rfl,rfl,rfl,rfl,rfl,rfl,trivial⟩),hC,h⟩⟩
            ·skip
             refine Y7 hC 0 s11.1 1 rfl Y0 ZKw rfl rfl rfl (fun w44 hBB_ hC=>?_) (.inr rfl)
             refine done ?_
             refine Zy (Yz hN_ hnb_b24829 hBB_) hN_ (l9:=(Za 20 126975)) (by kernel_rfl) (fun hN_=>?_)
             refine Zm (Yb _) 17 (.map (some b23)) rfl rfl (by kernel_rfl) (hM10 17 rfl) (fun w_=>.inl ⟨rfl,by exact Zf (v:=.map (some b23)) rfl⟩) (l9:=(Za 20 258047)) (by kernel_rfl) (aO 12 rfl ?_)
             refine Zg [.map (some b15),u6,.map (some b13)] _ ZKx rfl rfl rfl (Yu (Zz ([]:List (A8×Int)) (s10.1.set i10 (ZA7.wrap ((q10.1.get i10) - 1))) 1) a0.alg.degrees (a0.images.getD i10 Zyt) h _ (hC.getM 1 rfl) (hC.getP 5 rfl) (hC.getP 0 rfl)) (fun ret17 w45 hR17=>?_)
             obtain ⟨r39,b57,rfl,h,hr17,hf14,hB17⟩:=hR17
             refine⟨_,rfl,?_⟩
             replace hC:=hC.push hB17 (Ze (kvA .i64) (vvI .i64) b57 r39) hr17 (fun b_ hb_=>by obtain rfl:=ZAs.1 hb_; exact hf14)
             refine done ?_
             refine Zy (Ys hN_ (by assumption)) hN_ (l9:=(Za 20 262143)) (by kernel_rfl) (fun hN_=>?_)
             refine Zu 18 (by decide) (by decide) (by kernel_rfl) (by kernel_rfl) rfl ?_
             refine Zg [.map (some b57),u6,.map (some b23)] _ ZKx rfl rfl rfl (Yu r39 a0.alg.degrees (Zz ([]:List (A8×Int)) s11.1 1) h _ (hC.getM 0 rfl) (hC.getP 5 rfl) (hC.getM 1 rfl)) (fun ret18 w46 hR18=>?_)
             obtain ⟨r20,b33,rfl,h,hr18,hf15,hB18⟩:=hR18
             refine⟨_,rfl,?_⟩
             replace hC:=hC.push hB18 (Ze (kvA .i64) (vvI .i64) b33 r20) hr18 (fun b_ hb_=>by obtain rfl:=ZAs.1 hb_; exact hf15)
             refine Zc (v:=.map (some b33)) rfl (done (Zv ?_))
             replace hC:=hC.sM [0,6,7,8,9] (M':=[Ze (kvA .i64) (vvI .i64) b33 r20,blk b12 73 (ZH6 .i64 s10.1),blk b11 73 (ZH6 .i64 q10.1),itI (kvA .i64) (vvI .i64) r10 b1 es10 ck10 (some ent10) l10,Ze (kvA .i64) (vvI .i64) b10 s10.2]) (by decide) rfl
             replace hC:=hC.sP [1,2,3,4,5,6,7,8] (Ps':=[Y3 b1 es10 ck10,ZH7 ((Xv (kvA .i64) (vvI .i64)).sl) a0.images [u0_2] fp0,blk b5 32 [u6,u7],ZH7 ZIo.sl a0.alg.images [u7] fp0,ZH7 ((EI .i64).ty.sl) a0.alg.degrees [u6] fp0,ZH7 (Xq 32) a0 [.pointer (some ⟨b5,0,none⟩),.int .i64 a0.drop,u0_2] fp0,blk b0 144 [.pointer (some ⟨b5,0,none⟩),.int .i64 a0.drop,u0_2],Ze (kvA .i64) (vvI .i64) b1 a1]) rfl
             exact⟨rfl,_,rfl,⟨b33,r20,(sl ⟨rfl,rfl,rfl,rfl,rfl,rfl,rfl,rfl,rfl,rfl,rfl,rfl,rfl,trivial⟩),hC,h⟩⟩
          ·skip
           refine Zad hC (kvA .i64) (vvI .i64) fun b19 w47 hn_ hB_ hC=>?_
           have hnb_b24870:=Zy6 hN_ hn_
           refine done ?_
           refine Zy (Ys hN_ (by assumption)) hN_ (l9:=(Za 20 61427)) (by kernel_rfl) (fun hN_=>?_)
           refine Xg 2 16 rfl rfl (by kernel_rfl) ?_ ?_
           ·skip
            refine Y7 hC 1 (s10.1.set i10 (ZA7.wrap ((q10.1.get i10) - 1))) 1 rfl Y0 ZKw rfl rfl rfl (fun w48 hBB_ hC=>?_) (.inr rfl)
            refine done ?_
            refine Zy (Yz hN_ hnb_b24803 hBB_) hN_ (l9:=(Za 20 61431)) (by kernel_rfl) (fun hN_=>?_)
            refine Zm (Yb _) 3 (.map (some b15)) rfl rfl (by kernel_rfl) (hM10 3 rfl) (fun w_=>.inl ⟨rfl,by exact Zf (v:=.map (some b15)) rfl⟩) (l9:=(Za 20 61439)) (by kernel_rfl) ?_
            refine Xg 12 16 rfl rfl (by kernel_rfl) ?_ ?_
            ·skip
             refine Zg [.map (some b15),u6,.map (some b13)] _ ZKx rfl rfl rfl (Yu (Zz ([]:List (A8×Int)) (s10.1.set i10 (ZA7.wrap ((q10.1.get i10) - 1))) 1) a0.alg.degrees (a0.images.getD i10 Zyt) h _ (hC.getM 1 rfl) (hC.getP 5 rfl) (hC.getP 0 rfl)) (fun ret19 w49 hR19=>?_)
             obtain ⟨r40,b58,rfl,h,hr19,hf16,hB19⟩:=hR19
             refine⟨_,rfl,?_⟩
             replace hC:=hC.push hB19 (Ze (kvA .i64) (vvI .i64) b58 r40) hr19 (fun b_ hb_=>by obtain rfl:=ZAs.1 hb_; exact hf16)
             refine done ?_
             refine Zy (Ys hN_ (by assumption)) hN_ (l9:=(Za 20 65535)) (by kernel_rfl) (fun hN_=>?_)
             refine aO 16 rfl ?_
             refine Y7 hC 1 s11.1 1 rfl Y0 ZKw rfl rfl rfl (fun w50 hBB_ hC=>?_) (.inr rfl)
             refine done ?_
             refine Zy (Yz hN_ hnb_b24870 hBB_) hN_ (l9:=(Za 20 131071)) (by kernel_rfl) (fun hN_=>?_)
             refine Zm (Yb _) 17 (.map (some b19)) rfl rfl (by kernel_rfl) (hM10 17 rfl) (fun w_=>.inl ⟨rfl,by exact Zf (v:=.map (some b19)) rfl⟩) (l9:=(Za 20 262143)) (by kernel_rfl) (Zu 18 (by decide) (by decide) (by kernel_rfl) (by kernel_rfl) rfl ?_)
             refine Zg [.map (some b58),u6,.map (some b19)] _ ZKx rfl rfl rfl (Yu r40 a0.alg.degrees (Zz ([]:List (A8×Int)) s11.1 1) h _ (hC.getM 0 rfl) (hC.getP 5 rfl) (hC.getM 1 rfl)) (fun ret20 w51 hR20=>?_)
             obtain ⟨r21,b34,rfl,h,hr20,hf17,hB20⟩:=hR20
             refine⟨_,rfl,?_⟩
             replace hC:=hC.push hB20 (Ze (kvA .i64) (vvI .i64) b34 r21) hr20 (fun b_ hb_=>by obtain rfl:=ZAs.1 hb_; exact hf17)
             refine Zc (v:=.map (some b34)) rfl (done (Zv ?_))
             replace hC:=hC.sM [0,6,7,8,9] (M':=[Ze (kvA .i64) (vvI .i64) b34 r21,blk b12 73 (ZH6 .i64 s10.1),blk b11 73 (ZH6 .i64 q10.1),itI (kvA .i64) (vvI .i64) r10 b1 es10 ck10 (some ent10) l10,Ze (kvA .i64) (vvI .i64) b10 s10.2]) (by decide) rfl
             replace hC:=hC.sP [1,2,3,4,5,6,7,8] (Ps':=[Y3 b1 es10 ck10,ZH7 ((Xv (kvA .i64) (vvI .i64)).sl) a0.images [u0_2] fp0,blk b5 32 [u6,u7],ZH7 ZIo.sl a0.alg.images [u7] fp0,ZH7 ((EI .i64).ty.sl) a0.alg.degrees [u6] fp0,ZH7 (Xq 32) a0 [.pointer (some ⟨b5,0,none⟩),.int .i64 a0.drop,u0_2] fp0,blk b0 144 [.pointer (some ⟨b5,0,none⟩),.int .i64 a0.drop,u0_2],Ze (kvA .i64) (vvI .i64) b1 a1]) rfl
             exact⟨rfl,_,rfl,⟨b34,r21,(sl ⟨rfl,rfl,rfl,rfl,rfl,rfl,rfl,rfl,rfl,rfl,rfl,rfl,rfl,trivial⟩),hC,h⟩⟩
            ·skip
             refine Y7 hC 0 s11.1 1 rfl Y0 ZKw rfl rfl rfl (fun w52 hBB_ hC=>?_) (.inr rfl)
             refine done ?_
             refine Zy (Yz hN_ hnb_b24870 hBB_) hN_ (l9:=(Za 20 126975)) (by kernel_rfl) (fun hN_=>?_)
             refine Zm (Yb _) 17 (.map (some b19)) rfl rfl (by kernel_rfl) (hM10 17 rfl) (fun w_=>.inl ⟨rfl,by exact Zf (v:=.map (some b19)) rfl⟩) (l9:=(Za 20 258047)) (by kernel_rfl) (aO 12 rfl ?_)
             refine Zg [.map (some b15),u6,.map (some b13)] _ ZKx rfl rfl rfl (Yu (Zz ([]:List (A8×Int)) (s10.1.set i10 (ZA7.wrap ((q10.1.get i10) - 1))) 1) a0.alg.degrees (a0.images.getD i10 Zyt) h _ (hC.getM 1 rfl) (hC.getP 5 rfl) (hC.getP 0 rfl)) (fun ret21 w53 hR21=>?_)
             obtain ⟨r41,b59,rfl,h,hr21,hf18,hB21⟩:=hR21
             refine⟨_,rfl,?_⟩
             replace hC:=hC.push hB21 (Ze (kvA .i64) (vvI .i64) b59 r41) hr21 (fun b_ hb_=>by obtain rfl:=ZAs.1 hb_; exact hf18)
             refine done ?_
             refine Zy (Ys hN_ (by assumption)) hN_ (l9:=(Za 20 262143)) (by kernel_rfl) (fun hN_=>?_)
             refine Zu 18 (by decide) (by decide) (by kernel_rfl) (by kernel_rfl) rfl ?_
             refine Zg [.map (some b59),u6,.map (some b19)] _ ZKx rfl rfl rfl (Yu r41 a0.alg.degrees (Zz ([]:List (A8×Int)) s11.1 1) h _ (hC.getM 0 rfl) (hC.getP 5 rfl) (hC.getM 1 rfl)) (fun ret22 w54 hR22=>?_)
             obtain ⟨r22,b35,rfl,h,hr22,hf19,hB22⟩:=hR22
             refine⟨_,rfl,?_⟩
             replace hC:=hC.push hB22 (Ze (kvA .i64) (vvI .i64) b35 r22) hr22 (fun b_ hb_=>by obtain rfl:=ZAs.1 hb_; exact hf19)
             refine Zc (v:=.map (some b35)) rfl (done (Zv ?_))
             replace hC:=hC.sM [0,6,7,8,9] (M':=[Ze (kvA .i64) (vvI .i64) b35 r22,blk b12 73 (ZH6 .i64 s10.1),blk b11 73 (ZH6 .i64 q10.1),itI (kvA .i64) (vvI .i64) r10 b1 es10 ck10 (some ent10) l10,Ze (kvA .i64) (vvI .i64) b10 s10.2]) (by decide) rfl
             replace hC:=hC.sP [1,2,3,4,5,6,7,8] (Ps':=[Y3 b1 es10 ck10,ZH7 ((Xv (kvA .i64) (vvI .i64)).sl) a0.images [u0_2] fp0,blk b5 32 [u6,u7],ZH7 ZIo.sl a0.alg.images [u7] fp0,ZH7 ((EI .i64).ty.sl) a0.alg.degrees [u6] fp0,ZH7 (Xq 32) a0 [.pointer (some ⟨b5,0,none⟩),.int .i64 a0.drop,u0_2] fp0,blk b0 144 [.pointer (some ⟨b5,0,none⟩),.int .i64 a0.drop,u0_2],Ze (kvA .i64) (vvI .i64) b1 a1]) rfl
             exact⟨rfl,_,rfl,⟨b35,r22,(sl ⟨rfl,rfl,rfl,rfl,rfl,rfl,rfl,rfl,rfl,rfl,rfl,rfl,rfl,trivial⟩),hC,h⟩⟩
           ·skip
            refine Y7 hC 0 s11.1 1 rfl Y0 ZKw rfl rfl rfl (fun w55 hBB_ hC=>?_) (.inr rfl)
            refine done ?_
            refine Zy (Yz hN_ hnb_b24870 hBB_) hN_ (l9:=(Za 20 126963)) (by kernel_rfl) (fun hN_=>?_)
            refine Zm (Yb _) 17 (.map (some b19)) rfl rfl (by kernel_rfl) (hM10 17 rfl) (fun w_=>.inl ⟨rfl,by exact Zf (v:=.map (some b19)) rfl⟩) (l9:=(Za 20 258035)) (by kernel_rfl) (aO 2 rfl ?_)
            refine Y7 hC 1 (s10.1.set i10 (ZA7.wrap ((q10.1.get i10) - 1))) 1 rfl Y0 ZKw rfl rfl rfl (fun w56 hBB_ hC=>?_) (.inr rfl)
            refine done ?_
            refine Zy (Yz hN_ hnb_b24803 hBB_) hN_ (l9:=(Za 20 258039)) (by kernel_rfl) (fun hN_=>?_)
            refine Zm (Yb _) 3 (.map (some b15)) rfl rfl (by kernel_rfl) (hM10 3 rfl) (fun w_=>.inl ⟨rfl,by exact Zf (v:=.map (some b15)) rfl⟩) (l9:=(Za 20 258047)) (by kernel_rfl) (aO 12 rfl ?_)
            refine Zg [.map (some b15),u6,.map (some b13)] _ ZKx rfl rfl rfl (Yu (Zz ([]:List (A8×Int)) (s10.1.set i10 (ZA7.wrap ((q10.1.get i10) - 1))) 1) a0.alg.degrees (a0.images.getD i10 Zyt) h _ (hC.getM 1 rfl) (hC.getP 5 rfl) (hC.getP 0 rfl)) (fun ret23 w57 hR23=>?_)
            obtain ⟨r42,b60,rfl,h,hr23,hf20,hB23⟩:=hR23
            refine⟨_,rfl,?_⟩
            replace hC:=hC.push hB23 (Ze (kvA .i64) (vvI .i64) b60 r42) hr23 (fun b_ hb_=>by obtain rfl:=ZAs.1 hb_; exact hf20)
            refine done ?_
            refine Zy (Ys hN_ (by assumption)) hN_ (l9:=(Za 20 262143)) (by kernel_rfl) (fun hN_=>?_)
            refine Zu 18 (by decide) (by decide) (by kernel_rfl) (by kernel_rfl) rfl ?_
            refine Zg [.map (some b60),u6,.map (some b19)] _ ZKx rfl rfl rfl (Yu r42 a0.alg.degrees (Zz ([]:List (A8×Int)) s11.1 1) h _ (hC.getM 0 rfl) (hC.getP 5 rfl) (hC.getM 1 rfl)) (fun ret24 w58 hR24=>?_)
            obtain ⟨r23,b36,rfl,h,hr24,hf21,hB24⟩:=hR24
            refine⟨_,rfl,?_⟩
            replace hC:=hC.push hB24 (Ze (kvA .i64) (vvI .i64) b36 r23) hr24 (fun b_ hb_=>by obtain rfl:=ZAs.1 hb_; exact hf21)
            refine Zc (v:=.map (some b36)) rfl (done (Zv ?_))
            replace hC:=hC.sM [0,6,7,8,9] (M':=[Ze (kvA .i64) (vvI .i64) b36 r23,blk b12 73 (ZH6 .i64 s10.1),blk b11 73 (ZH6 .i64 q10.1),itI (kvA .i64) (vvI .i64) r10 b1 es10 ck10 (some ent10) l10,Ze (kvA .i64) (vvI .i64) b10 s10.2]) (by decide) rfl
            replace hC:=hC.sP [1,2,3,4,5,6,7,8] (Ps':=[Y3 b1 es10 ck10,ZH7 ((Xv (kvA .i64) (vvI .i64)).sl) a0.images [u0_2] fp0,blk b5 32 [u6,u7],ZH7 ZIo.sl a0.alg.images [u7] fp0,ZH7 ((EI .i64).ty.sl) a0.alg.degrees [u6] fp0,ZH7 (Xq 32) a0 [.pointer (some ⟨b5,0,none⟩),.int .i64 a0.drop,u0_2] fp0,blk b0 144 [.pointer (some ⟨b5,0,none⟩),.int .i64 a0.drop,u0_2],Ze (kvA .i64) (vvI .i64) b1 a1]) rfl
            exact⟨rfl,_,rfl,⟨b36,r23,(sl ⟨rfl,rfl,rfl,rfl,rfl,rfl,rfl,rfl,rfl,rfl,rfl,rfl,rfl,trivial⟩),hC,h⟩⟩
         ·skip
          refine Zad hC (kvA .i64) (vvI .i64) fun b16 w59 hn_ hB_ hC=>?_
          have hnb_b24932:=Zy6 hN_ hn_
          refine done ?_
          refine Zy (Ys hN_ (by assumption)) hN_ (l9:=(Za 20 61426)) (by kernel_rfl) (fun hN_=>?_)
          refine Xg 0 16 rfl rfl (by kernel_rfl) ?_ ?_
          ·skip
           refine Zad hC (kvA .i64) (vvI .i64) fun b21 w60 hn_ hB_ hC=>?_
           have hnb_b24935:=Zy6 hN_ hn_
           refine done ?_
           refine Zy (Ys hN_ (by assumption)) hN_ (l9:=(Za 20 61427)) (by kernel_rfl) (fun hN_=>?_)
           refine Xg 2 16 rfl rfl (by kernel_rfl) ?_ ?_
           ·skip
            refine Y7 hC 0 (s10.1.set i10 (ZA7.wrap ((q10.1.get i10) - 1))) 1 rfl Y0 ZKw rfl rfl rfl (fun w61 hBB_ hC=>?_) (.inr rfl)
            refine done ?_
            refine Zy (Yz hN_ hnb_b24935 hBB_) hN_ (l9:=(Za 20 61431)) (by kernel_rfl) (fun hN_=>?_)
            refine Zm (Yb _) 3 (.map (some b21)) rfl rfl (by kernel_rfl) (hM10 3 rfl) (fun w_=>.inl ⟨rfl,by exact Zf (v:=.map (some b21)) rfl⟩) (l9:=(Za 20 61439)) (by kernel_rfl) ?_
            refine Xg 12 16 rfl rfl (by kernel_rfl) ?_ ?_
            ·skip
             refine Zg [.map (some b21),u6,.map (some b13)] _ ZKx rfl rfl rfl (Yu (Zz ([]:List (A8×Int)) (s10.1.set i10 (ZA7.wrap ((q10.1.get i10) - 1))) 1) a0.alg.degrees (a0.images.getD i10 Zyt) h _ (hC.getM 0 rfl) (hC.getP 5 rfl) (hC.getP 0 rfl)) (fun ret25 w62 hR25=>?_)
             obtain ⟨r43,b61,rfl,h,hr25,hf22,hB25⟩:=hR25
             refine⟨_,rfl,?_⟩
             replace hC:=hC.push hB25 (Ze (kvA .i64) (vvI .i64) b61 r43) hr25 (fun b_ hb_=>by obtain rfl:=ZAs.1 hb_; exact hf22)
             refine done ?_
             refine Zy (Ys hN_ (by assumption)) hN_ (l9:=(Za 20 65535)) (by kernel_rfl) (fun hN_=>?_)
             refine aO 16 rfl ?_
             refine Y7 hC 2 s11.1 1 rfl Y0 ZKw rfl rfl rfl (fun w63 hBB_ hC=>?_) (.inr rfl)
             refine done ?_
             refine Zy (Yz hN_ hnb_b24932 hBB_) hN_ (l9:=(Za 20 131071)) (by kernel_rfl) (fun hN_=>?_)
             refine Zm (Yb _) 17 (.map (some b16)) rfl rfl (by kernel_rfl) (hM10 17 rfl) (fun w_=>.inl ⟨rfl,by exact Zf (v:=.map (some b16)) rfl⟩) (l9:=(Za 20 262143)) (by kernel_rfl) (Zu 18 (by decide) (by decide) (by kernel_rfl) (by kernel_rfl) rfl ?_)
             refine Zg [.map (some b61),u6,.map (some b16)] _ ZKx rfl rfl rfl (Yu r43 a0.alg.degrees (Zz ([]:List (A8×Int)) s11.1 1) h _ (hC.getM 0 rfl) (hC.getP 5 rfl) (hC.getM 2 rfl)) (fun ret26 w64 hR26=>?_)
             obtain ⟨r24,b37,rfl,h,hr26,hf23,hB26⟩:=hR26
             refine⟨_,rfl,?_⟩
             replace hC:=hC.push hB26 (Ze (kvA .i64) (vvI .i64) b37 r24) hr26 (fun b_ hb_=>by obtain rfl:=ZAs.1 hb_; exact hf23)
             refine Zc (v:=.map (some b37)) rfl (done (Zv ?_))
             replace hC:=hC.sM [0,6,7,8,9] (M':=[Ze (kvA .i64) (vvI .i64) b37 r24,blk b12 73 (ZH6 .i64 s10.1),blk b11 73 (ZH6 .i64 q10.1),itI (kvA .i64) (vvI .i64) r10 b1 es10 ck10 (some ent10) l10,Ze (kvA .i64) (vvI .i64) b10 s10.2]) (by decide) rfl
             replace hC:=hC.sP [1,2,3,4,5,6,7,8] (Ps':=[Y3 b1 es10 ck10,ZH7 ((Xv (kvA .i64) (vvI .i64)).sl) a0.images [u0_2] fp0,blk b5 32 [u6,u7],ZH7 ZIo.sl a0.alg.images [u7] fp0,ZH7 ((EI .i64).ty.sl) a0.alg.degrees [u6] fp0,ZH7 (Xq 32) a0 [.pointer (some ⟨b5,0,none⟩),.int .i64 a0.drop,u0_2] fp0,blk b0 144 [.pointer (some ⟨b5,0,none⟩),.int .i64 a0.drop,u0_2],Ze (kvA .i64) (vvI .i64) b1 a1]) rfl
             exact⟨rfl,_,rfl,⟨b37,r24,(sl ⟨rfl,rfl,rfl,rfl,rfl,rfl,rfl,rfl,rfl,rfl,rfl,rfl,rfl,trivial⟩),hC,h⟩⟩
            ·skip
             refine Y7 hC 1 s11.1 1 rfl Y0 ZKw rfl rfl rfl (fun w65 hBB_ hC=>?_) (.inr rfl)
             refine done ?_
             refine Zy (Yz hN_ hnb_b24932 hBB_) hN_ (l9:=(Za 20 126975)) (by kernel_rfl) (fun hN_=>?_)
             refine Zm (Yb _) 17 (.map (some b16)) rfl rfl (by kernel_rfl) (hM10 17 rfl) (fun w_=>.inl ⟨rfl,by exact Zf (v:=.map (some b16)) rfl⟩) (l9:=(Za 20 258047)) (by kernel_rfl) (aO 12 rfl ?_)
             refine Zg [.map (some b21),u6,.map (some b13)] _ ZKx rfl rfl rfl (Yu (Zz ([]:List (A8×Int)) (s10.1.set i10 (ZA7.wrap ((q10.1.get i10) - 1))) 1) a0.alg.degrees (a0.images.getD i10 Zyt) h _ (hC.getM 0 rfl) (hC.getP 5 rfl) (hC.getP 0 rfl)) (fun ret27 w66 hR27=>?_)
             obtain ⟨r44,b62,rfl,h,hr27,hf24,hB27⟩:=hR27
             refine⟨_,rfl,?_⟩
             replace hC:=hC.push hB27 (Ze (kvA .i64) (vvI .i64) b62 r44) hr27 (fun b_ hb_=>by obtain rfl:=ZAs.1 hb_; exact hf24)
             refine done ?_
             refine Zy (Ys hN_ (by assumption)) hN_ (l9:=(Za 20 262143)) (by kernel_rfl) (fun hN_=>?_)
             refine Zu 18 (by decide) (by decide) (by kernel_rfl) (by kernel_rfl) rfl ?_
             refine Zg [.map (some b62),u6,.map (some b16)] _ ZKx rfl rfl rfl (Yu r44 a0.alg.degrees (Zz ([]:List (A8×Int)) s11.1 1) h _ (hC.getM 0 rfl) (hC.getP 5 rfl) (hC.getM 2 rfl)) (fun ret28 w67 hR28=>?_)
             obtain ⟨r25,b38,rfl,h,hr28,hf25,hB28⟩:=hR28
             refine⟨_,rfl,?_⟩
             replace hC:=hC.push hB28 (Ze (kvA .i64) (vvI .i64) b38 r25) hr28 (fun b_ hb_=>by obtain rfl:=ZAs.1 hb_; exact hf25)
             refine Zc (v:=.map (some b38)) rfl (done (Zv ?_))
             replace hC:=hC.sM [0,6,7,8,9] (M':=[Ze (kvA .i64) (vvI .i64) b38 r25,blk b12 73 (ZH6 .i64 s10.1),blk b11 73 (ZH6 .i64 q10.1),itI (kvA .i64) (vvI .i64) r10 b1 es10 ck10 (some ent10) l10,Ze (kvA .i64) (vvI .i64) b10 s10.2]) (by decide) rfl
             replace hC:=hC.sP [1,2,3,4,5,6,7,8] (Ps':=[Y3 b1 es10 ck10,ZH7 ((Xv (kvA .i64) (vvI .i64)).sl) a0.images [u0_2] fp0,blk b5 32 [u6,u7],ZH7 ZIo.sl a0.alg.images [u7] fp0,ZH7 ((EI .i64).ty.sl) a0.alg.degrees [u6] fp0,ZH7 (Xq 32) a0 [.pointer (some ⟨b5,0,none⟩),.int .i64 a0.drop,u0_2] fp0,blk b0 144 [.pointer (some ⟨b5,0,none⟩),.int .i64 a0.drop,u0_2],Ze (kvA .i64) (vvI .i64) b1 a1]) rfl
             exact⟨rfl,_,rfl,⟨b38,r25,(sl ⟨rfl,rfl,rfl,rfl,rfl,rfl,rfl,rfl,rfl,rfl,rfl,rfl,rfl,trivial⟩),hC,h⟩⟩
           ·skip
            refine Y7 hC 1 s11.1 1 rfl Y0 ZKw rfl rfl rfl (fun w68 hBB_ hC=>?_) (.inr rfl)
            refine done ?_
            refine Zy (Yz hN_ hnb_b24932 hBB_) hN_ (l9:=(Za 20 126963)) (by kernel_rfl) (fun hN_=>?_)
            refine Zm (Yb _) 17 (.map (some b16)) rfl rfl (by kernel_rfl) (hM10 17 rfl) (fun w_=>.inl ⟨rfl,by exact Zf (v:=.map (some b16)) rfl⟩) (l9:=(Za 20 258035)) (by kernel_rfl) (aO 2 rfl ?_)
            refine Y7 hC 0 (s10.1.set i10 (ZA7.wrap ((q10.1.get i10) - 1))) 1 rfl Y0 ZKw rfl rfl rfl (fun w69 hBB_ hC=>?_) (.inr rfl)
            refine done ?_
            refine Zy (Yz hN_ hnb_b24935 hBB_) hN_ (l9:=(Za 20 258039)) (by kernel_rfl) (fun hN_=>?_)
            refine Zm (Yb _) 3 (.map (some b21)) rfl rfl (by kernel_rfl) (hM10 3 rfl) (fun w_=>.inl ⟨rfl,by exact Zf (v:=.map (some b21)) rfl⟩) (l9:=(Za 20 258047)) (by kernel_rfl) (aO 12 rfl ?_)
            refine Zg [.map (some b21),u6,.map (some b13)] _ ZKx rfl rfl rfl (Yu (Zz ([]:List (A8×Int)) (s10.1.set i10 (ZA7.wrap ((q10.1.get i10) - 1))) 1) a0.alg.degrees (a0.images.getD i10 Zyt) h _ (hC.getM 0 rfl) (hC.getP 5 rfl) (hC.getP 0 rfl)) (fun ret29 w70 hR29=>?_)
            obtain ⟨r45,b63,rfl,h,hr29,hf26,hB29⟩:=hR29
            refine⟨_,rfl,?_⟩
            replace hC:=hC.push hB29 (Ze (kvA .i64) (vvI .i64) b63 r45) hr29 (fun b_ hb_=>by obtain rfl:=ZAs.1 hb_; exact hf26)
            refine done ?_
            refine Zy (Ys hN_ (by assumption)) hN_ (l9:=(Za 20 262143)) (by kernel_rfl) (fun hN_=>?_)
            refine Zu 18 (by decide) (by decide) (by kernel_rfl) (by kernel_rfl) rfl ?_
            refine Zg [.map (some b63),u6,.map (some b16)] _ ZKx rfl rfl rfl (Yu r45 a0.alg.degrees (Zz ([]:List (A8×Int)) s11.1 1) h _ (hC.getM 0 rfl) (hC.getP 5 rfl) (hC.getM 2 rfl)) (fun ret30 w71 hR30=>?_)
            obtain ⟨r26,b39,rfl,h,hr30,hf27,hB30⟩:=hR30
            refine⟨_,rfl,?_⟩
            replace hC:=hC.push hB30 (Ze (kvA .i64) (vvI .i64) b39 r26) hr30 (fun b_ hb_=>by obtain rfl:=ZAs.1 hb_; exact hf27)
            refine Zc (v:=.map (some b39)) rfl (done (Zv ?_))
            replace hC:=hC.sM [0,6,7,8,9] (M':=[Ze (kvA .i64) (vvI .i64) b39 r26,blk b12 73 (ZH6 .i64 s10.1),blk b11 73 (ZH6 .i64 q10.1),itI (kvA .i64) (vvI .i64) r10 b1 es10 ck10 (some ent10) l10,Ze (kvA .i64) (vvI .i64) b10 s10.2]) (by decide) rfl
            replace hC:=hC.sP [1,2,3,4,5,6,7,8] (Ps':=[Y3 b1 es10 ck10,ZH7 ((Xv (kvA .i64) (vvI .i64)).sl) a0.images [u0_2] fp0,blk b5 32 [u6,u7],ZH7 ZIo.sl a0.alg.images [u7] fp0,ZH7 ((EI .i64).ty.sl) a0.alg.degrees [u6] fp0,ZH7 (Xq 32) a0 [.pointer (some ⟨b5,0,none⟩),.int .i64 a0.drop,u0_2] fp0,blk b0 144 [.pointer (some ⟨b5,0,none⟩),.int .i64 a0.drop,u0_2],Ze (kvA .i64) (vvI .i64) b1 a1]) rfl
            exact⟨rfl,_,rfl,⟨b39,r26,(sl ⟨rfl,rfl,rfl,rfl,rfl,rfl,rfl,rfl,rfl,rfl,rfl,rfl,rfl,trivial⟩),hC,h⟩⟩
          ·skip
           refine Y7 hC 0 s11.1 1 rfl Y0 ZKw rfl rfl rfl (fun w72 hBB_ hC=>?_) (.inr rfl)
           refine done ?_
           refine Zy (Yz hN_ hnb_b24932 hBB_) hN_ (l9:=(Za 20 126962)) (by kernel_rfl) (fun hN_=>?_)
           refine Zm (Yb _) 17 (.map (some b16)) rfl rfl (by kernel_rfl) (hM10 17 rfl) (fun w_=>.inl ⟨rfl,by exact Zf (v:=.map (some b16)) rfl⟩) (l9:=(Za 20 258034)) (by kernel_rfl) (aO 0 rfl (Zad hC (kvA .i64) (vvI .i64) fun b52 w73 hn_ hB_ hC=>?_))
           have hnb_b24998:=Zy6 hN_ hn_
           refine done ?_
           refine Zy (Ys hN_ (by assumption)) hN_ (l9:=(Za 20 258035)) (by kernel_rfl) (fun hN_=>?_)
           refine aO 2 rfl ?_
           refine Y7 hC 0 (s10.1.set i10 (ZA7.wrap ((q10.1.get i10) - 1))) 1 rfl Y0 ZKw rfl rfl rfl (fun w74 hBB_ hC=>?_) (.inr rfl)
           refine done ?_
           refine Zy (Yz hN_ hnb_b24998 hBB_) hN_ (l9:=(Za 20 258039)) (by kernel_rfl) (fun hN_=>?_)
           refine Zm (Yb _) 3 (.map (some b52)) rfl rfl (by kernel_rfl) (hM10 3 rfl) (fun w_=>.inl ⟨rfl,by exact Zf (v:=.map (some b52)) rfl⟩) (l9:=(Za 20 258047)) (by kernel_rfl) (aO 12 rfl ?_)
           refine Zg [.map (some b52),u6,.map (some b13)] _ ZKx rfl rfl rfl (Yu (Zz ([]:List (A8×Int)) (s10.1.set i10 (ZA7.wrap ((q10.1.get i10) - 1))) 1) a0.alg.degrees (a0.images.getD i10 Zyt) h _ (hC.getM 0 rfl) (hC.getP 5 rfl) (hC.getP 0 rfl)) (fun ret31 w75 hR31=>?_)
           obtain ⟨r46,b64,rfl,h,hr31,hf28,hB31⟩:=hR31
           refine⟨_,rfl,?_⟩
           replace hC:=hC.push hB31 (Ze (kvA .i64) (vvI .i64) b64 r46) hr31 (fun b_ hb_=>by obtain rfl:=ZAs.1 hb_; exact hf28)
           refine done ?_
           refine Zy (Ys hN_ (by assumption)) hN_ (l9:=(Za 20 262143)) (by kernel_rfl) (fun hN_=>?_)
           refine Zu 18 (by decide) (by decide) (by kernel_rfl) (by kernel_rfl) rfl ?_
           refine Zg [.map (some b64),u6,.map (some b16)] _ ZKx rfl rfl rfl (Yu r46 a0.alg.degrees (Zz ([]:List (A8×Int)) s11.1 1) h _ (hC.getM 0 rfl) (hC.getP 5 rfl) (hC.getM 2 rfl)) (fun ret32 w76 hR32=>?_)
           obtain ⟨r27,b40,rfl,h,hr32,hf29,hB32⟩:=hR32
           refine⟨_,rfl,?_⟩
           replace hC:=hC.push hB32 (Ze (kvA .i64) (vvI .i64) b40 r27) hr32 (fun b_ hb_=>by obtain rfl:=ZAs.1 hb_; exact hf29)
           refine Zc (v:=.map (some b40)) rfl (done (Zv ?_))
           replace hC:=hC.sM [0,6,7,8,9] (M':=[Ze (kvA .i64) (vvI .i64) b40 r27,blk b12 73 (ZH6 .i64 s10.1),blk b11 73 (ZH6 .i64 q10.1),itI (kvA .i64) (vvI .i64) r10 b1 es10 ck10 (some ent10) l10,Ze (kvA .i64) (vvI .i64) b10 s10.2]) (by decide) rfl
           replace hC:=hC.sP [1,2,3,4,5,6,7,8] (Ps':=[Y3 b1 es10 ck10,ZH7 ((Xv (kvA .i64) (vvI .i64)).sl) a0.images [u0_2] fp0,blk b5 32 [u6,u7],ZH7 ZIo.sl a0.alg.images [u7] fp0,ZH7 ((EI .i64).ty.sl) a0.alg.degrees [u6] fp0,ZH7 (Xq 32) a0 [.pointer (some ⟨b5,0,none⟩),.int .i64 a0.drop,u0_2] fp0,blk b0 144 [.pointer (some ⟨b5,0,none⟩),.int .i64 a0.drop,u0_2],Ze (kvA .i64) (vvI .i64) b1 a1]) rfl
           exact⟨rfl,_,rfl,⟨b40,r27,(sl ⟨rfl,rfl,rfl,rfl,rfl,rfl,rfl,rfl,rfl,rfl,rfl,rfl,rfl,trivial⟩),hC,h⟩⟩
       ·skip
        exact⟨(sl ⟨rfl,rfl,rfl,rfl,rfl,rfl,rfl,rfl,rfl,rfl,rfl,rfl,rfl,rfl,rfl,rfl,trivial⟩),hC⟩
      refine Xg 2 3 rfl rfl (by kernel_rfl) ?_ ?_
      ·skip
       refine Zbm hC (ZH6 .i64 ZIg) z73 rfl fun b79 w77 hn_ hB_ hC=>?_
       have hnb_b25020:=Zy6 hN_ hn_
       refine done ?_
       refine Zy (Ys hN_ (by assumption)) hN_ (l9:=(Za 6 7)) (by kernel_rfl) (fun hN_=>?_)
       refine aO 3 rfl (Zbm hC (ZH6 .i64 ZIg) z73 rfl fun b80 w78 hn_ hB_ hC=>?_)
       have hnb_b25023:=Zy6 hN_ hn_
       refine done ?_
       refine Zy (Ys hN_ (by assumption)) hN_ (l9:=(Za 6 15)) (by kernel_rfl) (fun hN_=>?_)
       refine aO 4 rfl (Zem (v:=.agg (ZH8 (ZH6 .i64 q10.1))) hC 1 (ZH6 .i64 q10.1) (ZH6 .i64 q10.1) rfl ag73.size rfl rfl rfl rfl rfl (ZIc rfl) rfl fun w79 hBB_ hC=>done ?_)
       refine Zy (Yz hN_ hnb_b25020 hBB_) hN_ (l9:=(Za 6 31)) (by kernel_rfl) (fun hN_=>?_)
       refine Zu 5 (by decide) (by decide) (by kernel_rfl) (by kernel_rfl) rfl (Zw (v:=.agg (ZH8 (ZH6 .i64 s10.1))) hC 0 (ZH6 .i64 s10.1) (ZH6 .i64 s10.1) rfl ag73.size rfl rfl rfl rfl rfl (ZIc rfl) rfl fun w80 hC=>done (Zv ?_))
       exact⟨rfl,_,rfl,⟨b80,b79,(sl ⟨rfl,rfl,rfl,rfl,rfl,rfl,rfl,rfl,rfl,rfl,rfl,rfl,rfl,rfl,trivial⟩),hC,h⟩⟩
      ·skip
       refine Zbm hC (ZH6 .i64 ZIg) z73 rfl fun b65 w81 hn_ hB_ hC=>?_
       have hnb_b25028:=Zy6 hN_ hn_
       refine done ?_
       refine Zy (Ys hN_ (by assumption)) hN_ (l9:=(Za 6 11)) (by kernel_rfl) (fun hN_=>?_)
       refine aO 2 rfl (Zbm hC (ZH6 .i64 ZIg) z73 rfl fun b66 w82 hn_ hB_ hC=>?_)
       have hnb_b25031:=Zy6 hN_ hn_
       refine done ?_
       refine Zy (Ys hN_ (by assumption)) hN_ (l9:=(Za 6 15)) (by kernel_rfl) (fun hN_=>?_)
       refine aO 4 rfl (Zem (v:=.agg (ZH8 (ZH6 .i64 q10.1))) hC 0 (ZH6 .i64 q10.1) (ZH6 .i64 q10.1) rfl ag73.size rfl rfl rfl rfl rfl (ZIc rfl) rfl fun w83 hBB_ hC=>done ?_)
       refine Zy (Yz hN_ hnb_b25031 hBB_) hN_ (l9:=(Za 6 31)) (by kernel_rfl) (fun hN_=>?_)
       refine Zu 5 (by decide) (by decide) (by kernel_rfl) (by kernel_rfl) rfl (Zw (v:=.agg (ZH8 (ZH6 .i64 s10.1))) hC 1 (ZH6 .i64 s10.1) (ZH6 .i64 s10.1) rfl ag73.size rfl rfl rfl rfl rfl (ZIc rfl) rfl fun w84 hC=>done (Zv ?_))
       replace hC:=hC.sM [1,0,2,3,4,5] (M':=[blk b65 73 (ZH6 .i64 s10.1),blk b66 73 (ZH6 .i64 q10.1),blk b12 73 (ZH6 .i64 s10.1),blk b11 73 (ZH6 .i64 q10.1),itI (kvA .i64) (vvI .i64) r10 b1 es10 ck10 (some ent10) l10,Ze (kvA .i64) (vvI .i64) b10 s10.2]) (by decide) rfl
       exact⟨rfl,_,rfl,⟨b65,b66,(sl ⟨rfl,rfl,rfl,rfl,rfl,rfl,rfl,rfl,rfl,rfl,rfl,rfl,rfl,rfl,trivial⟩),hC,h⟩⟩
     ·replace h:=Zk h (cf hb11)
      refine ZIe (Zd (ZIa ?_))
      refine Zei 5 Ye [0,0,0,0,13,31] [0,1] [] (by kernel_rfl) (by kernel_rfl) (by kernel_rfl) (fun hM19 hM21 w12 hB_=>?_)
      replace hC:=hC.grow hB_
      have hN_:w12.heap.size≤w12.heap.size:=Zy1 _
      refine Jy (Yb _) 0 (.agg (ZH8 (ZH6 .i64 q10.1))) rfl rfl (by kernel_rfl) (hM19 0 rfl) (fun w_ hB_=>.inl ⟨rfl,by exact Yv (hC.grow (Zaj hB_)) 1 (ZH6 .i64 q10.1) rfl ag73 rfl rfl rfl⟩) (l9:=(Za 6 1)) (by kernel_rfl) (Jy (Yb _) 1 (.agg (ZH8 (ZH6 .i64 s10.1))) rfl rfl (by kernel_rfl) (hM19 1 rfl) (fun w_ hB_=>.inl ⟨rfl,by exact Yv (hC.grow (Zaj hB_)) 0 (ZH6 .i64 s10.1) rfl ag73 rfl rfl rfl⟩) (l9:=(Za 6 3)) (by kernel_rfl) ?_)
      refine Zbj (fun e_ w_=>∃ (b28:Nat),∃ (b29:Nat),Z3 e_ [(0,.pointer (some ⟨b0,0,none⟩)),(5,.map (some b10)),(6,u6),(7,.pointer (some ⟨b11,0,none⟩)),(8,.int .i64 q10.2),(9,.pointer (some ⟨b12,0,none⟩)),(10,.int .i64 (i10:Int)),(11,.int .i64 (q10.1.get i10)),(12,.int .i64 1),(13,.pointer (some ⟨b29,0,none⟩)),(14,.pointer (some ⟨b28,0,none⟩)),(26,.pointer (some ⟨r10,0,none⟩)),(34,.int .i64 (a0.alg.degrees.length:Int)),(35,.int .i64 (i10:Int))]∧Ctx Nox w0 w_ [blk b28 73 (ZH6 .i64 s10.1),blk b29 73 (ZH6 .i64 q10.1),blk b12 73 (ZH6 .i64 s10.1),blk b11 73 (ZH6 .i64 q10.1),itI (kvA .i64) (vvI .i64) r10 b1 es10 ck10 (some ent10) l10,Ze (kvA .i64) (vvI .i64) b10 s10.2] [Y3 b1 es10 ck10,ZH7 ((Xv (kvA .i64) (vvI .i64)).sl) a0.images [u0_2] fp0,blk b5 32 [u6,u7],ZH7 ZIo.sl a0.alg.images [u7] fp0,ZH7 ((EI .i64).ty.sl) a0.alg.degrees [u6] fp0,ZH7 (Xq 32) a0 [.pointer (some ⟨b5,0,none⟩),.int .i64 a0.drop,u0_2] fp0,blk b0 144 [.pointer (some ⟨b5,0,none⟩),.int .i64 a0.drop,u0_2],Ze (kvA .i64) (vvI .i64) b1 a1]∧(Xj (fun (s12:A8×Int) nx12=>(if s12.2 < ZA7.wrap ((i10:Int)+1) then((0≤s12.2∧s12.2 < 8)∧nx12 (s12.1.set s12.2.toNat 0,ZA7.wrap (s12.2+1))) else((0≤(i10:Int)∧(i10:Int) < 8)∧((0≤(i10:Int)∧(i10:Int) < (a0.images.length:Int))∧Jc (Zz ([]:List (A8×Int)) (s10.1.set i10 (ZA7.wrap ((q10.1.get i10) - 1))) 1) a0.alg.degrees (a0.images.getD i10 Zyt) (fun r16=>Jc r16 a0.alg.degrees (Zz ([]:List (A8×Int)) s12.1 1) (fun r14=>Zak (ZA7.wrap ((ZA7.wrap (1 * q10.2)) * (q10.1.get i10))) (fun r12=>Zam s10.2 r14 r12 (fun m11=>((0≤(i10:Int)∧(i10:Int) < 8)∧nx10 (s10.1.set i10 (q10.1.get i10),m11)))))))))) (q10.1,0))) ?_ ?_
      ·clear hC h
       rintro e_ w85 ⟨b28,b29,hS_,hC,h⟩
       rw [ue hS_]
       refine Zd (ZIa (sr (Zb (v:=.int .i64 (i10:Int)) rfl (Zq rfl rfl (Zb (v:=.int .i64 0) rfl (dn (ZIj ?_)))))))
       refine X1 (S:=A8×Int) _ (fun s12 e_ w_=>Z3 e_ [(0,.pointer (some ⟨b0,0,none⟩)),(5,.map (some b10)),(6,u6),(7,.pointer (some ⟨b11,0,none⟩)),(8,.int .i64 q10.2),(9,.pointer (some ⟨b12,0,none⟩)),(10,.int .i64 (i10:Int)),(11,.int .i64 (q10.1.get i10)),(12,.int .i64 1),(13,.pointer (some ⟨b29,0,none⟩)),(14,.pointer (some ⟨b28,0,none⟩)),(26,.pointer (some ⟨r10,0,none⟩)),(34,.int .i64 (a0.alg.degrees.length:Int)),(35,.int .i64 (i10:Int)),(56,.int .i64 (ZA7.wrap ((i10:Int)+1))),(57,.int .i64 s12.2)]∧Ctx Nox w0 w_ [blk b28 73 (ZH6 .i64 s10.1),blk b29 73 (ZH6 .i64 s12.1),blk b12 73 (ZH6 .i64 s10.1),blk b11 73 (ZH6 .i64 q10.1),itI (kvA .i64) (vvI .i64) r10 b1 es10 ck10 (some ent10) l10,Ze (kvA .i64) (vvI .i64) b10 s10.2] [Y3 b1 es10 ck10,ZH7 ((Xv (kvA .i64) (vvI .i64)).sl) a0.images [u0_2] fp0,blk b5 32 [u6,u7],ZH7 ZIo.sl a0.alg.images [u7] fp0,ZH7 ((EI .i64).ty.sl) a0.alg.degrees [u6] fp0,ZH7 (Xq 32) a0 [.pointer (some ⟨b5,0,none⟩),.int .i64 a0.drop,u0_2] fp0,blk b0 144 [.pointer (some ⟨b5,0,none⟩),.int .i64 a0.drop,u0_2],Ze (kvA .i64) (vvI .i64) b1 a1]) ?_ (s0:=(q10.1,0)) ?_ h
       ·clear hC h
        rintro s12 e_ w86 nx12 K13 ⟨hS_,hC⟩ h hK13
        rw [ue hS_]
        refine sr (Zt rfl rfl (dn (ZIa ?_)))
        refine Zr rfl (fun hb13=>?_) (fun hb13=>?_)
        ·replace h:=ift h (ct hb13)
         refine ZIe (Zd (ZIa (ZIj (sr (Zb (v:=.int .i64 s12.2) rfl (Zc (v:=.int .i64 s12.2) rfl (dn (Zh (Zb (v:=.int .i64 s12.2) rfl ?_)))))))))
         obtain ⟨⟨h20,h21⟩,h⟩:=h
         refine Y5 s12.2.toNat ZJf sc3.size rfl rfl h20 h21 (by omega) (Zw (v:=.int .i64 0) hC 1 [.int .i64 0] (ZH6 .i64 (s12.1.set s12.2.toNat 0)) rfl sc3.size rfl rfl rfl rfl rfl (show s12.2.toNat < 8 by omega) (ZI3 _ _ _ (show s12.2.toNat < 8 by omega)) fun w87 hC=>done (Zs (Zd (Zh (Zq rfl rfl (Zb (v:=.int .i64 (ZA7.wrap (s12.2+1))) rfl (done ?_)))))))
         exact hK13 (s12.1.set s12.2.toNat 0,ZA7.wrap (s12.2+1)) _ _ ⟨(sl ⟨rfl,rfl,rfl,rfl,rfl,rfl,rfl,rfl,rfl,rfl,rfl,rfl,rfl,rfl,rfl,rfl,trivial⟩),hC⟩ h
        ·replace h:=Zk h (cf hb13)
         refine ZIr (Zj (Zj (Z9 ?_)))
         refine Zd (sr (Zb (v:=.int .i64 (i10:Int)) rfl (Zb (v:=.int .i64 (q10.1.get i10)) rfl (Jt rfl rfl ?_))))
         obtain ⟨⟨h22,h23⟩,h⟩:=h
         refine Y5 i10 ZJf sc3.size rfl rfl h22 h23 (by omega) (Zw (v:=.int .i64 (ZA7.wrap ((q10.1.get i10) - 1))) hC 0 [.int .i64 (ZA7.wrap ((q10.1.get i10) - 1))] (ZH6 .i64 (s10.1.set i10 (ZA7.wrap ((q10.1.get i10) - 1)))) rfl sc3.size rfl rfl rfl rfl rfl (show i10 < 8 by omega) (ZI3 _ _ _ (show i10 < 8 by omega)) fun w88 hC=>dn (ZIa ?_))
         refine Zei 18 Ye [0,0,3,7,0,0,32,96,224,0,992,2016,4095,0,0,0,49152,114688,262143,524287] [1,8,10,11,15] [3,4,5,6,7,9,13,17] (by kernel_rfl) (by kernel_rfl) (by kernel_rfl) (fun hM14 hM11 w13 hB_=>?_)
         replace hC:=hC.grow hB_
         have hN_:w13.heap.size≤w13.heap.size:=Zy1 _
         refine Jy (Yb _) 1 (.agg (ZH8 (ZH6 .i64 (s10.1.set i10 (ZA7.wrap ((q10.1.get i10) - 1)))))) rfl rfl (by kernel_rfl) (hM14 1 rfl) (fun w_ hB_=>.inl ⟨rfl,by exact Yv (hC.grow (Zaj hB_)) 0 (ZH6 .i64 (s10.1.set i10 (ZA7.wrap ((q10.1.get i10) - 1)))) rfl ag73 rfl rfl rfl⟩) (l9:=(Za 20 2)) (by kernel_rfl) (Zm (Yb _) 4 (u6) rfl rfl (by kernel_rfl) (hM11 4 rfl) (fun w_=>.inl ⟨rfl,by exact Zf (v:=u6) rfl⟩) (l9:=(Za 20 18)) (by kernel_rfl) (Zm (Yb _) 5 (.pointer (some ⟨b0,0,none⟩)) rfl rfl (by kernel_rfl) (hM11 5 rfl) (fun w_=>.inl ⟨rfl,by exact Zf (v:=.pointer (some ⟨b0,0,none⟩)) rfl⟩) (l9:=(Za 20 50)) (by kernel_rfl) (Zm (Yb _) 6 (.pointer (some ⟨b0,0,none⟩)) rfl rfl (by kernel_rfl) (hM11 6 rfl) (fun w_=>.inl ⟨rfl,by exact J9 rfl⟩) (l9:=(Za 20 114)) (by kernel_rfl) (Zm (Yb _) 7 (.pointer (some ⟨b0,2,none⟩)) rfl rfl (by kernel_rfl) (hM11 7 rfl) (fun w_=>.inl ⟨rfl,by exact Z7 2 ZUm rfl sc142.size rfl rfl⟩) (l9:=(Za 20 242)) (by kernel_rfl) (Jy (Yb _) 8 (u0_2) rfl rfl (by kernel_rfl) (hM14 8 rfl) (fun w_ hB_=>.inl ⟨rfl,by exact Zaz (u0_2) ((hC.grow (Zaj hB_)).getP 6 rfl) sc142 rfl rfl⟩) (l9:=(Za 20 498)) (by kernel_rfl) (Zm (Yb _) 9 (.int .i64 (i10:Int)) rfl rfl (by kernel_rfl) (hM11 9 rfl) (fun w_=>.inl ⟨rfl,by exact Zf (v:=.int .i64 (i10:Int)) rfl⟩) (l9:=(Za 20 1010)) (by kernel_rfl) ?_))))))
         obtain ⟨⟨h24,h25⟩,h⟩:=h
         obtain ⟨Ad11,c12,hv11⟩:=Z0 (hC.getP 1 rfl) i10 (show i10 < a0.images.length by omega)
         refine Jy (Yb _) 10 (.pointer (some (Ad11.add (i10 * 1)))) rfl rfl (by kernel_rfl) (hM14 10 rfl) (fun w_ hB_=>.inl ⟨rfl,by exact Yp (len:=a0.images.length) Tryz.underlying142 sc115.size (by exact tr rfl hv11) rfl h24 h25⟩) (l9:=(Za 20 2034)) (by kernel_rfl) ?_
         obtain ⟨cs_,hl11,hc11,hr11⟩:=Xs (hC.getP 1 rfl) hv11 i10 (show i10 < a0.images.length by omega)
         obtain ⟨u11,rfl⟩:=ZI4.1 hl11
         clear hl11
         rw [Xt _ _ (show i10 < a0.images.length by omega)] at hr11
         obtain ⟨b14,rfl,hbf11,hm12⟩:=Zlf hr11
         replace hC:=hC.derive 1 rfl (Ze (kvA .i64) (vvI .i64) b14 (a0.images.getD i10 Zyt)) (fun _=>hm12) (fun c_ hc_=>by obtain rfl:=ZAs.1 hc_; exact hbf11)
         refine Jy (Yb _) 11 (.map (some b14)) rfl rfl (by kernel_rfl) (hM14 11 rfl) (fun w_ hB_=>.inl ⟨rfl,by exact Xc (.map (some b14)) (Jz (Zaj hB_) hc11) sc115 rfl⟩) (l9:=(Za 20 4082)) (by kernel_rfl) (Zm (Yb _) 13 (u6) rfl rfl (by kernel_rfl) (hM11 13 rfl) (fun w_=>.inl ⟨rfl,by exact Zf (v:=u6) rfl⟩) (l9:=(Za 20 12274)) (by kernel_rfl) (Jy (Yb _) 15 (.agg (ZH8 (ZH6 .i64 s12.1))) rfl rfl (by kernel_rfl) (hM14 15 rfl) (fun w_ hB_=>.inl ⟨rfl,by exact Yv (hC.grow (Zaj hB_)) 1 (ZH6 .i64 s12.1) rfl ag73 rfl rfl rfl⟩) (l9:=(Za 20 45042)) (by kernel_rfl) ?_))
         refine Zbj (fun e_ w_=>∃ (b30:Nat),∃ (r18:List (A8×Int)),Z3 e_ [(0,.pointer (some ⟨b0,0,none⟩)),(5,.map (some b10)),(6,u6),(7,.pointer (some ⟨b11,0,none⟩)),(8,.int .i64 q10.2),(9,.pointer (some ⟨b12,0,none⟩)),(10,.int .i64 (i10:Int)),(11,.int .i64 (q10.1.get i10)),(12,.int .i64 1),(16,.map (some b30)),(26,.pointer (some ⟨r10,0,none⟩)),(34,.int .i64 (a0.alg.degrees.length:Int)),(35,.int .i64 (i10:Int))]∧Ctx Nox w0 w_ [Ze (kvA .i64) (vvI .i64) b30 r18,blk b12 73 (ZH6 .i64 s10.1),blk b11 73 (ZH6 .i64 q10.1),itI (kvA .i64) (vvI .i64) r10 b1 es10 ck10 (some ent10) l10,Ze (kvA .i64) (vvI .i64) b10 s10.2] [Y3 b1 es10 ck10,ZH7 ((Xv (kvA .i64) (vvI .i64)).sl) a0.images [u0_2] fp0,blk b5 32 [u6,u7],ZH7 ZIo.sl a0.alg.images [u7] fp0,ZH7 ((EI .i64).ty.sl) a0.alg.degrees [u6] fp0,ZH7 (Xq 32) a0 [.pointer (some ⟨b5,0,none⟩),.int .i64 a0.drop,u0_2] fp0,blk b0 144 [.pointer (some ⟨b5,0,none⟩),.int .i64 a0.drop,u0_2],Ze (kvA .i64) (vvI .i64) b1 a1]∧(Zak (ZA7.wrap ((ZA7.wrap (1 * q10.2)) * (q10.1.get i10))) (fun r12=>Zam s10.2 r18 r12 (fun m11=>((0≤(i10:Int)∧(i10:Int) < 8)∧nx10 (s10.1.set i10 (q10.1.get i10),m11)))))) ?_ ?_
         ·clear hC h
          rintro e_ w89 ⟨b30,r18,hS_,hC,h⟩
          rw [ue hS_]
          refine Zd (Zh (Zb (v:=.map (some b10)) rfl (Zb (v:=.map (some b30)) rfl (Zb (v:=.int .i64 1) rfl (Zb (v:=.int .i64 q10.2) rfl (Ju rfl rfl (Zb (v:=.int .i64 (q10.1.get i10)) rfl (Ju rfl rfl ?_))))))))
          refine Zg [.int .i64 (ZA7.wrap ((ZA7.wrap (1 * q10.2)) * (q10.1.get i10)))] _ Tryz.func187 rfl rfl rfl (Zf8 (ZA7.wrap ((ZA7.wrap (1 * q10.2)) * (q10.1.get i10))) h _) (fun ret33 w90 hR33=>?_)
          obtain ⟨r12,rfl,h,hB33⟩:=hR33
          refine⟨_,rfl,?_⟩
          replace hC:=hC.grow hB33
          refine Zg [.map (some b10),.map (some b30),.int .i64 r12] _ Tryz.func165 rfl rfl rfl (Ziq s10.2 r18 r12 h _ (hC.getM 4 rfl) (fun c_ hc_ e_=>hC.mm 0 4 rfl rfl (by decide) c_ hc_ (ZAs.2 e_)) (hC.getM 0 rfl)) (fun ret34 w91 hR34=>?_)
          obtain ⟨m11,rfl,h,hm13,hB34⟩:=hR34
          refine⟨_,rfl,?_⟩
          replace hC:=hC.turnB 4 rfl hB34 rfl rfl hm13
          refine dn (Zh (Zb (v:=.int .i64 (i10:Int)) rfl (Zb (v:=.int .i64 (q10.1.get i10)) rfl ?_)))
          obtain ⟨⟨h26,h27⟩,h⟩:=h
          refine Y5 i10 ZJf sc3.size rfl rfl h26 h27 (by omega) (Zw (v:=.int .i64 (q10.1.get i10)) hC 1 [.int .i64 (q10.1.get i10)] (ZH6 .i64 (s10.1.set i10 (q10.1.get i10))) rfl sc3.size rfl rfl rfl rfl rfl (show i10 < 8 by omega) (ZI3 _ _ _ (show i10 < 8 by omega)) fun w92 hC=>done (Zs (Zd (Zh (Zq rfl rfl (Zb (v:=.int .i64 (ZA7.wrap ((i10:Int)+1))) rfl (done ?_)))))))
          replace hC:=hC.sM [1,2,3,4] (M':=[blk b12 73 (ZH6 .i64 (s10.1.set i10 (q10.1.get i10))),blk b11 73 (ZH6 .i64 q10.1),itI (kvA .i64) (vvI .i64) r10 b1 es10 ck10 (some ent10) l10,Ze (kvA .i64) (vvI .i64) b10 m11]) (by decide) rfl
          exact hK10 (s10.1.set i10 (q10.1.get i10),m11) _ _ ⟨(sl ⟨rfl,rfl,rfl,rfl,rfl,rfl,rfl,rfl,(tr rfl (congrArg _ (Yh hi10 hN10))),trivial⟩),hC⟩ h
         refine Xg 0 14 rfl rfl (by kernel_rfl) ?_ ?_
         ·skip
          refine Zad hC (kvA .i64) (vvI .i64) fun b17 w93 hn_ hB_ hC=>?_
          have hnb_b26260:=Zy6 hN_ hn_
          refine done ?_
          refine Zy (Ys hN_ (by assumption)) hN_ (l9:=(Za 20 45043)) (by kernel_rfl) (fun hN_=>?_)
          refine Xg 2 14 rfl rfl (by kernel_rfl) ?_ ?_
          ·skip
           refine Y7 hC 0 (s10.1.set i10 (ZA7.wrap ((q10.1.get i10) - 1))) 1 rfl Y0 ZKw rfl rfl rfl (fun w94 hBB_ hC=>?_) (.inr rfl)
           refine done ?_
           refine Zy (Yz hN_ hnb_b26260 hBB_) hN_ (l9:=(Za 20 45047)) (by kernel_rfl) (fun hN_=>?_)
           refine Zm (Yb _) 3 (.map (some b17)) rfl rfl (by kernel_rfl) (hM11 3 rfl) (fun w_=>.inl ⟨rfl,by exact Zf (v:=.map (some b17)) rfl⟩) (l9:=(Za 20 45055)) (by kernel_rfl) ?_
           refine Xg 12 14 rfl rfl (by kernel_rfl) ?_ ?_
           ·skip
            refine Zg [.map (some b17),u6,.map (some b14)] _ ZKx rfl rfl rfl (Yu (Zz ([]:List (A8×Int)) (s10.1.set i10 (ZA7.wrap ((q10.1.get i10) - 1))) 1) a0.alg.degrees (a0.images.getD i10 Zyt) h _ (hC.getM 0 rfl) (hC.getP 5 rfl) (hC.getP 0 rfl)) (fun ret35 w95 hR35=>?_)
            obtain ⟨r16,b67,rfl,h,hr33,hf30,hB35⟩:=hR35
            refine⟨_,rfl,?_⟩
            replace hC:=hC.push hB35 (Ze (kvA .i64) (vvI .i64) b67 r16) hr33 (fun b_ hb_=>by obtain rfl:=ZAs.1 hb_; exact hf30)
            refine done ?_
            refine Zy (Ys hN_ (by assumption)) hN_ (l9:=(Za 20 49151)) (by kernel_rfl) (fun hN_=>?_)
            refine aO 14 rfl (Zad hC (kvA .i64) (vvI .i64) fun b53 w96 hn_ hB_ hC=>?_)
            have hnb_b26273:=Zy6 hN_ hn_
            refine done ?_
            refine Zy (Ys hN_ (by assumption)) hN_ (l9:=(Za 20 65535)) (by kernel_rfl) (fun hN_=>?_)
            refine aO 16 rfl ?_
            refine Y7 hC 0 s12.1 1 rfl Y0 ZKw rfl rfl rfl (fun w97 hBB_ hC=>?_) (.inr rfl)
            refine done ?_
            refine Zy (Yz hN_ hnb_b26273 hBB_) hN_ (l9:=(Za 20 131071)) (by kernel_rfl) (fun hN_=>?_)
            refine Zm (Yb _) 17 (.map (some b53)) rfl rfl (by kernel_rfl) (hM11 17 rfl) (fun w_=>.inl ⟨rfl,by exact Zf (v:=.map (some b53)) rfl⟩) (l9:=(Za 20 262143)) (by kernel_rfl) (Zu 18 (by decide) (by decide) (by kernel_rfl) (by kernel_rfl) rfl ?_)
            refine Zg [.map (some b67),u6,.map (some b53)] _ ZKx rfl rfl rfl (Yu r16 a0.alg.degrees (Zz ([]:List (A8×Int)) s12.1 1) h _ (hC.getM 1 rfl) (hC.getP 5 rfl) (hC.getM 0 rfl)) (fun ret36 w98 hR36=>?_)
            obtain ⟨r14,b41,rfl,h,hr34,hf31,hB36⟩:=hR36
            refine⟨_,rfl,?_⟩
            replace hC:=hC.push hB36 (Ze (kvA .i64) (vvI .i64) b41 r14) hr34 (fun b_ hb_=>by obtain rfl:=ZAs.1 hb_; exact hf31)
            refine Zc (v:=.map (some b41)) rfl (done (Zv ?_))
            replace hC:=hC.sM [0,6,7,8,9] (M':=[Ze (kvA .i64) (vvI .i64) b41 r14,blk b12 73 (ZH6 .i64 s10.1),blk b11 73 (ZH6 .i64 q10.1),itI (kvA .i64) (vvI .i64) r10 b1 es10 ck10 (some ent10) l10,Ze (kvA .i64) (vvI .i64) b10 s10.2]) (by decide) rfl
            replace hC:=hC.sP [1,2,3,4,5,6,7,8] (Ps':=[Y3 b1 es10 ck10,ZH7 ((Xv (kvA .i64) (vvI .i64)).sl) a0.images [u0_2] fp0,blk b5 32 [u6,u7],ZH7 ZIo.sl a0.alg.images [u7] fp0,ZH7 ((EI .i64).ty.sl) a0.alg.degrees [u6] fp0,ZH7 (Xq 32) a0 [.pointer (some ⟨b5,0,none⟩),.int .i64 a0.drop,u0_2] fp0,blk b0 144 [.pointer (some ⟨b5,0,none⟩),.int .i64 a0.drop,u0_2],Ze (kvA .i64) (vvI .i64) b1 a1]) rfl
            exact⟨rfl,_,rfl,⟨b41,r14,(sl ⟨rfl,rfl,rfl,rfl,rfl,rfl,rfl,rfl,rfl,rfl,rfl,rfl,rfl,trivial⟩),hC,h⟩⟩
           ·skip
            refine Zad hC (kvA .i64) (vvI .i64) fun b24 w99 hn_ hB_ hC=>?_
            have hnb_b26286:=Zy6 hN_ hn_
            refine done ?_
            refine Zy (Ys hN_ (by assumption)) hN_ (l9:=(Za 20 61439)) (by kernel_rfl) (fun hN_=>?_)
            refine Xg 12 16 rfl rfl (by kernel_rfl) ?_ ?_
            ·skip
             refine Zg [.map (some b17),u6,.map (some b14)] _ ZKx rfl rfl rfl (Yu (Zz ([]:List (A8×Int)) (s10.1.set i10 (ZA7.wrap ((q10.1.get i10) - 1))) 1) a0.alg.degrees (a0.images.getD i10 Zyt) h _ (hC.getM 1 rfl) (hC.getP 5 rfl) (hC.getP 0 rfl)) (fun ret37 w100 hR37=>?_)
             obtain ⟨r47,b68,rfl,h,hr35,hf32,hB37⟩:=hR37
             refine⟨_,rfl,?_⟩
             replace hC:=hC.push hB37 (Ze (kvA .i64) (vvI .i64) b68 r47) hr35 (fun b_ hb_=>by obtain rfl:=ZAs.1 hb_; exact hf32)
             refine done ?_
             refine Zy (Ys hN_ (by assumption)) hN_ (l9:=(Za 20 65535)) (by kernel_rfl) (fun hN_=>?_)
             refine aO 16 rfl ?_
             refine Y7 hC 1 s12.1 1 rfl Y0 ZKw rfl rfl rfl (fun w101 hBB_ hC=>?_) (.inr rfl)
             refine done ?_
             refine Zy (Yz hN_ hnb_b26286 hBB_) hN_ (l9:=(Za 20 131071)) (by kernel_rfl) (fun hN_=>?_)
             refine Zm (Yb _) 17 (.map (some b24)) rfl rfl (by kernel_rfl) (hM11 17 rfl) (fun w_=>.inl ⟨rfl,by exact Zf (v:=.map (some b24)) rfl⟩) (l9:=(Za 20 262143)) (by kernel_rfl) (Zu 18 (by decide) (by decide) (by kernel_rfl) (by kernel_rfl) rfl ?_)
             refine Zg [.map (some b68),u6,.map (some b24)] _ ZKx rfl rfl rfl (Yu r47 a0.alg.degrees (Zz ([]:List (A8×Int)) s12.1 1) h _ (hC.getM 0 rfl) (hC.getP 5 rfl) (hC.getM 1 rfl)) (fun ret38 w102 hR38=>?_)
             obtain ⟨r28,b42,rfl,h,hr36,hf33,hB38⟩:=hR38
             refine⟨_,rfl,?_⟩
             replace hC:=hC.push hB38 (Ze (kvA .i64) (vvI .i64) b42 r28) hr36 (fun b_ hb_=>by obtain rfl:=ZAs.1 hb_; exact hf33)
             refine Zc (v:=.map (some b42)) rfl (done (Zv ?_))
             replace hC:=hC.sM [0,6,7,8,9] (M':=[Ze (kvA .i64) (vvI .i64) b42 r28,blk b12 73 (ZH6 .i64 s10.1),blk b11 73 (ZH6 .i64 q10.1),itI (kvA .i64) (vvI .i64) r10 b1 es10 ck10 (some ent10) l10,Ze (kvA .i64) (vvI .i64) b10 s10.2]) (by decide) rfl
             replace hC:=hC.sP [1,2,3,4,5,6,7,8] (Ps':=[Y3 b1 es10 ck10,ZH7 ((Xv (kvA .i64) (vvI .i64)).sl) a0.images [u0_2] fp0,blk b5 32 [u6,u7],ZH7 ZIo.sl a0.alg.images [u7] fp0,ZH7 ((EI .i64).ty.sl) a0.alg.degrees [u6] fp0,ZH7 (Xq 32) a0 [.pointer (some ⟨b5,0,none⟩),.int .i64 a0.drop,u0_2] fp0,blk b0 144 [.pointer (some ⟨b5,0,none⟩),.int .i64 a0.drop,u0_2],Ze (kvA .i64) (vvI .i64) b1 a1]) rfl
             exact⟨rfl,_,rfl,⟨b42,r28,(sl ⟨rfl,rfl,rfl,rfl,rfl,rfl,rfl,rfl,rfl,rfl,rfl,rfl,rfl,trivial⟩),hC,h⟩⟩
            ·skip
             refine Y7 hC 0 s12.1 1 rfl Y0 ZKw rfl rfl rfl (fun w103 hBB_ hC=>?_) (.inr rfl)
             refine done ?_
             refine Zy (Yz hN_ hnb_b26286 hBB_) hN_ (l9:=(Za 20 126975)) (by kernel_rfl) (fun hN_=>?_)
             refine Zm (Yb _) 17 (.map (some b24)) rfl rfl (by kernel_rfl) (hM11 17 rfl) (fun w_=>.inl ⟨rfl,by exact Zf (v:=.map (some b24)) rfl⟩) (l9:=(Za 20 258047)) (by kernel_rfl) (aO 12 rfl ?_)
             refine Zg [.map (some b17),u6,.map (some b14)] _ ZKx rfl rfl rfl (Yu (Zz ([]:List (A8×Int)) (s10.1.set i10 (ZA7.wrap ((q10.1.get i10) - 1))) 1) a0.alg.degrees (a0.images.getD i10 Zyt) h _ (hC.getM 1 rfl) (hC.getP 5 rfl) (hC.getP 0 rfl)) (fun ret39 w104 hR39=>?_)
             obtain ⟨r48,b69,rfl,h,hr37,hf34,hB39⟩:=hR39
             refine⟨_,rfl,?_⟩
             replace hC:=hC.push hB39 (Ze (kvA .i64) (vvI .i64) b69 r48) hr37 (fun b_ hb_=>by obtain rfl:=ZAs.1 hb_; exact hf34)
             refine done ?_
             refine Zy (Ys hN_ (by assumption)) hN_ (l9:=(Za 20 262143)) (by kernel_rfl) (fun hN_=>?_)
             refine Zu 18 (by decide) (by decide) (by kernel_rfl) (by kernel_rfl) rfl ?_
             refine Zg [.map (some b69),u6,.map (some b24)] _ ZKx rfl rfl rfl (Yu r48 a0.alg.degrees (Zz ([]:List (A8×Int)) s12.1 1) h _ (hC.getM 0 rfl) (hC.getP 5 rfl) (hC.getM 1 rfl)) (fun ret40 w105 hR40=>?_)
             obtain ⟨r29,b43,rfl,h,hr38,hf35,hB40⟩:=hR40
             refine⟨_,rfl,?_⟩
             replace hC:=hC.push hB40 (Ze (kvA .i64) (vvI .i64) b43 r29) hr38 (fun b_ hb_=>by obtain rfl:=ZAs.1 hb_; exact hf35)
             refine Zc (v:=.map (some b43)) rfl (done (Zv ?_))
             replace hC:=hC.sM [0,6,7,8,9] (M':=[Ze (kvA .i64) (vvI .i64) b43 r29,blk b12 73 (ZH6 .i64 s10.1),blk b11 73 (ZH6 .i64 q10.1),itI (kvA .i64) (vvI .i64) r10 b1 es10 ck10 (some ent10) l10,Ze (kvA .i64) (vvI .i64) b10 s10.2]) (by decide) rfl
             replace hC:=hC.sP [1,2,3,4,5,6,7,8] (Ps':=[Y3 b1 es10 ck10,ZH7 ((Xv (kvA .i64) (vvI .i64)).sl) a0.images [u0_2] fp0,blk b5 32 [u6,u7],ZH7 ZIo.sl a0.alg.images [u7] fp0,ZH7 ((EI .i64).ty.sl) a0.alg.degrees [u6] fp0,ZH7 (Xq 32) a0 [.pointer (some ⟨b5,0,none⟩),.int .i64 a0.drop,u0_2] fp0,blk b0 144 [.pointer (some ⟨b5,0,none⟩),.int .i64 a0.drop,u0_2],Ze (kvA .i64) (vvI .i64) b1 a1]) rfl
             exact⟨rfl,_,rfl,⟨b43,r29,(sl ⟨rfl,rfl,rfl,rfl,rfl,rfl,rfl,rfl,rfl,rfl,rfl,rfl,rfl,trivial⟩),hC,h⟩⟩
          ·skip
           refine Zad hC (kvA .i64) (vvI .i64) fun b20 w106 hn_ hB_ hC=>?_
           have hnb_b26327:=Zy6 hN_ hn_
           refine done ?_
           refine Zy (Ys hN_ (by assumption)) hN_ (l9:=(Za 20 61427)) (by kernel_rfl) (fun hN_=>?_)
           refine Xg 2 16 rfl rfl (by kernel_rfl) ?_ ?_
           ·skip
            refine Y7 hC 1 (s10.1.set i10 (ZA7.wrap ((q10.1.get i10) - 1))) 1 rfl Y0 ZKw rfl rfl rfl (fun w107 hBB_ hC=>?_) (.inr rfl)
            refine done ?_
            refine Zy (Yz hN_ hnb_b26260 hBB_) hN_ (l9:=(Za 20 61431)) (by kernel_rfl) (fun hN_=>?_)
            refine Zm (Yb _) 3 (.map (some b17)) rfl rfl (by kernel_rfl) (hM11 3 rfl) (fun w_=>.inl ⟨rfl,by exact Zf (v:=.map (some b17)) rfl⟩) (l9:=(Za 20 61439)) (by kernel_rfl) ?_
            refine Xg 12 16 rfl rfl (by kernel_rfl) ?_ ?_
            ·skip
             refine Zg [.map (some b17),u6,.map (some b14)] _ ZKx rfl rfl rfl (Yu (Zz ([]:List (A8×Int)) (s10.1.set i10 (ZA7.wrap ((q10.1.get i10) - 1))) 1) a0.alg.degrees (a0.images.getD i10 Zyt) h _ (hC.getM 1 rfl) (hC.getP 5 rfl) (hC.getP 0 rfl)) (fun ret41 w108 hR41=>?_)
             obtain ⟨r49,b70,rfl,h,hr39,hf36,hB41⟩:=hR41
             refine⟨_,rfl,?_⟩
             replace hC:=hC.push hB41 (Ze (kvA .i64) (vvI .i64) b70 r49) hr39 (fun b_ hb_=>by obtain rfl:=ZAs.1 hb_; exact hf36)
             refine done ?_
             refine Zy (Ys hN_ (by assumption)) hN_ (l9:=(Za 20 65535)) (by kernel_rfl) (fun hN_=>?_)
             refine aO 16 rfl ?_
             refine Y7 hC 1 s12.1 1 rfl Y0 ZKw rfl rfl rfl (fun w109 hBB_ hC=>?_) (.inr rfl)
             refine done ?_
             refine Zy (Yz hN_ hnb_b26327 hBB_) hN_ (l9:=(Za 20 131071)) (by kernel_rfl) (fun hN_=>?_)
             refine Zm (Yb _) 17 (.map (some b20)) rfl rfl (by kernel_rfl) (hM11 17 rfl) (fun w_=>.inl ⟨rfl,by exact Zf (v:=.map (some b20)) rfl⟩) (l9:=(Za 20 262143)) (by kernel_rfl) (Zu 18 (by decide) (by decide) (by kernel_rfl) (by kernel_rfl) rfl ?_)
             refine Zg [.map (some b70),u6,.map (some b20)] _ ZKx rfl rfl rfl (Yu r49 a0.alg.degrees (Zz ([]:List (A8×Int)) s12.1 1) h _ (hC.getM 0 rfl) (hC.getP 5 rfl) (hC.getM 1 rfl)) (fun ret42 w110 hR42=>?_)
             obtain ⟨r30,b44,rfl,h,hr40,hf37,hB42⟩:=hR42
             refine⟨_,rfl,?_⟩
             replace hC:=hC.push hB42 (Ze (kvA .i64) (vvI .i64) b44 r30) hr40 (fun b_ hb_=>by obtain rfl:=ZAs.1 hb_; exact hf37)
             refine Zc (v:=.map (some b44)) rfl (done (Zv ?_))
             replace hC:=hC.sM [0,6,7,8,9] (M':=[Ze (kvA .i64) (vvI .i64) b44 r30,blk b12 73 (ZH6 .i64 s10.1),blk b11 73 (ZH6 .i64 q10.1),itI (kvA .i64) (vvI .i64) r10 b1 es10 ck10 (some ent10) l10,Ze (kvA .i64) (vvI .i64) b10 s10.2]) (by decide) rfl
             replace hC:=hC.sP [1,2,3,4,5,6,7,8] (Ps':=[Y3 b1 es10 ck10,ZH7 ((Xv (kvA .i64) (vvI .i64)).sl) a0.images [u0_2] fp0,blk b5 32 [u6,u7],ZH7 ZIo.sl a0.alg.images [u7] fp0,ZH7 ((EI .i64).ty.sl) a0.alg.degrees [u6] fp0,ZH7 (Xq 32) a0 [.pointer (some ⟨b5,0,none⟩),.int .i64 a0.drop,u0_2] fp0,blk b0 144 [.pointer (some ⟨b5,0,none⟩),.int .i64 a0.drop,u0_2],Ze (kvA .i64) (vvI .i64) b1 a1]) rfl
             exact⟨rfl,_,rfl,⟨b44,r30,(sl ⟨rfl,rfl,rfl,rfl,rfl,rfl,rfl,rfl,rfl,rfl,rfl,rfl,rfl,trivial⟩),hC,h⟩⟩
            ·skip
             refine Y7 hC 0 s12.1 1 rfl Y0 ZKw rfl rfl rfl (fun w111 hBB_ hC=>?_) (.inr rfl)
             refine done ?_
             refine Zy (Yz hN_ hnb_b26327 hBB_) hN_ (l9:=(Za 20 126975)) (by kernel_rfl) (fun hN_=>?_)
             refine Zm (Yb _) 17 (.map (some b20)) rfl rfl (by kernel_rfl) (hM11 17 rfl) (fun w_=>.inl ⟨rfl,by exact Zf (v:=.map (some b20)) rfl⟩) (l9:=(Za 20 258047)) (by kernel_rfl) (aO 12 rfl ?_)
             refine Zg [.map (some b17),u6,.map (some b14)] _ ZKx rfl rfl rfl (Yu (Zz ([]:List (A8×Int)) (s10.1.set i10 (ZA7.wrap ((q10.1.get i10) - 1))) 1) a0.alg.degrees (a0.images.getD i10 Zyt) h _ (hC.getM 1 rfl) (hC.getP 5 rfl) (hC.getP 0 rfl)) (fun ret43 w112 hR43=>?_)
             obtain ⟨r50,b71,rfl,h,hr41,hf38,hB43⟩:=hR43
             refine⟨_,rfl,?_⟩
             replace hC:=hC.push hB43 (Ze (kvA .i64) (vvI .i64) b71 r50) hr41 (fun b_ hb_=>by obtain rfl:=ZAs.1 hb_; exact hf38)
             refine done ?_
             refine Zy (Ys hN_ (by assumption)) hN_ (l9:=(Za 20 262143)) (by kernel_rfl) (fun hN_=>?_)
             refine Zu 18 (by decide) (by decide) (by kernel_rfl) (by kernel_rfl) rfl ?_
             refine Zg [.map (some b71),u6,.map (some b20)] _ ZKx rfl rfl rfl (Yu r50 a0.alg.degrees (Zz ([]:List (A8×Int)) s12.1 1) h _ (hC.getM 0 rfl) (hC.getP 5 rfl) (hC.getM 1 rfl)) (fun ret44 w113 hR44=>?_)
             obtain ⟨r31,b45,rfl,h,hr42,hf39,hB44⟩:=hR44
             refine⟨_,rfl,?_⟩
             replace hC:=hC.push hB44 (Ze (kvA .i64) (vvI .i64) b45 r31) hr42 (fun b_ hb_=>by obtain rfl:=ZAs.1 hb_; exact hf39)
             refine Zc (v:=.map (some b45)) rfl (done (Zv ?_))
             replace hC:=hC.sM [0,6,7,8,9] (M':=[Ze (kvA .i64) (vvI .i64) b45 r31,blk b12 73 (ZH6 .i64 s10.1),blk b11 73 (ZH6 .i64 q10.1),itI (kvA .i64) (vvI .i64) r10 b1 es10 ck10 (some ent10) l10,Ze (kvA .i64) (vvI .i64) b10 s10.2]) (by decide) rfl
             replace hC:=hC.sP [1,2,3,4,5,6,7,8] (Ps':=[Y3 b1 es10 ck10,ZH7 ((Xv (kvA .i64) (vvI .i64)).sl) a0.images [u0_2] fp0,blk b5 32 [u6,u7],ZH7 ZIo.sl a0.alg.images [u7] fp0,ZH7 ((EI .i64).ty.sl) a0.alg.degrees [u6] fp0,ZH7 (Xq 32) a0 [.pointer (some ⟨b5,0,none⟩),.int .i64 a0.drop,u0_2] fp0,blk b0 144 [.pointer (some ⟨b5,0,none⟩),.int .i64 a0.drop,u0_2],Ze (kvA .i64) (vvI .i64) b1 a1]) rfl
             exact⟨rfl,_,rfl,⟨b45,r31,(sl ⟨rfl,rfl,rfl,rfl,rfl,rfl,rfl,rfl,rfl,rfl,rfl,rfl,rfl,trivial⟩),hC,h⟩⟩
           ·skip
            refine Y7 hC 0 s12.1 1 rfl Y0 ZKw rfl rfl rfl (fun w114 hBB_ hC=>?_) (.inr rfl)
            refine done ?_
            refine Zy (Yz hN_ hnb_b26327 hBB_) hN_ (l9:=(Za 20 126963)) (by kernel_rfl) (fun hN_=>?_)
            refine Zm (Yb _) 17 (.map (some b20)) rfl rfl (by kernel_rfl) (hM11 17 rfl) (fun w_=>.inl ⟨rfl,by exact Zf (v:=.map (some b20)) rfl⟩) (l9:=(Za 20 258035)) (by kernel_rfl) (aO 2 rfl ?_)
            refine Y7 hC 1 (s10.1.set i10 (ZA7.wrap ((q10.1.get i10) - 1))) 1 rfl Y0 ZKw rfl rfl rfl (fun w115 hBB_ hC=>?_) (.inr rfl)
            refine done ?_
            refine Zy (Yz hN_ hnb_b26260 hBB_) hN_ (l9:=(Za 20 258039)) (by kernel_rfl) (fun hN_=>?_)
            refine Zm (Yb _) 3 (.map (some b17)) rfl rfl (by kernel_rfl) (hM11 3 rfl) (fun w_=>.inl ⟨rfl,by exact Zf (v:=.map (some b17)) rfl⟩) (l9:=(Za 20 258047)) (by kernel_rfl) (aO 12 rfl ?_)
            refine Zg [.map (some b17),u6,.map (some b14)] _ ZKx rfl rfl rfl (Yu (Zz ([]:List (A8×Int)) (s10.1.set i10 (ZA7.wrap ((q10.1.get i10) - 1))) 1) a0.alg.degrees (a0.images.getD i10 Zyt) h _ (hC.getM 1 rfl) (hC.getP 5 rfl) (hC.getP 0 rfl)) (fun ret45 w116 hR45=>?_)
            obtain ⟨r51,b72,rfl,h,hr43,hf40,hB45⟩:=hR45
            refine⟨_,rfl,?_⟩
            replace hC:=hC.push hB45 (Ze (kvA .i64) (vvI .i64) b72 r51) hr43 (fun b_ hb_=>by obtain rfl:=ZAs.1 hb_; exact hf40)
            refine done ?_
            refine Zy (Ys hN_ (by assumption)) hN_ (l9:=(Za 20 262143)) (by kernel_rfl) (fun hN_=>?_)
            refine Zu 18 (by decide) (by decide) (by kernel_rfl) (by kernel_rfl) rfl ?_
            refine Zg [.map (some b72),u6,.map (some b20)] _ ZKx rfl rfl rfl (Yu r51 a0.alg.degrees (Zz ([]:List (A8×Int)) s12.1 1) h _ (hC.getM 0 rfl) (hC.getP 5 rfl) (hC.getM 1 rfl)) (fun ret46 w117 hR46=>?_)
            obtain ⟨r32,b46,rfl,h,hr44,hf41,hB46⟩:=hR46
            refine⟨_,rfl,?_⟩
            replace hC:=hC.push hB46 (Ze (kvA .i64) (vvI .i64) b46 r32) hr44 (fun b_ hb_=>by obtain rfl:=ZAs.1 hb_; exact hf41)
            refine Zc (v:=.map (some b46)) rfl (done (Zv ?_))
            replace hC:=hC.sM [0,6,7,8,9] (M':=[Ze (kvA .i64) (vvI .i64) b46 r32,blk b12 73 (ZH6 .i64 s10.1),blk b11 73 (ZH6 .i64 q10.1),itI (kvA .i64) (vvI .i64) r10 b1 es10 ck10 (some ent10) l10,Ze (kvA .i64) (vvI .i64) b10 s10.2]) (by decide) rfl
            replace hC:=hC.sP [1,2,3,4,5,6,7,8] (Ps':=[Y3 b1 es10 ck10,ZH7 ((Xv (kvA .i64) (vvI .i64)).sl) a0.images [u0_2] fp0,blk b5 32 [u6,u7],ZH7 ZIo.sl a0.alg.images [u7] fp0,ZH7 ((EI .i64).ty.sl) a0.alg.degrees [u6] fp0,ZH7 (Xq 32) a0 [.pointer (some ⟨b5,0,none⟩),.int .i64 a0.drop,u0_2] fp0,blk b0 144 [.pointer (some ⟨b5,0,none⟩),.int .i64 a0.drop,u0_2],Ze (kvA .i64) (vvI .i64) b1 a1]) rfl
            exact⟨rfl,_,rfl,⟨b46,r32,(sl ⟨rfl,rfl,rfl,rfl,rfl,rfl,rfl,rfl,rfl,rfl,rfl,rfl,rfl,trivial⟩),hC,h⟩⟩
         ·skip
          refine Zad hC (kvA .i64) (vvI .i64) fun b18 w118 hn_ hB_ hC=>?_
          have hnb_b26389:=Zy6 hN_ hn_
          refine done ?_
          refine Zy (Ys hN_ (by assumption)) hN_ (l9:=(Za 20 61426)) (by kernel_rfl) (fun hN_=>?_)
          refine Xg 0 16 rfl rfl (by kernel_rfl) ?_ ?_
          ·skip
           refine Zad hC (kvA .i64) (vvI .i64) fun b22 w119 hn_ hB_ hC=>?_
           have hnb_b26392:=Zy6 hN_ hn_
           refine done ?_
           refine Zy (Ys hN_ (by assumption)) hN_ (l9:=(Za 20 61427)) (by kernel_rfl) (fun hN_=>?_)
           refine Xg 2 16 rfl rfl (by kernel_rfl) ?_ ?_
           ·skip
            refine Y7 hC 0 (s10.1.set i10 (ZA7.wrap ((q10.1.get i10) - 1))) 1 rfl Y0 ZKw rfl rfl rfl (fun w120 hBB_ hC=>?_) (.inr rfl)
            refine done ?_
            refine Zy (Yz hN_ hnb_b26392 hBB_) hN_ (l9:=(Za 20 61431)) (by kernel_rfl) (fun hN_=>?_)
            refine Zm (Yb _) 3 (.map (some b22)) rfl rfl (by kernel_rfl) (hM11 3 rfl) (fun w_=>.inl ⟨rfl,by exact Zf (v:=.map (some b22)) rfl⟩) (l9:=(Za 20 61439)) (by kernel_rfl) ?_
            refine Xg 12 16 rfl rfl (by kernel_rfl) ?_ ?_
            ·skip
             refine Zg [.map (some b22),u6,.map (some b14)] _ ZKx rfl rfl rfl (Yu (Zz ([]:List (A8×Int)) (s10.1.set i10 (ZA7.wrap ((q10.1.get i10) - 1))) 1) a0.alg.degrees (a0.images.getD i10 Zyt) h _ (hC.getM 0 rfl) (hC.getP 5 rfl) (hC.getP 0 rfl)) (fun ret47 w121 hR47=>?_)
             obtain ⟨r52,b73,rfl,h,hr45,hf42,hB47⟩:=hR47
             refine⟨_,rfl,?_⟩
             replace hC:=hC.push hB47 (Ze (kvA .i64) (vvI .i64) b73 r52) hr45 (fun b_ hb_=>by obtain rfl:=ZAs.1 hb_; exact hf42)
             refine done ?_
             refine Zy (Ys hN_ (by assumption)) hN_ (l9:=(Za 20 65535)) (by kernel_rfl) (fun hN_=>?_)
             refine aO 16 rfl ?_
             refine Y7 hC 2 s12.1 1 rfl Y0 ZKw rfl rfl rfl (fun w122 hBB_ hC=>?_) (.inr rfl)
             refine done ?_
             refine Zy (Yz hN_ hnb_b26389 hBB_) hN_ (l9:=(Za 20 131071)) (by kernel_rfl) (fun hN_=>?_)
             refine Zm (Yb _) 17 (.map (some b18)) rfl rfl (by kernel_rfl) (hM11 17 rfl) (fun w_=>.inl ⟨rfl,by exact Zf (v:=.map (some b18)) rfl⟩) (l9:=(Za 20 262143)) (by kernel_rfl) (Zu 18 (by decide) (by decide) (by kernel_rfl) (by kernel_rfl) rfl ?_)
             refine Zg [.map (some b73),u6,.map (some b18)] _ ZKx rfl rfl rfl (Yu r52 a0.alg.degrees (Zz ([]:List (A8×Int)) s12.1 1) h _ (hC.getM 0 rfl) (hC.getP 5 rfl) (hC.getM 2 rfl)) (fun ret48 w123 hR48=>?_)
             obtain ⟨r33,b47,rfl,h,hr46,hf43,hB48⟩:=hR48
             refine⟨_,rfl,?_⟩
             replace hC:=hC.push hB48 (Ze (kvA .i64) (vvI .i64) b47 r33) hr46 (fun b_ hb_=>by obtain rfl:=ZAs.1 hb_; exact hf43)
             refine Zc (v:=.map (some b47)) rfl (done (Zv ?_))
             replace hC:=hC.sM [0,6,7,8,9] (M':=[Ze (kvA .i64) (vvI .i64) b47 r33,blk b12 73 (ZH6 .i64 s10.1),blk b11 73 (ZH6 .i64 q10.1),itI (kvA .i64) (vvI .i64) r10 b1 es10 ck10 (some ent10) l10,Ze (kvA .i64) (vvI .i64) b10 s10.2]) (by decide) rfl
             replace hC:=hC.sP [1,2,3,4,5,6,7,8] (Ps':=[Y3 b1 es10 ck10,ZH7 ((Xv (kvA .i64) (vvI .i64)).sl) a0.images [u0_2] fp0,blk b5 32 [u6,u7],ZH7 ZIo.sl a0.alg.images [u7] fp0,ZH7 ((EI .i64).ty.sl) a0.alg.degrees [u6] fp0,ZH7 (Xq 32) a0 [.pointer (some ⟨b5,0,none⟩),.int .i64 a0.drop,u0_2] fp0,blk b0 144 [.pointer (some ⟨b5,0,none⟩),.int .i64 a0.drop,u0_2],Ze (kvA .i64) (vvI .i64) b1 a1]) rfl
             exact⟨rfl,_,rfl,⟨b47,r33,(sl ⟨rfl,rfl,rfl,rfl,rfl,rfl,rfl,rfl,rfl,rfl,rfl,rfl,rfl,trivial⟩),hC,h⟩⟩
            ·skip
             refine Y7 hC 1 s12.1 1 rfl Y0 ZKw rfl rfl rfl (fun w124 hBB_ hC=>?_) (.inr rfl)
             refine done ?_
             refine Zy (Yz hN_ hnb_b26389 hBB_) hN_ (l9:=(Za 20 126975)) (by kernel_rfl) (fun hN_=>?_)
             refine Zm (Yb _) 17 (.map (some b18)) rfl rfl (by kernel_rfl) (hM11 17 rfl) (fun w_=>.inl ⟨rfl,by exact Zf (v:=.map (some b18)) rfl⟩) (l9:=(Za 20 258047)) (by kernel_rfl) (aO 12 rfl ?_)
             refine Zg [.map (some b22),u6,.map (some b14)] _ ZKx rfl rfl rfl (Yu (Zz ([]:List (A8×Int)) (s10.1.set i10 (ZA7.wrap ((q10.1.get i10) - 1))) 1) a0.alg.degrees (a0.images.getD i10 Zyt) h _ (hC.getM 0 rfl) (hC.getP 5 rfl) (hC.getP 0 rfl)) (fun ret49 w125 hR49=>?_)
             obtain ⟨r53,b74,rfl,h,hr47,hf44,hB49⟩:=hR49
             refine⟨_,rfl,?_⟩
             replace hC:=hC.push hB49 (Ze (kvA .i64) (vvI .i64) b74 r53) hr47 (fun b_ hb_=>by obtain rfl:=ZAs.1 hb_; exact hf44)
             refine done ?_
             refine Zy (Ys hN_ (by assumption)) hN_ (l9:=(Za 20 262143)) (by kernel_rfl) (fun hN_=>?_)
             refine Zu 18 (by decide) (by decide) (by kernel_rfl) (by kernel_rfl) rfl ?_
             refine Zg [.map (some b74),u6,.map (some b18)] _ ZKx rfl rfl rfl (Yu r53 a0.alg.degrees (Zz ([]:List (A8×Int)) s12.1 1) h _ (hC.getM 0 rfl) (hC.getP 5 rfl) (hC.getM 2 rfl)) (fun ret50 w126 hR50=>?_)
             obtain ⟨r34,b48,rfl,h,hr48,hf45,hB50⟩:=hR50
             refine⟨_,rfl,?_⟩
             replace hC:=hC.push hB50 (Ze (kvA .i64) (vvI .i64) b48 r34) hr48 (fun b_ hb_=>by obtain rfl:=ZAs.1 hb_; exact hf45)
             refine Zc (v:=.map (some b48)) rfl (done (Zv ?_))
             replace hC:=hC.sM [0,6,7,8,9] (M':=[Ze (kvA .i64) (vvI .i64) b48 r34,blk b12 73 (ZH6 .i64 s10.1),blk b11 73 (ZH6 .i64 q10.1),itI (kvA .i64) (vvI .i64) r10 b1 es10 ck10 (some ent10) l10,Ze (kvA .i64) (vvI .i64) b10 s10.2]) (by decide) rfl
             replace hC:=hC.sP [1,2,3,4,5,6,7,8] (Ps':=[Y3 b1 es10 ck10,ZH7 ((Xv (kvA .i64) (vvI .i64)).sl) a0.images [u0_2] fp0,blk b5 32 [u6,u7],ZH7 ZIo.sl a0.alg.images [u7] fp0,ZH7 ((EI .i64).ty.sl) a0.alg.degrees [u6] fp0,ZH7 (Xq 32) a0 [.pointer (some ⟨b5,0,none⟩),.int .i64 a0.drop,u0_2] fp0,blk b0 144 [.pointer (some ⟨b5,0,none⟩),.int .i64 a0.drop,u0_2],Ze (kvA .i64) (vvI .i64) b1 a1]) rfl
             exact⟨rfl,_,rfl,⟨b48,r34,(sl ⟨rfl,rfl,rfl,rfl,rfl,rfl,rfl,rfl,rfl,rfl,rfl,rfl,rfl,trivial⟩),hC,h⟩⟩
           ·skip
            refine Y7 hC 1 s12.1 1 rfl Y0 ZKw rfl rfl rfl (fun w127 hBB_ hC=>?_) (.inr rfl)
            refine done ?_
            refine Zy (Yz hN_ hnb_b26389 hBB_) hN_ (l9:=(Za 20 126963)) (by kernel_rfl) (fun hN_=>?_)
            refine Zm (Yb _) 17 (.map (some b18)) rfl rfl (by kernel_rfl) (hM11 17 rfl) (fun w_=>.inl ⟨rfl,by exact Zf (v:=.map (some b18)) rfl⟩) (l9:=(Za 20 258035)) (by kernel_rfl) (aO 2 rfl ?_)
            refine Y7 hC 0 (s10.1.set i10 (ZA7.wrap ((q10.1.get i10) - 1))) 1 rfl Y0 ZKw rfl rfl rfl (fun w128 hBB_ hC=>?_) (.inr rfl)
            refine done ?_
            refine Zy (Yz hN_ hnb_b26392 hBB_) hN_ (l9:=(Za 20 258039)) (by kernel_rfl) (fun hN_=>?_)
            refine Zm (Yb _) 3 (.map (some b22)) rfl rfl (by kernel_rfl) (hM11 3 rfl) (fun w_=>.inl ⟨rfl,by exact Zf (v:=.map (some b22)) rfl⟩) (l9:=(Za 20 258047)) (by kernel_rfl) (aO 12 rfl ?_)
            refine Zg [.map (some b22),u6,.map (some b14)] _ ZKx rfl rfl rfl (Yu (Zz ([]:List (A8×Int)) (s10.1.set i10 (ZA7.wrap ((q10.1.get i10) - 1))) 1) a0.alg.degrees (a0.images.getD i10 Zyt) h _ (hC.getM 0 rfl) (hC.getP 5 rfl) (hC.getP 0 rfl)) (fun ret51 w129 hR51=>?_)
            obtain ⟨r54,b75,rfl,h,hr49,hf46,hB51⟩:=hR51
            refine⟨_,rfl,?_⟩
            replace hC:=hC.push hB51 (Ze (kvA .i64) (vvI .i64) b75 r54) hr49 (fun b_ hb_=>by obtain rfl:=ZAs.1 hb_; exact hf46)
            refine done ?_
            refine Zy (Ys hN_ (by assumption)) hN_ (l9:=(Za 20 262143)) (by kernel_rfl) (fun hN_=>?_)
            refine Zu 18 (by decide) (by decide) (by kernel_rfl) (by kernel_rfl) rfl ?_
            refine Zg [.map (some b75),u6,.map (some b18)] _ ZKx rfl rfl rfl (Yu r54 a0.alg.degrees (Zz ([]:List (A8×Int)) s12.1 1) h _ (hC.getM 0 rfl) (hC.getP 5 rfl) (hC.getM 2 rfl)) (fun ret52 w130 hR52=>?_)
            obtain ⟨r35,b49,rfl,h,hr50,hf47,hB52⟩:=hR52
            refine⟨_,rfl,?_⟩
            replace hC:=hC.push hB52 (Ze (kvA .i64) (vvI .i64) b49 r35) hr50 (fun b_ hb_=>by obtain rfl:=ZAs.1 hb_; exact hf47)
            refine Zc (v:=.map (some b49)) rfl (done (Zv ?_))
            replace hC:=hC.sM [0,6,7,8,9] (M':=[Ze (kvA .i64) (vvI .i64) b49 r35,blk b12 73 (ZH6 .i64 s10.1),blk b11 73 (ZH6 .i64 q10.1),itI (kvA .i64) (vvI .i64) r10 b1 es10 ck10 (some ent10) l10,Ze (kvA .i64) (vvI .i64) b10 s10.2]) (by decide) rfl
            replace hC:=hC.sP [1,2,3,4,5,6,7,8] (Ps':=[Y3 b1 es10 ck10,ZH7 ((Xv (kvA .i64) (vvI .i64)).sl) a0.images [u0_2] fp0,blk b5 32 [u6,u7],ZH7 ZIo.sl a0.alg.images [u7] fp0,ZH7 ((EI .i64).ty.sl) a0.alg.degrees [u6] fp0,ZH7 (Xq 32) a0 [.pointer (some ⟨b5,0,none⟩),.int .i64 a0.drop,u0_2] fp0,blk b0 144 [.pointer (some ⟨b5,0,none⟩),.int .i64 a0.drop,u0_2],Ze (kvA .i64) (vvI .i64) b1 a1]) rfl
            exact⟨rfl,_,rfl,⟨b49,r35,(sl ⟨rfl,rfl,rfl,rfl,rfl,rfl,rfl,rfl,rfl,rfl,rfl,rfl,rfl,trivial⟩),hC,h⟩⟩
          ·skip
           refine Y7 hC 0 s12.1 1 rfl Y0 ZKw rfl rfl rfl (fun w131 hBB_ hC=>?_) (.inr rfl)
           refine done ?_
           refine Zy (Yz hN_ hnb_b26389 hBB_) hN_ (l9:=(Za 20 126962)) (by kernel_rfl) (fun hN_=>?_)
           refine Zm (Yb _) 17 (.map (some b18)) rfl rfl (by kernel_rfl) (hM11 17 rfl) (fun w_=>.inl ⟨rfl,by exact Zf (v:=.map (some b18)) rfl⟩) (l9:=(Za 20 258034)) (by kernel_rfl) (aO 0 rfl (Zad hC (kvA .i64) (vvI .i64) fun b54 w132 hn_ hB_ hC=>?_))
           have hnb_b26455:=Zy6 hN_ hn_
           refine done ?_
           refine Zy (Ys hN_ (by assumption)) hN_ (l9:=(Za 20 258035)) (by kernel_rfl) (fun hN_=>?_)
           refine aO 2 rfl ?_
           refine Y7 hC 0 (s10.1.set i10 (ZA7.wrap ((q10.1.get i10) - 1))) 1 rfl Y0 ZKw rfl rfl rfl (fun w133 hBB_ hC=>?_) (.inr rfl)
           refine done ?_
           refine Zy (Yz hN_ hnb_b26455 hBB_) hN_ (l9:=(Za 20 258039)) (by kernel_rfl) (fun hN_=>?_)
           refine Zm (Yb _) 3 (.map (some b54)) rfl rfl (by kernel_rfl) (hM11 3 rfl) (fun w_=>.inl ⟨rfl,by exact Zf (v:=.map (some b54)) rfl⟩) (l9:=(Za 20 258047)) (by kernel_rfl) (aO 12 rfl ?_)
           refine Zg [.map (some b54),u6,.map (some b14)] _ ZKx rfl rfl rfl (Yu (Zz ([]:List (A8×Int)) (s10.1.set i10 (ZA7.wrap ((q10.1.get i10) - 1))) 1) a0.alg.degrees (a0.images.getD i10 Zyt) h _ (hC.getM 0 rfl) (hC.getP 5 rfl) (hC.getP 0 rfl)) (fun ret53 w134 hR53=>?_)
           obtain ⟨r55,b76,rfl,h,hr51,hf48,hB53⟩:=hR53
           refine⟨_,rfl,?_⟩
           replace hC:=hC.push hB53 (Ze (kvA .i64) (vvI .i64) b76 r55) hr51 (fun b_ hb_=>by obtain rfl:=ZAs.1 hb_; exact hf48)
           refine done ?_
           refine Zy (Ys hN_ (by assumption)) hN_ (l9:=(Za 20 262143)) (by kernel_rfl) (fun hN_=>?_)
           refine Zu 18 (by decide) (by decide) (by kernel_rfl) (by kernel_rfl) rfl ?_
           refine Zg [.map (some b76),u6,.map (some b18)] _ ZKx rfl rfl rfl (Yu r55 a0.alg.degrees (Zz ([]:List (A8×Int)) s12.1 1) h _ (hC.getM 0 rfl) (hC.getP 5 rfl) (hC.getM 2 rfl)) (fun ret54 w135 hR54=>?_)
           obtain ⟨r36,b50,rfl,h,hr52,hf49,hB54⟩:=hR54
           refine⟨_,rfl,?_⟩
           replace hC:=hC.push hB54 (Ze (kvA .i64) (vvI .i64) b50 r36) hr52 (fun b_ hb_=>by obtain rfl:=ZAs.1 hb_; exact hf49)
           refine Zc (v:=.map (some b50)) rfl (done (Zv ?_))
           replace hC:=hC.sM [0,6,7,8,9] (M':=[Ze (kvA .i64) (vvI .i64) b50 r36,blk b12 73 (ZH6 .i64 s10.1),blk b11 73 (ZH6 .i64 q10.1),itI (kvA .i64) (vvI .i64) r10 b1 es10 ck10 (some ent10) l10,Ze (kvA .i64) (vvI .i64) b10 s10.2]) (by decide) rfl
           replace hC:=hC.sP [1,2,3,4,5,6,7,8] (Ps':=[Y3 b1 es10 ck10,ZH7 ((Xv (kvA .i64) (vvI .i64)).sl) a0.images [u0_2] fp0,blk b5 32 [u6,u7],ZH7 ZIo.sl a0.alg.images [u7] fp0,ZH7 ((EI .i64).ty.sl) a0.alg.degrees [u6] fp0,ZH7 (Xq 32) a0 [.pointer (some ⟨b5,0,none⟩),.int .i64 a0.drop,u0_2] fp0,blk b0 144 [.pointer (some ⟨b5,0,none⟩),.int .i64 a0.drop,u0_2],Ze (kvA .i64) (vvI .i64) b1 a1]) rfl
           exact⟨rfl,_,rfl,⟨b50,r36,(sl ⟨rfl,rfl,rfl,rfl,rfl,rfl,rfl,rfl,rfl,rfl,rfl,rfl,rfl,trivial⟩),hC,h⟩⟩
       ·skip
        exact⟨(sl ⟨rfl,rfl,rfl,rfl,rfl,rfl,rfl,rfl,rfl,rfl,rfl,rfl,rfl,rfl,rfl,rfl,trivial⟩),hC⟩
      refine Xg 2 3 rfl rfl (by kernel_rfl) ?_ ?_
      ·skip
       refine Zbm hC (ZH6 .i64 ZIg) z73 rfl fun b81 w136 hn_ hB_ hC=>?_
       have hnb_b26477:=Zy6 hN_ hn_
       refine done ?_
       refine Zy (Ys hN_ (by assumption)) hN_ (l9:=(Za 6 7)) (by kernel_rfl) (fun hN_=>?_)
       refine aO 3 rfl (Zbm hC (ZH6 .i64 ZIg) z73 rfl fun b82 w137 hn_ hB_ hC=>?_)
       have hnb_b26480:=Zy6 hN_ hn_
       refine done ?_
       refine Zy (Ys hN_ (by assumption)) hN_ (l9:=(Za 6 15)) (by kernel_rfl) (fun hN_=>?_)
       refine aO 4 rfl (Zem (v:=.agg (ZH8 (ZH6 .i64 q10.1))) hC 1 (ZH6 .i64 q10.1) (ZH6 .i64 q10.1) rfl ag73.size rfl rfl rfl rfl rfl (ZIc rfl) rfl fun w138 hBB_ hC=>done ?_)
       refine Zy (Yz hN_ hnb_b26477 hBB_) hN_ (l9:=(Za 6 31)) (by kernel_rfl) (fun hN_=>?_)
       refine Zu 5 (by decide) (by decide) (by kernel_rfl) (by kernel_rfl) rfl (Zw (v:=.agg (ZH8 (ZH6 .i64 s10.1))) hC 0 (ZH6 .i64 s10.1) (ZH6 .i64 s10.1) rfl ag73.size rfl rfl rfl rfl rfl (ZIc rfl) rfl fun w139 hC=>done (Zv ?_))
       exact⟨rfl,_,rfl,⟨b82,b81,(sl ⟨rfl,rfl,rfl,rfl,rfl,rfl,rfl,rfl,rfl,rfl,rfl,rfl,rfl,rfl,trivial⟩),hC,h⟩⟩
      ·skip
       refine Zbm hC (ZH6 .i64 ZIg) z73 rfl fun b77 w140 hn_ hB_ hC=>?_
       have hnb_b26485:=Zy6 hN_ hn_
       refine done ?_
       refine Zy (Ys hN_ (by assumption)) hN_ (l9:=(Za 6 11)) (by kernel_rfl) (fun hN_=>?_)
       refine aO 2 rfl (Zbm hC (ZH6 .i64 ZIg) z73 rfl fun b78 w141 hn_ hB_ hC=>?_)
       have hnb_b26488:=Zy6 hN_ hn_
       refine done ?_
       refine Zy (Ys hN_ (by assumption)) hN_ (l9:=(Za 6 15)) (by kernel_rfl) (fun hN_=>?_)
       refine aO 4 rfl (Zem (v:=.agg (ZH8 (ZH6 .i64 q10.1))) hC 0 (ZH6 .i64 q10.1) (ZH6 .i64 q10.1) rfl ag73.size rfl rfl rfl rfl rfl (ZIc rfl) rfl fun w142 hBB_ hC=>done ?_)
       refine Zy (Yz hN_ hnb_b26488 hBB_) hN_ (l9:=(Za 6 31)) (by kernel_rfl) (fun hN_=>?_)
       refine Zu 5 (by decide) (by decide) (by kernel_rfl) (by kernel_rfl) rfl (Zw (v:=.agg (ZH8 (ZH6 .i64 s10.1))) hC 1 (ZH6 .i64 s10.1) (ZH6 .i64 s10.1) rfl ag73.size rfl rfl rfl rfl rfl (ZIc rfl) rfl fun w143 hC=>done (Zv ?_))
       replace hC:=hC.sM [1,0,2,3,4,5] (M':=[blk b77 73 (ZH6 .i64 s10.1),blk b78 73 (ZH6 .i64 q10.1),blk b12 73 (ZH6 .i64 s10.1),blk b11 73 (ZH6 .i64 q10.1),itI (kvA .i64) (vvI .i64) r10 b1 es10 ck10 (some ent10) l10,Ze (kvA .i64) (vvI .i64) b10 s10.2]) (by decide) rfl
       exact⟨rfl,_,rfl,⟨b77,b78,(sl ⟨rfl,rfl,rfl,rfl,rfl,rfl,rfl,rfl,rfl,rfl,rfl,rfl,rfl,rfl,trivial⟩),hC,h⟩⟩
    ·replace h:=Zk h (cf hb10)
     refine ZIe (Zd (Zh (Zb (v:=.int .i64 (i10:Int)) rfl (Zb (v:=.int .i64 (q10.1.get i10)) rfl ?_))))
     obtain ⟨⟨h28,h29⟩,h⟩:=h
     refine Y5 i10 ZJf sc3.size rfl rfl h28 h29 (by omega) (Zw (v:=.int .i64 (q10.1.get i10)) hC 0 [.int .i64 (q10.1.get i10)] (ZH6 .i64 (s10.1.set i10 (q10.1.get i10))) rfl sc3.size rfl rfl rfl rfl rfl (show i10 < 8 by omega) (ZI3 _ _ _ (show i10 < 8 by omega)) fun w144 hC=>done (Zs (Zd (Zh (Zq rfl rfl (Zb (v:=.int .i64 (ZA7.wrap ((i10:Int)+1))) rfl (done ?_)))))))
     exact hK10 (s10.1.set i10 (q10.1.get i10),s10.2) _ _ ⟨(sl ⟨rfl,rfl,rfl,rfl,rfl,rfl,rfl,rfl,(tr rfl (congrArg _ (Yh hi10 hN10))),trivial⟩),hC⟩ h
   ·clear hC h
    rintro s10 e_ w145 K10 ⟨hS_,hC⟩ h
    rw [ue hS_]
    refine sr (Zt rfl rfl (dn (ZIa (Yi rfl (decide_eq_false (by omega)) ?_))))
    refine ZIr (Zj (Zj (Z9 ?_)))
    refine Zs ?_
    replace hC:=hC.sM [2,3] (M':=[itI (kvA .i64) (vvI .i64) r10 b1 es10 ck10 (some ent10) l10,Ze (kvA .i64) (vvI .i64) b10 s10.2]) (by decide) rfl
    exact hK11 q10 l10 s10.2 _ _ hp11 ⟨(some ent10),(sl ⟨rfl,rfl,rfl,rfl,trivial⟩),hC⟩ h
   ·skip
    exact⟨(sl ⟨rfl,rfl,rfl,rfl,rfl,rfl,rfl,rfl,rfl,trivial⟩),hC⟩
 ·skip
  exact⟨none,(sl ⟨rfl,rfl,rfl,rfl,trivial⟩),hC⟩
def Zhg (a0:Int) (K:Int→Prop):Prop :=
 (if Int.tmod a0 2=1 then K 1 else K 10006)
theorem Zwn (a0:Int)  {K:Int→Prop} (h:Zhg a0 K) (w0:World)  :
  Calls ZId 167 #[.int .i64 a0] w0 fun e w'=>∃ (r0:Int),
   e=.returned (.int .i64 r0)∧K r0∧Bel w0 w':=by
 unfold Zhg at h
 refine Z4 (args:=[.int .i64 a0]) Tryz.func167 rfl 6 Tryz.ntmps167 (ZIc rfl) ?_
 have hC:=ZIt (X:=Nox) w0 [] (by simp)
 refine sr (Zc (v:=.int .i64 0) rfl (dn (ZIa (sr (Zb (v:=.int .i64 a0) rfl (X0 rfl rfl (by decide) (Jm rfl rfl (dn ?_))))))))
 refine Zr rfl (fun hb1=>?_) (fun hb1=>?_)
 ·replace h:=ift h (ct hb1)
  refine sr (Zc (v:=.int .i64 1) rfl (dn ?_))
  refine ZIi (Zo ?_)
  refine Zp (fn:=Tryz.f167) rfl ?_ ⟨1,rfl,h,hC.below⟩ (.inl rfl)
  exact Zi rfl
 ·replace h:=Zk h (cf hb1)
  refine ZIe (Zd (sr (Zc (v:=.int .i64 10006) rfl (dn (ZIi ?_)))))
  refine Zp (fn:=Tryz.f167) rfl ?_ ⟨10006,rfl,h,hC.below⟩ (.inl rfl)
  exact Zi rfl
end Go.Proofs.YtaagfepgbofmlaaGreat
