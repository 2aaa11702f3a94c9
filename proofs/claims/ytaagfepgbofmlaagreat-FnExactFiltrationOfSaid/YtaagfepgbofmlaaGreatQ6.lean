import Derived.Test.YtaagfepgbofmlaaGreatQ5
set_option linter.unusedSectionVars false
set_option linter.unusedSimpArgs false
set_option linter.unusedVariables false
open Classical renaming byContradiction→Z1o,choose→Z2t
open Decidable renaming not_not→ZH3
open Go renaming wp_seq→ZMu,wp_ret→ZM3,wp_skip→ZMy,wp_block→ZM0
open Go.IntKind renaming i64→ZHf,u8→ZM6
open Go.Proofs.Tryz renaming f76→Z1d,underlying32→ZNe,f114→Z1s,func171→Z11,ntmps171→Z12,underlying198→ZUv,func100→Z13,underlying85→ZUw
open Go.Value renaming ownBlock→ZFo
open Inhabited renaming default→ZEu
open Int renaming tmod→ZFl,mul_emod→ZE5,toNat_natCast→Z1a,le_refl→Z1b,zero_add→ZF7,tmod_eq_emod_of_nonneg→ZP9,add_zero→Z1c,mul_nonneg→Z1i,mul_le_mul_of_nonneg_right→Z1k,mul_comm→ZGk,add_emod→ZG4,mul_zero→Z1n,le_trans→Z1q,mul_add→Z1x,one_mul→Z1y,mul_one→Z1z,mul_le_mul→Z17,ediv_nonneg→Z2c,tdiv_eq_ediv_of_nonneg→Z2h
open List renaming mem_map→ZE1,getD→ZE0,mem_singleton→ZFn,length_take→ZUe,length_map→Z08,mem_append→ZEt,range→ZFk,length_append→ZFj,length_cons→ZHt,mem_range→ZGf,length_set→ZNp,mem_filter→Z1e,take_length→Z1g,take_of_length_le→ZF0,mem_cons→ZEn,replicate→ZEp,mem_singleton_self→ZT7,map_append→ZT6,length_drop→ZGw,pairwise_map→Z1m,ext_getElem→ZGj,nodup_cons→ZP3,mem_append_right→ZE6,take_append_drop→ZIx,filter_cons_of_pos→Z1u,filter_cons_of_neg→Z1v,length_nil→ZYw,nil_append→Z1w,append_nil→ZUi,getElem_of_mem→ZE8,range_succ→Z2a,map_cons→ZFw,length_eq_one_iff→ZJj,getElem_cons_drop→Z2i,length_filter_le→Z2m,length_replicate→ZUo,pairwise_append→ZG6,mem_append_left→ZE7,mem_of_mem_drop→Z2w
open List.Pairwise renaming nil→ZRh,filter→Z2r
open Nat renaming le_refl→ZEs,le_of_ble_eq_true→ZM2,lt_or_ge→ZFm,add_sub_cancel'→Z19
open Option renaming toList→ZNu
open Vc renaming Form→ZMw
open Vc.A8 renaming get_set→ZP7,mk→Z09,zero→ZMz,ext_get→ZP8,get_add→Z1f,get_zero→Z1p
open Vc.A8.mk renaming injEq→Z1h
open Vc.Term renaming mono→Z1j
open Vc.Tr renaming sl→ZT0,item→ZM8,trep→ZUd
open Vc.Ty renaming item→ZMt
set_option maxRecDepth 4000
set_option maxHeartbeats 4000000
namespace Go.Proofs.YtaagfepgbofmlaaGreat
open Go Go.RowKit Vc
variable {b0 bp0 b1 bp1 b2 bp2 b3 bp3 b4 bp4 b5 bp5 b6 bp6 b7 bp7 mb0:Nat} {u0_0 u0_1 u0_2 u0_3 u0_4 u0_5 u1_0 u1_1 u1_2 u1_3 u1_4 u1_5 u2_0 u2_1 u2_2 u2_3 u2_4 u2_5 u3_0 u3_1 u3_2 u3_3 u3_4 u3_5 u4_0 u4_1 u4_2 u4_3 u4_4 u4_5 u5_0 u5_1 u5_2 u5_3 u5_4 u5_5 u6_0 u6_1 u6_2 u6_3 u6_4 u6_5 u7_0 u7_1 u7_2 u7_3 u7_4 u7_5:Value} {fp0 fp1 fp2 fp3 fp4 fp5 fp6 fp7 fp0_0 fp0_1 fp0_2 fp0_3 fp0_4 fp0_5 fp1_0 fp1_1 fp1_2 fp1_3 fp1_4 fp1_5 F0:List Nat} {D0:List Lev}
def Zi9 (A:Alg) (I:ZMw) (K:Int→Int→Prop):Prop :=
 Zdb A [I] (λad=>Zi6 A true (λae=>Zd8 [ad,ae] (λO=>(if O≠0 then K 0 O else Zdb A [I] (λU=>(if U≠0 then K 0 U else Zf5 A.degrees I (λh ag=>(if¬ (ag=true) then K 0 5 else Zi7 A I (λah=>(if¬ (ah=true) then K 0 5 else(if h < 0 then K 0 5 else(if h > 20 then K 0 2 else Z9 (λL (ai:Unit) aa=>Za7 A.degrees (ZHf.wrap (([h].getD L ZEu) - 1)) 120 (λaz aj=>(if¬ (aj=true) then K 0 3 else Za7 A.degrees ([h].getD L ZEu) 120 (λa2 ak=>(if¬ (ak=true) then K 0 3 else Za7 A.degrees (ZHf.wrap (([h].getD L ZEu)+1)) 120 (λa3 al=>(if¬ (al=true) then K 0 3 else aa ()))))))) (λ(ai:Unit)=>Zbp I (λam=>(∃ (C:Cx),Zi8 C A h am (λan=>(if an=true then K 0 5 else(Ziu C A h∧Zgq C A h (λao=>Xt (λ(B:Int) ab=>(if B > 0 then Zgf (⟨C.LV h,C.PL h⟩:Vc.Lvl) B (λV=>Z9 (λap (G:(List (List Int))) ac=>Zcs ((C.BD h).getD ap ZEu) V (λaq=>(Z4 (G.length+1) 24∧ac (G++[aq])))) (λ(G:(List (List Int)))=>Zbp (⟨I.terms⟩:ZMw) (λar=>Zb9 (⟨C.LV h,C.PL h⟩:Vc.Lvl) ar (λau=>Zcs au V (λav=>Za8 G (λaw=>Zbs av aw (λax=>Zcr ax (λay=>(if ay=true then K B 0 else ab (ZHf.wrap (B - 1)))))))))) ((C.BD h).length) 0 []) else K 0 0)) ao))))))) ([h].length) 0 ()))))))))))))
theorem ZAx (a0:Alg) (a1:ZMw)  {K:Int→Int→Prop} (h:Zi9 a0 a1 K) (w0:World) (q0:TAlg.rep a0 [u0_0,u0_1] fp0 w0) (q1:TForm.rep a1 [u1_0] fp1 w0) :
  Calls Tryz.prog 31 #[.agg #[u0_0,u0_1],.agg #[u1_0]] w0 λe w'=>∃ (r0:Int) (r1:Int),
   e=.returned (.tuple #[vI r0,vI r1])∧K r0 r1∧Bel w0 w':=by
 unfold Zi9 at h
 refine cof Tryz.func31 rfl 88 Tryz.ntmps31 ?_
 have A:=Ctx.start (X:=Nox) w0 [ZMt TAlg a0 [u0_0,u0_1] fp0,ZMt TForm a1 [u1_0] fp1] (alc q0 (al1 q1));replace A:=A.dAlg 0 rfl;have fo:=(A.getP 3 rfl);replace A:=A.derive 3 rfl (ZMt ETerm.ty.sl a1.terms [u1_0] fp1) (λ_=>(Y9 fo)) (λ_ V=>V)
 refine sr (Ya (v:=.agg #[u0_0,u0_1]) A [u0_0,u0_1] rfl rfl λb7 w9 ab A=>Ya (v:=.agg #[u1_0]) A [u1_0] rfl rfl λap gb ab A=>Zc (v:=vI 0) rfl (Zc (v:=vI 0) rfl (dn (ZMu (sr (Yb A 0 [u1_0] rfl ag55 rfl rfl rfl (Yn (sz:=1) A [(0,.agg #[u1_0])] [u1_0] rfl (λ_=>Zr6 u1_0 (Zat (A.getP 0 rfl)) _) rfl (by decide) λaz gc ab A=>?_)))))))
 have c0:=Yt A 0 rfl;replace A:=A.thaw 0 rfl (own 55 1 (.slice (some ⟨az,0,none⟩) 1 1) 1 [u1_0]) id (λ_ V=>V)
 replace A:=A.joinP 0 1 rfl rfl (ZMt TForm.sl [a1] [.slice (some ⟨az,0,none⟩) 1 1] ((ZNu (ZFo (.slice (some ⟨az,0,none⟩) 1 1)))++fp1)) (λa_ b_=>Jl a_ (Za6 (Yi b_))) (λc_ bx=>ZEt.1 bx)
 have f2:∀ b,b∈((ZNu (ZFo (.slice (some ⟨az,0,none⟩) 1 1)))++fp1)→w0.heap.size≤b∨b∈(fp0++(fp1)):=(λb hb=>(ZEt.1 hb).elim (λhb=>.inl (c0 b hb)) (λhb=>.inr (ZE6 _ hb)))
 refine Zf [vQ b7,.slice (some ⟨az,0,none⟩) 1 1] _ Tryz.func44 rfl rfl rfl (Zm4 a0 [a1] h _ (Y3 (A.getP 4 rfl) (A.getP 3 rfl)) (A.getM 1 rfl) (A.getP 0 rfl)) ?_
 rintro _ gf ⟨au,rfl,h,c6⟩;refine rt ?_
 replace A:=A.grow c6;refine Zf [vQ b7,.bool true] _ Tryz.func75 rfl rfl rfl (ZAt a0 true h _ (Y3 (A.getP 4 rfl) (A.getP 3 rfl)) (A.getM 1 rfl)) ?_
 rintro _ gg ⟨av,rfl,h,c7⟩;refine rt ?_
 replace A:=A.grow c7;refine Yn (sz:=1) A [(0,vI au),(1,vI av)] (eI.encs [au,av]) rfl (λ_=>Zk2 au av _) rfl (by decide) λbz gh ab A=>Zf [.slice (some ⟨bz,0,none⟩) 2 2] _ Tryz.func43 rfl rfl rfl (Zkq [au,av] h _ (Ym (A.getM 0 rfl))) ?_
 rintro _ gi ⟨ba,rfl,h,c8⟩;refine rt ?_
 replace A:=A.grow c8;refine Zc (v:=vI ba) rfl (dn (sr (Za (v:=vI ba) rfl (Y2 rfl rfl (dn ?_)))))
 refine Zp rfl (λbm=>?_) (λbm=>?_)
 ·replace h:=ift h (ct bm);refine sr (Za (v:=vI ba) rfl (Zc (v:=vI 0) rfl (Zc (v:=vI ba) rfl (dn ?_))))
  refine ZM3 (Zl ?_)
  exact Xv rfl (Ze rfl) (Ze rfl) ⟨0,ba,rfl,h,A.below⟩ (.inl rfl)
 ·replace h:=Zm h (cf bm);refine ZMy (Zd (sr (Yb A 1 [u1_0] rfl ag55 rfl rfl rfl (Zgc [vQ b7,.agg #[u1_0],.bool true] Tryz.func76 rfl rfl 54 Tryz.ntmps76 (ZM2 rfl) rfl (sr (Ya (v:=.agg #[u1_0]) A [u1_0] rfl rfl λcn gj ab A=>Zc (v:=.pointer none) rfl (Zc (v:=vI 0) rfl (Zc (v:=vI 0) rfl (dn (ZMu (sr (Za (v:=vQ b7) rfl (Yb A 0 [u1_0] rfl ag55 rfl rfl rfl (Yn (sz:=1) A [(0,.agg #[u1_0])] [u1_0] rfl (λ_=>Zr6 u1_0 (Zat (A.getP 2 rfl)) _) rfl (by decide) λa2 gk ab A=>?_))))))))))))))
  have c9:=Yt A 0 rfl;replace A:=A.thaw 0 rfl (own 55 1 (.slice (some ⟨a2,0,none⟩) 1 1) 1 [u1_0]) id (λ_ V=>V)
  replace A:=A.joinP 0 3 rfl rfl (ZMt TForm.sl [a1] [.slice (some ⟨a2,0,none⟩) 1 1] ((ZNu (ZFo (.slice (some ⟨a2,0,none⟩) 1 1)))++fp1)) (λa_ b_=>Jl a_ (Za6 (Yi b_))) (λc_ bx=>ZEt.1 bx)
  have f3:∀ b,b∈((ZNu (ZFo (.slice (some ⟨a2,0,none⟩) 1 1)))++fp1)→w0.heap.size≤b∨b∈(fp0++(fp1)):=(λb hb=>(ZEt.1 hb).elim (λhb=>.inl (c9 b hb)) (λhb=>.inr (ZE6 _ hb)))
  refine Zf [vQ b7,.slice (some ⟨a2,0,none⟩) 1 1] _ Tryz.func44 rfl rfl rfl (Zm4 a0 [a1] h _ (Y3 (A.getP 6 rfl) (A.getP 5 rfl)) (A.getM 3 rfl) (A.getP 0 rfl)) ?_
  rintro _ gl ⟨ae,rfl,h,da⟩;refine rt ?_
  replace A:=A.grow da;refine Zc (v:=vI ae) rfl (dn (sr (Za (v:=vI ae) rfl (Y2 rfl rfl (dn ?_)))))
  refine Zp rfl (λak=>?_) (λak=>?_)
  ·replace h:=ift h (ct ak);refine sr (Za (v:=vI ae) rfl (Zc (v:=.pointer none) rfl (Zc (v:=vI 0) rfl (Zc (v:=vI ae) rfl (dn ?_)))))
   refine ZM3 (Zl ?_)
   refine Zc1 (fn:=Z1d) (v:=.pointer none) (u:=vI 0) (z:=vI ae) rfl (Ze rfl) (Ze rfl) (Ze rfl) ⟨_,rfl,?_⟩ (.inl rfl)
   refine Za (v:=.tuple #[.pointer none,vI 0,vI ae]) rfl (Yj (v:=.pointer none) rfl rfl (Yj (v:=vI 0) rfl rfl (Yj (v:=vI ae) rfl rfl (Zc (v:=.pointer none) rfl (Zc (v:=vI 0) rfl (Zc (v:=vI ae) rfl (dn (ZMu (sr (Za (v:=vI ae) rfl (Xg rfl rfl (Za (v:=.bool (decide (ae=0))) rfl (Zg (b:=false) 2 33 rfl (tr rfl (congrArg _ (Zgd ak))) (by decide) (Zg (b:=false) 2 33 rfl (tr rfl (congrArg _ (Zgd ak))) (by decide) (Zg (b:=false) 2 33 rfl (tr rfl (congrArg _ (Zgd ak))) (by decide) (Yq 5 36 rfl rfl (Yq 5 36 rfl rfl (Yq 5 36 rfl rfl (Yq 5 36 rfl rfl (Yq 5 36 rfl rfl (Zg (b:=false) 2 33 rfl (tr rfl (congrArg _ (Zgd ak))) (by decide) (Zs (v:=.bool false) (b:=false) (tr rfl (congrArg _ (Zgd ak))) rfl (dn (Z2 rfl rfl (ZMy (Zd (ZMu (sr (Za (v:=vI ae) rfl (Y2 rfl rfl (dn (Z3 rfl (Zy0 (Zgd ak)) (sr (Za (v:=vI ae) rfl (Zc (v:=vI 0) rfl (Zc (v:=vI ae) rfl (dn ?_)))))))))))))))))))))))))))))))))))))
   refine ZM3 (Zl ?_)
   exact Xv rfl (Ze rfl) (Ze rfl) ⟨0,ae,rfl,h,A.below⟩ (.inl rfl)
  ·replace h:=Zm h (cf ak);refine ZMy (Zd (ZMu ?_))
   refine cwd 10 Yh [0,1,3,7,0,31,63,127,127,255,1023] [3,4] [0,1,2,6,7,8,9] (λb8 ao gm ab=>?_)
   replace A:=A.grow ab;refine bM 0 (vQ b7) rfl ao (Zb 11 1) (bF 1 (vQ b7) rfl rfl ao (λ_=>by exact J7 rfl) (Zb 11 3) (bF 2 (vQ b7) rfl rfl ao (λ_=>by exact Yk 0 ZNe rfl sc22.size rfl rfl) (Zb 11 7) (bL 3 (u0_0) rfl rfl b8 (λ_ ab=>by exact Yc (A.grow ab) 3 (u0_0) rfl sc22 rfl rfl) (Zb 11 15) (bL 4 (.agg #[u1_0]) rfl rfl b8 (λ_ ab=>by exact Xa (A.grow ab) 0 [u1_0] rfl ag55 rfl rfl rfl) (Zb 11 31) (aO 5 rfl (Zf [u0_0,.agg #[u1_0]] _ Tryz.func132 rfl rfl rfl (Zqn a0.degrees a1 h _ (A.getP 6 rfl) (Yi (A.getP 4 rfl))) ?_))))))
   rintro _ gn ⟨B,a3,rfl,h,db⟩;refine rt ?_
   replace A:=A.grow db;refine done (aK (by assumption) (Zb 11 63) (bM 6 (.tuple #[vI B,.bool a3]) rfl ao (Zb 11 127) (bF 7 (vI B) rfl rfl ao (λ_=>by exact Zce (v:=vI B) rfl rfl) (Zb 11 255) (bF 8 (.bool a3) rfl rfl ao (λ_=>by exact Zce (v:=.bool a3) rfl rfl) (Zb 11 511) (bA 9 (vI B) rfl ao (Zb 11 1023) (Z0 10 (by decide) (by decide) (by kernel_rfl) (by kernel_rfl) rfl (Zc (v:=.bool a3) rfl (done (Z1 (Zd (ZMu (sr (Za (v:=.bool a3) rfl (Xe rfl (Za (v:=.bool (!a3)) rfl ?_)))))))))))))))
   refine Y6 (!a3) (λac=>?_) (λac=>?_)
   ·replace h:=ift h (Yz (Xi ac));refine Zg (b:=true) 2 31 rfl (tr rfl (congrArg _ ac)) (by decide) (Zg (b:=true) 2 31 rfl (tr rfl (congrArg _ ac)) (by decide) (Yq 4 33 rfl rfl (Yq 4 33 rfl rfl (Yq 4 33 rfl rfl (Yq 4 33 rfl rfl (Zg (b:=true) 2 31 rfl (tr rfl (congrArg _ ac)) (by decide) (Zs (v:=.bool true) (b:=true) (tr rfl (congrArg _ ac)) rfl (dn (Z3 rfl rfl (sr (Zc (v:=.pointer none) rfl (Zc (v:=vI 0) rfl (Zc (v:=vI 5) rfl (dn ?_))))))))))))))
    refine ZM3 (Zl ?_)
    refine Zc1 (fn:=Z1d) (v:=.pointer none) (u:=vI 0) (z:=vI 5) rfl (Ze rfl) (Ze rfl) (Ze rfl) ⟨_,rfl,?_⟩ (.inl rfl)
    refine Za (v:=.tuple #[.pointer none,vI 0,vI 5]) rfl (Yj (v:=.pointer none) rfl rfl (Yj (v:=vI 0) rfl rfl (Yj (v:=vI 5) rfl rfl (Zc (v:=.pointer none) rfl (Zc (v:=vI 0) rfl (Zc (v:=vI 5) rfl (dn (ZMu (sr (Za (v:=vI 5) rfl (Xg rfl rfl (Za (v:=.bool false) rfl (Zg (b:=false) 2 33 rfl (tr rfl (congrArg _ rfl)) (by decide) (Zg (b:=false) 2 33 rfl (tr rfl (congrArg _ rfl)) (by decide) (Zg (b:=false) 2 33 rfl (tr rfl (congrArg _ rfl)) (by decide) (Yq 5 36 rfl rfl (Yq 5 36 rfl rfl (Yq 5 36 rfl rfl (Yq 5 36 rfl rfl (Yq 5 36 rfl rfl (Zg (b:=false) 2 33 rfl (tr rfl (congrArg _ rfl)) (by decide) (Zs (v:=.bool false) (b:=false) rfl rfl (dn (Z2 rfl rfl (ZMy (Zd (ZMu (sr (Za (v:=vI 5) rfl (Y2 rfl rfl (dn (Z3 rfl rfl (sr (Za (v:=vI 5) rfl (Zc (v:=vI 0) rfl (Zc (v:=vI 5) rfl (dn ?_)))))))))))))))))))))))))))))))))))))
    refine ZM3 (Zl ?_)
    exact Xv rfl (Ze rfl) (Ze rfl) ⟨0,5,rfl,h,A.below⟩ (.inl rfl)
   ·replace h:=Zm h (not_not_intro ((Xj ac)));refine Zh 2 31 rfl rfl ac (Za (v:=.bool true) rfl (Zh 2 31 rfl rfl ac (Za (v:=.bool true) rfl (Zh 4 33 rfl rfl rfl (Za (v:=vQ b7) rfl (Zh 4 33 rfl rfl rfl (Yb A 0 [u1_0] rfl ag55 rfl rfl rfl (Zh 4 33 rfl rfl rfl (Zf [vQ b7,.agg #[u1_0]] _ Tryz.func133 rfl rfl rfl (ZAu a0 a1 h _ (Y3 (A.getP 6 rfl) (A.getP 5 rfl)) (A.getM 3 rfl) (Yi (A.getP 4 rfl))) ?_)))))))))
    rintro _ go ⟨cp,rfl,h,dc⟩;refine rt ?_
    replace A:=A.grow dc;refine Zh 4 33 rfl rfl rfl (Xe rfl (Zh 2 31 rfl rfl ac (Zs (v:=.bool (!cp)) (b:=true) rfl rfl (Zs (v:=.bool (!cp)) (b:=false) (tr rfl (congrArg _ ac)) rfl (dn ?_)))))
    refine Zp rfl (λbn=>?_) (λbn=>?_)
    ·replace h:=ift h (Yz (Xi bn));refine sr (Zc (v:=.pointer none) rfl (Zc (v:=vI 0) rfl (Zc (v:=vI 5) rfl (dn ?_))))
     refine ZM3 (Zl ?_)
     refine Zc1 (fn:=Z1d) (v:=.pointer none) (u:=vI 0) (z:=vI 5) rfl (Ze rfl) (Ze rfl) (Ze rfl) ⟨_,rfl,?_⟩ (.inl rfl)
     refine Za (v:=.tuple #[.pointer none,vI 0,vI 5]) rfl (Yj (v:=.pointer none) rfl rfl (Yj (v:=vI 0) rfl rfl (Yj (v:=vI 5) rfl rfl (Zc (v:=.pointer none) rfl (Zc (v:=vI 0) rfl (Zc (v:=vI 5) rfl (dn (ZMu (sr (Za (v:=vI 5) rfl (Xg rfl rfl (Za (v:=.bool false) rfl (Zg (b:=false) 2 33 rfl (tr rfl (congrArg _ rfl)) (by decide) (Zg (b:=false) 2 33 rfl (tr rfl (congrArg _ rfl)) (by decide) (Zg (b:=false) 2 33 rfl (tr rfl (congrArg _ rfl)) (by decide) (Yq 5 36 rfl rfl (Yq 5 36 rfl rfl (Yq 5 36 rfl rfl (Yq 5 36 rfl rfl (Yq 5 36 rfl rfl (Zg (b:=false) 2 33 rfl (tr rfl (congrArg _ rfl)) (by decide) (Zs (v:=.bool false) (b:=false) rfl rfl (dn (Z2 rfl rfl (ZMy (Zd (ZMu (sr (Za (v:=vI 5) rfl (Y2 rfl rfl (dn (Z3 rfl rfl (sr (Za (v:=vI 5) rfl (Zc (v:=vI 0) rfl (Zc (v:=vI 5) rfl (dn ?_)))))))))))))))))))))))))))))))))))))
     refine ZM3 (Zl ?_)
     exact Xv rfl (Ze rfl) (Ze rfl) ⟨0,5,rfl,h,A.below⟩ (.inl rfl)
    ·replace h:=Zm h (not_not_intro ((Xj bn)));refine ZMy (Zd (sr (Za (v:=vQ b7) rfl (Zgc [vQ b7] Tryz.func113 rfl rfl 7 Tryz.ntmps113 (ZM2 rfl) rfl (sr (Zc (v:=.pointer none) rfl (dn (sr (Za (v:=vQ b7) rfl (Zhe A (vvI .i64) vvP λag gp ab A=>J8 [(0,vQ b7),(1,.map (some ag))] rfl (ZAa b7 ag  _) (Ya (v:=.agg #[vQ b7,.map (some ag)]) A [vQ b7,.map (some ag)] rfl rfl λG gq ab A=>Zc (v:=vQ G) rfl (dn (ZM3 ?_)))))))))))))
     refine Zi (fn:=Tryz.f113) (v:=vQ G) rfl (Ze rfl) ⟨_,rfl,?_⟩ (.inl rfl)
     refine Zc (v:=vQ G) rfl (dn (ZMu (sr (Za (v:=vI B) rfl (Zn rfl rfl (dn ?_))))))
     refine Zp rfl (λL=>?_) (λL=>?_)
     ·replace h:=ift h (ct L);refine sr (Za (v:=vQ G) rfl (Za (v:=vI B) rfl (Zc (v:=vQ G) rfl (Zc (v:=vI B) rfl (Zc (v:=vI 0) rfl (dn ?_))))))
      refine ZM3 (Zl ?_)
      refine Zc1 (fn:=Z1d) (v:=vQ G) (u:=vI B) (z:=vI 0) rfl (Ze rfl) (Ze rfl) (Ze rfl) ⟨_,rfl,?_⟩ (.inl rfl)
      refine Za (v:=.tuple #[vQ G,vI B,vI 0]) rfl (Yj (v:=vQ G) rfl rfl (Yj (v:=vI B) rfl rfl (Yj (v:=vI 0) rfl rfl (Zc (v:=vQ G) rfl (Zc (v:=vI B) rfl (Zc (v:=vI 0) rfl (dn (ZMu (sr (Za (v:=vI 0) rfl (Xg rfl rfl (Za (v:=.bool true) rfl (Zh 2 33 rfl rfl rfl (Za (v:=vI B) rfl (Zh 2 33 rfl rfl rfl (Zn rfl rfl (Zh 2 33 rfl rfl rfl (Za (v:=.bool (decide (B < 0))) rfl (Zg (b:=true) 5 36 rfl (tr rfl (congrArg _ L)) (by decide) (Zg (b:=true) 5 36 rfl (tr rfl (congrArg _ L)) (by decide) (Zg (b:=true) 5 36 rfl (tr rfl (congrArg _ L)) (by decide) (Zg (b:=true) 5 36 rfl (tr rfl (congrArg _ L)) (by decide) (Zg (b:=true) 5 36 rfl (tr rfl (congrArg _ L)) (by decide) (Zh 2 33 rfl rfl rfl (Zs (v:=.bool true) (b:=true) (tr rfl (congrArg _ L)) rfl (Zs (v:=.bool true) (b:=true) rfl rfl (dn (Z3 rfl rfl (Zj (Zc (v:=vI 5) rfl (dn (ZMu (sr (Za (v:=vI 5) rfl (Y2 rfl rfl (dn (Z3 rfl rfl (sr (Za (v:=vI 5) rfl ?_)))))))))))))))))))))))))))))))))))))))
      refine Zc (v:=vI 0) rfl (Zc (v:=vI 5) rfl (dn ?_))
      refine ZM3 (Zl ?_)
      exact Xv rfl (Ze rfl) (Ze rfl) ⟨0,5,rfl,h,A.below⟩ (.inl rfl)
     ·replace h:=Zm h (cf L);refine ZMy (Zd (ZMu (sr (Za (v:=vI B) rfl (Ja rfl rfl (dn ?_))))))
      refine Zp rfl (λbo=>?_) (λbo=>?_)
      ·replace h:=ift h (ct bo);refine sr (Zc (v:=.pointer none) rfl (Zc (v:=vI 0) rfl (Zc (v:=vI 2) rfl (dn ?_))))
       refine ZM3 (Zl ?_)
       refine Zc1 (fn:=Z1d) (v:=.pointer none) (u:=vI 0) (z:=vI 2) rfl (Ze rfl) (Ze rfl) (Ze rfl) ⟨_,rfl,?_⟩ (.inl rfl)
       refine Za (v:=.tuple #[.pointer none,vI 0,vI 2]) rfl (Yj (v:=.pointer none) rfl rfl (Yj (v:=vI 0) rfl rfl (Yj (v:=vI 2) rfl rfl (Zc (v:=.pointer none) rfl (Zc (v:=vI 0) rfl (Zc (v:=vI 2) rfl (dn (ZMu (sr (Za (v:=vI 2) rfl (Xg rfl rfl (Za (v:=.bool false) rfl (Zg (b:=false) 2 33 rfl (tr rfl (congrArg _ rfl)) (by decide) (Zg (b:=false) 2 33 rfl (tr rfl (congrArg _ rfl)) (by decide) (Zg (b:=false) 2 33 rfl (tr rfl (congrArg _ rfl)) (by decide) (Yq 5 36 rfl rfl (Yq 5 36 rfl rfl (Yq 5 36 rfl rfl (Yq 5 36 rfl rfl (Yq 5 36 rfl rfl (Zg (b:=false) 2 33 rfl (tr rfl (congrArg _ rfl)) (by decide) (Zs (v:=.bool false) (b:=false) rfl rfl (dn (Z2 rfl rfl (ZMy (Zd (ZMu (sr (Za (v:=vI 2) rfl (Y2 rfl rfl (dn (Z3 rfl rfl (sr (Za (v:=vI 2) rfl (Zc (v:=vI 0) rfl (Zc (v:=vI 2) rfl (dn ?_)))))))))))))))))))))))))))))))))))))
       refine ZM3 (Zl ?_)
       exact Xv rfl (Ze rfl) (Ze rfl) ⟨0,2,rfl,h,A.below⟩ (.inl rfl)
      ·replace h:=Zm h (cf bo);refine ZMy (Zd (sr (Za (v:=vQ G) rfl (Za (v:=vI B) rfl (Za (v:=vQ G) rfl (Za (v:=vI B) rfl (Yn (sz:=1) A [(0,vI B)] (eI.encs [B]) rfl (λ_=>Znq B _) rfl (by decide) λbb gr ab A=>Zgc [vQ G,.slice (some ⟨bb,0,none⟩) 1 1] Tryz.func114 rfl rfl 32 Tryz.ntmps114 (ZM2 rfl) rfl (sr (Zc (v:=vI 0) rfl (dn (ZMu (sr (Za (v:=.slice (some ⟨bb,0,none⟩) 1 1) rfl (Za4 A 0 rfl Tryz.underlying22 rfl (Za (v:=vI 0) rfl (dn (ZM0 ?_)))))))))))))))))
       have dd:[B].length≤9223372036854775807:=Zfp (A.getM 0 rfl);refine Yp (S:=Unit) _ _ (λI cq e_ w_=>Zt e_ [(0,vQ G),(7,.slice (some ⟨bb,0,none⟩) 1 1),(8,vI ([B].length:Int)),(9,vI (I:Int))]∧Ctx Nox w0 w_ [own 2 1 (.slice (some ⟨bb,0,none⟩) 1 1) ([B].length) (eI.encs [B]),blk G 198 [vQ b7,.map (some ag)],Z6 (vvI .i64) vvP ag ([]:List (Int×Nat)),blk cn 55 [u1_0],own 2 1 (.slice (some ⟨bz,0,none⟩) 2 2) ([au,av].length) (eI.encs [au,av]),blk ap 55 [u1_0],blk b7 32 [u0_0,u0_1]] [ZMt TForm.sl [a1] [.slice (some ⟨a2,0,none⟩) 1 1] ((ZNu (ZFo (.slice (some ⟨a2,0,none⟩) 1 1)))++fp1),ZMt TForm.sl [a1] [.slice (some ⟨az,0,none⟩) 1 1] ((ZNu (ZFo (.slice (some ⟨az,0,none⟩) 1 1)))++fp1),ZMt ETerm.ty.sl a1.terms [u1_0] fp1,ZMt TForm.sl a0.images [u0_1] fp0,ZMt TInts a0.degrees [u0_0] fp0,ZMt TAlg a0 [u0_0,u0_1] fp0,ZMt TForm a1 [u1_0] fp1]) ([B].length) ?_ ?_ (s0:=()) ?_ h
       ·clear A h;rintro I cq e_ gs f4 fq a9 ⟨aq,A⟩ h de;rw [ue aq];refine sr (Zn rfl rfl (dn (ZMu (Z3 rfl (decide_eq_true (by omega)) (ZMy (Zd (ZMu (ZM0 (sr ?_)))))))))
        obtain ⟨f5,gu,b9⟩:=Jf (A.getM 0 rfl) (Nat.lt_of_le_of_lt (Nat.zero_le _) a9);refine Js (I * 1) Tryz.underlying22 sc2.size (tr rfl b9) rfl (Int.natCast_nonneg _) (Int.ofNat_lt.2 a9) rfl (Yr (vI ([B].getD I ZEu)) (Za2 (A.getM 0 rfl) b9 I a9) sc2 rfl (Zc (v:=vI ([B].getD I ZEu)) rfl (dn (sr (Za (v:=vQ G) rfl (Za (v:=vI ([B].getD I ZEu)) rfl (J4 rfl rfl (Zgc [vQ G,vI (ZHf.wrap (([B].getD I ZEu) - 1))] Z11 rfl rfl 20 Z12 (ZM2 rfl) rfl (sr (Zc (v:=.bool false) rfl (dn (sr (Za (v:=vQ G) rfl (Xf rfl (Zu 0 ZUv rfl sc66.size rfl rfl (Z5 A 1 (vQ b7) rfl sc66 rfl rfl (Xf rfl (Zu 0 ZNe rfl sc22.size rfl rfl (Z5 A 6 (u0_0) rfl sc22 rfl rfl (Za (v:=vI (ZHf.wrap (([B].getD I ZEu) - 1))) rfl (Zf [u0_0,vI (ZHf.wrap (([B].getD I ZEu) - 1)),vI 120] _ Z13 rfl rfl rfl (Zkx a0.degrees (ZHf.wrap (([B].getD I ZEu) - 1)) 120 h _ (A.getP 4 rfl)) ?_)))))))))))))))))))))
        rintro _ gv ⟨ca,bc,fr,aw,rfl,h,dh,di,dj⟩;refine rt ?_
        replace A:=A.push dj (ZM8 (ZT0 73 ((EA .i64).tr)) ca [bc] fr) dh di;obtain ⟨dk,dm⟩:=Y4 (A.getM 0 rfl).1;subst dm;replace A:=A.recast (c:=own 73 8 bc ca.length ((EA .i64).encs ca)) (λ_ h_=>h_) (λ_=>dk)
        refine Za (v:=.tuple #[bc,.bool aw]) rfl (Yj (v:=bc) rfl rfl (Yj (v:=.bool aw) rfl rfl (Zc (v:=bc) rfl (Zc (v:=.bool aw) rfl (dn (sr (Za (v:=.bool aw) rfl (Zc (v:=.bool aw) rfl (dn (ZM3 ?_))))))))))
        refine Zi (fn:=Tryz.f171) (v:=.bool aw) rfl (Ze rfl) ⟨_,rfl,?_⟩ (.inl rfl)
        refine Xe rfl (Za (v:=.bool (!aw)) rfl ?_)
        refine Y6 (!aw) (λU=>?_) (λU=>?_)
        ·replace h:=ift h (Yz (Xi U));refine Zg (b:=true) 5 18 rfl (tr rfl (congrArg _ U)) (by decide) (Zg (b:=true) 5 18 rfl (tr rfl (congrArg _ U)) (by decide) (Zg (b:=true) 5 18 rfl (tr rfl (congrArg _ U)) (by decide) (Zg (b:=true) 5 18 rfl (tr rfl (congrArg _ U)) (by decide) (Zs (v:=.bool true) (b:=true) (tr rfl (congrArg _ U)) rfl (Za (v:=.bool true) rfl (Zg (b:=true) 11 24 rfl (tr rfl (congrArg _ rfl)) (by decide) (Zg (b:=true) 11 24 rfl (tr rfl (congrArg _ rfl)) (by decide) (Zg (b:=true) 11 24 rfl (tr rfl (congrArg _ rfl)) (by decide) (Zg (b:=true) 11 24 rfl (tr rfl (congrArg _ rfl)) (by decide) (Zg (b:=true) 11 24 rfl (tr rfl (congrArg _ rfl)) (by decide) (Zs (v:=.bool true) (b:=true) rfl rfl (dn (Z3 rfl rfl (sr (Zc (v:=vI 3) rfl (dn ?_))))))))))))))))
         refine ZM3 (Z8 (Zl (Zl (Z8 (Zl ?_)))))
         refine Zi (fn:=Z1s) (v:=vI 3) rfl (Ze rfl) ⟨_,rfl,?_⟩ (.inl rfl)
         refine Zc (v:=vQ G) rfl (Zc (v:=vI B) rfl (Zc (v:=vI 3) rfl (dn (ZM3 ?_))))
         refine Zc1 (fn:=Z1d) (v:=vQ G) (u:=vI B) (z:=vI 3) rfl (Ze rfl) (Ze rfl) (Ze rfl) ⟨_,rfl,?_⟩ (.inl rfl)
         refine Za (v:=.tuple #[vQ G,vI B,vI 3]) rfl (Yj (v:=vQ G) rfl rfl (Yj (v:=vI B) rfl rfl (Yj (v:=vI 3) rfl rfl (Zc (v:=vQ G) rfl (Zc (v:=vI B) rfl (Zc (v:=vI 3) rfl (dn (ZMu (sr (Za (v:=vI 3) rfl (Xg rfl rfl (Za (v:=.bool false) rfl (Zg (b:=false) 2 33 rfl (tr rfl (congrArg _ rfl)) (by decide) (Zg (b:=false) 2 33 rfl (tr rfl (congrArg _ rfl)) (by decide) (Zg (b:=false) 2 33 rfl (tr rfl (congrArg _ rfl)) (by decide) (Yq 5 36 rfl rfl (Yq 5 36 rfl rfl (Yq 5 36 rfl rfl (Yq 5 36 rfl rfl (Yq 5 36 rfl rfl (Zg (b:=false) 2 33 rfl (tr rfl (congrArg _ rfl)) (by decide) (Zs (v:=.bool false) (b:=false) rfl rfl (dn (Z2 rfl rfl (ZMy (Zd (ZMu (sr (Za (v:=vI 3) rfl (Y2 rfl rfl (dn (Z3 rfl rfl (sr (Za (v:=vI 3) rfl (Zc (v:=vI 0) rfl (Zc (v:=vI 3) rfl (dn ?_)))))))))))))))))))))))))))))))))))))
         refine ZM3 (Zl ?_)
         exact Xv rfl (Ze rfl) (Ze rfl) ⟨0,3,rfl,h,A.below⟩ (.inl rfl)
        ·replace h:=Zm h (not_not_intro ((Xj U)));refine Zh 5 18 rfl rfl U (Za (v:=vQ G) rfl (Zh 5 18 rfl rfl U (Za (v:=vI ([B].getD I ZEu)) rfl (Zh 5 18 rfl rfl U (Zgc [vQ G,vI ([B].getD I ZEu)] Z11 rfl rfl 20 Z12 (ZM2 rfl) rfl (sr (Zc (v:=.bool false) rfl (dn (sr (Za (v:=vQ G) rfl (Xf rfl (Zu 0 ZUv rfl sc66.size rfl rfl (Z5 A 2 (vQ b7) rfl sc66 rfl rfl (Xf rfl (Zu 0 ZNe rfl sc22.size rfl rfl (Z5 A 7 (u0_0) rfl sc22 rfl rfl (Za (v:=vI ([B].getD I ZEu)) rfl (Zf [u0_0,vI ([B].getD I ZEu),vI 120] _ Z13 rfl rfl rfl (Zkx a0.degrees ([B].getD I ZEu) 120 h _ (A.getP 4 rfl)) ?_))))))))))))))))))
         rintro _ gw ⟨cb,bd,fs,ar,rfl,h,dp,dq,dr⟩;refine rt ?_
         replace A:=A.push dr (ZM8 (ZT0 73 ((EA .i64).tr)) cb [bd] fs) dp dq;obtain ⟨dt,du⟩:=Y4 (A.getM 0 rfl).1;subst du;replace A:=A.recast (c:=own 73 8 bd cb.length ((EA .i64).encs cb)) (λ_ h_=>h_) (λ_=>dt)
         refine Za (v:=.tuple #[bd,.bool ar]) rfl (Yj (v:=bd) rfl rfl (Yj (v:=.bool ar) rfl rfl (Zc (v:=bd) rfl (Zc (v:=.bool ar) rfl (dn (sr (Za (v:=.bool ar) rfl (Zc (v:=.bool ar) rfl (dn (ZM3 ?_))))))))))
         refine Zi (fn:=Tryz.f171) (v:=.bool ar) rfl (Ze rfl) ⟨_,rfl,?_⟩ (.inl rfl)
         refine Zh 5 18 rfl rfl U (Xe rfl (Zs (v:=.bool (!ar)) (b:=false) (tr rfl (congrArg _ U)) rfl (Za (v:=.bool (!ar)) rfl ?_)))
         refine Y6 (!ar) (λO=>?_) (λO=>?_)
         ·replace h:=ift h (Yz (Xi O));refine Zg (b:=true) 11 24 rfl (tr rfl (congrArg _ O)) (by decide) (Zg (b:=true) 11 24 rfl (tr rfl (congrArg _ O)) (by decide) (Zg (b:=true) 11 24 rfl (tr rfl (congrArg _ O)) (by decide) (Zg (b:=true) 11 24 rfl (tr rfl (congrArg _ O)) (by decide) (Zg (b:=true) 11 24 rfl (tr rfl (congrArg _ O)) (by decide) (Zs (v:=.bool true) (b:=true) (tr rfl (congrArg _ O)) rfl (dn (Z3 rfl rfl (sr (Zc (v:=vI 3) rfl (dn ?_))))))))))
          refine ZM3 (Z8 (Zl (Zl (Z8 (Zl ?_)))))
          refine Zi (fn:=Z1s) (v:=vI 3) rfl (Ze rfl) ⟨_,rfl,?_⟩ (.inl rfl)
          refine Zc (v:=vQ G) rfl (Zc (v:=vI B) rfl (Zc (v:=vI 3) rfl (dn (ZM3 ?_))))
          refine Zc1 (fn:=Z1d) (v:=vQ G) (u:=vI B) (z:=vI 3) rfl (Ze rfl) (Ze rfl) (Ze rfl) ⟨_,rfl,?_⟩ (.inl rfl)
          refine Za (v:=.tuple #[vQ G,vI B,vI 3]) rfl (Yj (v:=vQ G) rfl rfl (Yj (v:=vI B) rfl rfl (Yj (v:=vI 3) rfl rfl (Zc (v:=vQ G) rfl (Zc (v:=vI B) rfl (Zc (v:=vI 3) rfl (dn (ZMu (sr (Za (v:=vI 3) rfl (Xg rfl rfl (Za (v:=.bool false) rfl (Zg (b:=false) 2 33 rfl (tr rfl (congrArg _ rfl)) (by decide) (Zg (b:=false) 2 33 rfl (tr rfl (congrArg _ rfl)) (by decide) (Zg (b:=false) 2 33 rfl (tr rfl (congrArg _ rfl)) (by decide) (Yq 5 36 rfl rfl (Yq 5 36 rfl rfl (Yq 5 36 rfl rfl (Yq 5 36 rfl rfl (Yq 5 36 rfl rfl (Zg (b:=false) 2 33 rfl (tr rfl (congrArg _ rfl)) (by decide) (Zs (v:=.bool false) (b:=false) rfl rfl (dn (Z2 rfl rfl (ZMy (Zd (ZMu (sr (Za (v:=vI 3) rfl (Y2 rfl rfl (dn (Z3 rfl rfl (sr (Za (v:=vI 3) rfl (Zc (v:=vI 0) rfl (Zc (v:=vI 3) rfl (dn ?_)))))))))))))))))))))))))))))))))))))
          refine ZM3 (Zl ?_)
          exact Xv rfl (Ze rfl) (Ze rfl) ⟨0,3,rfl,h,A.below⟩ (.inl rfl)
         ·replace h:=Zm h (not_not_intro ((Xj O)));refine Zh 11 24 rfl rfl O (Za (v:=vQ G) rfl (Zh 11 24 rfl rfl O (Za (v:=vI ([B].getD I ZEu)) rfl (Zh 11 24 rfl rfl O (Zo rfl rfl (Zh 11 24 rfl rfl O (Zgc [vQ G,vI (ZHf.wrap (([B].getD I ZEu)+1))] Z11 rfl rfl 20 Z12 (ZM2 rfl) rfl (sr (Zc (v:=.bool false) rfl (dn (sr (Za (v:=vQ G) rfl (Xf rfl (Zu 0 ZUv rfl sc66.size rfl rfl (Z5 A 3 (vQ b7) rfl sc66 rfl rfl (Xf rfl (Zu 0 ZNe rfl sc22.size rfl rfl (Z5 A 8 (u0_0) rfl sc22 rfl rfl (Za (v:=vI (ZHf.wrap (([B].getD I ZEu)+1))) rfl (Zf [u0_0,vI (ZHf.wrap (([B].getD I ZEu)+1)),vI 120] _ Z13 rfl rfl rfl (Zkx a0.degrees (ZHf.wrap (([B].getD I ZEu)+1)) 120 h _ (A.getP 4 rfl)) ?_))))))))))))))))))))
          rintro _ gx ⟨cc,be,ft,a4,rfl,h,dv,dw,dx⟩;refine rt ?_
          replace A:=A.push dx (ZM8 (ZT0 73 ((EA .i64).tr)) cc [be] ft) dv dw;obtain ⟨dy,dz⟩:=Y4 (A.getM 0 rfl).1;subst dz;replace A:=A.recast (c:=own 73 8 be cc.length ((EA .i64).encs cc)) (λ_ h_=>h_) (λ_=>dy)
          refine Za (v:=.tuple #[be,.bool a4]) rfl (Yj (v:=be) rfl rfl (Yj (v:=.bool a4) rfl rfl (Zc (v:=be) rfl (Zc (v:=.bool a4) rfl (dn (sr (Za (v:=.bool a4) rfl (Zc (v:=.bool a4) rfl (dn (ZM3 ?_))))))))))
          refine Zi (fn:=Tryz.f171) (v:=.bool a4) rfl (Ze rfl) ⟨_,rfl,?_⟩ (.inl rfl)
          refine Zh 11 24 rfl rfl O (Xe rfl (Zs (v:=.bool (!a4)) (b:=false) (tr rfl (congrArg _ O)) rfl (dn ?_)))
          refine Zp rfl (λbp=>?_) (λbp=>?_)
          ·replace h:=ift h (Yz (Xi bp));refine sr (Zc (v:=vI 3) rfl (dn ?_))
           refine ZM3 (Z8 (Zl (Zl (Z8 (Zl ?_)))))
           refine Zi (fn:=Z1s) (v:=vI 3) rfl (Ze rfl) ⟨_,rfl,?_⟩ (.inl rfl)
           refine Zc (v:=vQ G) rfl (Zc (v:=vI B) rfl (Zc (v:=vI 3) rfl (dn (ZM3 ?_))))
           refine Zc1 (fn:=Z1d) (v:=vQ G) (u:=vI B) (z:=vI 3) rfl (Ze rfl) (Ze rfl) (Ze rfl) ⟨_,rfl,?_⟩ (.inl rfl)
           refine Za (v:=.tuple #[vQ G,vI B,vI 3]) rfl (Yj (v:=vQ G) rfl rfl (Yj (v:=vI B) rfl rfl (Yj (v:=vI 3) rfl rfl (Zc (v:=vQ G) rfl (Zc (v:=vI B) rfl (Zc (v:=vI 3) rfl (dn (ZMu (sr (Za (v:=vI 3) rfl (Xg rfl rfl (Za (v:=.bool false) rfl (Zg (b:=false) 2 33 rfl (tr rfl (congrArg _ rfl)) (by decide) (Zg (b:=false) 2 33 rfl (tr rfl (congrArg _ rfl)) (by decide) (Zg (b:=false) 2 33 rfl (tr rfl (congrArg _ rfl)) (by decide) (Yq 5 36 rfl rfl (Yq 5 36 rfl rfl (Yq 5 36 rfl rfl (Yq 5 36 rfl rfl (Yq 5 36 rfl rfl (Zg (b:=false) 2 33 rfl (tr rfl (congrArg _ rfl)) (by decide) (Zs (v:=.bool false) (b:=false) rfl rfl (dn (Z2 rfl rfl (ZMy (Zd (ZMu (sr (Za (v:=vI 3) rfl (Y2 rfl rfl (dn (Z3 rfl rfl (sr (Za (v:=vI 3) rfl (Zc (v:=vI 0) rfl (Zc (v:=vI 3) rfl (dn ?_)))))))))))))))))))))))))))))))))))))
           refine ZM3 (Zl ?_)
           exact Xv rfl (Ze rfl) (Ze rfl) ⟨0,3,rfl,h,A.below⟩ (.inl rfl)
          ·replace h:=Zm h (not_not_intro ((Xj bp)));refine ZMy (Zq (Zd (Zj (Zo rfl rfl (Za (v:=vI (ZHf.wrap ((I:Int)+1))) rfl (done ?_))))))
           exact de () _ _ ⟨(sl ⟨rfl,rfl,rfl,(tr rfl (congrArg _ (Z7 a9 dd))),trivial⟩),(A.xM [3,4,5,6,7,8,9] rfl)⟩ h
       ·clear A h;rintro cq e_ gy fq ⟨aq,A⟩ h;rw [ue aq];refine sr (Zn rfl rfl (dn (ZMu (Z2 rfl (decide_eq_false (by omega)) ?_))))
        refine wp_exit (Zk (Zk (Zy ?_)))
        refine Zd (sr (Zc (v:=vI 0) rfl (dn (ZM3 ?_))))
        refine Zi (fn:=Z1s) (v:=vI 0) rfl (Ze rfl) ⟨_,rfl,?_⟩ (.inl rfl)
        refine Zc (v:=vQ G) rfl (Zc (v:=vI B) rfl (Zc (v:=vI 0) rfl (dn (ZM3 ?_))))
        refine Zc1 (fn:=Z1d) (v:=vQ G) (u:=vI B) (z:=vI 0) rfl (Ze rfl) (Ze rfl) (Ze rfl) ⟨_,rfl,?_⟩ (.inl rfl)
        refine Za (v:=.tuple #[vQ G,vI B,vI 0]) rfl (Yj (v:=vQ G) rfl rfl (Yj (v:=vI B) rfl rfl (Yj (v:=vI 0) rfl rfl (Zc (v:=vQ G) rfl (Zc (v:=vI B) rfl (Zc (v:=vI 0) rfl (dn (ZMu (sr (Za (v:=vI 0) rfl (Xg rfl rfl (Za (v:=.bool true) rfl (Zh 2 33 rfl rfl rfl (Za (v:=vI B) rfl (Zh 2 33 rfl rfl rfl (Zn rfl rfl (Zh 2 33 rfl rfl rfl (Za (v:=.bool (decide (B < 0))) rfl (Zh 5 36 rfl rfl L (Za (v:=vQ G) rfl (Zh 5 36 rfl rfl L (Za (v:=vI B) rfl (Zh 5 36 rfl rfl L (Yb A 5 [u1_0] rfl ag55 rfl rfl rfl (Zh 5 36 rfl rfl L (Zf [.agg #[u1_0]] _ Tryz.func78 rfl rfl rfl (Zf1 a1 h _ (Yi (A.getP 2 rfl))) ?_))))))))))))))))))))))))))
        rintro _ gz ⟨ce,cg,rfl,h,d0,d1,d2⟩;refine rt ?_
        replace A:=A.push d2 (mapS cg ce) d0 (λb_ V=>by obtain rfl:=ZFn.1 V; exact d1)
        refine Zh 5 36 rfl rfl L ?_
        replace A:=A.thaw 2 rfl (blk G 198 [vQ b7,.map (some ag)]) id (λ_ V=>V)
        replace A:=A.sM [2,0,1,3,4,5,6] (M':=[Z6 (vvI .i64) vvP ag ([]:List (Int×Nat)),mapS cg ce,own 2 1 (.slice (some ⟨bb,0,none⟩) 1 1) ([B].length) (eI.encs [B]),blk cn 55 [u1_0],own 2 1 (.slice (some ⟨bz,0,none⟩) 2 2) ([au,av].length) (eI.encs [au,av]),blk ap 55 [u1_0],blk b7 32 [u0_0,u0_1]]) (by decide) rfl
        obtain ⟨C,h⟩:=h;replace A:=A.recast (c:=cpx C 125 ag [] []) (λx_ ah=>by simpa [cpx,Z6] using ah) (λh_=>Zza h_)
        refine Zf [vQ G,vI B,.map (some cg)] _ Tryz.func77 rfl rfl rfl (ZAv C a0 B ce h _ (Y3 (A.getP 5 rfl) (A.getP 4 rfl)) (A.getM 6 rfl) (A.getP 0 rfl) (A.getM 0 rfl) (λb_ hb aa=>(ZEt.1 hb).elim (λhb=>A.pdk 5 0 rfl rfl b_ hb aa) (λhb=>A.pdk 4 0 rfl rfl b_ hb aa)) (A.mm 6 0 rfl rfl (by decide) _ (ZT7 _)) (λah=>A.pdk 0 0 rfl rfl _ (ZT7 _) ah) Zrp (A.getM 1 rfl) (λb_ hb aa=>A.mm 1 0 rfl rfl (by decide) b_ hb aa)) ?_
        rintro _ g0 ⟨cr,D1359,F1360,rfl,h,hle1361,hx1362,d3,d4⟩;refine rt ?_
        replace A:=A.turnI 0 rfl d4 hx1362 d3;refine Zh 2 33 rfl rfl rfl (Zs (v:=.bool cr) (b:=false) (tr rfl (congrArg _ L)) rfl (Zs (v:=.bool cr) (b:=true) rfl rfl (dn ?_)))
        refine Zp rfl (λbq=>?_) (λbq=>?_)
        ·replace h:=ift h (bq);refine Zj (Zc (v:=vI 5) rfl (dn (ZMu (sr (Za (v:=vI 5) rfl (Y2 rfl rfl (dn (Z3 rfl rfl (sr (Za (v:=vI 5) rfl (Zc (v:=vI 0) rfl (Zc (v:=vI 5) rfl (dn ?_)))))))))))))
         refine ZM3 (Zl ?_)
         exact Xv rfl (Ze rfl) (Ze rfl) ⟨0,5,rfl,h,A.below⟩ (.inl rfl)
        ·replace h:=Zm h (Yz bq);refine ZMy (Zd (ZMu (sr (Za (v:=vI 0) rfl (Y2 rfl rfl (dn (Z2 rfl rfl (ZMy (Zd (sr (Za (v:=vQ G) rfl (Za (v:=vI B) rfl ?_))))))))))))
         obtain ⟨d5,h⟩:=h;refine Zf [vQ G,vI B] _ Tryz.func79 rfl rfl rfl (Zr4 C a0 B d5 _ (Y3 (A.getP 5 rfl) (A.getP 4 rfl)) (A.getM 6 rfl) (A.getP 0 rfl) (A.getM 0 rfl) (λb_ hb aa=>(ZEt.1 hb).elim (λhb=>A.pdk 5 0 rfl rfl b_ hb aa) (λhb=>A.pdk 4 0 rfl rfl b_ hb aa)) (A.mm 6 0 rfl rfl (by decide) _ (ZT7 _)) (λah=>A.pdk 0 0 rfl rfl _ (ZT7 _) ah) (CpX.rest hle1361 Zrp)) ?_
         rintro _ g1 ⟨ax,D1370,F1371,rfl,hat1378,hle1372,hx1373,d6,d7⟩;refine rt ?_
         replace A:=A.turnI 0 rfl d7 hx1373 d6;refine Zc (v:=vvP ax) rfl (dn (ZMu (sr (Za (v:=vQ G) rfl (Za (v:=vI B) rfl (Zf [vQ G,vI B] _ Tryz.func80 rfl rfl rfl (ZAw C a0 B h _ (Y3 (A.getP 5 rfl) (A.getP 4 rfl)) (A.getM 6 rfl) (A.getP 0 rfl) (A.getM 0 rfl) (λb_ hb aa=>(ZEt.1 hb).elim (λhb=>A.pdk 5 0 rfl rfl b_ hb aa) (λhb=>A.pdk 4 0 rfl rfl b_ hb aa)) (A.mm 6 0 rfl rfl (by decide) _ (ZT7 _)) (λah=>A.pdk 0 0 rfl rfl _ (ZT7 _) ah)) ?_))))))
         rintro _ g2 ⟨cu,D1382,F1383,rfl,h,hle1384,hx1385,d8,d9⟩;refine rt ?_
         replace A:=A.turnI 0 rfl d9 hx1385 d8;refine Zc (v:=vI cu) rfl (dn (ZM0 ?_))
         have hz1389:=A.anyX 0 rfl;replace A:=A.thaw 0 rfl (cpx C 125 ag D1382 F1383) id (λ_ V=>V)
         refine X6 (S:=Int) _ (λai e_ w_=>Zt e_ [(3,vQ ap),(10,vvP ax),(11,vI ai)]∧Ctx Nox w0 w_ [blk ap 55 [u1_0],blk b7 32 [u0_0,u0_1]] [cpx C 125 ag D1382 F1383,blk G 198 [vQ b7,.map (some ag)],ZMt ETerm.ty.sl a1.terms [u1_0] fp1,ZMt TForm.sl a0.images [u0_1] fp0,ZMt TInts a0.degrees [u0_0] fp0,ZMt TAlg a0 [u0_0,u0_1] fp0,ZMt TForm a1 [u1_0] fp1]) ?_ (s0:=cu) ?_ h
         ·clear A h;rintro ai e_ g3 f6 g4 ⟨aq,A⟩ h ea;rw [ue aq];refine ZMu (sr (Za (v:=vI ai) rfl (Ja rfl rfl (dn ?_))))
          refine Zp rfl (λbr=>?_) (λbr=>?_)
          ·replace h:=ift h (ct br);refine ZMy (Zd (ZMu (ZM0 (sr (Za (v:=vvP ax) rfl (Za (v:=vI ai) rfl ?_))))))
           obtain ⟨g5,g6,g7,g8,g9,ha,eb,ec⟩:=Zni (A.getP 0 rfl) (hat1378.up hle1384);refine Zf [vvP ax,vI ai] _ Tryz.func81 rfl rfl rfl (Zzk (⟨C.LV B,C.PL B⟩:Vc.Lvl) ai h _ eb ec) ?_
           rintro _ hc ⟨aj,al,fu,rfl,h,ed,ee,ef⟩;refine rt ?_
           replace A:=A.push ef (ZM8 (ZT0 4 EB.tr) aj [al] fu) ed ee;obtain ⟨eg,eh⟩:=Y4 (A.getM 0 rfl).1;subst eh;replace A:=A.recast (c:=own 4 1 al aj.length (EB.encs aj)) (λ_ h_=>h_) (λ_=>eg)
           refine Yn (sz:=1) A [] [] rfl (λ_=>Zao _) rfl (by decide) λbh he ab A=>?_
           replace A:=A.pushM0 (Yf (ZT0 2 (eI.tr)) ([]:List (List Int)) [] []) (Zaa _ _) rfl;replace A:=A.gather (c:=ZM8 (ZT0 22 (ZT0 2 (eI.tr))) [] [.slice (some ⟨bh,0,none⟩) 0 0] ((ZNu (ZFo (.slice (some ⟨bh,0,none⟩) 0 0)))++([]:List (List Nat)).flatten)) (λx_ ah=>(ZEt.1 ah).symm) (λbi bj bk=>J0 bj bi (λb_ V aa=>bk b_ aa V))
           refine Zc (v:=al) rfl (Zc (v:=.slice (some ⟨bh,0,none⟩) 0 0) rfl (dn (ZMu (sr (Za (v:=vvP ax) rfl (Xf rfl (Zu 4 Tryz.underlying125 rfl sc85.size rfl rfl ?_)))))))
           obtain ⟨hf,hg,hh,hk,bt,hl,ei,f7,f8,ej⟩:=Zim (A.getP 0 rfl) (hat1378.up hle1384);have ek:=(ej rfl).2.1;replace A:=A.derive 0 rfl (ZMt (TInts.sl) (C.BD B) [bt] F1383) (λ_=>ek) (λ_ h_=>Zcp h_)
           refine Yr (bt) (Jq (off:=4) (sz:=1) ei rfl) sc85 rfl (Zw A 0 rfl ZUw rfl (Za (v:=vI 0) rfl (dn (ZM0 ?_))))
           have en:(C.BD B).length≤9223372036854775807:=Y5 (A.getP 0 rfl);refine Yp (S:=(List (List Int))) _ _ (λa5 ay e_ w_=>∃ (am:Value),∃ (a7:List Nat),Zt e_ [(3,vQ ap),(10,vvP ax),(11,vI ai),(12,al),(13,am),(64,bt),(65,vI ((C.BD B).length:Int)),(66,vI (a5:Int))]∧Ctx Nox w0 w_ [ZM8 (ZT0 22 (ZT0 2 (eI.tr))) ay [am] a7,own 4 1 al aj.length (EB.encs aj),blk ap 55 [u1_0],blk b7 32 [u0_0,u0_1]] [ZMt (TInts.sl) (C.BD B) [bt] F1383,cpx C 125 ag D1382 F1383,blk G 198 [vQ b7,.map (some ag)],ZMt ETerm.ty.sl a1.terms [u1_0] fp1,ZMt TForm.sl a0.images [u0_1] fp0,ZMt TInts a0.degrees [u0_0] fp0,ZMt TAlg a0 [u0_0,u0_1] fp0,ZMt TForm a1 [u1_0] fp1]) ((C.BD B).length) ?_ ?_ (s0:=[]) ?_ h
           ·clear A h;rintro a5 ay e_ hm f9 fv a6 ⟨am,a7,aq,A⟩ h eo;rw [ue aq];refine sr (Zn rfl rfl (dn (ZMu (Z3 rfl (decide_eq_true (by omega)) (ZMy (Zd (ZMu (ZM0 (sr ?_)))))))))
            obtain ⟨ga,hn,ch⟩:=Zx (A.getP 0 rfl) a5 a6;refine Ys (len:=(C.BD B).length) ZUw sc22.size (tr rfl ch) rfl (Int.natCast_nonneg _) (Int.ofNat_lt.2 a6) ?_
            obtain ⟨ho,ci,ep,cj⟩:=Xp (A.getP 0 rfl) ch a5 a6;obtain ⟨bl,rfl⟩:=ZJj.1 ci;clear ci;rw [Xm _ _ a6] at cj
            replace A:=A.derive 0 rfl (ZMt TInts ((C.BD B).getD a5 ZEu) [bl] F1383) (λ_=>cj) (λ_ V=>V)
            refine Yr (bl) ep sc22 rfl (Zc (v:=bl) rfl (dn (Zj (Za (v:=am) rfl (Za (v:=bl) rfl (Za (v:=al) rfl (Zf [bl,al] _ Tryz.func82 rfl rfl rfl (Zsb ((C.BD B).getD a5 ZEu) aj h _ (A.getP 0 rfl) (Ym (A.getM 1 rfl))) ?_)))))))
            rintro _ hp ⟨an,ad,fw,rfl,h,er,es,et⟩;refine rt ?_
            replace A:=A.push et (ZM8 (ZT0 2 (eI.tr)) an [ad] fw) er es;obtain ⟨eu,ew⟩:=Y4 (A.getM 0 rfl).1;subst ew;replace A:=A.recast (c:=own 2 1 ad an.length (eI.encs an)) (λ_ h_=>h_) (λ_=>eu)
            refine Yn (sz:=1) A [(0,ad)] [ad] rfl (λ_=>Zaj ad (Zdw (A.getM 0 rfl)) _) rfl (by decide) λa8 hq ab A=>?_
            replace A:=A.pushM0 (Yf (ZT0 2 (eI.tr)) [] [] []) (Zaa _ _) rfl;replace A:=A.sM [2,0,1,3,4,5,6] (M':=[own 2 1 ad an.length (eI.encs an),Yf (ZT0 2 (eI.tr)) [] [] [],own 22 1 (.slice (some ⟨a8,0,none⟩) 1 1) 1 [ad],ZM8 (ZT0 22 (ZT0 2 (eI.tr))) ay [am] a7,own 4 1 al aj.length (EB.encs aj),blk ap 55 [u1_0],blk b7 32 [u0_0,u0_1]]) (by decide) rfl
            replace A:=A.gather (c:=Yf (ZT0 2 (eI.tr)) [an] [ad] [(ZNu (ZFo ad))]) (λx_ ah=>Zer ah) (λbi bj bk=>Zdu (c:=[ad]) (id (Xx bi)) bj bk)
            replace A:=A.sM [1,0,2,3,4,5] (M':=[own 22 1 (.slice (some ⟨a8,0,none⟩) 1 1) 1 [ad],Yf (ZT0 2 (eI.tr)) [an] [ad] [(ZNu (ZFo ad))],ZM8 (ZT0 22 (ZT0 2 (eI.tr))) ay [am] a7,own 4 1 al aj.length (EB.encs aj),blk ap 55 [u1_0],blk b7 32 [u0_0,u0_1]]) (by decide) rfl
            replace A:=A.gather (c:=ZM8 (ZT0 22 (ZT0 2 (eI.tr))) [an] [.slice (some ⟨a8,0,none⟩) 1 1] ((ZNu (ZFo (.slice (some ⟨a8,0,none⟩) 1 1)))++([(ZNu (ZFo ad))]:List (List Nat)).flatten)) (λx_ ah=>ZEt.1 ah) (λbi bj bk=>J0 bi bj bk)
            replace A:=A.sM [1,0,2,3,4] (M':=[ZM8 (ZT0 22 (ZT0 2 (eI.tr))) ay [am] a7,ZM8 (ZT0 22 (ZT0 2 (eI.tr))) [an] [.slice (some ⟨a8,0,none⟩) 1 1] ((ZNu (ZFo (.slice (some ⟨a8,0,none⟩) 1 1)))++([(ZNu (ZFo ad))]:List (List Nat)).flatten),own 4 1 al aj.length (EB.encs aj),blk ap 55 [u1_0],blk b7 32 [u0_0,u0_1]]) (by decide) rfl
            obtain ⟨ex,h⟩:=h;refine Zeq A ZUw Jw rfl (by decide) (by decide) rfl rfl ex λcv fx hr A=>Zc (v:=cv) rfl (done (Zq (Zd (Zj (Zo rfl rfl (Za (v:=vI (ZHf.wrap ((a5:Int)+1))) rfl (done ?_)))))))
            exact eo (ay++[an]) _ _ ⟨cv,fx,(sl ⟨rfl,rfl,rfl,rfl,rfl,rfl,rfl,(tr rfl (congrArg _ (Z7 a6 en))),trivial⟩),(A.sP [1,2,3,4,5,6,7,8] rfl)⟩ h
           ·clear A h;rintro ay e_ hs fv ⟨am,a7,aq,A⟩ h;rw [ue aq];refine sr (Zn rfl rfl (dn (ZMu (Z2 rfl (decide_eq_false (by omega)) ?_))))
            refine wp_exit (Zk (Zk (Zy ?_)))
            refine Zd (sr (Za (v:=vvP ax) rfl (Yb A 2 [u1_0] rfl ag55 rfl rfl rfl (Zf [.agg #[u1_0]] _ Tryz.func78 rfl rfl rfl (Zf1 (⟨a1.terms⟩:ZMw) h _ (Yi (A.getP 3 rfl))) ?_))))
            rintro _ ht ⟨cw,cx,rfl,h,ey,ez,e1⟩;refine rt ?_
            replace A:=A.push e1 (mapS cx cw) ey (λb_ V=>by obtain rfl:=ZFn.1 V; exact ez)
            obtain ⟨hu,hv,hw,hx,hy,hz,e2,e3⟩:=Zni (A.getP 1 rfl) (hat1378.up hle1384);refine Zf [vvP ax,.map (some cx)] _ Tryz.func85 rfl rfl rfl (Znj (⟨C.LV B,C.PL B⟩:Vc.Lvl) cw h _ e2 e3 (A.getM 0 rfl)) ?_
            rintro _ h0 ⟨bu,ck,fy,rfl,h,e4,e5,e6⟩;refine rt ?_
            replace A:=A.push e6 (ZM8 (ZT0 2 (eI.tr)) bu [ck] fy) e4 e5;obtain ⟨e7,e8⟩:=Y4 (A.getM 0 rfl).1;subst e8;replace A:=A.recast (c:=own 2 1 ck bu.length (eI.encs bu)) (λ_ h_=>h_) (λ_=>e7)
            refine Za (v:=al) rfl (Zf [ck,al] _ Tryz.func82 rfl rfl rfl (Zsb bu aj h _ (Ym (A.getM 0 rfl)) (Ym (A.getM 3 rfl))) ?_)
            rintro _ h1 ⟨bv,cl,fz,rfl,h,e9,fa,fb⟩;refine rt ?_
            replace A:=A.push fb (ZM8 (ZT0 2 (eI.tr)) bv [cl] fz) e9 fa;obtain ⟨fc,fd⟩:=Y4 (A.getM 0 rfl).1;subst fd;replace A:=A.recast (c:=own 2 1 cl bv.length (eI.encs bv)) (λ_ h_=>h_) (λ_=>fc)
            refine Za (v:=am) rfl (Zf [am] _ Tryz.func86 rfl rfl rfl (Zgh ay h _ (ZUd _ (A.getM 3 rfl).1)) ?_)
            rintro _ h2 ⟨cy,cz,f0,rfl,h,fe,ff,fg⟩;refine rt ?_
            replace A:=A.push fg (ZM8 (ZT0 22 (ZT0 2 (eI.tr))) cy [cz] f0) fe ff;refine Zf [cl,cz] _ Tryz.func84 rfl rfl rfl (Zk0 bv cy h _ (Ym (A.getM 1 rfl)) (ZUd _ (A.getM 0 rfl).1)) ?_
            rintro _ h3 ⟨bw,cm,f1,rfl,h,fh,fi,fj⟩;refine rt ?_
            replace A:=A.push fj (ZM8 (ZT0 2 (eI.tr)) bw [cm] f1) fh fi;obtain ⟨fk,fl⟩:=Y4 (A.getM 0 rfl).1;subst fl;replace A:=A.recast (c:=own 2 1 cm bw.length (eI.encs bw)) (λ_ h_=>h_) (λ_=>fk)
            refine Zf [cm] _ Tryz.func83 rfl rfl rfl (Znn bw h _ (Ym (A.getM 0 rfl))) ?_
            rintro _ h4 ⟨h5,rfl,h,fm⟩;refine rt ?_
            replace A:=A.grow fm;refine dn ?_
            refine Zp rfl (λbs=>?_) (λbs=>?_)
            ·replace h:=ift h (bs);refine sr (Za (v:=vI ai) rfl (Zc (v:=vI ai) rfl (Zc (v:=vI 0) rfl (dn ?_))))
             refine ZM3 (Z8 (Zl (Zl (Z8 (Zl ?_)))))
             exact Xv rfl (Ze rfl) (Ze rfl) ⟨ai,0,rfl,h,A.below⟩ (.inl rfl)
            ·replace h:=Zm h (Yz bs);refine ZMy (Zq (Zd (Zj (Za (v:=vI ai) rfl (J4 rfl rfl (Zc (v:=vI (ZHf.wrap (ai - 1))) rfl (done ?_)))))))
             exact ea (ZHf.wrap (ai - 1)) _ _ ⟨(slq rfl),((A.xM [7,8] rfl).sP [1,2,3,4,5,6,7] rfl)⟩ h
           ·skip;exact⟨.slice (some ⟨bh,0,none⟩) 0 0,((ZNu (ZFo (.slice (some ⟨bh,0,none⟩) 0 0)))++([]:List (List Nat)).flatten),(slq rfl),A⟩
          ·replace h:=Zm h (cf br);refine wp_exit (Zk (Zk (Zy ?_)))
           refine Zd (sr (Zc (v:=vI 0) rfl (Zc (v:=vI 0) rfl (dn (ZM3 ?_)))))
           exact Xv rfl (Ze rfl) (Ze rfl) ⟨0,0,rfl,h,A.below⟩ (.inl rfl)
         ·skip;exact⟨(slq rfl),((A.xM [4,5] rfl).sP [0,1,4,5,6,7,8] rfl)⟩
       ·skip;exact⟨(slq rfl),(A.sP [0,2,4,5,6,7,8] rfl)⟩
def Zk8 (h:Alg) (A:ZMw) (K:Bool→Prop):Prop :=
 Zii h 1048576 (λB=>(if B < 0 then K true else Zez A B (λL=>(if L < 0 then K true else Ze0 h (λO=>Zd5 A (λU=>Zi3 O U (λV aa=>Ze0 h (λG=>Zd5 A (λI=>Zi9 G I (λab ac=>(if ab≠V then K false else(if ac≠aa then K false else Ze0 h (λad=>Zf9 G ad (λae=>(if¬ (ae=true) then K false else Zd5 A (λag=>Zev I ag (λah=>(if¬ (ah=true) then K false else K true))))))))))))))))))
theorem ZAy (a0:Alg) (a1:ZMw)  {K:Bool→Prop} (h:Zk8 a0 a1 K) (w0:World) (q0:TAlg.rep a0 [u0_0,u0_1] fp0 w0) (q1:TForm.rep a1 [u1_0] fp1 w0) :
  Calls Tryz.prog 7 #[.agg #[u0_0,u0_1],.agg #[u1_0]] w0 λe w'=>∃ (r0:Bool),
   e=.returned (.bool r0)∧K r0∧Bel w0 w':=by
 unfold Zk8 at h
 refine cof Tryz.func7 rfl 58 Tryz.ntmps7 ?_
 have A:=Ctx.start (X:=Nox) w0 [ZMt TAlg a0 [u0_0,u0_1] fp0,ZMt TForm a1 [u1_0] fp1] (alc q0 (al1 q1));replace A:=A.dAlg 0 rfl;have cr:=(A.getP 3 rfl);replace A:=A.derive 3 rfl (ZMt ETerm.ty.sl a1.terms [u1_0] fp1) (λ_=>(Y9 cr)) (λ_ cu=>cu)
 refine sr (Ya (v:=.agg #[u0_0,u0_1]) A [u0_0,u0_1] rfl rfl λb7 w9 B A=>Ya (v:=.agg #[u1_0]) A [u1_0] rfl rfl λdb dc B A=>Zc (v:=.bool false) rfl (dn (sr (Zc (v:=vI 1048576) rfl (dn (sr (Yb A 1 [u0_0,u0_1] rfl Zk3 rfl rfl rfl (Za (v:=vI 1048576) rfl (Zf [.agg #[u0_0,u0_1],vI 1048576] _ Tryz.func10 rfl rfl rfl (Zx6 a0 1048576 h _ (Y3 (A.getP 2 rfl) (A.getP 1 rfl))) ?_)))))))))
 rintro _ dd ⟨ad,rfl,h,a4⟩;refine rt ?_
 replace A:=A.grow a4;refine Zc (v:=vI ad) rfl (dn (ZMu (sr (Za (v:=vI ad) rfl (Zn rfl rfl (dn ?_))))))
 refine Zp rfl (λaj=>?_) (λaj=>?_)
 ·replace h:=ift h (ct aj);refine sr (Zc (v:=.bool true) rfl (dn ?_))
  refine ZM3 (Zl ?_)
  exact Zi rfl (Ze rfl) ⟨true,rfl,h,A.below⟩ (.inl rfl)
 ·replace h:=Zm h (cf aj);refine ZMy (Zd (sr (Yb A 0 [u1_0] rfl ag50 rfl rfl rfl (Za (v:=vI ad) rfl (Zf [.agg #[u1_0],vI ad] _ Tryz.func28 rfl rfl rfl (Zq1 a1 ad h _ (Yi (A.getP 0 rfl))) ?_)))))
  rintro _ de ⟨a3,rfl,h,a5⟩;refine rt ?_
  replace A:=A.grow a5;refine Zc (v:=vI a3) rfl (dn (ZMu (sr (Za (v:=vI a3) rfl (Zn rfl rfl (dn ?_))))))
  refine Zp rfl (λak=>?_) (λak=>?_)
  ·replace h:=ift h (ct ak);refine sr (Zc (v:=.bool true) rfl (dn ?_))
   refine ZM3 (Zl ?_)
   exact Zi rfl (Ze rfl) ⟨true,rfl,h,A.below⟩ (.inl rfl)
  ·replace h:=Zm h (cf ak);refine ZMy (Zd (ZMu ?_))
   refine cwd 9 Yh [0,1,0,7,15,31,63,63,127,511] [0,2] [5,6,7,8] (λaq ac dh B=>?_)
   replace A:=A.grow B;refine bL 0 (.agg #[u0_0,u0_1]) rfl rfl aq (λ_ B=>by exact Xa (A.grow B) 1 [u0_0,u0_1] rfl Zk3 rfl rfl rfl) (Zb 10 1) (bL 2 (.agg #[u1_0]) rfl rfl aq (λ_ B=>by exact Xa (A.grow B) 0 [u1_0] rfl ag50 rfl rfl rfl) (Zb 10 5) (aO 1 rfl (Zf [.agg #[u0_0,u0_1]] _ Tryz.func12 rfl rfl rfl (Zm5 a0 h _ (Y3 (A.getP 2 rfl) (A.getP 1 rfl))) ?_)))
   rintro _ di ⟨ae,ar,au,cv,rfl,h,a6,a7,a8⟩;refine rt ?_
   replace A:=A.push a8 (ZM8 (Zfv 2 162 55) ae [ar,au] cv) a6 a7;obtain ⟨cw,a9,ba,bb,bc,bd⟩:=Zml (A.getM 0 rfl);replace A:=A.split (a:=own 2 1 ar ae.degrees.length (eI.encs ae.degrees)) (b:=ZM8 (ZT0 55 (Y0 162)) ae.images [au] cw) bb bc ⟨a9,ba,bd⟩;refine done (aK (by assumption) (Zb 10 7) (aO 3 rfl (Zf [.agg #[u1_0]] _ Tryz.func30 rfl rfl rfl (Zkf a1 h _ (Yi (A.getP 0 rfl))) ?_)))
   rintro _ dj ⟨ao,av,cx,rfl,h,be,bh,bi⟩;refine rt ?_
   replace A:=A.push bi (ZM8 (Y0 162) ao [av] cx) be bh;obtain ⟨bj,bk⟩:=X7 (A.getM 0 rfl);subst bk;replace A:=A.recast (c:=own 162 9 av ao.terms.length (ETerm.encs ao.terms)) (λ_ h_=>h_) (λ_=>bj)
   refine done (aK (by assumption) (Zb 10 15) (aO 4 rfl (Zf [.agg #[ar,au],.agg #[av]] _ Tryz.func29 rfl rfl rfl (ZAl ae ao h _ (Y3 (Ym (A.getM 1 rfl)) (ZUd _ (A.getM 2 rfl).1)) (Yi (Ym (A.getM 0 rfl)))) ?_)))
   rintro _ dk ⟨U,V,rfl,h,bl⟩;refine rt ?_
   replace A:=A.grow bl;refine done (aK (by assumption) (Zb 10 31) (bM 5 (.tuple #[vI U,vI V]) rfl ac (Zb 10 63) (bF 6 (vI U) rfl rfl ac (λ_=>by exact Zce (v:=vI U) rfl rfl) (Zb 10 127) (bF 7 (vI V) rfl rfl ac (λ_=>by exact Zce (v:=vI V) rfl rfl) (Zb 10 255) (bA 8 (vI U) rfl ac (Zb 10 511) (Z0 9 (by decide) (by decide) (by kernel_rfl) (by kernel_rfl) rfl (Zc (v:=vI V) rfl (done (Z1 (Zd (sr (Yb A 4 [u0_0,u0_1] rfl Zk3 rfl rfl rfl (Zf [.agg #[u0_0,u0_1]] _ Tryz.func12 rfl rfl rfl (Zm5 a0 h _ (Y3 (A.getP 2 rfl) (A.getP 1 rfl))) ?_)))))))))))))
   rintro _ dm ⟨aa,I,L,cy,rfl,h,bm,bn,bo⟩;refine rt ?_
   replace A:=A.push bo (ZM8 (Zfv 2 162 55) aa [I,L] cy) bm bn;obtain ⟨cz,bp,bq,br,bs,bt⟩:=Zml (A.getM 0 rfl);replace A:=A.split (a:=own 2 1 I aa.degrees.length (eI.encs aa.degrees)) (b:=ZM8 (ZT0 55 (Y0 162)) aa.images [L] cz) br bs ⟨bp,bq,bt⟩;refine Yl A [.slice none 0 0,.slice none 0 0] z32 rfl λdp dq B A=>Zz (v:=.agg #[I,L]) A 0 [I,L] [I,L] rfl ag32.size rfl rfl rfl rfl (Xr (X4 (A.getM 1 rfl)) (Xr (Zdt (ZUd _ (A.getM 2 rfl).1)) rfl)) (ZM2 rfl) rfl λdr A=>dn (sr (Yb A 6 [u1_0] rfl ag50 rfl rfl rfl (Zf [.agg #[u1_0]] _ Tryz.func30 rfl rfl rfl (Zkf a1 h _ (Yi (A.getP 0 rfl))) ?_)))
   rintro _ dt ⟨ag,O,c0,rfl,h,bu,bv,bw⟩;refine rt ?_
   replace A:=A.push bw (ZM8 (Y0 162) ag [O] c0) bu bv;obtain ⟨bx,bz⟩:=X7 (A.getM 0 rfl);subst bz;replace A:=A.recast (c:=own 162 9 O ag.terms.length (ETerm.encs ag.terms)) (λ_ h_=>h_) (λ_=>bx)
   refine Yl A [.slice none 0 0] z55 rfl λdu dv B A=>Zz (v:=.agg #[O]) A 0 [O] [O] rfl ag55.size rfl rfl rfl rfl (Xr (X4 (A.getM 1 rfl)) rfl) (ZM2 rfl) rfl λdw A=>dn (sr (Yb A 2 [I,L] rfl ag32 rfl rfl rfl (Yb A 0 [O] rfl ag55 rfl rfl rfl (Zf [.agg #[I,L],.agg #[O]] _ Tryz.func31 rfl rfl rfl (ZAx aa ag h _ (Y3 (Ym (A.getM 3 rfl)) (ZUd _ (A.getM 4 rfl).1)) (Yi (Ym (A.getM 1 rfl)))) ?_))))
   rintro _ dx ⟨ab,ah,rfl,h,b8⟩;refine rt ?_
   replace A:=A.grow b8;refine Za (v:=.tuple #[vI ab,vI ah]) rfl (Yj (v:=vI ab) rfl rfl (Yj (v:=vI ah) rfl rfl (Zc (v:=vI ab) rfl (Zc (v:=vI ah) rfl (dn (ZMu (sr (Za (v:=vI ab) rfl (Za (v:=vI U) rfl (Y2 rfl rfl (Za (v:=.bool (decide (ab≠U))) rfl ?_)))))))))))
   refine Y6 (decide (ab≠U)) (λG=>?_) (λG=>?_)
   ·replace h:=ift h (ct G);refine Zg (b:=true) 3 43 rfl (tr rfl (congrArg _ G)) (by decide) (Zg (b:=true) 3 43 rfl (tr rfl (congrArg _ G)) (by decide) (Zg (b:=true) 3 43 rfl (tr rfl (congrArg _ G)) (by decide) (Zs (v:=.bool true) (b:=true) (tr rfl (congrArg _ G)) rfl (dn (Z3 rfl rfl (sr (Zc (v:=.bool false) rfl (dn ?_))))))))
    refine ZM3 (Zl ?_)
    exact Zi rfl (Ze rfl) ⟨false,rfl,h,A.below⟩ (.inl rfl)
   ·replace h:=Zm h (cf G);refine Zh 3 43 rfl rfl G (Za (v:=vI ah) rfl (Zh 3 43 rfl rfl G (Za (v:=vI V) rfl (Zh 3 43 rfl rfl G (Y2 rfl rfl (Zs (v:=.bool (decide (ah≠V))) (b:=false) (tr rfl (congrArg _ G)) rfl (dn ?_)))))))
    refine Zp rfl (λal=>?_) (λal=>?_)
    ·replace h:=ift h (ct al);refine sr (Zc (v:=.bool false) rfl (dn ?_))
     refine ZM3 (Zl ?_)
     exact Zi rfl (Ze rfl) ⟨false,rfl,h,A.below⟩ (.inl rfl)
    ·replace h:=Zm h (cf al);refine ZMy (Zd (ZMu (ZMu ?_)))
     refine cwd 3 Yh [0,0,2,7,15] [0,1] [] (λaw c9 dy B=>?_)
     replace A:=A.grow B;refine bL 0 (.agg #[I,L]) rfl rfl aw (λ_ B=>by exact Xa (A.grow B) 2 [I,L] rfl ag32 rfl rfl rfl) (Zb 5 1) (bL 1 (.agg #[u0_0,u0_1]) rfl rfl aw (λ_ B=>by exact Xa (A.grow B) 9 [u0_0,u0_1] rfl Zk3 rfl rfl rfl) (Zb 5 3) (aO 2 rfl (Zf [.agg #[u0_0,u0_1]] _ Tryz.func12 rfl rfl rfl (Zm5 a0 h _ (Y3 (A.getP 2 rfl) (A.getP 1 rfl))) ?_)))
     rintro _ dz ⟨ai,ax,ay,c6,rfl,h,b9,ca,cb⟩;refine rt ?_
     replace A:=A.push cb (ZM8 (Zfv 2 162 55) ai [ax,ay] c6) b9 ca;obtain ⟨c7,cc,ce,cg,ch,ci⟩:=Zml (A.getM 0 rfl);replace A:=A.split (a:=own 2 1 ax ai.degrees.length (eI.encs ai.degrees)) (b:=ZM8 (ZT0 55 (Y0 162)) ai.images [ay] c7) cg ch ⟨cc,ce,ci⟩;refine done (aK (by assumption) (Zb 5 7) (Z0 3 (by decide) (by decide) (by kernel_rfl) (by kernel_rfl) rfl (Zf [.agg #[I,L],.agg #[ax,ay]] _ Tryz.func15 rfl rfl rfl (Zx8 aa ai h _ (Y3 (Ym (A.getM 5 rfl)) (ZUd _ (A.getM 6 rfl).1)) (Y3 (Ym (A.getM 0 rfl)) (ZUd _ (A.getM 1 rfl).1))) ?_)))
     rintro _ d0 ⟨d1,rfl,h,cj⟩;refine rt ?_
     replace A:=A.grow cj;refine Xe rfl (done (Z1 (Zd ?_)))
     refine Zp rfl (λam=>?_) (λam=>?_)
     ·replace h:=ift h (Yz (Xi am));refine sr (Zc (v:=.bool false) rfl (dn ?_))
      refine ZM3 (Zl ?_)
      exact Zi rfl (Ze rfl) ⟨false,rfl,h,A.below⟩ (.inl rfl)
     ·replace h:=Zm h (not_not_intro ((Xj am)));refine ZMy (Zd (ZMu (ZMu ?_)))
      refine cwd 3 Yh [0,0,2,7,15] [0,1] [] (λaz da d2 B=>?_)
      replace A:=A.grow B;refine bL 0 (.agg #[O]) rfl rfl az (λ_ B=>by exact Xa (A.grow B) 2 [O] rfl ag55 rfl rfl rfl) (Zb 5 1) (bL 1 (.agg #[u1_0]) rfl rfl az (λ_ B=>by exact Xa (A.grow B) 10 [u1_0] rfl ag50 rfl rfl rfl) (Zb 5 3) (aO 2 rfl (Zf [.agg #[u1_0]] _ Tryz.func30 rfl rfl rfl (Zkf a1 h _ (Yi (A.getP 0 rfl))) ?_)))
      rintro _ d3 ⟨ap,a2,c8,rfl,h,ck,cl,cm⟩;refine rt ?_
      replace A:=A.push cm (ZM8 (Y0 162) ap [a2] c8) ck cl;obtain ⟨cn,cp⟩:=X7 (A.getM 0 rfl);subst cp;replace A:=A.recast (c:=own 162 9 a2 ap.terms.length (ETerm.encs ap.terms)) (λ_ h_=>h_) (λ_=>cn)
      refine done (aK (by assumption) (Zb 5 7) (Z0 3 (by decide) (by decide) (by kernel_rfl) (by kernel_rfl) rfl (Zf [.agg #[O],.agg #[a2]] _ Tryz.func32 rfl rfl rfl (Zqo ag ap h _ (Yi (Ym (A.getM 4 rfl))) (Yi (Ym (A.getM 0 rfl)))) ?_)))
      rintro _ d4 ⟨d5,rfl,h,cq⟩;refine rt ?_
      replace A:=A.grow cq;refine Xe rfl (done (Z1 (Zd ?_)))
      refine Zp rfl (λan=>?_) (λan=>?_)
      ·replace h:=ift h (Yz (Xi an));refine sr (Zc (v:=.bool false) rfl (dn ?_))
       refine ZM3 (Zl ?_)
       exact Zi rfl (Ze rfl) ⟨false,rfl,h,A.below⟩ (.inl rfl)
      ·replace h:=Zm h (not_not_intro ((Xj an)));refine ZMy (Zd (sr (Zc (v:=.bool true) rfl (dn (ZM3 ?_)))))
       exact Zi rfl (Ze rfl) ⟨true,rfl,h,A.below⟩ (.inl rfl)
end Go.Proofs.YtaagfepgbofmlaaGreat
namespace Go.Proofs.YtaagfepgbofmlaaGreat
open Go Vc
def goN:Nat→Nat→Nat→Nat→Nat
 | 0,_,o,_=>o
 | f+1,x,o,k=>if k=0 then o else goN f (x * x % 10007) (if k % 2=1 then o * x % 10007 else o) (k / 2)
def Zbt (x:Nat):Nat:=goN 14 x 1 10005
def chk (a:Nat):Bool:=(ZFk 101).all λb=>(101 * a+b == 0) || Nat.blt 10006 (101 * a+b) || (101 * a+b) * Zbt (101 * a+b) % 10007 == 1
theorem ZAz:(ZFk 100).all chk=true:=by decide +kernel
theorem ZA0 {x:Nat} (A:1≤x) (B:x≤10006):x * Zbt x % 10007=1:=by
 have h:=List.all_eq_true.1 ZAz (x / 101) (ZGf.2 (by omega))
 have h':=List.all_eq_true.1 h (x % 101) (ZGf.2 (by omega))
 have e:101 * (x / 101)+x % 101=x:=Nat.div_add_mod x 101;rw [e] at h'
 simp only [Bool.or_eq_true,beq_iff_eq] at h'
 rcases h' with (q | q) | q
 ·omega
 ·rw [Nat.blt_eq] at q; omega
 ·exact q
theorem ZA1 (f x o:Nat):goN f x o 0=o:=by
 cases f with
 | zero=>rfl
 | succ f=>rw [goN,if_pos rfl]
theorem ZA2 {f x o k:Nat} (hk:k≠0):goN (f+1) x o k=goN f (x * x % 10007) (if k % 2=1 then o * x % 10007 else o) (k / 2):=by
 rw [goN,if_neg hk]
theorem ZA3:∀ (f x o k:Nat),o≤10006→goN f x o k≤10006:=by
 intro f
 induction f with
 | zero=>intro x o k h; exact h
 | succ f ih =>
  intro x o k h;rw [goN];split
  ·exact h
  ·refine ih _ _ _ ?_
   split
   ·omega
   ·exact h
theorem Zsc (x:Nat):Zbt x≤10006:=ZA3 _ _ _ _ (by omega)
theorem ZA4 {a b:Nat} (ha:a≤10006) (hb:b≤10006):a * b≤100120036:=Nat.mul_le_mul ha hb
theorem Zsd {a b:Nat} (ha:a≤10006) (hb:b≤10006):ZFl (ZHf.wrap ((a:Int) * (b:Int))) 10007=((a * b % 10007:Nat):Int):=by
 have h:=ZA4 ha hb;rw [show (a:Int) * (b:Int)=((a * b:Nat):Int) by simp,i64_in _ (by omega),ZP9 (by omega)]
 rfl
def InvSt (x:Nat) (X O k:Int):Prop:=∃ (f x' o' k':Nat),X=x'∧O=o'∧k=k'∧x'≤10006∧o'≤10006∧(k' < 2 ^ f∧k'≤10005)∧goN f x' o' k'=Zbt x
theorem InvSt.start {x:Nat} (hx:x≤10006):InvSt x x 1 10005:=⟨14,x,1,10005,rfl,rfl,rfl,hx,by omega,⟨by decide,by omega⟩,rfl⟩
theorem InvSt.step {x:Nat} {X O k:Int} (h:InvSt x X O k) (hk:k > 0) :
  InvSt x (ZFl (ZHf.wrap (X * X)) 10007) (if ZFl k 2=1 then ZFl (ZHf.wrap (O * X)) 10007 else O) (ZHf.wrap (Int.tdiv k 2))∧(ZHf.wrap (Int.tdiv k 2)).toNat < k.toNat:=by
 obtain ⟨f,x',o',k',rfl,rfl,rfl,A,L,⟨B,V⟩,G⟩:=h;have I:k'≠0:=by omega
 cases f with
 | zero=>simp at B; omega
 | succ f =>
  rw [ZA2 I] at G
  have U:Int.tdiv (k':Int) 2=((k' / 2:Nat):Int):=by rw [Z2h (by omega)]; rfl
  have e2:(ZFl (k':Int) 2=1)↔k' % 2=1:=by rw [ZP9 (by omega)]; omega
  rw [U,Zsd A A,i64_in ((k' / 2:Nat):Int) (by omega)]
  refine⟨⟨f,_,if k' % 2=1 then o' * x' % 10007 else o',k' / 2,rfl,?_,rfl,by omega,?_,⟨?_,by omega⟩,G⟩,by omega⟩
  ·by_cases q:k' % 2=1
   ·rw [if_pos q,if_pos (e2.2 q),Zsd L A]
   ·rw [if_neg q,if_neg (λz=>q (e2.1 z))]
  ·split <;> omega
  ·rw [Nat.pow_succ] at B; omega
theorem InvSt.done {x:Nat} {X O k:Int} (h:InvSt x X O k) (hk:¬ k > 0):O=Zbt x:=by
 obtain ⟨f,x',o',k',rfl,rfl,rfl,B,G,⟨I,L⟩,A⟩:=h;obtain rfl:k'=0:=by omega
 rw [ZA1] at A; rw [A]
theorem ZA5 {x:Nat} (hx:x≤10006) {K:Int→Prop} (h:K (Zbt x)):Ziq (x:Int) K:=by
 unfold Ziq;refine Jg (λ(s:Int×Int×Int)=>InvSt x s.1 s.2.1 s.2.2) (λs=>s.2.2.toNat) ?_ (InvSt.start hx)
 rintro ⟨X,O,k⟩ next g hn;dsimp only at g hn ⊢
 by_cases hk:k > 0
 ·refine Yy hk ?_
  obtain ⟨A,B⟩:=g.step hk;by_cases q:ZFl k 2=1
  ·rw [if_pos q] at A
   exact Yy q (hn _ A B)
  ·rw [if_neg q] at A
   exact Yw q (hn _ A B)
 ·refine Yw hk ?_
  rw [g.done hk]; exact h
theorem ZA6 {x:Nat} (hx:x≤10006) {K:Int→Prop} (h:K (Zbt x)):Ze9 (x:Int) K:=by
 unfold Ze9;refine Jg (λ(s:Int×Int×Int)=>InvSt x s.2.1 s.1 s.2.2) (λs=>s.2.2.toNat) ?_ (InvSt.start hx)
 rintro ⟨O,X,k⟩ next g hn;dsimp only at g hn ⊢
 by_cases hk:k > 0
 ·refine Yy hk ?_
  obtain ⟨A,B⟩:=g.step hk;by_cases q:ZFl k 2=1
  ·rw [if_pos q] at A
   exact Yy q (hn _ A B)
  ·rw [if_neg q] at A
   exact Yw q (hn _ A B)
 ·refine Yw hk ?_
  rw [g.done hk]; exact h
end Go.Proofs.YtaagfepgbofmlaaGreat
namespace Go.Proofs.YtaagfepgbofmlaaGreat
open Go Vc
def Jx (n:Nat) (rows:List (List Int)):Prop:=∀ a,a∈rows→RowOk n a
theorem Zaz (a:List Int) (j:Nat):a.getD j ZEu=vec a j:=rfl
theorem Zgr (w:List (List Int)) (i:Nat):w.getD i ZEu=at_ w i:=rfl
theorem Zns {a b:Int} (ha:0≤a∧a≤10006) (hb:0≤b∧b≤10006):0≤a * b∧a * b≤100120036:=⟨Z1i ha.1 hb.1,Z17 ha.2 hb.2 hb.1 (by omega)⟩
theorem Zja {a:List Int} {i:Nat} (hi:i < a.length) (x:Int) (j:Nat):vec (a.set i x) j=if j=i then x else vec a j:=by
 unfold vec;simp only [ZE0];by_cases e:j=i
 ·subst e; rw [if_pos rfl,List.getElem?_set_self hi]; rfl
 ·rw [if_neg e,List.getElem?_set_ne (λz=>e z.symm)]
theorem Znt {n:Nat} {a b r:List Int} (hl:r.length=n) (hb:b.length=n) (h:∀ j,j < n→vec r j=vec b j):r=b :=
 Zls (hl.trans hb.symm) λj=>by
  by_cases q:j < n
  ·exact h j q
  ·rw [Jd (by omega),Jd (by omega)]
theorem Zse {a:List Int} {K:List Int→Prop} (hl:a.length≤1000000) (h:K a):Zip a K :=
 ⟨λe=>e ▸ h,by unfold Z4; omega,h⟩
theorem Zsf {n:Nat} {a b:List Int} {k:Int} {K:List Int→Prop} (ha:RowOk n a) (hb:RowOk n b) (hk:0≤k∧k≤10006) (h:K (subR k a b)):Zgg a b k K:=by
 unfold Zgg;have hl:=ha.len.trans hb.len.symm;refine Yu (λi (s:List Int)=>s.length=n∧∀ j,vec s j=if j < i then(vec a j - k * vec b j) % 10007 else vec a j) b.length ?_ ?_ _ _ _ (by omega) ⟨ha.len,λj=>by rw [if_neg (by omega)]⟩
 ·rintro i s next hi ⟨B,A⟩ hn;have hi':i < n:=by rw [← hb.len]; exact hi
  have G:s.getD i ZEu=vec a i:=by rw [Zaz,A,if_neg (by omega)]
  have pb:=Zns hk (hb.rng i);have ra:=ha.rng i;rw [G,Zaz b i,i64_in (k * vec b i) (by omega),ZP9 pb.1,i64_in _ (by omega)]
  refine⟨by omega,Zm7 ⟨by omega,hn _ ⟨by rw [ZNp]; exact B,λj=>?_⟩⟩⟩
  rw [Zja (by omega),A]
  by_cases e:j=i
  ·subst e; rw [if_pos rfl,if_pos (by omega)]; omega
  ·rw [if_neg e];by_cases c:j < i
   ·rw [if_pos c,if_pos (by omega)]
   ·rw [if_neg c,if_neg (by omega)]
 ·rintro s ⟨B,A⟩;have:s=subR k a b:=Znt (a:=a) B (by rw [Zgx hl,ha.len]) λj hj=>by rw [A,if_pos (by rw [hb.len]; exact hj),Zba hl]
  rw [this]; exact h
theorem Znu {n:Nat} {a b:List Int} {k:Int} {K:List Int→Prop} (ha:RowOk n a) (hb:RowOk n b) (G:n≤1000000) (hk:0≤k∧k≤10006) (h:K (subR k a b)):Jj a b k K:=by
 unfold Jj;have hl:=ha.len.trans hb.len.symm;have hla:=ha.len;refine⟨by omega,?_⟩
 rw [Z1a];refine Yu (λi (s:List Int)=>s.length=n∧∀ j,j < i→vec s j=(vec a j - k * vec b j) % 10007) a.length ?_ ?_ _ _ _ (by omega) ⟨by simp [hla],λj hj=>by omega⟩
 ·rintro i s next hi ⟨A,B⟩ hn;have pb:=Zns hk (hb.rng i);have ra:=ha.rng i;rw [Zaz a i,Zaz b i,i64_in (k * vec b i) (by omega),i64_in _ (by omega)]
  refine⟨by omega,Zdc ⟨by omega,hn _ ⟨by rw [ZNp]; exact A,λj hj=>?_⟩⟩⟩
  rw [Zja (by omega)]
  by_cases e:j=i
  ·subst e; rw [if_pos rfl]
  ·rw [if_neg e]; exact B j (by omega)
 ·rintro s ⟨A,B⟩;have:s=subR k a b:=Znt (a:=a) A (by rw [Zgx hl,ha.len]) λj hj=>by rw [B j (by omega),Zba hl]
  rw [this]; exact h
theorem Znv {a:List Int} {K:Int→Prop} (hl:a.length≤1000000) (h:ld a < a.length→K (ld a)) (A:(∀ j,vec a j=0)→K (-1)):Zbe a K:=by
 unfold Zbe;refine Yu (λi (s:Unit)=>∀ j,j < i→vec a j=0) a.length ?_ ?_ _ _ _ (by omega) (λj hj=>by omega)
 ·intro i s next hi g hn;rw [Zaz];by_cases q:vec a i≠0
  ·refine Yy q ?_
   have e:=Zdk (λj hj=>g j hj) q
   have:=h (by rw [e]; exact hi)
   rwa [e] at this
  ·refine Yw q (hn _ λj hj=>?_)
   by_cases e:j=i
   ·subst e; exact ZH3.1 q
   ·exact g j (by omega)
 ·intro s g
  exact A λj=>by
   by_cases q:j < a.length
   ·exact g j q
   ·exact Jd (by omega)
theorem Zsg {n:Nat} {a:List Int} {K:Int→Prop} (hn:n≤1000000) (ha:RowOk n a∧vec a (ld a)=1) (h:K (ld a)):Zbe a K :=
 Znv (by rw [ha.1.len]; exact hn) (λ_=>h) λz=>by have:=z (ld a); rw [ha.2] at this; exact absurd this (by decide)
theorem Zsh {n:Nat} {row:List Int} {out:List (List Int)} {K:List Int→Prop} (A:Rref n out) (hn:n≤1000000) (ho:out.length≤1000000) (hr:RowOk n row) (h:∀ r,IsBy n out row r→K r):Zgj row out K:=by
 unfold Zgj;refine Yu (λi (s:List Int)=>IsBy n (out.take i) row s) out.length ?_ ?_ _ _ _ (by omega) (by simpa using IsBy.nil hr)
 ·intro i s next hi g hn';have hm:=Yx (l:=out) hi;have hz:=A.ok _ hm;have hlz:=Zg1 hz;refine Zsg hn hz ⟨⟨by omega,by rw [g.ok.len]; omega⟩,?_⟩
  rw [Z1a,Zaz s]
  have hsp:out.take i++out.getD i ZEu::out.drop (i+1)=out:=by
   rw [show out.getD i ZEu=out[i] by simp [ZE0,hi],Z2i hi,ZIx]
  have hR':Rref n (out.take i++out.getD i ZEu::out.drop (i+1)):=by rw [hsp]; exact A
  by_cases q:vec s (ld (out.getD i ZEu))≠0
  ·refine Yy q ⟨⟨by omega,by rw [g.ok.len]; omega⟩,Znu g.ok hz.1 hn (g.ok.rng _) (hn' _ ?_)⟩
   rw [Xu hi]; exact g.step hR'
  ·refine Yw q (hn' _ ?_)
   rw [Xu hi]; exact g.same hR' (ZH3.1 q)
 ·intro s g;rw [Z1g] at g; exact h s g
theorem Zsi (n:Nat):RowOk n (ZEp n (0:Int)):=⟨by simp,λj=>by
 have:vec (ZEp n (0:Int)) j=0:=by
  by_cases q:j < n
  ·rw [Zcw (by simpa using q)]; simp
  ·exact Jd (by simp; omega)
 omega⟩
theorem Zk9 (n j:Nat):vec (ZEp n (0:Int)) j=0:=by
 by_cases q:j < n
 ·rw [Zcw (by simpa using q)]; simp
 ·exact Jd (by simp; omega)
theorem ZA7 {n:Nat} {r:List Int} {k:Int} (hr:RowOk n r):subR ((0 - k) % 10007) (ZEp n (0:Int)) r=Xn k r:=by
 have hl:(ZEp n (0:Int)).length=r.length:=by simp [hr.len]
 refine(Zgy (Zsi n) hr).ext (Zfk hr) λj=>?_
 rw [Zba hl,Zbi,Zk9];have e:((0 - k) % 10007 * vec r j) % 10007=((0 - k) * vec r j) % 10007:=by rw [ZE5,Int.emod_emod,← ZE5]
 have h:(0 - k) * vec r j=- (vec r j * k):=by rw [Int.zero_sub,Int.neg_mul,ZGk]
 rw [h] at e
 generalize (0 - k) % 10007 * vec r j=x at *
 generalize vec r j * k=y at *
 omega
theorem Znw {x:Int} (h:1≤x∧x≤10006):x * ((Zbt x.toNat:Nat):Int) % 10007=1:=by
 have e:x=((x.toNat:Nat):Int):=by omega
 have:=ZA0 (x:=x.toNat) (by omega) (by omega)
 rw [e,Z1a];rw [← Int.natCast_mul]
 have A:((x.toNat * Zbt x.toNat % 10007:Nat):Int)=1:=by rw [this]; rfl
 rw [← A]; rfl
theorem ZA8 {n:Nat} {rows out:List (List Int)} {row:List Int} {K:List (List Int)→Prop} (h:IsRref n rows out) (hn:n≤1000000) (ho:out.length≤1000000) (hr:RowOk n row) (V:∀ out',IsRref n (rows++[row]) out'→out'.length≤out.length+1→K out'):Ziz out row K:=by
 unfold Ziz;refine Zsh h.red hn ho hr λr hb=>?_
 have hrl:=hb.ok.len;refine Znv (by omega) (λhlt=>Yw (by omega) ?_) (λhz=>Yy (by decide) (V _ (h.put0 hb hz) (by omega)))
 have hnz:=Zdj hlt;have hrg:=hb.ok.rng (ld r);have U:1≤vec r (ld r)∧vec r (ld r)≤10006:=by omega
 have hinv:=Znw U;obtain ⟨l1,I,e,L,O⟩:=h.red.split_at (ld r);generalize hk:((Zbt (vec r (ld r)).toNat:Nat):Int)=k at hinv
 have hput:=(e ▸ h:IsRref n rows (l1++I)).put (e ▸ hb:IsBy n (l1++I) row r) hinv L O;have kb:0≤k∧k≤10006:=by have:=Zsc (vec r (ld r)).toNat; omega
 have rows_len:∀ z,z∈out→RowOk n z∧vec z (ld z)=1:=λz hz=>h.red.ok z hz
 have mok:RowOk n (Xn k r):=Zfk hb.ok
 -- the walk Znt the rows
 have tail:∀ q:List Int,q=Xn k r→Z9 (λB (A:(List (List Int))×Bool) G=>(if¬ (A.2=true) then Zbe (out.getD B ZEu) (λaa=>(if aa > ((ld r:Nat):Int) then(Z4 (A.1.length+1) 24∧((0≤((ld r:Nat):Int)∧((ld r:Nat):Int) < ((out.getD B ZEu).length:Int))∧Jj (out.getD B ZEu) q ((out.getD B ZEu).getD ((ld r:Nat):Int).toNat ZEu) (λab=>(Z4 ((A.1++[q]).length+1) 24∧G ((A.1++[q])++[ab],true))))) else((0≤((ld r:Nat):Int)∧((ld r:Nat):Int) < ((out.getD B ZEu).length:Int))∧Jj (out.getD B ZEu) q ((out.getD B ZEu).getD ((ld r:Nat):Int).toNat ZEu) (λac=>(Z4 (A.1.length+1) 24∧G (A.1++[ac],A.2)))))) else((0≤((ld r:Nat):Int)∧((ld r:Nat):Int) < ((out.getD B ZEu).length:Int))∧Jj (out.getD B ZEu) q ((out.getD B ZEu).getD ((ld r:Nat):Int).toNat ZEu) (λad=>(Z4 (A.1.length+1) 24∧G (A.1++[ad],A.2)))))) (λ(A:(List (List Int))×Bool)=>(if¬ (A.2=true) then(Z4 (A.1.length+1) 24∧K (A.1++[q])) else K A.1)) out.length 0 ([],false):=by
  rintro q rfl;have lout:out.length=l1.length+I.length:=by rw [e,ZFj]
  let f:List Int→List Int:=λz=>subR (vec z (ld r)) z (Xn k r)
  have hput':IsRref n (rows++[row]) (l1.map f++Xn k r::I.map f):=hput;refine Yu (λi (s:List (List Int)×Bool)=>(i≤l1.length∧s=((l1.take i).map f,false))∨(l1.length < i∧s=(l1.map f++Xn k r::(I.take (i - l1.length)).map f,true))) out.length ?_ ?_ _ _ _ (by omega) (.inl ⟨Nat.zero_le _,by simp⟩)
  ·rintro i s next hi hs hn';have hm:=Yx (l:=out) hi;have hz:=rows_len _ hm;have hlz:=Zg1 hz;have b1:0≤((ld r:Nat):Int)∧((ld r:Nat):Int) < ((out.getD i ZEu).length:Int):=by rw [hz.1.len]; omega
   have less:∀ K':List Int→Prop,K' (f (out.getD i ZEu))→Jj (out.getD i ZEu) (Xn k r) ((out.getD i ZEu).getD ((ld r:Nat):Int).toNat ZEu) K':=λK' q=>Znu hz.1 mok hn (hz.1.rng _) q
   rcases hs with ⟨hil,rfl⟩ | ⟨hil,rfl⟩
   ·dsimp only;refine Yy (by decide) (Zsg hn hz ?_)
    by_cases c:i < l1.length
    ·have eg:out.getD i ZEu=l1.getD i ZEu:=by rw [e]; simp only [ZE0]; rw [List.getElem?_append_left c]
     have ae:ld (out.getD i ZEu) < ld r:=L _ (by rw [eg]; exact Yx c)
     refine Yw (by omega) ⟨b1,less _ ⟨by rw [Z08,ZUe]; unfold Z4; omega,hn' _ (.inl ⟨by omega,?_⟩)⟩⟩
     rw [Xu c,ZT6,eg]; rfl
    ·obtain rfl:i=l1.length:=by omega
     have c2:0 < I.length:=by omega
     have eg:out.getD l1.length ZEu=I.getD 0 ZEu:=by rw [e]; simp only [ZE0]; rw [List.getElem?_append_right (ZEs _),Nat.sub_self]
     have hge:=O _ (by rw [eg]; exact Yx c2:out.getD l1.length ZEu∈I)
     have hne:ld (out.getD l1.length ZEu)≠ld r:=λz=>by
      have:=hb.clr _ hm;rw [z] at this; exact hnz this
     refine Yy (by omega) ⟨by rw [Z08,ZUe]; unfold Z4; omega,b1,less _ ⟨by rw [ZFj,Z08,ZUe,List.length_singleton]; unfold Z4; omega,hn' _ (.inr ⟨by omega,?_⟩)⟩⟩
     rw [Z1g,show l1.length+1 - l1.length=1 by omega,show I.take 1=[I.getD 0 ZEu] by
      cases I with
      | nil=>simp at c2
      | cons x y=>rfl,eg]
     simp
   ·dsimp only;have c2:i - l1.length < I.length:=by omega
    have eg:out.getD i ZEu=I.getD (i - l1.length) ZEu:=by rw [e]; simp only [ZE0]; rw [List.getElem?_append_right (by omega)]
    refine Yw (by decide) ⟨b1,less _ ⟨by rw [ZFj,ZHt,Z08,Z08,ZUe]; unfold Z4; omega,hn' _ (.inr ⟨by omega,?_⟩)⟩⟩
    rw [show i+1 - l1.length=(i - l1.length)+1 by omega,Xu c2,ZT6,eg,List.append_assoc]; rfl
  ·rintro s hs;have fin:K (l1.map f++Xn k r::I.map f):=V _ hput' (by rw [ZFj,ZHt,Z08,Z08]; omega)
   rcases hs with ⟨hil,rfl⟩ | ⟨hil,rfl⟩
   ·have h0:I=[]:=List.eq_nil_of_length_eq_zero (by omega)
    dsimp only;refine Yy (by decide) ⟨by rw [Z08,ZUe]; unfold Z4; omega,?_⟩
    rw [ZF0 (by omega)]
    rw [h0] at fin; exact fin
   ·dsimp only;refine Yw (by decide) ?_
    rw [ZF0 (by omega)]; exact fin
 have hv:r.getD (((ld r:Nat):Int)).toNat ZEu=(((vec r (ld r)).toNat:Nat):Int):=by rw [Z1a,Zaz]; omega
 have inv:∀ K':Int→Prop,K' k→Ze9 (r.getD (((ld r:Nat):Int)).toNat ZEu) K':=λK' q=>by
  rw [hv]; exact ZA6 (by omega) (by rw [hk]; exact q)
 have less0:∀ K':List Int→Prop,K' (Xn k r)→Jj (ZEp ((r.length:Int).toNat) (0:Int)) r ((0 - k) % 10007) K':=λK' q=>by
  rw [Z1a,hrl];exact Znu (Zsi n) hb.ok hn (by omega) (by rw [ZA7 hb.ok]; exact q)
 have md:∀ K':Int→Prop,K' ((0 - k) % 10007)→X8 (ZHf.wrap (0 - k)) K':=λK' q=>by
  rw [i64_in _ (by omega)]; exact Zdc q
 have rm:(0:Int)≤(r.length:Int)∧(r.length:Int) * 8≤281474976710656:=by omega
 refine⟨by omega,⟨rm,inv _ (md _ (less0 _ (tail _ rfl)))⟩,inv _ ⟨⟨rm,md _ (less0 _ (tail _ rfl))⟩,md _ ⟨rm,less0 _ (tail _ rfl)⟩⟩⟩
theorem Znx {n:Nat} {rows:List (List Int)} {K:List (List Int)→Prop} (hr:Jx n rows) (hn:n≤1000000) (hl:rows.length≤1000000) (h:∀ out,IsRref n rows out→out.length≤rows.length→K out):Zfa rows K:=by
 unfold Zfa;refine Yu (λi (s:List (List Int))=>IsRref n (rows.take i) s∧s.length≤i) rows.length ?_ ?_ _ _ _ (by omega) ⟨by simpa using IsRref.zero n,ZEs _⟩
 ·rintro i s next hi ⟨A,B⟩ hn';refine ZA8 A hn (by omega) (hr _ (Yx hi)) λout' G I=>hn' _ ⟨?_,by omega⟩
  rw [Xu hi]; exact G
 ·rintro s ⟨A,B⟩;rw [Z1g] at A; exact h s A B
theorem ZA9 {l:List (List Int)} {c:Nat} {K:Int→Prop} (hl:l.length≤1000000) (hc:∀ i,i < l.length→c < (at_ l i).length) (A:∀ i,i < l.length→vec (at_ l i) c≠0→(∀ j,j < i→vec (at_ l j) c=0)→K i) (B:(∀ i,i < l.length→vec (at_ l i) c=0)→K (-1)):Ze6 l (λh K_=>Zea h (c:Int) K_) K:=by
 unfold Ze6;refine Yu (λi (s:Unit)=>∀ j,j < i→vec (at_ l j) c=0) l.length ?_ ?_ _ _ _ (by omega) (λj hj=>by omega)
 ·intro i s next hi g hn
  show Zea (at_ l i) (c:Int) (λr=>if r=true then K (i:Int) else next ())
  unfold Zea;have:=hc i hi;rw [Z1a,Zaz];refine⟨by omega,?_⟩
  by_cases q:vec (at_ l i) c=0
  ·rw [decide_eq_false (λz=>z q)]
   refine Yw (by decide) (hn _ λj hj=>?_)
   by_cases e:j=i
   ·subst e; exact q
   ·exact g j (by omega)
  ·rw [decide_eq_true q];exact Yy rfl (A i hi q g)
 ·intro s g;exact B λi hi=>g i hi
theorem Zny (l:List (List Int)) (d i:Nat):at_ (l.drop d) i=at_ l (d+i):=by unfold at_; simp only [ZE0]; rw [List.getElem?_drop]
theorem ZBa (l:List (List Int)) (i j:Nat):Xl ZEu l i j=Zaq l i j:=rfl
theorem Zjb {n:Nat} {rows:List (List Int)} {K:List (List Int)→Prop} (hr:Jx n rows) (hn:n≤1000000) (hl:rows.length≤1000000) (h:∀ out,IsRref n rows out→out.length≤rows.length→K out):Za8 rows K:=by
 unfold Za8;refine Yu (λi (s:List (List Int))=>s=rows.take i) rows.length ?_ ?_ _ _ _ (by omega) (by simp)
 ·rintro i s next hi rfl hn';have:=hr _ (Yx hi);refine Zse (by rw [this.len]; exact hn) ⟨by rw [ZUe]; unfold Z4; omega,hn' _ ?_⟩
  rw [Xu hi]
 ·rintro s rfl;rw [Z1g];refine Jg (λ(s:List (List Int)×Int×Int)=>0≤s.2.1∧0≤s.2.2∧s.2.2≤n∧s.1.length=rows.length∧Inv n rows s.1 s.2.1.toNat s.2.2.toNat) (λs=>n - s.2.2.toNat) ?_ ⟨Z1b _,Z1b _,by dsimp only; omega,rfl,Inv.start hr⟩
  rintro ⟨w,d,c⟩ next ⟨g1,g2,g3,g4,g5⟩ hn';dsimp only at g1 g2 g3 g4 g5 hn' ⊢
  have hdl:=g5.dl;have fin:(d.toNat=w.length∨n≤c.toNat)→K (w.take d.toNat):=λq=>h _ (g5.fin q) (by rw [ZUe]; omega)
  by_cases hd:d < (w.length:Int)
  ·have hdn:d.toNat < w.length:=by omega
   have h0len:=(g5.ok 0 (by omega)).len
   refine Yy hd ⟨by omega,?_⟩
   rw [Zgr,h0len];by_cases hc:c < (n:Int)
   ·refine Yy hc ⟨by omega,?_⟩
    have hcn:c.toNat < n:=by omega
    have ec:c=((c.toNat:Nat):Int):=by omega
    have c1:(c+1).toNat=c.toNat+1:=by omega
    have d1:(d+1).toNat=d.toNat+1:=by omega
    rw [i64_in (c+1) (by omega),i64_in (d+1) (by omega)]
    generalize hQ:(λab K_=>Zea ab c K_)=Q
    rw [ec] at hQ
    subst hQ;refine ZA9 (by rw [ZGw]; omega) (λi hi=>?_) (λi hi hnz hz=>?_) (λhz=>?_)
    ·rw [ZGw] at hi
     rw [Zny,(g5.ok _ (by omega)).len]; exact hcn
    ·rw [ZGw] at hi
     rw [Zny] at hnz
     have hp:d.toNat+i < w.length:=by omega
     have ep:ZHf.wrap (d+(i:Int))=((d.toNat+i:Nat):Int):=by rw [i64_in _ (by omega)]; omega
     refine Yw (by omega) ?_
     rw [ep];refine⟨by omega,by omega,by omega,by omega,?_⟩
     rw [Z1a,ZBa];have ls:(Zaq w d.toNat (d.toNat+i)).length=w.length:=Zg4
     have A:at_ (Zaq w d.toNat (d.toNat+i)) d.toNat=at_ w (d.toNat+i):=by
      rw [Zjo hdn hp];by_cases q:d.toNat=d.toNat+i
      ·rw [if_pos q]; congr 1
      ·rw [if_neg q,if_pos rfl]
     have okp:=g5.ok _ hp;have lrow:((Zaq w d.toNat (d.toNat+i)).getD d.toNat ZEu).length=n:=by rw [Zgr,A,okp.len]
     have hrg:=okp.rng c.toNat;refine⟨by rw [ls]; omega,by rw [lrow]; omega,?_⟩
     have hv:((Zaq w d.toNat (d.toNat+i)).getD d.toNat ZEu).getD c.toNat ZEu=(((vec (at_ w (d.toNat+i)) c.toNat).toNat:Nat):Int):=by rw [Zgr,A,Zaz]; omega
     rw [hv];refine ZA5 (by omega) ?_
     have hinv:=Znw (x:=vec (at_ w (d.toNat+i)) c.toNat) (by omega)
     have kb:=Zsc (vec (at_ w (d.toNat+i)) c.toNat).toNat;generalize hk:((Zbt (vec (at_ w (d.toNat+i)) c.toNat).toNat:Nat):Int)=k at hinv ⊢
     have kb':0≤k∧k≤10006:=by omega
     refine⟨by rw [ls]; omega,?_⟩
     rw [lrow]
     -- the row is multiplied
     generalize aa:Zaq w d.toNat (d.toNat+i)=L at *
     refine Jg (λ(s:List (List Int)×Int)=>(0≤s.2∧s.2≤n)∧∃ y:List Int,s.1=L.set d.toNat y∧y.length=n∧∀ j,vec y j=if j < s.2.toNat then vec (at_ L d.toNat) j * k % 10007 else vec (at_ L d.toNat) j) (λs=>n - s.2.toNat) ?_ ⟨by dsimp only; omega,at_ L d.toNat,?_,by rw [A,okp.len],λj=>by rw [if_neg (by dsimp only; omega)]⟩
     ·rintro ⟨w2,q⟩ nx ⟨f1,y,rfl,f2,f3⟩ hnx;dsimp only at f1 f3 hnx ⊢
      have l2:(L.set d.toNat y).length=w.length:=by rw [ZNp,ls]
      have ey:(L.set d.toNat y).getD d.toNat ZEu=y:=by rw [Zgr,Zfl (by omega),if_pos rfl]
      rw [ey];by_cases hq:q < (n:Int)
      ·have rg:=okp.rng q.toNat;have pb:=Zns rg kb';have evq:y.getD q.toNat ZEu=vec (at_ w (d.toNat+i)) q.toNat:=by rw [Zaz,f3,if_neg (by omega),A]
       refine Yy hq ⟨by omega,by omega,by omega,by omega,?_⟩
       rw [evq,i64_in (vec (at_ w (d.toNat+i)) q.toNat * k) (by omega),ZP9 pb.1,List.set_set,i64_in (q+1) (by omega)]
       refine hnx _ ⟨by dsimp only; omega,_,rfl,by rw [ZNp]; exact f2,λj=>?_⟩ (by dsimp only; omega)
       dsimp only;rw [Zja (by omega),f3,show (q+1).toNat=q.toNat+1 by omega]
       by_cases e:j=q.toNat
       ·subst e; rw [if_pos rfl,if_pos (by omega),A]
       ·rw [if_neg e];by_cases z:j < q.toNat
        ·rw [if_pos z,if_pos (by omega)]
        ·rw [if_neg z,if_neg (by omega)]
      ·refine Yw hq ?_
       have hy:y=Xn k (at_ L d.toNat):=Zls (by rw [f2]; simp [Xn,A,okp.len]) λj=>by
        rw [Zbi,f3];by_cases z:j < q.toNat
        ·rw [if_pos z]
        ·rw [if_neg z,Jd (by rw [A,okp.len]; omega)]; simp
       subst hy
       -- the other rows
       generalize hW2:L.set d.toNat (Xn k (at_ L d.toNat))=W2 at *
       have O:∀ j,j < w.length→RowOk n (at_ W2 j):=λj hj=>by
        rw [← hW2,Zfl (by omega)]
        by_cases z1:j=d.toNat
        ·rw [if_pos z1]; exact Zfk (by rw [A]; exact okp)
        ·rw [if_neg z1,← aa,Zjo hdn hp]
         by_cases z2:j=d.toNat+i
         ·rw [if_pos z2]; exact g5.ok _ hdn
         ·rw [if_neg z2,if_neg z1]; exact g5.ok _ hj
       refine Jg (λ(s:List (List Int)×Int)=>(0≤s.2∧s.2≤w.length)∧s.1.length=w.length∧∀ j,j < w.length→at_ s.1 j=if j < s.2.toNat∧j≠d.toNat then subR (vec (at_ W2 j) c.toNat) (at_ W2 j) (at_ W2 d.toNat) else at_ W2 j) (λs=>w.length - s.2.toNat) ?_ ⟨by dsimp only; omega,l2,λj hj=>by rw [if_neg (by dsimp only; omega)]⟩
       rintro ⟨w3,p⟩ nz ⟨q1,q2,I⟩ B;dsimp only at q1 q2 I B ⊢
       rw [l2];by_cases hpp:p < (w.length:Int)
       ·have hpn:p.toNat < w.length:=by omega
        have p1:(p+1).toNat=p.toNat+1:=by omega
        rw [i64_in (p+1) (by omega)]
        refine Yy hpp ⟨by omega,?_⟩
        have row_p:at_ w3 p.toNat=at_ W2 p.toNat:=by rw [I _ hpn,if_neg (by omega)]
        have okpp:=O _ hpn
        have skip:(p.toNat=d.toNat∨vec (at_ W2 p.toNat) c.toNat=0)→nz (w3,p+1):=λz=>B _ ⟨by dsimp only; omega,q2,λj hj=>by
         dsimp only;rw [I j hj,p1];by_cases U:j < p.toNat∧j≠d.toNat
         ·rw [if_pos U,if_pos ⟨by omega,U.2⟩]
         ·rw [if_neg U];by_cases a2:j < p.toNat+1∧j≠d.toNat
          ·obtain rfl:j=p.toNat:=by omega
           rcases z with z | z
           ·exact absurd z a2.2
           ·rw [if_pos a2,z,Zjl okpp (O _ hdn)]
          ·rw [if_neg a2]⟩ (by dsimp only; omega)
        by_cases hpd:p≠d
        ·have hpd':p.toNat≠d.toNat:=by omega
         rw [Zgr w3 p.toNat,row_p,Zgr w3 d.toNat,Zaz];refine Yy hpd ⟨by rw [okpp.len]; omega,?_⟩
         by_cases V:vec (at_ W2 p.toNat) c.toNat≠0
         ·refine Yy V ⟨by omega,by rw [okpp.len]; omega,by omega,?_⟩
          have row_d:at_ w3 d.toNat=at_ W2 d.toNat:=by rw [I _ hdn,if_neg (by omega)]
          rw [row_d];refine Zsf okpp (O _ hdn) (okpp.rng _) (B _ ⟨by dsimp only; omega,by dsimp only; rw [ZNp]; exact q2,λj hj=>?_⟩ (by dsimp only; omega))
          dsimp only;rw [Zfl (by omega),I j hj,p1]
          by_cases G:j=p.toNat
          ·subst G; rw [if_pos rfl,if_pos ⟨by omega,hpd'⟩]
          ·rw [if_neg G];by_cases U:j < p.toNat∧j≠d.toNat
           ·rw [if_pos U,if_pos ⟨by omega,U.2⟩]
           ·rw [if_neg U,if_neg (by omega)]
         ·exact Yw V (skip (.inr (ZH3.1 V)))
        ·exact Yw hpd (skip (.inl (by omega)))
       ·refine Yw hpp (hn' _ ⟨by dsimp only; omega,by dsimp only; omega,by dsimp only; omega,by dsimp only; omega,?_⟩ (by dsimp only; omega))
        dsimp only;rw [c1,d1];refine g5.step (p:=d.toNat+i) (by_:=k) (by omega) hp hinv ⟨?_,λj hj=>?_⟩
        ·rw [q2,ZNp,Zg4]
        ·rw [ZNp,Zg4] at hj
         rw [aa,hW2,I j hj];by_cases G:j=d.toNat
         ·rw [if_neg (by omega),if_pos G,G]
         ·rw [if_pos ⟨by omega,G⟩,if_neg G]
     ·dsimp only;refine ZGj (by simp) λj h1 h2=>?_
      rw [List.getElem_set];split
      ·rename_i q; subst q; rw [Zg2 h1]
      ·rfl
    ·refine Yy (by decide) (hn' _ ⟨g1,by dsimp only; omega,by dsimp only; omega,g4,?_⟩ (by dsimp only; omega))
     dsimp only;rw [c1];refine g5.skip λi h1 h2=>?_
     have:=hz (i - d.toNat) (by rw [ZGw]; omega)
     rwa [Zny,show d.toNat+(i - d.toNat)=i by omega] at this
   ·exact Yw hc ⟨by omega,fin (.inr (by omega))⟩
  ·exact Yw hd ⟨by omega,fin (.inl (by omega))⟩
end Go.Proofs.YtaagfepgbofmlaaGreat
namespace Go.Proofs.YtaagfepgbofmlaaGreat
open Go Vc
theorem Zla (a b:List Int) (j:Nat):vec (a++b) j=if j < a.length then vec a j else vec b (j - a.length):=by
 unfold vec;simp only [ZE0];split
 ·rename_i h; rw [List.getElem?_append_left h]
 ·rename_i h; rw [List.getElem?_append_right (by omega)]
theorem Zgs (a:List Int) (m j:Nat):vec (a.drop m) j=vec a (m+j):=by
 unfold vec;simp only [ZE0,List.getElem?_drop]
theorem Zdh (a:List Int) (m j:Nat):vec (a.take m) j=if j < m then vec a j else 0:=by
 unfold vec;simp only [ZE0,List.getElem?_take]
 split <;> rfl
theorem ZBb {m n:Nat} {a b:List Int} (ha:RowOk m a) (hb:RowOk n b):RowOk (m+n) (a++b) :=
 ⟨by rw [ZFj,ha.len,hb.len],λj=>by
  rw [Zla]; split
  ·exact ha.rng j
  ·exact hb.rng _⟩
theorem Znz {m n:Nat} {a:List Int} (ha:RowOk (m+n) a):RowOk n (a.drop m) :=
 ⟨by rw [ZGw,ha.len]; omega,λj=>by rw [Zgs]; exact ha.rng _⟩
def Zct (n i:Nat):List Int:=(ZEp n (0:Int)).set i 1
theorem ZBc (n i:Nat):RowOk n (Zct n i):=by
 refine⟨by simp [Zct],λj=>?_⟩
 by_cases hi:i < n
 ·rw [Zct,Zja (by simpa using hi),Zk9]; split <;> omega
 ·rw [Zct,List.set_eq_of_length_le (by simp; omega),Zk9]; omega
def Za9 (rows:List (List Int)):List (List Int):=(ZFk rows.length).map λi=>rows.getD i ZEu++Zct rows.length i
def Zbu (m:Nat) (R:List (List Int)):List (List Int):=(R.filter λr=>decide (m≤ld r)).map (List.drop m)
def IsKer (m:Nat) (rows L:List (List Int)):Prop:=∃ R,IsRref (m+rows.length) (Za9 rows) R∧IsRref rows.length (Zbu m R) L
theorem IsKer.unique {m:Nat} {rows a b:List (List Int)} (ha:IsKer m rows a) (hb:IsKer m rows b):a=b:=by
 obtain ⟨R,B,G⟩:=ha;obtain ⟨R',h,A⟩:=hb;obtain rfl:=B.unique h;exact G.unique A
theorem Zn0 {m:Nat} {rows:List (List Int)} (hr:Jx m rows):Jx (m+rows.length) (Za9 rows):=by
 intro a ha;obtain ⟨i,hi,rfl⟩:=ZE1.1 ha;exact ZBb (hr _ (Yx (ZGf.1 hi))) (ZBc _ _)
theorem Zsj {m n:Nat} {R:List (List Int)} (h:Jx (m+n) R):Jx n (Zbu m R):=by
 intro a ha;obtain ⟨r,hr,rfl⟩:=ZE1.1 ha;exact Znz (h r (Z1e.1 hr).1)
theorem Zsk (m:Nat) (R:List (List Int)):(Zbu m R).length≤R.length:=by rw [Zbu,Z08]; exact Z2m _ _
theorem ZBd {m i:Nat} {R:List (List Int)} (hi:i < R.length):Zbu m (R.take (i+1))=Zbu m (R.take i)++(if m≤ld (R.getD i ZEu) then [(R.getD i ZEu).drop m] else []):=by
 rw [Xu hi,Zbu,List.filter_append,ZT6]
 congr 1
 split
 ·rename_i q; rw [Z1u (by simpa using q)]; rfl
 ·rename_i q; rw [Z1v (by simpa using q)]; rfl
theorem Zsl {a:List Int} {K:Bool→Prop} (hl:a.length≤1000000) (h:(∀ j,vec a j=0)→K true) (A:ld a < a.length→K false):Zcr a K:=by
 unfold Zcr Ze5 Zd3;refine Yu (λi (s:Unit)=>∀ j,j < i→vec a j=0) a.length ?_ ?_ _ _ _ (by omega) (λj hj=>by omega)
 ·intro i s next hi g hn
  show Zeb (a.getD i ZEu) _
  unfold Zeb;rw [Zaz];by_cases q:vec a i=0
  ·rw [decide_eq_false (λz=>z q)]
   refine Yw (by decide) (hn _ λj hj=>?_)
   by_cases e:j=i
   ·subst e; exact q
   ·exact g j (by omega)
  ·rw [decide_eq_true q];refine Yy rfl ?_
   show K (decide ((i:Int) < 0))
   rw [decide_eq_false (by omega)]
   exact A (by rw [Zdk g q]; exact hi)
 ·intro s g
  show K (decide ((-1:Int) < 0))
  rw [decide_eq_true (by omega)]
  refine h λj=>?_
  rcases ZFm j a.length with q | q
  ·exact g j q
  ·exact Jd q
theorem ZBe {n:Int} {K:List Int→Prop} (A:0≤n∧n≤1000000) (h:K []):Zir n K:=by
 unfold Zir;have e:ZHf.wrap (n - (ZHf.wrap (0 - 0)))=n:=by rw [i64_in (0 - 0) (by omega),i64_in _ (by omega)]; omega
 rw [e];refine⟨by omega,?_⟩
 by_cases q:n > 0
 ·exact Yy q ⟨⟨by omega,by unfold Z4; omega⟩,⟨by omega,by omega⟩,by rw [List.take_zero]; exact h⟩
 ·exact Yw q h
theorem ZBf {a b:List Int} {K:List Int→Prop} (ha:a.length≤500000) (hb:b.length≤500000) (h:K (a++b)):Zis [a,b] K:=by
 simp only [Zis,Z9,ZHt,ZYw,List.getD_cons_zero,List.getD_cons_succ];rw [i64_in (0+(a.length:Int)) (by omega),i64_in (0+(a.length:Int)+(b.length:Int)) (by omega)]
 refine⟨by omega,by omega,ZBe (by omega) ⟨by unfold Z4; rw [ZYw]; omega,by unfold Z4; rw [Z1w]; omega,?_⟩⟩
 rw [Z1w]; exact h
theorem ZBg {m:Nat} {rows:List (List Int)} {K:List (List Int)→Prop} (hr:Jx m rows) (hm:m≤100000) (hl:rows.length≤100000) (h:∀ L,IsKer m rows L→L.length≤rows.length→K L):Zit rows (m:Int) K:=by
 unfold Zit;refine Yu (λi (s:List (List Int))=>s=(Za9 rows).take i) rows.length ?_ ?_ _ _ _ (by omega) rfl
 ·intro i s next hi hs hn;have ok:=hr _ (Yx hi);have hlen:=ok.len;have hkl:(Za9 rows).length=rows.length:=by simp [Za9]
  have hsl:s.length=i:=by rw [hs,ZUe,hkl]; omega
  rw [Z1a];refine⟨⟨by omega,by omega⟩,⟨by omega,by rw [ZUo]; omega⟩,ZBf (by omega) (by rw [ZNp,ZUo]; omega) ⟨by unfold Z4; omega,hn _ ?_⟩⟩
  rw [Xu (by omega:i < (Za9 rows).length),hs]
  congr 2
  simp [Za9,ZE0,hi,Zct]
 ·intro s hs;have hkl:(Za9 rows).length=rows.length:=by simp [Za9]
  rw [ZF0 (by omega)] at hs
  rw [hs];refine Zjb (Zn0 hr) (by omega) (by omega) λR B hRl=>?_
  have hRo:∀ a,a∈R→RowOk (m+rows.length) a∧vec a (ld a)=1:=B.red.ok;refine Yu (λi (s:List (List Int))=>s=Zbu m (R.take i)) R.length ?_ ?_ _ _ _ (by omega) rfl
  ·intro i s next hi hs hn;have ok:=hRo _ (Yx hi);have hsl:s.length≤R.length:=by rw [hs]; exact Nat.le_trans (Zsk _ _) (by rw [ZUe]; omega)
   have hlen:=ok.1.len;have hle:=ZBd (m:=m) hi;have hld:=Zg1 ok;rw [Z1a];refine⟨by omega,Zsl (by rw [ZUe]; omega) (λhz=>?_) (λhz=>?_)⟩
   ·have q:m≤ld (R.getD i ZEu):=by
     rcases ZFm (ld (R.getD i ZEu)) m with z | z
     ·have:=hz (ld (R.getD i ZEu));rw [Zdh,if_pos z,ok.2] at this; omega
     ·exact z
    rw [if_pos q] at hle
    refine Yy rfl ⟨by omega,by unfold Z4; omega,hn _ ?_⟩
    rw [hle,hs]
   ·have q:¬ m≤ld (R.getD i ZEu):=by
     intro z;have A:=Zdj hz;rw [Zdh] at A
     rw [ZUe] at hz
     rw [if_pos (by omega)] at A
     exact A (J2 (by omega))
    rw [if_neg q,ZUi] at hle
    exact Yw (by decide) (hn _ (by rw [hle]; exact hs))
  ·intro s hs;rw [Z1g] at hs
   rw [hs];have:=Zsk m R;exact Zjb (Zsj λa ha=>(hRo a ha).1) (by omega) (by omega) λL G hLl=>h L ⟨R,B,G⟩ (by omega)
end Go.Proofs.YtaagfepgbofmlaaGreat
namespace Go.Proofs.YtaagfepgbofmlaaGreat
open Go Vc
theorem Zn1 {n:Nat} {row:List Int}:∀ (B A:List (List Int)) (r:List Int),Rref n (A++B)→IsBy n A row r→∃ r',IsBy n (A++B) row r'
 | [],A,r,_,h=>⟨r,by rw [ZUi]; exact h⟩
 | z :: B, A, r, G, h => by
  have e:A++z::B=(A++[z])++B:=by simp
  have:=h.step G;rw [e] at G ⊢
  exact Zn1 B (A++[z]) _ G this
theorem Zsm {n:Nat}:∀ (B A out:List (List Int)),Jx n B→IsRref n A out→out.length≤A.length→∃ out',IsRref n (A++B) out'∧out'.length≤(A++B).length
 | [],A,out,_,h,hl=>⟨out,by rw [ZUi]; exact⟨h,hl⟩⟩
 | row :: B, A, out, hr, h, hl => by
  have e:A++row::B=(A++[row])++B:=by simp
  obtain ⟨r,hb⟩:=Zn1 out [] row h.red (IsBy.nil (hr row (by simp)))
  rw [Z1w] at hb
  have ho:∃ out',IsRref n (A++[row]) out'∧out'.length≤(A++[row]).length:=by
   by_cases z:ld r < r.length
   ·obtain ⟨a,b,rfl,G,I⟩:=h.red.split_at (ld r);have g:=hb.ok.rng (ld r);have nz:=Zdj z;refine⟨_,h.put (k:=((Zbt (vec r (ld r)).toNat:Nat):Int)) hb (Znw ⟨by omega,g.2⟩) G I,?_⟩
    simp only [ZFj,Z08,ZHt,ZYw] at hl ⊢
    omega
   ·refine⟨out,h.put0 hb (λj=>?_),by simp; omega⟩
    rcases ZFm j r.length with q | q
    ·exact J2 (by omega)
    ·exact Jd q
  obtain ⟨out',L,O⟩:=ho;rw [e];exact Zsm B _ out' (λx hx=>hr x (by simp [hx])) L O
theorem Zcb {n:Nat} {rows:List (List Int)} (h:Jx n rows):∃ out,IsRref n rows out∧out.length≤rows.length:=Zsm rows [] [] h (IsRref.zero n) (ZEs _)
theorem Zn2 {n:Nat} {rows out:List (List Int)} (h:Jx n rows) (ho:IsRref n rows out):out.length≤rows.length:=by
 obtain ⟨o,A,B⟩:=Zcb h;rw [ho.unique A]; exact B
theorem Zlb:∀ {l k:List Nat}, l.Nodup→(∀ q,q∈l→q∈k)→l.length≤k.length
 | [],_,_,_=>Nat.zero_le _
 | x :: l, k, hn, h => by
  obtain ⟨A,B⟩:=ZP3.1 hn;have hx:=h x (by simp)
  have:=Zlb B (k:=k.erase x) λq hq=>(List.mem_erase_of_ne (λe=>A (by rw [← e]; exact hq))).2 (h q (by simp [hq]))
  rw [List.length_erase_of_mem hx] at this
  have:=List.length_pos_of_mem hx;simp only [ZHt]; omega
theorem Zn3 {n:Nat} {a:List (List Int)} (h:Rref n a):(a.map ld).Nodup:=by
 rw [List.Nodup,Z1m];exact h.pw.imp λh=>by omega
theorem Zn4 {n m:Nat} {a b:List (List Int)} (ha:Rref n a) (hb:Rref m b) (h:∀ x,x∈a→Sp (gens b) (vec x)):∀ q,q∈a.map ld→q∈b.map ld:=λq hq=>by
 obtain ⟨x,hx,rfl⟩:=ZE1.1 hq;obtain ⟨z,hz,e⟩:=hb.leads (h x hx) (q:=ld x) (λj hj=>by rw [J2 hj]; rfl) (by rw [(ha.ok x hx).2]; decide)
 exact ZE1.2 ⟨z,hz,e⟩
theorem ZBh {n m:Nat} {a b:List (List Int)} (ha:Rref n a) (hb:Rref m b) (h:∀ x,x∈a→Sp (gens b) (vec x)):a.length≤b.length:=by
 have:=Zlb (Zn3 ha) (Zn4 ha hb h);simpa using this
theorem Zn5 {S:Vec→Prop} {q:Nat} (h:∀ v,S v→v q % 10007=0) {u:Vec} (hu:Sp S u):u q % 10007=0:=by
 induction hu with
 | zero z=>exact z q
 | @add r v u k hr hv e ih=>rw [e,ZG4,ih,ZE5,h r hr]; simp
theorem Zn6 {S T:Vec→Prop} (c:Nat→Int) (f:Nat→Nat) (h:∀ v,S v→Sp T (λj=>c j * v (f j))) {u:Vec} (hu:Sp S u):Sp T (λj=>c j * u (f j)):=by
 induction hu with
 | zero z=>exact .zero λj=>by rw [ZE5,z]; simp
 | @add r v u k hr hv e ih =>
  refine Sp.sum k ih (h r hr) λj=>?_
  rw [ZE5,e,← ZE5,Z1x,Int.mul_left_comm]
theorem ZBi {S T:Vec→Prop} (m:Nat) (h:∀ v,S v→Sp T (λj=>v (m+j))) {u:Vec} (hu:Sp S u):Sp T (λj=>u (m+j)):=by
 have:=Zn6 (T:=T) (λ_=>1) (λj=>m+j) (λv hv=>(h v hv).cong λj=>by rw [Z1y]) hu
 exact this.cong λj=>by rw [Z1y]
theorem Zsn {S T:Vec→Prop} (m:Nat) (h:∀ v,S v→Sp T (λj=>if j < m then v j else 0)) {u:Vec} (hu:Sp S u):Sp T (λj=>if j < m then u j else 0):=by
 have:=Zn6 (T:=T) (λj=>if j < m then 1 else 0) id (λv hv=>(h v hv).cong λj=>by dsimp only [id]; split <;> simp) hu
 exact this.cong λj=>by dsimp only [id]; split <;> simp
theorem ZBj {n:Nat} {Z B T K:List (List Int)} (G:Rref n Z) (I:Rref n B) (hs:∀ x,x∈B→Sp (gens Z) (vec x)) (L:∀ t,t∈T→∃ z,z∈Z∧IsBy n B z t) (hT':∀ z,z∈Z→∃ t,t∈T∧IsBy n B z t) (A:IsRref n T K):K.length+B.length=Z.length:=by
 have tZ:∀ t,t∈T→Sp (gens Z) (vec t):=λt ht=>by
  obtain ⟨z,hz,hb⟩:=L t ht
  have d:Sp (gens Z) (λj=>vec z j - vec t j):=by
   have:=hb.df;clear hb;generalize (λj=>vec z j - vec t j)=u at this
   exact this.mono λr ⟨x,hx,e⟩=>e ▸ hs x hx
  exact(Zg5 d).1 (Xd hz)
 have kZ:∀ k,k∈K→Sp (gens Z) (vec k):=λk hk=>((A.sp _).2 (Xd hk)).mono λr ⟨x,hx,e⟩=>e ▸ tZ x hx
 have O:∀ k,k∈K→∀ b,b∈B→vec k (ld b) % 10007=0:=λk hk b hb=>Zn5 (λv ⟨t,ht,e⟩=>by
  obtain ⟨z,_,hz⟩:=L t ht;rw [e,hz.clr b hb]; rfl) ((A.sp _).2 (Xd hk))
 have U:K.length+B.length≤Z.length:=by
  have nd:(K.map ld++B.map ld).Nodup:=by
   rw [List.nodup_append];refine⟨Zn3 A.red,Zn3 I,λx hx y hy e=>?_⟩
   obtain ⟨k,hk,rfl⟩:=ZE1.1 hx;obtain ⟨b,hb,eb⟩:=ZE1.1 hy;have:=O k hk b hb;rw [eb,← e,(A.red.ok k hk).2] at this
   exact absurd this (by decide)
  have:=Zlb nd (k:=Z.map ld) λq hq=>by
   rcases ZEt.1 hq with hq | hq
   ·exact Zn4 A.red G kZ q hq
   ·exact Zn4 I G hs q hq
  simpa using this
 have V:Z.length≤K.length+B.length:=by
  obtain ⟨o,ho,hl⟩:=Zcb (n:=n) (rows:=K++B) λx hx=>by
   rcases ZEt.1 hx with h | h
   ·exact(A.red.ok x h).1
   ·exact(I.ok x h).1
  have:=ZBh G ho.red λz hz=>(ho.sp _).1 (by
   obtain ⟨t,ht,hb⟩:=hT' z hz;have d:Sp (gens (K++B)) (λj=>vec z j - vec t j):=hb.df.mono λr ⟨x,hx,e⟩=>.gen ⟨x,by simp [hx],e⟩
   exact(Zg5 d).2 (((A.sp _).1 (Xd ht)).mono λr ⟨x,hx,e⟩=>.gen ⟨x,by simp [hx],e⟩))
  rw [ZFj] at hl
  omega
 omega
theorem Zso {α:Type} (p q:α→Bool) (h:∀ x,q x=!p x):∀ l:List α,(l.filter p).length+(l.filter q).length=l.length
 | []=>rfl
 | x :: l => by
  have ih:=Zso p q h l;have hx:=h x;cases e:p x
  ·rw [e] at hx
   rw [Z1v (by simp [e]),Z1u (by simpa using hx),ZHt,ZHt]; omega
  ·rw [e] at hx
   rw [Z1u (by simp [e]),Z1v (by simp [hx]),ZHt,ZHt]; omega
def Zgt (m:Nat) (R:List (List Int)):List (List Int):=(R.filter λr=>decide (ld r < m)).map (List.take m)
theorem Zn7 {m:Nat} {z:List Int} (h:ld z < m) (A:vec z (ld z)=1):ld (z.take m)=ld z :=
 Zdk (λq hq=>by rw [Zdh,J2 hq]; simp) (by rw [Zdh,if_pos h,A]; decide)
theorem Zn8 {m:Nat} {z:List Int} (h:m≤ld z) (A:vec z (ld z)=1):ld (z.drop m)=ld z - m :=
 Zdk (λq hq=>by rw [Zgs,J2 (by omega)]) (by rw [Zgs,Z19 h,A]; decide)
theorem ZBk {m n:Nat} {R:List (List Int)} (A:Rref (m+n) R):Rref m (Zgt m R):=by
 refine⟨λa ha=>?_,?_⟩
 ·obtain ⟨z,hz,rfl⟩:=ZE1.1 ha;obtain ⟨hz,hl⟩:=Z1e.1 hz;have hl:ld z < m:=by simpa using hl
  obtain ⟨G,B⟩:=A.ok z hz;refine⟨⟨by rw [ZUe,G.len]; omega,λj=>?_⟩,?_⟩
  ·rw [Zdh]; have:=G.rng j; split <;> omega
  ·rw [Zn7 hl B,Zdh,if_pos hl,B]
 ·rw [Zgt,Z1m];refine(Z2r _ A.pw).imp_of_mem λ{a b} ha hb h=>?_
  obtain ⟨ha,la⟩:=Z1e.1 ha;obtain ⟨hb,lb⟩:=Z1e.1 hb;have la:ld a < m:=by simpa using la
  have lb:ld b < m:=by simpa using lb
  rw [Zn7 la (A.ok a ha).2,Zn7 lb (A.ok b hb).2,Zdh,if_pos lb];exact h
theorem ZBl {m n:Nat} {R:List (List Int)} (A:Rref (m+n) R):Rref n (Zbu m R):=by
 refine⟨λa ha=>?_,?_⟩
 ·obtain ⟨z,hz,rfl⟩:=ZE1.1 ha;obtain ⟨hz,hl⟩:=Z1e.1 hz;have hl:m≤ld z:=by simpa using hl
  obtain ⟨G,B⟩:=A.ok z hz;refine⟨Znz G,?_⟩
  rw [Zn8 hl B,Zgs,Z19 hl,B]
 ·rw [Zbu,Z1m];refine(Z2r _ A.pw).imp_of_mem λ{a b} ha hb h=>?_
  obtain ⟨ha,la⟩:=Z1e.1 ha;obtain ⟨hb,lb⟩:=Z1e.1 hb;have la:m≤ld a:=by simpa using la
  have lb:m≤ld b:=by simpa using lb
  rw [Zn8 la (A.ok a ha).2,Zn8 lb (A.ok b hb).2,Zgs,Z19 lb];exact⟨by omega,h.2⟩
theorem Zsp {n i:Nat} (hi:i < n) (j:Nat):vec (Zct n i) j=if j=i then 1 else 0:=by
 rw [Zct,Zja (by simpa using hi),Zk9]
theorem Zsq {rows:List (List Int)} {i:Nat} (hi:i < rows.length):rows.getD i ZEu++Zct rows.length i∈Za9 rows:=ZE1.2 ⟨i,ZGf.2 hi,rfl⟩
theorem ZBm {m:Nat} {rows R:List (List Int)} (hr:Jx m rows) (A:IsRref (m+rows.length) (Za9 rows) R):SpEq rows (Zgt m R):=by
 refine Zg0 (λx hx=>?_) (λx hx=>?_)
 ·obtain ⟨i,hi,e0⟩:=Zjn hx;have e0:rows.getD i ZEu=x:=e0;subst e0;have h:=(A.sp _).1 (Xd (Zsq hi));have hm:(rows.getD i ZEu).length=m:=(hr _ (Yx hi)).len;refine(Zsn (T:=gens (Zgt m R)) m (λv hv=>?_) h).cong λj=>?_
  ·obtain ⟨z,hz,e⟩:=hv;subst e;by_cases c:ld z < m
   ·exact(Xd (ZE1.2 ⟨z,Z1e.2 ⟨hz,by simpa using c⟩,rfl⟩)).cong λj=>by rw [Zdh]
   ·exact .zero λj=>by
     split
     ·rw [J2 (by omega)]; rfl
     ·rfl
  ·rw [Zla,hm];split
   ·rfl
   ·rw [Jd (by omega)]
 ·obtain ⟨z,hz,rfl⟩:=ZE1.1 hx;obtain ⟨hz,hl⟩:=Z1e.1 hz;have h:=(A.sp _).2 (Xd hz);refine(Zsn (T:=gens rows) m (λv hv=>?_) h).cong λj=>by rw [Zdh]
  obtain ⟨w,hw,e⟩:=hv;subst e;obtain ⟨i,hi,rfl⟩:=ZE1.1 hw;have hi:=ZGf.1 hi;have hm:(rows.getD i ZEu).length=m:=(hr _ (Yx hi)).len;refine(Xd (Yx hi)).cong λj=>?_
  rw [Zla,hm];split
  ·rfl
  ·rw [Jd (by omega)]
theorem ZBn {m:Nat} {rows R:List (List Int)} (hr:Jx m rows) (h:IsRref (m+rows.length) (Za9 rows) R):R.length=rows.length:=by
 have A:=Zn2 (Zn0 hr) h;have hk:(Za9 rows).length=rows.length:=by simp [Za9]
 obtain ⟨D,B,hl⟩:=Zcb (n:=rows.length) (rows:=R.map (List.drop m)) λa ha=>by
  obtain ⟨z,hz,rfl⟩:=ZE1.1 ha;exact Znz (h.red.ok z hz).1
 rw [Z08] at hl
 have:(ZFk rows.length).length≤(D.map ld).length:=Zlb List.nodup_range λi hi=>by
  have hi:=ZGf.1 hi;have A:=(h.sp _).1 (Xd (Zsq hi));have hm:(rows.getD i ZEu).length=m:=(hr _ (Yx hi)).len
  have G:Sp (gens D) (vec (Zct rows.length i)):=(B.sp _).1 ((ZBi (T:=gens (R.map (List.drop m))) m (λv ⟨z,hz,e⟩=>by
   subst e
   exact(Xd (ZE1.2 ⟨z,hz,rfl⟩)).cong λj=>by rw [Zgs]) A).cong λj=>by
    rw [Zla,hm,if_neg (by omega),Nat.add_sub_cancel_left])
  obtain ⟨z,hz,e⟩:=B.red.leads G (q:=i) (λj hj=>by rw [Zsp hi,if_neg (by omega)]; rfl) (by rw [Zsp hi,if_pos rfl]; decide)
  exact ZE1.2 ⟨z,hz,e⟩
 rw [List.length_range,Z08] at this
 omega
theorem ZBo {m:Nat} {rows L out:List (List Int)} (hr:Jx m rows) (A:IsKer m rows L) (ho:IsRref m rows out):L.length+out.length=rows.length:=by
 obtain ⟨R,h,B⟩:=A;have G:out=Zgt m R:=ho.unique ⟨ZBk h.red,ZBm hr h⟩;have I:L=Zbu m R:=B.unique ⟨ZBl h.red,SpEq.refl _⟩;rw [G,I,Zgt,Zbu,Z08,Z08,← ZBn hr h,Nat.add_comm]
 exact Zso _ _ (λx=>by by_cases c:ld x < m <;> simp [c]; omega) R
theorem Zsr {S:Vec→Prop} {α:Type} {c:α→Int} {g:α→Vec}:∀ {l:List α}, (∀ a,a∈l→c a % 10007=0∨Sp S (g a))→Sp S (λq=>tt (λa=>c a * g a q) l)
 | [],_=>Sp.nil S
 | a :: l, h => by
  have ih:=Zsr (c:=c) (g:=g) (l:=l) λb hb=>h b (by simp [hb])
  rcases h a (by simp) with z | z
  ·refine ih.cong λj=>?_
   simp only [tt];have:=ZE5 (c a) (g a j) 10007;rw [z] at this
   simp only [Int.zero_mul,Int.zero_emod] at this
   omega
  ·exact Sp.sum (c a) ih z λj=>by simp only [tt]; congr 1; omega
theorem ZBp {f:Nat→Int} {k:Nat}:∀ {n:Nat}, k < n→(∀ i,i < n→i≠k→f i=0)→tt f (ZFk n)=f k:=by
 have app:∀ (a b:List Nat),tt f (a++b)=tt f a+tt f b:=by
  intro a b
  induction a with
  | nil=>simp [tt]
  | cons x l ih=>simp only [List.cons_append,tt,ih]; omega
 intro n
 induction n with
 | zero=>intro h; omega
 | succ n ih =>
  intro hk A;rw [Z2a,app];simp only [tt];by_cases e:k=n
  ·subst e;rw [Zjm λi hi=>A i (by have:=ZGf.1 hi; omega) (by have:=ZGf.1 hi; omega)]; omega
  ·rw [ih (by omega) λi hi ne=>A i (by omega) ne,A n (by omega) (by omega)]; omega
end Go.Proofs.YtaagfepgbofmlaaGreat
namespace Go.Proofs.YtaagfepgbofmlaaGreat
open Go Vc
theorem ZBq {n:Nat} {a:List Int} {K:Int→Prop} (hn:n≤1000000) (ha:RowOk n a∧vec a (ld a)=1) (h:K (ld a)):Ze5 a K:=by
 have hl:=Zg1 ha;have hal:=ha.1.len;unfold Ze5 Zd3;refine Yu (λi (s:Unit)=>∀ j,j < i→vec a j=0) a.length ?_ ?_ _ _ _ (by omega) (λj hj=>by omega)
 ·intro i s next hi g hn'
  show Zeb (a.getD i ZEu) _
  unfold Zeb;rw [Zaz];by_cases q:vec a i=0
  ·rw [decide_eq_false (λz=>z q)]
   refine Yw (by decide) (hn' _ λj hj=>?_)
   by_cases e:j=i
   ·subst e; exact q
   ·exact g j (by omega)
  ·rw [decide_eq_true q];refine Yy rfl ?_
   show K (i:Int)
   rw [← Zdk g q]; exact h
 ·intro s g;exact absurd (g _ (by omega)) (Zdj (by omega))
theorem Zn9 {n:Nat} {row:List Int} {out:List (List Int)} {K:List Int→Prop} (A:Rref n out) (hn:n≤1000000) (ho:out.length≤1000000) (hr:RowOk n row) (h:∀ r,IsBy n out row r→K r):Zbs row out K:=by
 unfold Zbs;refine Zse (by rw [hr.len]; exact hn) ?_
 refine Yu (λi (s:List Int)=>IsBy n (out.take i) row s) out.length ?_ ?_ _ _ _ (by omega) (by simpa using IsBy.nil hr)
 ·intro i s next hi g hn';have hz:=A.ok _ (Yx (l:=out) hi);have hlz:=Zg1 hz;refine ZBq hn hz ⟨⟨by omega,by rw [g.ok.len]; omega⟩,?_⟩
  rw [Z1a,Zaz s]
  have hsp:out.take i++out.getD i ZEu::out.drop (i+1)=out:=by
   rw [show out.getD i ZEu=out[i] by simp [ZE0,hi],Z2i hi,ZIx]
  have hR':Rref n (out.take i++out.getD i ZEu::out.drop (i+1)):=by rw [hsp]; exact A
  refine Zsf g.ok hz.1 (g.ok.rng _) (hn' _ ?_)
  rw [Xu hi]; exact g.step hR'
 ·intro s g;rw [Z1g] at g; exact h s g
theorem Zss {m:Nat} {rows:List (List Int)} (hr:Jx m rows):∃ L,IsKer m rows L:=by
 obtain ⟨R,h,_⟩:=Zcb (Zn0 hr);obtain ⟨L,A,_⟩:=Zcb (Zsj (m:=m) (n:=rows.length) (R:=R) λa ha=>(h.red.ok a ha).1)
 exact⟨L,R,h,A⟩
open Classical in
noncomputable def Zbf (n:Nat) (B Z:List (List Int)):List (List Int):=Z.map λz=>if h:∃ r,IsBy n B z r then Z2t h else []
open Classical in
theorem Zoa {n:Nat} {B:List (List Int)} (A:Rref n B) {z r:List Int} (h:IsBy n B z r):(if h:∃ r,IsBy n B z r then Z2t h else [])=r:=by
 rw [dif_pos ⟨r,h⟩];exact(Classical.choose_spec (⟨r,h⟩:∃ r,IsBy n B z r)).unique A h
theorem Zst {n:Nat} {B Z:List (List Int)} (A:Rref n B) (G:Jx n Z):(∀ t,t∈Zbf n B Z→∃ z,z∈Z∧IsBy n B z t)∧(∀ z,z∈Z→∃ t,t∈Zbf n B Z∧IsBy n B z t):=by
 have ex:∀ z,z∈Z→∃ r,IsBy n B z r:=λz hz=>by
  obtain ⟨r,h⟩:=Zn1 B [] z A (IsBy.nil (G z hz));exact⟨r,h⟩
 refine⟨λt ht=>?_,λz hz=>?_⟩
 ·obtain ⟨z,hz,rfl⟩:=ZE1.1 ht;obtain ⟨r,h⟩:=ex z hz;exact⟨z,hz,by rw [Zoa A h]; exact h⟩
 ·obtain ⟨r,h⟩:=ex z hz;exact⟨r,ZE1.2 ⟨z,hz,Zoa A h⟩,h⟩
theorem ZBr {n:Nat} {B Z:List (List Int)} {K:List (List Int)→Prop} (I:Rref n B) (U:Jx n Z) (hn:n≤1000) (hb:B.length≤1000) (hz:Z.length≤1000) (h:K (Zbf n B Z)) :
  Z9 (λL (A:(List (List Int))) G=>Zbs (Z.getD L ZEu) B (λO=>(Z4 (A.length+1) 24∧G (A++[O])))) (λ(A:(List (List Int)))=>K A) Z.length 0 []:=by
 refine Yu (λi s=>s=Zbf n B (Z.take i)) Z.length ?_ ?_ _ _ _ (by omega) rfl
 ·intro i s next hi hs hnx;refine Zn9 I (by omega) (by omega) (U _ (Yx hi)) λr hr=>⟨?_,hnx _ ?_⟩
  ·rw [hs,Zbf,Z08,ZUe]; unfold Z4; omega
  ·rw [hs,Xu hi,Zbf,Zbf,ZT6];simp only [ZFw,List.map_nil];rw [Zoa I hr]
 ·intro s hs; rw [hs,Z1g]; exact h
end Go.Proofs.YtaagfepgbofmlaaGreat
namespace Go.Proofs.YtaagfepgbofmlaaGreat
open Go Vc
def wv (u:Vec) (rows:List (List Int)):Vec:=λj=>tt (λi=>u i * vec (at_ rows i) j) (ZFk rows.length)
theorem ZBs {u:Vec} (rows:List (List Int)):Sp (gens rows) (wv u rows):=Zsr λi hi=>.inr (Xd (Za0 (ZGf.1 hi)))
end Go.Proofs.YtaagfepgbofmlaaGreat
namespace Go.Proofs.YtaagfepgbofmlaaGreat
open Go Vc
theorem ZBt {a b:A8} {K:Int→Prop} (ha:OkP a) (hb:OkP b) (h:K (pcmp a b)):Zkd a b K:=Zvl ha hb h
def FitT (l:List Term):Prop:=∀ t,t∈l→Zas .u8 t.mono
theorem FitT.pos {l:List Term} (h:FitT l):Ze1 l:=λt ht i hi=>Zmg (Zmh (h t ht) hi)
theorem Zsu {a:A8} (h:Zas .u8 a):OkP a:=λx hx=>by
 obtain ⟨i,hi,rfl⟩:=A8.mem_list.1 hx;have:=Zmg (Zmh h hi);omega
theorem ZBu {x:Int} {K:Bool→Prop} (h:K (decide (1≤x∧x≤10006))):Zke x K:=Zqp h
theorem Zsv {ds:List Int} {l:List Term} {K:Bool→Prop} (hd:OkDeg ds) (hp:FitT l) (h:K (decide (OkForm ds l))):Zf4 ds ⟨l⟩ K:=by
 unfold Zf4;dsimp only;split
 ·rename_i q;have:¬ OkForm ds l:=λz=>by have:=z.1; omega
  rwa [decide_eq_false this] at h
 ·rename_i V;refine Yu (λi _=>∀ j,j < i→OkMono ds (l.getD j ZEu).mono∧(1≤(l.getD j ZEu).factor∧(l.getD j ZEu).factor≤10006)∧(0 < j→pcmp (l.getD (j - 1) ZEu).mono (l.getD j ZEu).mono < 0)) l.length ?_ ?_ _ _ _ (by omega) (by intro j hj; omega)
  ·intro i s next hi A hn
   have bad:¬ (OkMono ds (l.getD i ZEu).mono∧(1≤(l.getD i ZEu).factor∧(l.getD i ZEu).factor≤10006)∧(0 < i→pcmp (l.getD (i - 1) ZEu).mono (l.getD i ZEu).mono < 0))→K false:=by
    intro b;have:¬ OkForm ds l:=λq=>b (q.2 _ hi)
    rwa [decide_eq_false this] at h
   refine Zw9 hd (λq hq=>(hp.pos _ (Yx hi) q hq).1) ?_
   split
   ·rename_i q;exact bad λz=>q (decide_eq_true z.1)
   ·rename_i B;have B:OkMono ds (l.getD i ZEu).mono:=of_decide_eq_true (ZH3.1 B);refine ZBu ?_
    split
    ·rename_i q;exact bad λz=>q (decide_eq_true z.2.1)
    ·rename_i G;have G:1≤(l.getD i ZEu).factor∧(l.getD i ZEu).factor≤10006:=of_decide_eq_true (ZH3.1 G)
     have ok:(0 < i→pcmp (l.getD (i - 1) ZEu).mono (l.getD i ZEu).mono < 0)→next ():=λO=>by
      refine hn _ λj hj=>?_
      by_cases hji:j=i
      ·subst hji; exact⟨B,G,O⟩
      ·exact A j (by omega)
     split
     ·have U:ZHf.wrap ((i:Int) - 1)=(i:Int) - 1:=i64_in _ (by omega)
      rw [U,show ((i:Int) - 1).toNat=i - 1 by omega]
      have I:=hp _ (Yx (show i - 1 < l.length by omega))
      have L:=hp _ (Yx hi);refine⟨by omega,Zki I (Zki L (ZBt (Zsu I) (Zsu L) ?_))⟩
      split
      ·rename_i q;exact bad λz=>by have:=z.2.2 (by omega); omega
      ·rename_i q;exact ok λ_=>by omega
     ·exact ok λq=>by omega
  ·intro s A;have:OkForm ds l:=⟨by omega,A⟩
   rwa [decide_eq_true this] at h
structure IsMap (l:List Term) (m:List (A8×Int)):Prop where
 ok:MapOk m
 cf:∀ x,co m x=coT l x
 ks:∀ p,p∈m→∃ t,t∈l∧t.mono=p.1
theorem Zfb {l:List Term} {K:List (A8×Int)→Prop} (hc:Canon l) (hp:FitT l) (h:∀ m,IsMap l m→K m):Zbp ⟨l⟩ K:=by
 unfold Zbp;dsimp only;refine Yu (λi (s:List (A8×Int))=>IsMap (l.take i) s) l.length ?_ ?_ _ _ _ (by omega) ⟨MapOk.nil,by intro x; rfl,by simp⟩
 ·intro i s next hi A hn;refine Zki (hp _ (Yx hi)) (hn _ ?_)
  rw [Xu hi]
  have hnew:co s (l.getD i ZEu).mono=0:=by
   rw [A.cf];refine Zd6 λt ht=>?_
   obtain ⟨j,hj,rfl⟩:=ZE8 ht;rw [ZUe] at hj
   have:=hc.at_lt (show j < i by omega) hi
   have hjl:j < l.length:=by omega
   simp only [List.getElem_take];rw [show l.getD j ZEu=l[j] by simp [ZE0,hjl]] at this
   exact Zbq this
  refine⟨A.ok.put (hc.at_range hi),λx=>?_,λp hpm=>?_⟩
  ·rw [Zm1 A.ok.1,Zda,← A.cf]
   by_cases hx:x=(l.getD i ZEu).mono
   ·subst hx; rw [if_pos rfl,if_pos rfl,hnew,ZF7]
   ·rw [if_neg hx,if_neg (λe=>hx e.symm),Z1c]
  ·rcases Zm3 hpm with rfl | q
   ·exact⟨_,by simp,rfl⟩
   ·obtain ⟨t,ht,e⟩:=A.ks p q;exact⟨t,by simp [ht],e⟩
 ·intro s A;rw [Z1g] at A
  exact h _ A
theorem Zsw {l:List (A8×Int)} {x:A8} {c:Int} {K:List (A8×Int)→Prop} (hl:MapOk l) (hc:-100000000000≤c∧c≤100000000000) (h:∀ l',IsPut l x c l'→K l'):Zf0 l x c K:=by
 unfold Zf0;rw [Zcn hl.1];have:=hl.range x;rw [i64_in _ (by omega)]
 refine Zm7 ?_
 split
 ·rename_i q; exact h _ (IsPut.put hl rfl q)
 ·rename_i q; exact h _ (IsPut.del hl (by omega))
structure IsSum (s t:List (A8×Int)) (k:Int) (out:List (A8×Int)):Prop where
 ok:MapOk out
 cf:∀ m,co out m % 10007=(co s m+k * co t m) % 10007
 ks:∀ p,p∈out→∃ q,(q∈s∨q∈t)∧q.1=p.1
 ln:out.length≤s.length+t.length
theorem ZBv {s t:List (A8×Int)} {k:Int} {K:List (A8×Int)→Prop} (hs:MapOk s) (ht:MapOk t) (hk:0≤k∧k≤10006) (h:∀ out,IsSum s t k out→K out):Zeu s t k K:=by
 unfold Zeu;refine Zhk (λl' (out:List (A8×Int))=>(∀ p,p∈l'→p∈t)∧MapOk out∧(∀ m,(co out m+k * co l' m) % 10007=(co s m+k * co t m) % 10007)∧(∀ p,p∈out→∃ q,(q∈s∨q∈t)∧q.1=p.1)∧out.length+l'.length≤s.length+t.length) ?_ ?_ t s ⟨λ_ h=>h,hs,λ_=>rfl,λp hp=>⟨p,.inl hp,rfl⟩,by omega⟩
 ·intro l' p l'' out next hp ⟨B,G,I,L,O⟩ hn;have hperm:=Zj6 hp;have hpm:p∈l':=hperm.mem_iff.2 (by simp)
  have hpt:=ht.2 p (B p hpm);have hb:=Zkr (show 0≤p.2∧p.2≤10006 by omega) hk
  rw [i64_in _ (by omega)]
  have htm:=Zic (p.2 * k);refine Zsw G (by omega) λout' ho=>hn _ ⟨λq hq=>B q (hperm.mem_iff.2 (by simp [hq])),ho.ok,λm=>?_,λq hq=>?_,?_⟩
  ·have U:=ho.cf m;have A:=I m;have V:co l' m=(if p.1=m then p.2 else 0)+co l'' m:=by rw [co,Zf6 _ hperm]; rfl
   rw [V,Z1x] at A
   by_cases hm:p.1=m
   ·rw [if_pos hm] at U A
    have e4:=Zqv (p.2 * k);rw [ZGk k p.2] at A
    omega
   ·rw [if_neg hm] at U A
    omega
  ·rcases ho.ks q hq with e | ⟨q',hq',e⟩
   ·exact⟨p,.inr (B p hpm),e.symm⟩
   ·obtain ⟨z,hz,e'⟩:=L q' hq';exact⟨z,hz,e'.trans e⟩
  ·have:=ho.ln;have:=Zhi hp;omega
 ·intro out ⟨_,G,I,L,O⟩;exact h _ ⟨G,λm=>by have:=I m; rw [Zf7,Z1n,Z1c] at this; exact this,L,by simpa using O⟩
def shM (ds:List Int) (p:A8×Int) (t:List (A8×Int)) (m:A8):Int:=tot (λq=>pr1 ds p.1 p.2 q.1 q.2 m) t
def prM (ds:List Int) (s t:List (A8×Int)) (m:A8):Int:=tot (λp=>shM ds p t m) s
structure IsProdM (ds:List Int) (s t out:List (A8×Int)):Prop where
 ok:MapOk out
 cf:∀ m,co out m % 10007=prM ds s t m % 10007
 ks:∀ p,p∈out→∃ a b,a∈s∧b∈t∧p.1=a.1.add b.1∧¬ Clash ds a.1 b.1
theorem Zsx {ds:List Int} {s t:List (A8×Int)} {K:List (A8×Int)→Prop} (hd:OkDeg ds) (hs:MapOk s) (ws:∀ p,p∈s→Jh ds p.1) (ps:∀ p,p∈s→∀ i,i < 8→0≤p.1.get i) (ht:MapOk t) (wt:∀ p,p∈t→Jh ds p.1) (pt:∀ p,p∈t→∀ i,i < 8→0≤p.1.get i)
  (h:∀ out,IsProdM ds s t out→K out):Zck s ds t K:=by
 unfold Zck;refine Zhk (λl' (out:List (A8×Int))=>(∀ p,p∈l'→p∈s)∧MapOk out∧(∀ m,(co out m+prM ds l' t m) % 10007=prM ds s t m % 10007)∧(∀ p,p∈out→∃ a b,a∈s∧b∈t∧p.1=a.1.add b.1∧¬ Clash ds a.1 b.1)) ?_ ?_ s [] ⟨λ_ h=>h,MapOk.nil,λm=>by rw [Zf7,ZF7],by simp⟩
 ·intro l' p l'' out next hp ⟨h0,U,V,h3⟩ hn;have hperm:=Zj6 hp;have hpm:p∈s:=h0 p (hperm.mem_iff.2 (by simp))
  have hpf:=hs.2 p hpm;have e3:∀ m,prM ds l' t m=shM ds p t m+prM ds l'' t m:=λm=>by rw [prM,Zf6 _ hperm]; rfl
  refine Zhk (λk' (B:List (A8×Int))=>(∀ q,q∈k'→q∈t)∧MapOk B∧(∀ m,(co B m+shM ds p k' m) % 10007=(co out m+shM ds p t m) % 10007)∧(∀ q,q∈B→∃ a b,a∈s∧b∈t∧q.1=a.1.add b.1∧¬ Clash ds a.1 b.1)) ?_ ?_ t out ⟨λ_ h=>h,U,λ_=>rfl,h3⟩
  ·intro k' q k'' B next' hq ⟨g0,G,I,L⟩ hn';have hperm2:=Zj6 hq;have hqm:q∈t:=g0 q (hperm2.mem_iff.2 (by simp))
   have hqf:=ht.2 q hqm;have e4:∀ m,shM ds p k' m=pr1 ds p.1 p.2 q.1 q.2 m+shM ds p k'' m:=λm=>by rw [shM,Zf6 _ hperm2]; rfl
   refine Zxh hd (ws p hpm) (wt q hqm) (ps p hpm) (pt q hqm) ?_
   split
   ·rename_i hsg;rw [Zm9 (Zid hsg).2.2 hpf hqf];have htm:=Zic ((Xk ds p.1 q.1).2 * (p.2 * q.2));refine Zsw G (by omega) λo3 ho=>hn' _ ⟨λz hz=>g0 z (hperm2.mem_iff.2 (by simp [hz])),ho.ok,λm=>?_,λz hz=>?_⟩
    ·have O:=ho.cf m;have A:=I m;rw [e4,pr1] at A
     by_cases hm:(Xk ds p.1 q.1).1=m
     ·rw [if_pos hm] at O A
      have e5:=Zqv ((Xk ds p.1 q.1).2 * (p.2 * q.2));omega
     ·rw [if_neg hm] at O A
      omega
    ·rcases ho.ks z hz with e | ⟨z',hz',e⟩
     ·exact⟨p,q,hpm,hqm,by rw [e,(Zid hsg).2.1],(Zid hsg).1⟩
     ·obtain ⟨a,b,ha,hb,e',hc⟩:=L z' hz';exact⟨a,b,ha,hb,e ▸ e',hc⟩
   ·rename_i hsg;refine hn' _ ⟨λz hz=>g0 z (hperm2.mem_iff.2 (by simp [hz])),G,λm=>?_,L⟩
    have A:=I m;rw [e4,pr1,show (Xk ds p.1 q.1).2=0 by simpa using hsg] at A
    simpa using A
  ·intro B ⟨_,G,I,L⟩;refine hn _ ⟨λq hq=>h0 q (hperm.mem_iff.2 (by simp [hq])),G,λm=>?_,L⟩
   have O:=I m;have A:=V m;rw [e3] at A
   rw [show shM ds p [] m=0 from rfl] at O
   omega
 ·intro out ⟨_,U,V,h3⟩;exact h _ ⟨U,λm=>by have:=V m; rw [show prM ds [] t m=0 from rfl,Z1c] at this; exact this,h3⟩
theorem Zlc {l:List Term} {k:List (A8×Int)} (hk:IsMap l k) (hc:Canon l) (F:A8→Int→Int) (G:∀ a,F a 0=0):tot (λp=>F p.1 p.2) k=tot (λt=>F t.mono t.factor) l:=by
 have hnd:(l.map λt=>(t.mono,t.factor)).Nodup:=by
  refine Z1m.2 (hc.1.imp λ{a b} h e=>?_)
  exact Zbq h (congrArg Prod.fst e)
 have hperm:k.Perm (l.map λt=>(t.mono,t.factor)):=by
  have hkn:k.Nodup:=by
   have:=hk.ok.1;exact List.Pairwise.imp (λ{a b} h e=>h (congrArg Prod.fst e)) (Z1m.1 this)
  refine(List.perm_ext_iff_of_nodup hkn hnd).2 λp=>?_
  have atk:∀ p,p∈k→co k p.1=p.2:=by
   intro p hp;obtain ⟨i,hi,rfl⟩:=ZE8 hp;have hkk:=hk.ok.1;clear hk hkn
   induction k generalizing i with
   | nil=>simp at hi
   | cons q k ih =>
    simp only [ZFw,ZP3] at hkk
    rw [Za5];cases i with
    | zero=>rw [List.getElem_cons_zero,if_pos rfl,Zd7 λt ht e=>hkk.1 (ZE1.2 ⟨t,ht,e⟩),Z1c]
    | succ i =>
     have hi':i < k.length:=by simpa using hi
     rw [List.getElem_cons_succ,if_neg (λe=>hkk.1 (ZE1.2 ⟨_,List.getElem_mem hi',e.symm⟩)),ZF7]
     exact ih i hi' (List.getElem_mem hi') hkk.2
  have atl:∀ t,t∈l→coT l t.mono=t.factor:=by
   intro t ht;clear hk hkn hnd atk
   induction l with
   | nil=>simp at ht
   | cons q l ih =>
    rcases ZEn.1 ht with rfl | ht
    ·exact hc.at_head
    ·rw [Zcl,if_neg (Zbq (hc.head t ht)),ZF7]; exact ih hc.tail ht
  constructor
  ·intro hp;obtain ⟨t,ht,e⟩:=hk.ks p hp;refine ZE1.2 ⟨t,ht,?_⟩
   have A:=atk p hp;rw [hk.cf,← e,atl t ht] at A
   rw [e,A]
  ·intro hp;obtain ⟨t,ht,rfl⟩:=ZE1.1 hp;have A:=hk.cf t.mono;rw [atl t ht] at A
   have hnz:=hc.2 t ht
   have:∃ p,p∈k∧p.1=t.mono:=by
    refine Z1o λhno=>?_
    rw [Zd7 (λp hp e=>hno ⟨p,hp,e⟩)] at A
    omega
   obtain ⟨p,hp,e⟩:=this;have B:=atk p hp;rw [e,A] at B
   rw [← e,B]; exact hp
 rw [Zf6 _ hperm,Zew]
def Low (a:A8):Prop:=∀ i,i < 8→a.get i≤20
instance (a:A8):Decidable (Low a):=inferInstanceAs (Decidable (∀ i,i < 8→_))
end Go.Proofs.YtaagfepgbofmlaaGreat
namespace Vc
open Go
def A8.mkf (f:Nat→Int):A8:=⟨f 0,f 1,f 2,f 3,f 4,f 5,f 6,f 7⟩
theorem A8.get_mkf (f:Nat→Int) {i:Nat} (hi:i < 8):(A8.mkf f).get i=f i:=by
 match i,hi with
 | 0,_ | 1,_ | 2,_ | 3,_ | 4,_ | 5,_ | 6,_ | 7,_=>rfl
def X5 (m:A8) (i:Nat):A8:=A8.mkf λj=>if j < i then m.get j else 0
def leftA (m:A8) (i:Nat):A8:=A8.mkf λj=>if j < i then m.get j else if j=i then m.get i - 1 else 0
def backA (m:A8) (i:Nat):A8:=A8.mkf λj=>if i < j then m.get j else 0
def wtU (ds:List Int) (m:A8):Nat→Int
 | 0=>0
 | i+1=>wtU ds m i+ds.getD i ZEu * m.get i
theorem Zsy (F:A8→Int) (S:List A8) (A:S.Nodup):∀ l:List Term,(∀ t,t∈l→t.mono∈S)→tot (λt=>F t.mono * t.factor) l=tot (λx=>F x * coT l x) S:=by
 intro l
 induction l with
 | nil=>intro _; simp only [tot]; rw [Zkm]; intro x _; rw [Zex,Z1n]
 | cons t l ih =>
  intro h;simp only [tot];rw [ih λs hs=>h s (by simp [hs])]
  have e:∀ x,F x * coT (t::l) x=(if t.mono=x then F x * t.factor else 0)+F x * coT l x:=λx=>by
   rw [Zcl,Z1x]
   congr 1
   split
   ·rfl
   ·rw [Z1n]
  rw [Zib (λx _=>e x),Zxj]
  congr 1
  have ht:=h t (by simp)
  clear ih h e
  induction S with
  | nil=>cases ht
  | cons s S ihS =>
   simp only [tot];have hn:=ZP3.1 A;by_cases hs:t.mono=s
   ·subst hs;rw [if_pos rfl,Zkm]
    ·omega
    ·intro x hx;rw [if_neg];rintro rfl;exact hn.1 hx
   ·rw [if_neg hs,ZF7];refine ihS hn.2 ?_
    rcases ZEn.1 ht with q | q
    ·exact absurd q hs
    ·exact q
def Zcu:List A8→List A8
 | []=>[]
 | a::l=>if a∈Zcu l then Zcu l else a::Zcu l
theorem Zob {a:A8}:∀ l,a∈l→a∈Zcu l
 | b :: l, h => by
  simp only [Zcu];rcases ZEn.1 h with rfl | h
  ·split
   ·assumption
   ·simp
  ·have:=Zob l h;split
   ·exact this
   ·simp [this]
theorem Zld:∀ l,(Zcu l).Nodup
 | []=>List.nodup_nil
 | a :: l => by
  simp only [Zcu];split
  ·exact Zld l
  ·exact ZP3.2 ⟨by assumption,Zld l⟩
theorem lin (F:A8→Int) {l k:List Term} (h:∀ x,coT l x % 10007=coT k x % 10007):tot (λt=>F t.mono * t.factor) l % 10007=tot (λt=>F t.mono * t.factor) k % 10007:=by
 have S:=Zcu (l.map Z1j++k.map Z1j)
 rw [Zsy F (Zcu (l.map Z1j++k.map Z1j)) (Zld _) l λt ht=>Zob _ (by simp; exact .inl ⟨t,ht,rfl⟩),
  Zsy F (Zcu (l.map Z1j++k.map Z1j)) (Zld _) k λt ht=>Zob _ (by simp; exact .inr ⟨t,ht,rfl⟩)]
 refine Zxk λx _=>?_
 rw [ZE5,h x,← ZE5]
def tri (ds:List Int) (l b u:A8) (n:Int) (x:A8):Int:=if(Xk ds (Xk ds l u).1 b).1=x then(Xk ds (Xk ds l u).1 b).2 * ((Xk ds l u).2 * n) else 0
def triC (ds:List Int) (l b:A8) (img:List Term) (x:A8):Int:=tot (λu=>tri ds l b u.mono u.factor x) img
theorem Zsz {ds:List Int} {l b:A8} {img own prod:List Term} (h:∀ y,coT own y % 10007=shC ds ⟨l,1⟩ img y % 10007) (A:∀ x,coT prod x % 10007=prC ds own [⟨b,1⟩] x % 10007) (x:A8):coT prod x % 10007=triC ds l b img x % 10007:=by
 rw [A]
 have B:prC ds own [⟨b,1⟩] x=tot (λt=>(if(Xk ds t.mono b).1=x then(Xk ds t.mono b).2 else 0) * t.factor) own:=by
  refine Zib λt _=>?_
  unfold shC pr1;simp only [tot,Z1z,Z1c];split <;> simp
 have G:∀ y,coT own y % 10007=coT (img.map λu=>(⟨(Xk ds l u.mono).1,(Xk ds l u.mono).2 * u.factor⟩:Term)) y % 10007:=λy=>by
  rw [h y,shC,coT,Zew]
  congr 1
  refine Zib λu _=>?_
  unfold pr1;simp only [Z1y]
 rw [B,lin (λy=>if(Xk ds y b).1=x then(Xk ds y b).2 else 0) G,Zew]
 congr 1
 refine Zib λu _=>?_
 unfold tri;dsimp only;split <;> simp
def dK (ds:List Int) (m:A8) (n:Int) (i:Nat):Int:=(sg (wtU ds m i) * (n * m.get i)) % 10007
def dS (ds:List Int) (imgs:List (List Term)) (m:A8) (n:Int) (x:A8):Nat→Nat→Int
 | 0,_=>0
 | r+1,i=>(if m.get i > 0 then dK ds m n i * triC ds (leftA m i) (backA m i) (imgs.getD i ZEu) x else 0)+dS ds imgs m n x r (i+1)
def dT (ds:List Int) (imgs:List (List Term)) (m:A8) (n:Int) (x:A8):Int:=dS ds imgs m n x 8 0
theorem ZBw (ds:List Int) (m:A8) (i:Nat):dK ds m 0 i=0:=by simp [dK]
theorem Zoc (ds:List Int) (imgs:List (List Term)) (m x:A8):dT ds imgs m 0 x=0:=by
 have:∀ r i,dS ds imgs m 0 x r i=0:=by
  intro r
  induction r with
  | zero=>intro i; rfl
  | succ r ih=>intro i; simp only [dS,ih,ZBw]; split <;> simp
 exact this 8 0
theorem ZBx {ds:List Int} {imgs:List (List Term)} {m:A8} {n:Int} {x:A8}:∀ r i,(∀ j,i≤j→j < i+r→m.get j=0)→dS ds imgs m n x r i=0:=by
 intro r
 induction r with
 | zero=>intro i _; rfl
 | succ r ih=>intro i h; simp only [dS]; rw [h i (by omega) (by omega),if_neg (by omega),ih (i+1) λj A B=>h j (by omega) (by omega)]; rfl
def DMono (ds:List Int) (imgs:List (List Term)) (x m:A8):Prop:=∃ i u,i < 8∧0 < m.get i∧u∈imgs.getD i ZEu∧x=((leftA m i).add u.mono).add (backA m i)∧¬ Clash ds (leftA m i) u.mono∧¬ Clash ds ((leftA m i).add u.mono) (backA m i)
structure IsD (ds:List Int) (imgs:List (List Term)) (f out:List Term):Prop where
 can:Canon out
 cf:∀ x,coT out x % 10007=tot (λt=>dT ds imgs t.mono t.factor x) f % 10007
 mo:∀ y,y∈out→∃ t,t∈f∧DMono ds imgs y.mono t.mono
theorem Zod {ds:List Int} {m:A8} {i:Nat} (h:OkMono ds m) (hi:i < 8) (hp:0 < m.get i):Jh ds (leftA m i)∧Jh ds (backA m i):=by
 constructor
 ·intro j hj;rw [leftA,A8.get_mkf _ hj];have hm:=h j hj;refine⟨λhl=>?_,λhl=>?_⟩
  ·have A:=hm.1 hl;split
   ·exact⟨by omega,A.2⟩
   ·split
    ·rename_i e; subst e; exact⟨by omega,λq=>by have:=A.2 q; omega⟩
    ·exact⟨by omega,λ_=>by omega⟩
  ·have A:=hm.2 hl;split
   ·exact A
   ·split
    ·rename_i e; subst e; omega
    ·rfl
 ·intro j hj;rw [backA,A8.get_mkf _ hj];have hm:=h j hj;refine⟨λhl=>?_,λhl=>?_⟩
  ·have A:=hm.1 hl;split
   ·exact⟨by omega,A.2⟩
   ·exact⟨by omega,λ_=>by omega⟩
  ·have A:=hm.2 hl;split
   ·exact A
   ·rfl
theorem Zle {ds:List Int} {a b:A8} (ha:Jh ds a) (hb:Jh ds b) (pa:∀ i,i < 8→0≤a.get i) (pb:∀ i,i < 8→0≤b.get i) (hs:∀ i,i < 8→a.get i+b.get i≤100) (hc:¬ Clash ds a b):Jh ds (a.add b):=by
 intro j hj;rw [Z1f];have h:=ha j hj;have A:=hb j hj;refine⟨λhl=>⟨hs j hj,λho=>?_⟩,λhl=>by rw [h.2 hl,A.2 hl]; rfl⟩
 have B:=(h.1 hl).2 ho;have G:=(A.1 hl).2 ho;have:=pa j hj;have:=pb j hj;have:¬ (0 < a.get j∧0 < b.get j):=λq=>hc ⟨j,hl,ho,q⟩
 omega
end Vc
namespace Go.Proofs.YtaagfepgbofmlaaGreat
open Go Vc
def asT (m:List (A8×Int)):List Term:=m.map λp=>⟨p.1,p.2⟩
theorem Zoe (m:List (A8×Int)) (x:A8):coT (asT m) x=co m x:=by rw [coT,asT,Zew]; rfl
theorem Zs0 {l:List Term} {out:List (A8×Int)} (hc:Canon l) (ho:MapOk out) (h:∀ x,co out x % 10007=coT l x % 10007):IsMap l out:=by
 have hcf:∀ x,co out x=coT l x:=λx=>by have:=h x; have:=ho.range x; have:=hc.range x; omega
 refine⟨ho,hcf,λp hp=>Z1o λhno=>?_⟩
 have A:coT l p.1=0:=Zd6 λt ht e=>hno ⟨t,ht,e⟩
 rw [← hcf,← Zcn ho.1] at A
 have B:=ho.2 p hp
 have G:(Y8 out p.1).getD 0=p.2:=by
  rw [Zcn ho.1];have hk:=ho.1;clear h hcf hno A B ho
  induction out with
  | nil=>simp at hp
  | cons q k ih =>
   simp only [ZFw,ZP3] at hk
   rw [Za5];rcases ZEn.1 hp with rfl | hp
   ·rw [if_pos rfl,Zd7 λt ht e=>hk.1 (ZE1.2 ⟨t,ht,e⟩),Z1c]
   ·rw [if_neg (λe=>hk.1 (ZE1.2 ⟨p,hp,e.symm⟩)),ZF7]
    exact ih hp hk.2
 omega
theorem ZBy {ds:List Int} {l b:A8} {img:List Term} {s own t:List (A8×Int)} (hs:IsMap img s) (hc:Canon img) (h:IsProdM ds [(l,1)] s own) (A:IsProdM ds own [(b,1)] t) (x:A8):co t x % 10007=triC ds l b img x % 10007:=by
 rw [← Zoe]
 refine Zsz (own:=asT own) (λy=>?_) (λx=>?_) x
 ·rw [Zoe,h.cf];unfold prM shM shC;simp only [tot,Z1c];rw [Zlc hs hc (λa n=>pr1 ds l 1 a n y) (λa=>by unfold pr1; split <;> simp)]
 ·rw [Zoe,A.cf];unfold prM shM prC shC asT;rw [Zew];simp only [tot,Z1c]
structure IsDM (ds:List Int) (imgs:List (List Term)) (s out:List (A8×Int)):Prop where
 ok:MapOk out
 cf:∀ x,co out x % 10007=tot (λp=>dT ds imgs p.1 p.2 x) s % 10007
 mo:∀ y,y∈out→∃ t,t∈s∧DMono ds imgs y.1 t.1
theorem ZBz {ds:List Int} {imgs:List (List Term)} {f:List Term} {s out':List (A8×Int)} {out:List Term} (hs:IsMap f s) (hc:Canon f) (h:IsD ds imgs f out) (h':IsDM ds imgs s out'):IsMap out out' :=
 Zs0 h.can h'.ok λx=>by
  rw [h'.cf,h.cf,Zlc hs hc (λa n=>dT ds imgs a n x) (λa=>Zoc ds imgs a x)]
theorem Zs1 {l:List Term} {m:List (A8×Int)} (h:IsMap l m) (hc:Canon l):m=[]↔l=[]:=by
 constructor
 ·intro e;cases l with
  | nil=>rfl
  | cons t l =>
   have A:=h.cf t.mono;rw [hc.at_head,e,Zf7] at A
   have:=hc.2 t (by simp)
   omega
 ·intro e;cases m with
  | nil=>rfl
  | cons p m =>
   obtain ⟨t,ht,_⟩:=h.ks p (by simp)
   rw [e] at ht; cases ht
end Go.Proofs.YtaagfepgbofmlaaGreat
namespace Go.Proofs.YtaagfepgbofmlaaGreat
open Go Vc
theorem ZB0 {a b:Term} {K:Bool→Prop} (h:K (decide (a=b))):Zh8 a b K:=by
 unfold Zh8;refine Zxd ?_
 cases a with | mk m x=>cases b with | mk n y =>
 by_cases A:m=n
 ·by_cases B:x=y
  ·simpa [A,B] using h
  ·simpa [A,B] using h
 ·simpa [A] using h
theorem Zs2 {α:Type} [DecidableEq α] [Inhabited α] {a b:List α} {K:Bool→Prop} {eq:α→α→(Bool→Prop)→Prop} (he:∀ x y K,K (decide (x=y))→eq x y K) (h:K (decide (a=b))) :
  (if(a.length:Int)≠(b.length:Int) then K false else Z9 (λi (s:Unit) next=>((0≤(i:Int)∧(i:Int) < (b.length:Int))∧eq (a.getD i ZEu) (b.getD i ZEu) (λr=>(if¬ (r=true) then K false else next ())))) (λ(s:Unit)=>K true) a.length 0 ()):=by
 split
 ·rename_i A;have:¬ a=b:=λe=>A (by rw [e])
  simpa [this] using h
 ·rename_i A;have hl:a.length=b.length:=by omega
  refine Yu (λi _=>∀ j,j < i→a.getD j ZEu=b.getD j ZEu) a.length ?_ ?_ _ _ _ (by omega) (by intro j hj; omega)
  ·intro i s next hi B hn;refine⟨by omega,he _ _ _ ?_⟩
   split
   ·rename_i A;have:¬ a=b:=λe=>A (by rw [e]; simp)
    simpa [this] using h
   ·rename_i A;refine hn _ λj hj=>?_
    by_cases hji:j=i
    ·subst hji; simpa only [decide_eq_true_eq,ZH3] using A
    ·exact B j (by omega)
  ·intro s B
   have:a=b:=by
    apply ZGj hl;intro i A G;have:=B i A;simpa [ZE0,A,G] using this
   simpa [this] using h
theorem ZB1 {a b:List Term} {K:Bool→Prop} (h:K (decide (a=b))):Zkg a b K:=Zs2 (λ_ _ _ h=>ZB0 h) h
theorem Zs3 {a b:ZMw} {K:Bool→Prop} (h:K (decide (a=b))):Zev a b K:=by
 unfold Zev;refine ZB1 ?_
 cases a with | mk s=>cases b with | mk t =>
 by_cases A:s=t
 ·simpa [A] using h
 ·simpa [A] using h
theorem ZB2 {a b:List ZMw} {K:Bool→Prop} (h:K (decide (a=b))):Zkh a b K:=Zs2 (λ_ _ _ h=>Zs3 h) h
theorem ZB3 {a b:Alg} {K:Bool→Prop} (h:K (decide (a=b))):Zf9 a b K:=by
 unfold Zf9;refine Zxe ?_
 cases a with | mk s t=>cases b with | mk u v =>
 dsimp only;by_cases A:s=u
 ·simp only [A,decide_true,not_true_eq_false,if_false];refine ZB2 ?_
  by_cases B:t=v
  ·simpa [A,B] using h
  ·simpa [B] using h
 ·simpa [A] using h
theorem Zof {α:Type} [Inhabited α] {xs:List α} {i j:Nat} {x:α} (hi:i < xs.length):(xs.set i x).getD j ZEu=if j=i then x else xs.getD j ZEu:=by
 by_cases h:j=i
 ·subst h; simp [ZE0,hi]
 ·simp [ZE0,List.getElem?_set_ne (λe=>h e.symm),h]
end Go.Proofs.YtaagfepgbofmlaaGreat
namespace Go.Proofs.YtaagfepgbofmlaaGreat
open Go Vc
theorem ZB4 {t:Term} {K:Term→Prop} (h:K t):Zh6 t K:=by
 unfold Zh6;exact Zxb h
theorem ZB5 {l:List Term} {K:List Term→Prop} (hl:l.length≤1048576) (h:K l):Zh7 l K:=by
 unfold Zh7;refine⟨by omega,?_⟩
 refine Yu (λi (s:List Term)=>s.length=l.length∧∀ j,j < i→s.getD j ZEu=l.getD j ZEu) l.length ?_ ?_ _ _ _ (by omega) ⟨by simp,by intro j hj; omega⟩
 ·intro i s next hi ⟨A,B⟩ hn;refine ZB4 ⟨by omega,hn _ ⟨by simpa using A,λj hj=>?_⟩⟩
  rw [Zof (by omega)]
  by_cases e:j=i
  ·rw [if_pos e,e]
  ·rw [if_neg e]; exact B j (by omega)
 ·intro s ⟨A,B⟩;have:s=l:=ZGj A λj hj hj'=>by have:=B j (by omega); simpa [ZE0,hj,hj'] using this
  rw [this]; exact h
theorem Zlf {f:ZMw} {K:ZMw→Prop} (hl:f.terms.length≤1048576) (h:K f):Zd5 f K:=by
 unfold Zd5;exact ZB5 hl h
theorem Zs4 {f:ZMw} {n:Int} {K:Int→Prop} (hl:(f.terms.length:Int)≤9223372036854775807) (hn:0≤n∧n≤1048576) (h:(f.terms.length:Int)≤n→K (n - f.terms.length)) (A:∀ r,r < 0→K r):Zez f n K:=by
 unfold Zez Zko;rw [i64_in _ (by omega)]
 split
 ·exact A _ (by omega)
 ·dsimp only;rw [if_neg (by assumption)]
  exact h (by omega)
theorem Zfc {ds:List Int} {a:A8} (h:OkMono ds a):Low a:=λi hi=>by
 by_cases hl:i < ds.length
 ·exact((h i hi).1 hl).1
 ·rw [(h i hi).2 (by omega)]; omega
theorem Zed {b:Bool} {c:Int} {K:Int→Prop} (h:K (if b=true then c else 0)):Zc9 b c K:=by
 unfold Zc9;split
 ·rename_i q; rwa [if_pos q] at h
 ·rename_i q; rwa [if_neg q] at h
theorem Zs5 {A B:Prop} (h:B):if¬ (true=true) then A else B:=by simpa using h
theorem Zs6 {c:Int} {A B:Prop} (h:B):if c≠c then A else B:=by simpa using h
theorem ZB6 {f:ZMw} {K:Bool→Prop} (h:K true):Zev f f K:=Zs3 (by simpa using h)
end Go.Proofs.YtaagfepgbofmlaaGreat
namespace Go.Proofs.YtaagfepgbofmlaaGreat
open Go Vc
def imgsT (a:Alg):List (List Term):=a.images.map Vc.Form.terms
theorem Zgu (a:Alg) {i:Nat} (h:i < a.images.length):(imgsT a).getD i ZEu=(a.images.getD i ZEu).terms:=by
 simp [imgsT,ZE0,h]
structure AlgF (a:Alg):Prop where
 deg:OkDeg a.degrees
 len:a.images.length=a.degrees.length
 frm:∀ i,i < a.images.length→OkForm a.degrees (a.images.getD i ZEu).terms
 fit:∀ i,i < a.images.length→FitT (a.images.getD i ZEu).terms
theorem Zlg {m:A8} {K:ZMw→Prop} (h:K ⟨[⟨m,1⟩]⟩):J1 m 1 K:=by
 unfold J1;refine Zdc ?_
 rw [if_neg (by decide)]
 exact Zdc h
theorem Zfd {ds:List Int} {m:A8} (hd:OkDeg ds) (hm:∀ i,i < 8→0≤m.get i∧m.get i≤255):∀ k,k≤ds.length→0≤wtU ds m k∧wtU ds m k≤3060 * k:=by
 intro k
 induction k with
 | zero=>intro _; simp [wtU]
 | succ k ih =>
  intro hk;have h:=ih (by omega)
  have A:=hd.2 k (by omega)
  have B:=hm k (by have:=hd.1; omega)
  have G:0≤ds.getD k ZEu * m.get k:=Z1i (by omega) B.1
  have I:ds.getD k ZEu * m.get k≤12 * 255:=Z17 A.2 B.2 B.1 (by omega)
  simp only [wtU];omega
theorem Zs7 {ds:List Int} {m:A8} (hd:OkDeg ds) (hm:∀ i,i < 8→0≤m.get i∧m.get i≤255) {k:Nat} (hk:k < ds.length):0≤ds.getD k ZEu * m.get k∧ds.getD k ZEu * m.get k≤3060:=by
 have h:=hd.2 k hk;have A:=hm k (by have:=hd.1; omega)
 exact⟨Z1i (by omega) A.1,Z17 h.2 A.2 A.1 (by omega)⟩
theorem Zog {ds:List Int} {m:A8} {K:Int→Prop} (hd:OkDeg ds) (hm:∀ i,i < 8→0≤m.get i∧m.get i≤255) (h:K (wtU ds m ds.length)):Zd1 ds m K:=by
 unfold Zd1;have A:=hd.1;refine Yu (λi (s:Int)=>s=wtU ds m i) ds.length ?_ ?_ _ _ _ (by omega) rfl
 ·intro i s next hi hs hn;have B:=hm i (by omega)
  have G:=Zs7 hd hm hi;have I:=Zfd hd hm i (by omega)
  refine⟨by omega,?_⟩
  rw [i64_in (m.get i) (by omega),i64_in (ds.getD i ZEu * m.get i) (by omega),i64_in _ (by omega)]
  exact hn _ (by simp only [wtU]; rw [hs])
 ·intro s hs; rw [hs]; exact h
theorem ZB7 {ds:List Int} {m:A8} {K:Int→Prop} (hd:OkDeg ds) (hm:∀ i,i < 8→0≤m.get i∧m.get i≤255) (h:K (wtU ds m ds.length)):Zhz m ds K:=by
 unfold Zhz;have A:=hd.1;refine Yu (λi (s:Int)=>s=wtU ds m i) ds.length ?_ ?_ _ _ _ (by omega) rfl
 ·intro i s next hi hs hn;have B:=Zs7 hd hm hi;have G:=Zfd hd hm i (by omega)
  refine⟨by omega,?_⟩
  rw [i64_in (ds.getD i ZEu * m.get i) (by omega),i64_in _ (by omega)]
  exact hn _ (by simp only [wtU]; rw [hs])
 ·intro s hs; rw [hs]; exact h
theorem ZB8 {ds:List Int} {m:A8} {i:Nat} (A:ds.length≤8):∀ k,k≤ds.length→wtU ds (X5 m i) k=wtU ds m (min i k):=by
 intro k
 induction k with
 | zero=>intro _; simp [wtU]
 | succ k ih =>
  intro hk;simp only [wtU];rw [ih (by omega),X5,A8.get_mkf _ (by omega)]
  by_cases h:k < i
  ·rw [if_pos h,show min i (k+1)=k+1 by omega,show min i k=k by omega]
   simp only [wtU]
  ·rw [if_neg h,show min i (k+1)=i by omega,show min i k=i by omega]
   simp
theorem Zlh (m:A8):Canon [⟨m,1⟩]:=⟨by simp,by intro t ht; obtain rfl:=ZFn.1 ht; simp⟩
theorem ZB9 {l g:List Term} {m:A8} (h:l.length≤([⟨m,1⟩]:List Term).length * g.length):l.length≤g.length:=by simpa using h
theorem Zjc {a:A8} (h:Low a) (p:∀ i,i < 8→0≤a.get i∧a.get i≤255):∀ i,i < 8→0≤a.get i∧a.get i≤20:=λi hi=>⟨(p i hi).1,h i hi⟩
theorem Zoh {m:A8} {i:Nat} (hm:∀ i,i < 8→0≤m.get i∧m.get i≤20) (hp:0 < m.get i):(∀ j,j < 8→0≤(leftA m i).get j∧(leftA m i).get j≤20)∧(∀ j,j < 8→0≤(backA m i).get j∧(backA m i).get j≤20)∧∀ j,j < 8→(leftA m i).get j+(backA m i).get j≤20:=by
 refine⟨λj hj=>?_,λj hj=>?_,λj hj=>?_⟩
 ·rw [leftA,A8.get_mkf _ hj];have:=hm j hj;split
  ·exact this
  ·split
   ·rename_i e; subst e; omega
   ·omega
 ·rw [backA,A8.get_mkf _ hj];have:=hm j hj;split <;> omega
 ·rw [leftA,backA,A8.get_mkf _ hj,A8.get_mkf _ hj];have:=hm j hj;split
  ·rw [if_neg (by omega)]; omega
  ·split
   ·rename_i e; subst e; rw [if_neg (by omega)]; omega
   ·split <;> omega
theorem Zs8 (ds:List Int) (m:A8) (n:Int) (i:Nat):0≤dK ds m n i∧dK ds m n i≤10006:=by unfold dK; omega
theorem ZCa {w:Int} (hw:0≤w):(ZFl w 2≠0∧sg w=-1)∨(¬ ZFl w 2≠0∧sg w=1):=by
 rw [ZP9 hw];unfold sg;by_cases h:w % 2=0
 ·right; rw [if_pos h]; exact⟨by omega,rfl⟩
 ·left; rw [if_neg h]; exact⟨h,rfl⟩
structure StepD (ds:List Int) (imgs:List (List Term)) (m:A8) (n:Int) (i:Nat) (out out':List Term):Prop where
 can:Canon out'
 cf:∀ x,coT out' x % 10007=(coT out x+dK ds m n i * triC ds (leftA m i) (backA m i) (imgs.getD i ZEu) x) % 10007
 mo:∀ y,y∈out'→(∃ z,z∈out∧z.mono=y.mono)∨DMono ds imgs y.mono m
 ln:out'.length≤out.length+400
theorem ZCb {a:Alg} {K:ZMw→Prop} {m:A8} {n v:Int} {i:Nat} {out:List Term} (ha:AlgF a) (hi:i < a.images.length) (hm:OkMono a.degrees m) (pm:∀ i,i < 8→0≤m.get i∧m.get i≤255) (hp:0 < m.get i) (hc:Canon out) (hl:out.length≤50000000) (hv:v % 10007=dK a.degrees m n i)
  (h:∀ out',StepD a.degrees (imgsT a) m n i out out'→K ⟨out'⟩) :
  J1 (leftA m i) 1 (λr=>Zai a.degrees r (a.images.getD i ZEu) (λr'=>J1 (backA m i) 1 (λO=>Zai a.degrees r' O (λU=>X8 v (λk=>Zbd ⟨out⟩ U k K))))):=by
 have hd:=ha.deg;have B:i < 8:=by have:=hd.1; have:=ha.len; omega
 have hf:=ha.frm i hi;have ff:=ha.fit i hi;have G:=Zjc (Zfc hm) pm;obtain ⟨lb,bb,lbb⟩:=Zoh G hp;obtain ⟨wl,wb⟩:=Zod hm B hp;refine Zlg ?_
 have V:(⟨(a.images.getD i ZEu).terms⟩:ZMw)=a.images.getD i ZEu:=rfl;rw [← V]
 refine Zq4 hd (Zlh _) (λu hu=>by obtain rfl:=ZFn.1 hu; exact wl) (λu hu q hq=>by obtain rfl:=ZFn.1 hu; have:=lb q hq; dsimp only; omega) hf.canon (λu hu=>(hf.mono hu).wk) ff.pos (by simp) (by have:=hf.1; omega) λown ho=>?_
 refine Zlg ?_
 have hown:∀ u,u∈own→∃ z,z∈(a.images.getD i ZEu).terms∧u.mono=(leftA m i).add z.mono∧¬ Clash a.degrees (leftA m i) z.mono∧(∀ q,q < 8→0≤z.mono.get q∧z.mono.get q≤20):=λu hu=>by
  obtain ⟨t,z,ht,hz,e,hcl⟩:=ho.mo u hu;obtain rfl:=ZFn.1 ht;exact⟨z,hz,e,hcl,Zjc (Zfc (hf.mono hz)) (ff.pos z hz)⟩
 have wown:∀ u,u∈own→Jh a.degrees u.mono∧∀ q,q < 8→0≤u.mono.get q∧u.mono.get q≤40:=λu hu=>by
  obtain ⟨z,hz,e,hcl,A⟩:=hown u hu;rw [e];refine⟨Zle wl (hf.mono hz).wk (λq hq=>(lb q hq).1) (λq hq=>(A q hq).1) (λq hq=>by have:=lb q hq; have:=A q hq; omega) hcl,λq hq=>?_⟩
  rw [Z1f];have:=lb q hq;have:=A q hq;omega
 have lo:=ZB9 ho.ln;refine Zq4 hd ho.can (λu hu=>(wown u hu).1) (λu hu q hq=>by have:=(wown u hu).2 q hq; omega) (Zlh _) (λu hu=>by obtain rfl:=ZFn.1 hu; exact wb) (λu hu q hq=>by obtain rfl:=ZFn.1 hu; have:=bb q hq; dsimp only; omega) (by have:=hf.1; omega) (by simp) λprod hpr=>?_
 have lp:prod.length≤400:=by have h1:=hpr.ln; have:=hf.1; simp at h1; omega
 refine Zdc ?_
 rw [hv];refine Zq2 hc hpr.can (Zs8 _ _ _ _) (by omega) (by omega) λout' hout=>h out' ⟨hout.can,λx=>?_,λy hy=>?_,by have:=hout.ln; omega⟩
 ·rw [hout.cf];have e1:=Zsz (ds:=a.degrees) (l:=leftA m i) (b:=backA m i) (img:=(a.images.getD i ZEu).terms) (own:=own) (prod:=prod) (λy=>by rw [ho.cf]; simp [prC,tot]) (λx=>hpr.cf x) x
  rw [Zgu a hi,ZG4,ZE5,e1,← ZE5,← ZG4]
 ·obtain ⟨z,hz,e⟩:=hout.mo y hy;rcases hz with hz | hz
  ·exact .inl ⟨z,hz,e⟩
  ·obtain ⟨t,b,ht,hb,e2,I⟩:=hpr.mo z hz;obtain rfl:=ZFn.1 hb;obtain ⟨u,hu,L,hcl,_⟩:=hown t ht;refine .inr ⟨i,u,B,hp,by rw [Zgu a hi]; exact hu,by rw [← e,e2,L],hcl,?_⟩
   rw [← L]; exact I
theorem Zoi {a:Alg} {f:List Term} {K:ZMw→Prop} (ha:AlgF a) (hf:OkForm a.degrees f) (ff:FitT f) (h:∀ out,IsD a.degrees (imgsT a) f out→out.length≤1280000→K ⟨out⟩):Zc7 a ⟨f⟩ K:=by
 have hd:=ha.deg;have h8:=hd.1;have hlen:=ha.len;have ab:=hf.1;unfold Zc7;dsimp only;refine Jg (λ(s:List Term×Int)=>0≤s.2∧s.2≤f.length∧IsD a.degrees (imgsT a) (f.take s.2.toNat) s.1∧s.1.length≤3200 * s.2.toNat) (λs=>f.length - s.2.toNat) ?_ ⟨Z1b _,by dsimp only; omega,⟨Canon.nil,by intro x; rfl,by intro y hy; cases hy⟩,by simp⟩
 rintro ⟨I,k⟩ next ⟨h1,h2,A,hL⟩ hn;dsimp only at h1 h2 A hL hn ⊢
 split
 ·rename_i hk;have kn:k.toNat < f.length:=by omega
  refine⟨by omega,?_⟩
  have tm:=Yx kn;have hm:=hf.mono tm;have pm:=ff.pos _ tm;have hfac:=hf.canon.at_range kn;generalize hgm:(f.getD k.toNat ZEu).mono=m at hm pm ⊢
  generalize hgn:(f.getD k.toNat ZEu).factor=n at hfac ⊢
  have nk:(k+1).toNat=k.toNat+1:=by omega
  have aa:ZHf.wrap (k+1)=k+1:=i64_in _ (by omega)
  refine Jg (λ(s:List Term×Int)=>0≤s.2∧s.2≤a.degrees.length∧Canon s.1∧(∀ x,(coT s.1 x+dS a.degrees (imgsT a) m n x (8 - s.2.toNat) s.2.toNat) % 10007=(tot (λt=>dT a.degrees (imgsT a) t.mono t.factor x) (f.take k.toNat)+dT a.degrees (imgsT a) m n x) % 10007)∧(∀ y,y∈s.1→∃ t,t∈f.take (k.toNat+1)∧DMono a.degrees (imgsT a) y.mono t.mono)∧s.1.length≤3200 * k.toNat+400 * s.2.toNat)
   (λs=>a.degrees.length - s.2.toNat) ?_ ⟨Z1b _,by dsimp only; omega,A.can,λx=>?_,λy hy=>?_,by dsimp only; omega⟩
  ·rintro ⟨out,i⟩ next' ⟨g1,g2,gc,gf,gm,gl⟩ hn';dsimp only at g1 g2 gc gf gm gl hn' ⊢
   have ni:(i+1).toNat=i.toNat+1:=by omega
   have wi:ZHf.wrap (i+1)=i+1:=i64_in _ (by omega)
   rw [wi,aa];split
   ·rename_i hi;have hin:i.toNat < a.degrees.length:=by omega
    have B:i.toNat < 8:=by omega
    have pmi:=pm i.toNat B
    have hdS:∀ x,dS a.degrees (imgsT a) m n x (8 - i.toNat) i.toNat=(if m.get i.toNat > 0 then dK a.degrees m n i.toNat * triC a.degrees (leftA m i.toNat) (backA m i.toNat) ((imgsT a).getD i.toNat ZEu) x else 0)+dS a.degrees (imgsT a) m n x (8 - (i.toNat+1)) (i.toNat+1):=λx=>by
     rw [show 8 - i.toNat=(8 - (i.toNat+1))+1 by omega]; rfl
    refine⟨by omega,?_⟩
    split
    ·rename_i he;refine hn' _ ⟨by dsimp only; omega,by dsimp only; omega,gc,λx=>?_,gm,by dsimp only; omega⟩ (by dsimp only; omega)
     dsimp only;rw [ni];have:=gf x;rw [hdS,if_neg (by omega),ZF7] at this
     exact this
    ·rename_i he;have hp:0 < m.get i.toNat:=by omega
     refine Yu (λj (s:A8×A8)=>∀ q,q < 8→(s.1.get q=if q < j∧i.toNat≤q then 0 else m.get q)∧(s.2.get q=if q < j∧q≤i.toNat then 0 else m.get q)) 8 ?_ ?_ _ _ _ (by omega) (λq hq=>⟨by rw [if_neg (by omega)],by rw [if_neg (by omega)]⟩)
     ·rintro j ⟨s1,s2⟩ nx hj hs hnx;dsimp only at hs ⊢
      have fin:∀ t1 t2:A8,(∀ q,q < 8→t1.get q=if q=j∧i.toNat≤j then 0 else s1.get q)→(∀ q,q < 8→t2.get q=if q=j∧j≤i.toNat then 0 else s2.get q)→nx (t1,t2):=λt1 t2 L O=>hnx _ λq hq=>by
       obtain ⟨a1,a2⟩:=hs q hq;dsimp only;rw [L q hq,O q hq];constructor
       ·by_cases c1:q=j∧i.toNat≤j
        ·rw [if_pos c1,if_pos ⟨by omega,by omega⟩]
        ·rw [if_neg c1,a1];by_cases c2:q < j∧i.toNat≤q
         ·rw [if_pos c2,if_pos ⟨by omega,c2.2⟩]
         ·rw [if_neg c2,if_neg (by omega)]
       ·by_cases c1:q=j∧j≤i.toNat
        ·rw [if_pos c1,if_pos ⟨by omega,by omega⟩]
        ·rw [if_neg c1,a2];by_cases c2:q < j∧q≤i.toNat
         ·rw [if_pos c2,if_pos ⟨by omega,c2.2⟩]
         ·rw [if_neg c2,if_neg (by omega)]
      have G:∀ (s:A8) q,(s.set j 0).get q=if q=j then 0 else s.get q:=λs q=>ZP7 hj
      split
      ·rename_i hge;split
       ·rename_i hle;exact fin _ _ (λq hq=>by rw [G]; by_cases e:q=j <;> simp [e]; omega) (λq hq=>by rw [G]; by_cases e:q=j <;> simp [e]; omega)
       ·rename_i hle;exact fin _ _ (λq hq=>by rw [G]; by_cases e:q=j <;> simp [e]; omega) (λq hq=>by rw [if_neg (by omega)])
      ·rename_i hge;split
       ·rename_i hle;exact fin _ _ (λq hq=>by rw [if_neg (by omega)]) (λq hq=>by rw [G]; by_cases e:q=j <;> simp [e]; omega)
       ·rename_i hle;exact fin _ _ (λq hq=>by rw [if_neg (by omega)]) (λq hq=>by rw [if_neg (by omega)])
     ·rintro ⟨s1,s2⟩ hs
      have L:s1=X5 m i.toNat:=ZP8 λq hq=>by
       rw [(hs q hq).1,X5,A8.get_mkf _ hq];by_cases hh:q < i.toNat
       ·rw [if_neg (by omega),if_pos hh]
       ·rw [if_pos ⟨hq,by omega⟩,if_neg hh]
      have O:s2=backA m i.toNat:=ZP8 λq hq=>by
       rw [(hs q hq).2,backA,A8.get_mkf _ hq];by_cases hh:i.toNat < q
       ·rw [if_neg (by omega),if_pos hh]
       ·rw [if_pos ⟨hq,by omega⟩,if_neg hh]
      dsimp only;rw [L,O]
      have hw:∀ q,q < 8→0≤(X5 m i.toNat).get q∧(X5 m i.toNat).get q≤255:=λq hq=>by
       rw [X5,A8.get_mkf _ hq];have:=pm q hq;split <;> omega
      have hwt:wtU a.degrees (X5 m i.toNat) a.degrees.length=wtU a.degrees m i.toNat:=by rw [ZB8 h8 _ (ZEs _),show min i.toNat a.degrees.length=i.toNat by omega]
      have hwb:=Zfd hd pm i.toNat (by omega)
      have hml:=Zfc hm i.toNat B
      have hset:(X5 m i.toNat).set i.toNat (ZM6.wrap (m.get i.toNat - 1))=leftA m i.toNat:=ZP8 λq hq=>by
       rw [ZP7 B,Zmi _ (by omega),X5,leftA,A8.get_mkf _ hq,A8.get_mkf _ hq]
       by_cases e:q=i.toNat
       ·subst e; rw [if_pos rfl,if_neg (by omega),if_pos rfl]
       ·rw [if_neg e];by_cases hh:q < i.toNat
        ·rw [if_pos hh,if_pos hh]
        ·rw [if_neg hh,if_neg hh,if_neg e]
      rw [hset];have hwm:ZHf.wrap (m.get i.toNat)=m.get i.toNat:=i64_in _ (by omega)
      have hpb:0≤n * m.get i.toNat∧n * m.get i.toNat≤100120036:=Zkr (by omega) (by omega)
      rw [hwm,i64_in (n * m.get i.toNat) (by omega),i64_in (0 - n * m.get i.toNat) (by omega)]
      refine⟨by omega,by omega,by omega,by omega,Zog hd hw ?_⟩
      rw [hwt]
      have key:∀ v,v % 10007=dK a.degrees m n i.toNat→J1 (leftA m i.toNat) 1 (λr=>Zai a.degrees r (a.images.getD i.toNat ZEu) (λr'=>J1 (backA m i.toNat) 1 (λr2=>Zai a.degrees r' r2 (λr3=>X8 v (λk=>Zbd ⟨out⟩ r3 k (λr=>next' (r.terms,i+1))))))):=λv hv =>
       ZCb ha (by omega) hm pm hp gc (by omega) hv λout' hs'=>by
        refine hn' _ ⟨by dsimp only; omega,by dsimp only; omega,hs'.can,λx=>?_,λy hy=>?_,by have:=hs'.ln; dsimp only; omega⟩ (by dsimp only; omega)
        ·dsimp only;rw [ni];have b1:=gf x;have b2:=hs'.cf x;rw [hdS,if_pos (by omega)] at b1
         omega
        ·rcases hs'.mo y hy with ⟨z,hz,e⟩ | hD
         ·obtain ⟨t,ht,q⟩:=gm z hz;exact⟨t,ht,e ▸ q⟩
         ·exact⟨f.getD k.toNat ZEu,by rw [Xu kn]; exact ZE6 _ (ZFn.2 rfl),by rw [hgm]; exact hD⟩
      rcases ZCa hwb.1 with ⟨U,V⟩ | ⟨U,V⟩
      ·rw [if_pos U];refine⟨by omega,key _ ?_⟩
       unfold dK; rw [V]; congr 1; omega
      ·rw [if_neg U];refine⟨by omega,key _ ?_⟩
       unfold dK; rw [V]; congr 1; omega
   ·rename_i hi;refine hn _ ⟨by dsimp only; omega,by dsimp only; omega,⟨gc,λx=>?_,λy hy=>?_⟩,by dsimp only; omega⟩ (by dsimp only; omega)
    ·dsimp only;rw [nk,Xu kn,Zkl];simp only [tot];rw [hgm,hgn];have:=gf x;rw [ZBx _ _ (λj ac ad=>(hm j (by omega)).2 (by omega))] at this
     omega
    ·dsimp only;rw [nk]; exact gm y hy
  ·dsimp only;have:=A.cf x
   show (coT I x+dT a.degrees (imgsT a) m n x) % 10007=_
   omega
  ·obtain ⟨t,ht,q⟩:=A.mo y hy;exact⟨t,List.mem_of_mem_take (i:=k.toNat) (by rw [List.take_take,show min k.toNat (k.toNat+1)=k.toNat by omega]; exact ht),q⟩
 ·rename_i hk;rw [ZF0 (by omega)] at A
  exact h _ A (by omega)
end Go.Proofs.YtaagfepgbofmlaaGreat
namespace Go.Proofs.YtaagfepgbofmlaaGreat
open Go Vc
theorem ZCc {a:Alg} {K:List (Option (List (A8×Int)))→Prop} (ha:AlgF a) (h:∀ ls:List (Option (List (A8×Int))),(∀ i,i < a.images.length→∃ m,ls[i]? = some (some m)∧IsMap (a.images.getD i ZEu).terms m)→K ls):Zh1 a K:=by
 unfold Zh1;have I:a.images.length≤8:=by have:=ha.deg.1; have:=ha.len; omega
 refine Yu (λi (s:List (Option (List (A8×Int))))=>s.length=8∧∀ j,j < i→∃ m,s[j]? = some (some m)∧IsMap (a.images.getD j ZEu).terms m) a.images.length ?_ ?_ _ _ _ (by omega) ⟨by simp,by intro j hj; omega⟩
 ·intro i s next hi ⟨B,A⟩ hn;have G:(⟨(a.images.getD i ZEu).terms⟩:ZMw)=a.images.getD i ZEu:=rfl;rw [← G]
  refine Zfb (ha.frm i hi).canon (ha.fit i hi) λm hm=>⟨by omega,hn _ ⟨by simpa using B,λj hj=>?_⟩⟩
  by_cases e:j=i
  ·subst e;exact⟨m,by rw [List.getElem?_set_self (by omega)],hm⟩
  ·rw [List.getElem?_set_ne (λq=>e q.symm)]
   exact A j (by omega)
 ·intro s ⟨B,A⟩;exact h s A
theorem Zoj (m:A8):MapOk [(m,1)]:=⟨by simp,by intro p hp; obtain rfl:=ZFn.1 hp; simp⟩
theorem ZCd {a:Alg} {K:List (A8×Int)→Prop} {m:A8} {n v:Int} {i:Nat} {out ml:List (A8×Int)} (ha:AlgF a) (hi:i < a.images.length) (hm:OkMono a.degrees m) (pm:∀ i,i < 8→0≤m.get i∧m.get i≤255) (hp:0 < m.get i) (ho:MapOk out) (hml:IsMap (a.images.getD i ZEu).terms ml) (hv:v % 10007=dK a.degrees m n i)
  (h:∀ out',MapOk out'→(∀ x,co out' x % 10007=(co out x+dK a.degrees m n i * triC a.degrees (leftA m i) (backA m i) ((imgsT a).getD i ZEu) x) % 10007)→(∀ y,y∈out'→(∃ z,z∈out∧z.1=y.1)∨DMono a.degrees (imgsT a) y.1 m)→K out') :
  Zck (Yo ([]:List (A8×Int)) (leftA m i) 1) a.degrees ml (λr=>Zck r a.degrees (Yo ([]:List (A8×Int)) (backA m i) 1) (λU=>Zc8 v (λk=>Zeu out U k K))):=by
 have hd:=ha.deg;have G:i < 8:=by have:=hd.1; have:=ha.len; omega
 have hf:=ha.frm i hi;have ff:=ha.fit i hi;have I:=Zjc (Zfc hm) pm;obtain ⟨lb,bb,lbb⟩:=Zoh I hp;obtain ⟨wl,wb⟩:=Zod hm G hp
 have A:∀ p,p∈ml→OkMono a.degrees p.1∧∃ t,t∈(a.images.getD i ZEu).terms∧t.mono=p.1∧∀ q,q < 8→0≤p.1.get q∧p.1.get q≤20:=λp hpm=>by
  obtain ⟨t,ht,e⟩:=hml.ks p hpm;rw [← e]
  exact⟨hf.mono ht,t,ht,rfl,Zjc (Zfc (hf.mono ht)) (ff.pos t ht)⟩
 show Zck [(leftA m i,1)] a.degrees ml _
 refine Zsx hd (Zoj _) (λp hp'=>by obtain rfl:=ZFn.1 hp'; exact wl) (λp hp' q hq=>by obtain rfl:=ZFn.1 hp'; exact(lb q hq).1) hml.ok (λp hpm=>(A p hpm).1.wk) (λp hpm q hq=>by obtain ⟨_,t,_,_,b⟩:=A p hpm; exact(b q hq).1) λown hown=>?_
 have wown:∀ u,u∈own→∃ z,z∈(a.images.getD i ZEu).terms∧u.1=(leftA m i).add z.mono∧¬ Clash a.degrees (leftA m i) z.mono∧Jh a.degrees u.1∧∀ q,q < 8→0≤u.1.get q∧u.1.get q≤40:=λu hu=>by
  obtain ⟨t,z,ht,hz,e,hcl⟩:=hown.ks u hu;obtain rfl:=ZFn.1 ht;obtain ⟨hzm,tt,htt,ett,B⟩:=A z hz;refine⟨tt,htt,by rw [ett]; exact e,by rw [ett]; exact hcl,?_,λq hq=>?_⟩
  ·rw [e];exact Zle wl hzm.wk (λq hq=>(lb q hq).1) (λq hq=>(B q hq).1) (λq hq=>by have:=lb q hq; have:=B q hq; dsimp only; omega) hcl
  ·rw [e,Z1f];have:=lb q hq;have:=B q hq;dsimp only;omega
 show Zck own a.degrees [(backA m i,1)] _
 refine Zsx hd hown.ok (λu hu=>by obtain ⟨_,_,_,_,w,_⟩:=wown u hu; exact w) (λu hu q hq=>by obtain ⟨_,_,_,_,_,b⟩:=wown u hu; exact(b q hq).1) (Zoj _) (λp hp'=>by obtain rfl:=ZFn.1 hp'; exact wb) (λp hp' q hq=>by obtain rfl:=ZFn.1 hp'; exact(bb q hq).1) λprod hpr=>?_
 refine Zm7 ?_
 rw [hv];refine ZBv ho hpr.ok (Zs8 _ _ _ _) λout' hout=>h out' hout.ok (λx=>?_) λy hy=>?_
 ·rw [hout.cf,Zgu a hi];have V:=ZBy hml hf.canon hown hpr x;rw [ZG4,ZE5,V,← ZE5,← ZG4]
 ·obtain ⟨z,hz,e⟩:=hout.ks y hy;rcases hz with hz | hz
  ·exact .inl ⟨z,hz,e⟩
  ·obtain ⟨t,b,ht,hb,e2,L⟩:=hpr.ks z hz;obtain rfl:=ZFn.1 hb;obtain ⟨u,hu,O,hcl,_⟩:=wown t ht;refine .inr ⟨i,u,G,hp,by rw [Zgu a hi]; exact hu,by rw [← e,e2,O],hcl,?_⟩
   rw [← O]; exact L
theorem ZCe (m:A8):ZMz=X5 m 0:=ZP8 λq hq=>by rw [Z1p,X5,A8.get_mkf _ hq,if_neg (by omega)]
theorem ZCf {m:A8} {i:Nat} (hi:i < 8):(X5 m i).set i (m.get i)=X5 m (i+1):=ZP8 λq hq=>by
 rw [ZP7 hi,X5,X5,A8.get_mkf _ hq,A8.get_mkf _ hq];by_cases e:q=i
 ·subst e; rw [if_pos rfl,if_pos (by omega)]
 ·rw [if_neg e];by_cases hh:q < i
  ·rw [if_pos hh,if_pos (by omega)]
  ·rw [if_neg hh,if_neg (by omega)]
theorem ZCg {d e:Int} (hd:1≤d∧d≤12) (he:0≤e):sg (d * e)=if ZFl d 2=1∧ZFl e 2=1 then -1 else 1:=by
 rw [ZP9 (by omega),ZP9 he]
 unfold sg;have h:=ZE5 d e 2;rcases (by omega:d % 2=0∨d % 2=1) with a | a <;> rcases (by omega:e % 2=0∨e % 2=1) with b | b <;> rw [a,b] at h <;> simp [h,a,b]
theorem m_d {a:Alg} {f:List Term} {s:List (A8×Int)} {K:List (A8×Int)→Prop} (ha:AlgF a) (hs:IsMap f s) (hf:OkForm a.degrees f) (ff:FitT f) (h:∀ out,IsDM a.degrees (imgsT a) s out→K out):Zd4 a s K:=by
 have hd:=ha.deg;have h8:=hd.1;have hlen:=ha.len;unfold Zd4;refine ZCc ha λls hls=>?_
 refine Zhk (λl' (out:List (A8×Int))=>(∀ p,p∈l'→p∈s)∧MapOk out∧(∀ x,(co out x+tot (λp=>dT a.degrees (imgsT a) p.1 p.2 x) l') % 10007=tot (λp=>dT a.degrees (imgsT a) p.1 p.2 x) s % 10007)∧(∀ y,y∈out→∃ t,t∈s∧DMono a.degrees (imgsT a) y.1 t.1)) ?_ ?_ s [] ⟨λ_ h=>h,MapOk.nil,λx=>by rw [Zf7,ZF7],by simp⟩
 ·intro l' p l'' out next hpk ⟨h0,O,U,V⟩ hn;have hperm:=Zj6 hpk;have hpm:p∈s:=h0 p (hperm.mem_iff.2 (by simp))
  have hpf:=hs.ok.2 p hpm;obtain ⟨t,ht,et⟩:=hs.ks p hpm;have hm:OkMono a.degrees p.1:=by rw [← et]; exact hf.mono ht
  have pm:∀ i,i < 8→0≤p.1.get i∧p.1.get i≤255:=by rw [← et]; exact ff.pos t ht
  have e3:∀ x,tot (λp=>dT a.degrees (imgsT a) p.1 p.2 x) l'=dT a.degrees (imgsT a) p.1 p.2 x+tot (λp=>dT a.degrees (imgsT a) p.1 p.2 x) l'':=λx=>by rw [Zf6 _ hperm]; rfl
  refine Yu (λi (t:A8×(List (A8×Int))×Int)=>t.1=X5 p.1 i∧MapOk t.2.1∧t.2.2=sg (wtU a.degrees p.1 i)∧(∀ x,(co t.2.1 x+dS a.degrees (imgsT a) p.1 p.2 x (8 - i) i) % 10007=(co out x+dT a.degrees (imgsT a) p.1 p.2 x) % 10007)∧(∀ y,y∈t.2.1→∃ t,t∈s∧DMono a.degrees (imgsT a) y.1 t.1)) 8 ?_ ?_ _ _ _ (by omega) ⟨ZCe _,O,rfl,λx=>rfl,V⟩
  ·rintro i ⟨t1,o1,ac⟩ nx hi ⟨g1,G,g3,I,L⟩ hnx;dsimp only at g1 G g3 I L ⊢
   subst g1 g3;have pmi:=pm i hi
   have hdS:∀ x,dS a.degrees (imgsT a) p.1 p.2 x (8 - i) i=(if p.1.get i > 0 then dK a.degrees p.1 p.2 i * triC a.degrees (leftA p.1 i) (backA p.1 i) ((imgsT a).getD i ZEu) x else 0)+dS a.degrees (imgsT a) p.1 p.2 x (8 - (i+1)) (i+1):=λx=>by
    rw [show 8 - i=(8 - (i+1))+1 by omega]; rfl
   have hspm:=Zp0 (wtU a.degrees p.1 i)
   have tail:∀ A:List (A8×Int),MapOk A→(∀ x,(co A x+dS a.degrees (imgsT a) p.1 p.2 x (8 - (i+1)) (i+1)) % 10007=(co out x+dT a.degrees (imgsT a) p.1 p.2 x) % 10007)→(∀ y,y∈A→∃ t,t∈s∧DMono a.degrees (imgsT a) y.1 t.1) →
     (if(i:Int) < (a.degrees.length:Int) then((0≤(i:Int)∧(i:Int) < (a.degrees.length:Int))∧(if ZFl (a.degrees.getD i ZEu) 2=1 then(if ZFl (p.1.get i) 2=1 then nx ((X5 p.1 i).set i (p.1.get i),A,ZHf.wrap (0 - sg (wtU a.degrees p.1 i))) else nx ((X5 p.1 i).set i (p.1.get i),A,sg (wtU a.degrees p.1 i))) else nx ((X5 p.1 i).set i (p.1.get i),A,sg (wtU a.degrees p.1 i)))) else nx ((X5 p.1 i).set i (p.1.get i),A,sg (wtU a.degrees p.1 i))):=by
    intro A k1 k2 k3;rw [ZCf hi];have go:∀ z,z=sg (wtU a.degrees p.1 (i+1))→nx (X5 p.1 (i+1),A,z):=λz hz=>hnx _ ⟨rfl,k1,hz,k2,k3⟩
    have hw:wtU a.degrees p.1 (i+1)=wtU a.degrees p.1 i+a.degrees.getD i ZEu * p.1.get i:=rfl;split
    ·rename_i hin;have hdi:=hd.2 i (by omega)
     have hstep:=ZCg hdi pmi.1;refine⟨by omega,?_⟩
     split
     ·rename_i q1;split
      ·rename_i q2;rw [if_pos ⟨q1,q2⟩] at hstep
       rw [i64_in _ (by omega)]
       exact go _ (by rw [hw,Zj7,hstep]; omega)
      ·rename_i q2;rw [if_neg (λz=>q2 z.2)] at hstep
       exact go _ (by rw [hw,Zj7,hstep,Z1z])
     ·rename_i q1;rw [if_neg (λz=>q1 z.1)] at hstep
      exact go _ (by rw [hw,Zj7,hstep,Z1z])
    ·rename_i hin;have:=(hm i hi).2 (by omega)
     exact go _ (by rw [hw,this,Z1n,Z1c])
   split
   ·rename_i B;have hp0':0 < p.1.get i:=B
    have hin:i < a.images.length:=by
     rcases ZFm i a.images.length with q | q
     ·exact q
     ·have:=(hm i hi).2 (by omega); omega
    have wi:ZHf.wrap ((i:Int)+1)=(i:Int)+1:=i64_in _ (by omega)
    rw [wi];refine Jg (λ(t:A8×Int)=>0≤t.2∧t.2≤i+1∧∀ q,q < 8→t.1.get q=if(q:Int) < t.2 then 0 else p.1.get q) (λt=>i+1 - t.2.toNat) ?_ ⟨Z1b _,by dsimp only; omega,λq hq=>by rw [if_neg (by dsimp only; omega)]⟩
    rintro ⟨t1,k⟩ nk ⟨b1,b2,b3⟩ hnk;dsimp only at b1 b2 b3 hnk ⊢
    split
    ·rename_i hk;refine⟨by omega,?_⟩
     rw [i64_in (k+1) (by omega)]
     refine hnk _ ⟨by dsimp only; omega,by dsimp only; omega,λq hq=>?_⟩ (by dsimp only; omega)
     dsimp only;rw [ZP7 (by omega),b3 q hq]
     by_cases e:q=k.toNat
     ·rw [if_pos e,if_pos (by omega)]
     ·rw [if_neg e];by_cases hh:(q:Int) < k
      ·rw [if_pos hh,if_pos (by omega)]
      ·rw [if_neg hh,if_neg (by omega)]
    ·rename_i hk
     have eb:t1=backA p.1 i:=ZP8 λq hq=>by
      rw [b3 q hq,backA,A8.get_mkf _ hq];by_cases hh:i < q
      ·rw [if_neg (by omega),if_pos hh]
      ·rw [if_pos (by omega),if_neg hh]
     have hml:=Zfc hm i hi
     have el:(X5 p.1 i).set i (ZHf.wrap (p.1.get i - 1))=leftA p.1 i:=ZP8 λq hq=>by
      rw [ZP7 hi,i64_in _ (by omega),X5,leftA,A8.get_mkf _ hq,A8.get_mkf _ hq]
      by_cases e:q=i
      ·subst e; rw [if_pos rfl,if_neg (by omega),if_pos rfl]
      ·rw [if_neg e];by_cases hh:q < i
       ·rw [if_pos hh,if_pos hh]
       ·rw [if_neg hh,if_neg hh,if_neg e]
     rw [eb,el];obtain ⟨ml,aa,ab⟩:=hls i hin;refine⟨ml,aa,?_⟩
     refine ZCd (n:=p.2) ha hin hm pm hp0' G ab ?_ λA k1 k2 k3=>?_
     ·rw [Zm9 hspm hpf (by omega)]; rfl
     ·refine tail A k1 (λx=>?_) λy hy=>?_
      ·have c1:=I x;have c2:=k2 x;rw [hdS,if_pos B] at c1
       omega
      ·rcases k3 y hy with ⟨z,hz,e⟩ | hD
       ·obtain ⟨t,ht,q⟩:=L z hz;exact⟨t,ht,e ▸ q⟩
       ·exact⟨p,hpm,hD⟩
   ·rename_i B;refine tail o1 G (λx=>?_) L
    have c1:=I x;rw [hdS,if_neg B,ZF7] at c1
    exact c1
  ·rintro ⟨t1,o1,ac⟩ ⟨g1,G,g3,I,L⟩;dsimp only at G I L ⊢
   refine hn _ ⟨λq hq=>h0 q (hperm.mem_iff.2 (by simp [hq])),G,λx=>?_,L⟩
   have c1:=I x;have c2:=U x;rw [e3] at c2
   simp only [Nat.sub_self,dS] at c1
   omega
 ·intro out ⟨_,O,U,V⟩;exact h _ ⟨O,λx=>by have:=U x; simp only [tot,Z1c] at this; exact this,V⟩
theorem ZCh {m:List (A8×Int)} (hm:MapOk m):∃ l,Canon l∧(∀ x,coT l x=co m x)∧∀ t,t∈l→∃ p,p∈m∧p.1=t.mono:=by
 obtain ⟨xs,hxs,hw⟩:=Zqz (m.map (·.1));obtain ⟨h,A⟩:=Zxv hm hxs hw;refine⟨_,h,A,λt ht=>?_⟩
 obtain ⟨x,hx,rfl⟩:=ZE1.1 ht;obtain ⟨p,hpm,e⟩:=ZE1.1 (hxs.mem_iff.1 hx);exact⟨p,hpm,e⟩
theorem Zs9 {ds:List Int} {imgs:List (List Term)} {f:List Term} {s out':List (A8×Int)} (hs:IsMap f s) (hc:Canon f) (h':IsDM ds imgs s out'):out'=[]↔∀ out,IsD ds imgs f out→out=[]:=by
 constructor
 ·intro e out ho;exact(Zs1 (ZBz hs hc ho h') ho.can).1 e
 ·intro hall;obtain ⟨l,hl,hcf,hks⟩:=ZCh h'.ok
  have hd:IsD ds imgs f l:=⟨hl,λx=>by rw [hcf,h'.cf,Zlc hs hc (λa n=>dT ds imgs a n x) (λa=>Zoc ds imgs a x)],λy hy=>by
   obtain ⟨p,hp,e⟩:=hks y hy;obtain ⟨t,ht,q⟩:=h'.mo p hp;obtain ⟨u,hu,A⟩:=hs.ks t ht;exact⟨u,hu,by rw [← e,A]; exact q⟩⟩
  have e:=hall l hd;have hm:IsMap l out':=Zs0 hl h'.ok λx=>by rw [hcf]
  exact(Zs1 hm hl).2 e
theorem Zta {ds:List Int} {imgs:List (List Term)} {f out A:List Term} (h:IsD ds imgs f out) (k:IsD ds imgs f A):out=A:=Zxl h.can k.can λx=>by rw [h.cf,k.cf]
def Hom (ds:List Int) (l:List Term) (n:Int):Prop:=∀ i,i < l.length→wtU ds (l.getD i ZEu).mono ds.length=n
instance (ds:List Int) (l:List Term) (n:Int):Decidable (Hom ds l n):=inferInstanceAs (Decidable (∀ i,i < l.length→_))
theorem Ztb {ds:List Int} {l:List Term} {K:Int→Bool→Prop} (hd:OkDeg ds) (hp:FitT l) (h0:l.length=0→K (-1) true) (h1:0 < l.length→Hom ds l (wtU ds (l.getD 0 ZEu).mono ds.length)→K (wtU ds (l.getD 0 ZEu).mono ds.length) true) (h2:(∀ n,¬ Hom ds l n)→K 0 false):Zf5 ds ⟨l⟩ K:=by
  unfold Zf5
  dsimp only
  refine Yu (fun i (s:Int)=>(i=0∧s=-1)∨(0 < i∧s=wtU ds (l.getD 0 ZEu).mono ds.length∧∀ j,j < i→wtU ds (l.getD j ZEu).mono ds.length=wtU ds (l.getD 0 ZEu).mono ds.length)) l.length ?_ ?_ _ _ _ (by omega) (.inl ⟨rfl,rfl⟩)
  · intro i s next hi hI hn
    have f1:=hp _ (Yx hi)
    have b0:=hp.pos _ (Yx hi)
    have hw:=Zfd hd b0 ds.length (ZEs _)
    refine Zki f1 (ZB7 hd b0 ?_)
    rcases hI with ⟨e1,e2⟩ | ⟨e1,e2,e3⟩
    · subst e1 e2
      rw [if_neg (by omega)]
      exact hn _ (.inr ⟨by omega, rfl, fun j hj => by obtain rfl : j = 0 := by omega
                                                      rfl⟩)
    · have hw0:=Zfd hd (hp.pos _ (Yx (show 0 < l.length by omega))) ds.length (ZEs _)
      rw [if_pos (by omega)]
      split
      · rename_i q
        refine h2 fun n hn'=>q ?_
        rw [hn' i hi,e2,hn' 0 (by omega)]
      · rename_i q
        have q:wtU ds (l.getD i ZEu).mono ds.length=s:=ZH3.1 q
        refine hn _ (.inr ⟨by omega,by rw [q,e2],fun j hj=>?_⟩)
        by_cases e:j=i
        · subst e; rw [q,e2]
        · exact e3 j (by omega)
  · intro s hI
    rcases hI with ⟨e1,e2⟩ | ⟨e1,e2,e3⟩
    · rw [e2]; exact h0 e1
    · rw [e2]; exact h1 e1 e3
theorem ZCi {ds:List Int} {l:List Term} {n:Int} {K:Bool→Prop} (hd:OkDeg ds) (hp:FitT l) (h:K (decide (Hom ds l n))):Zh0 ds ⟨l⟩ n K:=by
 unfold Zh0;refine Ztb hd hp (λe=>?_) (λe hh=>?_) (λhno=>?_)
 ·rw [if_pos rfl,if_pos rfl];have:Hom ds l n:=λi hi=>by omega
  rwa [decide_eq_true this] at h
 ·have A:=Zfd hd (hp.pos _ (Yx e)) ds.length (ZEs _);rw [if_pos rfl,if_neg (by omega)]
  have:Hom ds l n↔wtU ds (l.getD 0 ZEu).mono ds.length=n:=⟨λq=>q 0 e,λq=>q ▸ hh⟩
  rwa [decide_eq_decide.2 this] at h
 ·rw [if_neg (by simp)]
  rwa [decide_eq_false (hno n)] at h
theorem Ztc {ds:List Int} {l:List Term} {K:Int→Bool→Prop} (hd:OkDeg ds) (hp:Ze1 l) (hl:l.length≤100000000) (A:l.length=0→K (-1) true) (B:0 < l.length→Hom ds l (wtU ds (l.getD 0 ZEu).mono ds.length)→K (wtU ds (l.getD 0 ZEu).mono ds.length) true) (G:(∀ n,¬ Hom ds l n)→K 0 false):Zfy ds ⟨l⟩ K:=by
 unfold Zfy;dsimp only;split
 ·exact A (by omega)
 ·rename_i I;have hpos:0 < l.length:=by omega
  refine⟨by omega,Zog hd (hp _ (Yx hpos)) ?_⟩
  refine Jg (λ(s:Int)=>1≤s∧s≤l.length∧∀ j:Nat,(j:Int) < s→wtU ds (l.getD j ZEu).mono ds.length=wtU ds (l.getD 0 ZEu).mono ds.length) (λs=>l.length - s.toNat) ?_ ⟨Z1b _,by omega,λj hj=>by
   have hj':(j:Int) < 1:=hj;obtain rfl:j=0:=by omega
   rfl⟩
  rintro i next ⟨L,O,h⟩ hn;split
  ·rename_i hi;have a:i.toNat < l.length:=by omega
   refine⟨by omega,Zog hd (hp _ (Yx a)) ?_⟩
   split
   ·rename_i q;refine G λn hn'=>q ?_
    rw [hn' _ a,hn' 0 hpos]
   ·rename_i q;have q:=ZH3.1 q;rw [i64_in _ (by omega)]
    refine hn _ ⟨by omega,by omega,λj hj=>?_⟩ (by omega)
    by_cases e:j=i.toNat
    ·subst e; exact q
    ·exact h j (by omega)
  ·exact B hpos λj hj=>h j (by omega)
structure OkAlg (a:Alg):Prop where
 deg:OkDeg a.degrees
 len:a.images.length=a.degrees.length
 frm:∀ i,i < a.images.length→OkForm a.degrees (a.images.getD i ZEu).terms
 hom:∀ i,i < a.images.length→Hom a.degrees (a.images.getD i ZEu).terms (a.degrees.getD i ZEu+1)
 clo:∀ i,i < a.images.length→∀ out,IsD a.degrees (imgsT a) (a.images.getD i ZEu).terms out→out=[]
def Jk (a:Alg):Prop:=∀ i,i < a.images.length→FitT (a.images.getD i ZEu).terms∧(a.images.getD i ZEu).terms.length≤1048576
theorem OkAlg.algF {a:Alg} (h:OkAlg a) (hf:Jk a):AlgF a:=⟨h.deg,h.len,h.frm,λi hi=>(hf i hi).1⟩
theorem Ztd {a:Alg} {K:Bool→Prop} (hf:Jk a) (h1:OkAlg a→K true) (h:¬ OkAlg a→K false):Zfz a K:=by
 unfold Zfz;refine Zw7 ?_
 split
 ·rename_i q; exact h λz=>q (decide_eq_true z.deg)
 ·rename_i A;have A:=of_decide_eq_true (ZH3.1 A);have h8:=A.1;split
  ·rename_i q; exact h λz=>q (by rw [z.len])
  ·rename_i B;have B:a.images.length=a.degrees.length:=by have:=ZH3.1 B; omega
   refine Jg (λ(s:Int)=>0≤s∧s≤a.images.length∧∀ i:Nat,(i:Int) < s→OkForm a.degrees (a.images.getD i ZEu).terms∧Hom a.degrees (a.images.getD i ZEu).terms (a.degrees.getD i ZEu+1)) (λs=>a.images.length - s.toNat) ?_ ⟨Z1b _,by omega,λi hi=>by omega⟩
   rintro i next ⟨g1,g2,I⟩ hn;split
   ·rename_i hi;have hin:i.toNat < a.images.length:=by omega
    obtain ⟨hft,hfl⟩:=hf i.toNat hin;have L:(⟨(a.images.getD i.toNat ZEu).terms⟩:ZMw)=a.images.getD i.toNat ZEu:=rfl;have hdi:=A.2 i.toNat (by omega)
    have wi:ZHf.wrap (i+1)=i+1:=i64_in _ (by omega)
    rw [wi,← L]
    refine⟨by omega,Zq3 h8 hft.pos (by omega) ?_⟩
    split
    ·rename_i q; exact h λz=>q (decide_eq_true (z.frm _ hin))
    ·rename_i O;have O:=of_decide_eq_true (ZH3.1 O)
     have good:Hom a.degrees (a.images.getD i.toNat ZEu).terms (a.degrees.getD i.toNat ZEu+1)→next (i+1):=λhh=>hn _ ⟨by omega,by omega,λj hj=>by
      by_cases e:j=i.toNat
      ·subst e; exact⟨O,hh⟩
      ·exact I j (by omega)⟩ (by omega)
     have hwd:ZHf.wrap (a.degrees.getD i.toNat ZEu+1)=a.degrees.getD i.toNat ZEu+1:=i64_in _ (by omega)
     rw [hwd];refine⟨by omega,Ztc A hft.pos (by omega) (λe=>?_) (λe hh=>?_) (λhno=>?_)⟩
     ·rw [if_neg (by simp)]
      dsimp only;refine⟨by omega,?_⟩
      rw [if_neg (by omega)]
      exact good λj hj=>by omega
     ·rw [if_neg (by simp)]
      dsimp only;refine⟨by omega,?_⟩
      rw [if_pos (by omega)]
      refine⟨by omega,?_⟩
      split
      ·rename_i q;exact h λz=>q (z.hom _ hin 0 e)
      ·rename_i q;have q:=ZH3.1 q;exact good (q ▸ hh)
     ·rw [if_pos (by simp)]
      exact h λz=>hno _ (z.hom _ hin)
   ·rename_i hi;have G:AlgF a:=⟨A,B,λi hi=>(I i (by omega)).1,λi hi=>(hf i hi).1⟩
    refine Jg (λ(s:Int)=>0≤s∧s≤a.images.length∧∀ i:Nat,(i:Int) < s→∀ out,IsD a.degrees (imgsT a) (a.images.getD i ZEu).terms out→out=[]) (λs=>a.images.length - s.toNat) ?_ ⟨Z1b _,by omega,λi hi=>by omega⟩
    rintro k next' ⟨k1,k2,U⟩ hn';split
    ·rename_i hk;have hkn:k.toNat < a.images.length:=by omega
     have L:(⟨(a.images.getD k.toNat ZEu).terms⟩:ZMw)=a.images.getD k.toNat ZEu:=rfl;rw [← L]
     refine⟨by omega,Zoi G (G.frm _ hkn) (G.fit _ hkn) λout ho _=>?_⟩
     dsimp only;split
     ·rename_i q;refine h λz=>?_
      have:=z.clo _ hkn out ho;rw [this] at q; simp at q
     ·rename_i q;rw [i64_in _ (by omega)]
      have e:out=[]:=List.length_eq_zero_iff.1 (by omega)
      refine hn' _ ⟨by omega,by omega,λj hj=>?_⟩ (by omega)
      by_cases ej:j=k.toNat
      ·subst ej; intro o2 V; rw [Zta V ho,e]
      ·exact U j (by omega)
    ·rename_i hk;exact h1 ⟨A,B,G.frm,λi hi=>(I i (by omega)).2,λi hi=>U i (by omega)⟩
theorem Zok {l:List ZMw} {p:ZMw→(Bool→Prop)→Prop} {K:Bool→Prop} {Q:ZMw→Prop} (hp:∀ i,i < l.length→∀ K':Bool→Prop,(Q (l.getD i ZEu)→K' true)→(¬ Q (l.getD i ZEu)→K' false)→p (l.getD i ZEu) K')
  (A:(∃ i,i < l.length∧Q (l.getD i ZEu))→K true) (B:(∀ i,i < l.length→¬ Q (l.getD i ZEu))→K false):Zf8 l p K:=by
 unfold Zf8 Zkn;refine Yu (λi (_:Unit)=>∀ j,j < i→¬ Q (l.getD j ZEu)) l.length ?_ ?_ _ _ _ (by omega) (by intro j hj; omega)
 ·intro i s next hi h hn;refine hp i hi _ (λq=>?_) (λq=>?_)
  ·rw [if_pos rfl]
   show K (decide ((i:Int)≥0))
   rw [decide_eq_true (show (i:Int)≥0 by omega)]
   exact A ⟨i,hi,q⟩
  ·rw [if_neg (by simp)]
   refine hn _ λj hj=>?_
   by_cases e:j=i
   ·subst e; exact q
   ·exact h j (by omega)
 ·intro s h
  show K (decide ((-1:Int)≥0))
  rw [decide_eq_false (show ¬ (-1:Int)≥0 by omega)]
  exact B h
theorem Zte {a:Alg} {K:Bool→Prop} (hf:Jk a) (V:OkAlg a→K true) (B:¬ OkAlg a→K false):Zif a K:=by
 unfold Zif;refine Zxa ?_
 split
 ·rename_i q; exact B λz=>q (decide_eq_true z.deg)
 ·rename_i A;have A:=of_decide_eq_true (ZH3.1 A);have h8:=A.1;split
  ·rename_i q; exact B λz=>q (by rw [z.len])
  ·rename_i G;have G:a.images.length=a.degrees.length:=by have:=ZH3.1 G; omega
   refine Yu (λi (_:Unit)=>∀ j:Nat,j < i→OkForm a.degrees (a.images.getD j ZEu).terms∧Hom a.degrees (a.images.getD j ZEu).terms (a.degrees.getD j ZEu+1)) a.images.length ?_ ?_ _ _ _ (by omega) (by intro j hj; omega)
   ·intro i s next hi I hn;obtain ⟨hft,hfl⟩:=hf i hi;have L:(⟨(a.images.getD i ZEu).terms⟩:ZMw)=a.images.getD i ZEu:=rfl;have hdi:=A.2 i (by omega)
    rw [← L]
    refine Zsv A hft ?_
    split
    ·rename_i q; exact B λz=>q (decide_eq_true (z.frm _ hi))
    ·rename_i O;have O:=of_decide_eq_true (ZH3.1 O);rw [i64_in _ (by omega)]
     refine⟨by omega,ZCi A hft ?_⟩
     split
     ·rename_i q; exact B λz=>q (decide_eq_true (z.hom _ hi))
     ·rename_i U;have U:=of_decide_eq_true (ZH3.1 U);refine hn _ λj hj=>?_
      by_cases e:j=i
      ·subst e; exact⟨O,U⟩
      ·exact I j (by omega)
   ·intro s I;have h:AlgF a:=⟨A,G,λi hi=>(I i hi).1,λi hi=>(hf i hi).1⟩
    refine Zok (Q:=λf=>¬ ∀ out,IsD a.degrees (imgsT a) f.terms out→out=[]) (λi hi K' c1 c2=>?_) (λhex=>?_) (λhall=>?_)
    ·unfold Zie;have L:(⟨(a.images.getD i ZEu).terms⟩:ZMw)=a.images.getD i ZEu:=rfl;rw [← L]
     refine Zfb (h.frm i hi).canon (h.fit i hi) λm hm=>m_d h hm (h.frm i hi) (h.fit i hi) λout ho=>?_
     have hiff:=Zs9 hm (h.frm i hi).canon ho;by_cases e:out=[]
     ·subst e;rw [decide_eq_false (by simp)]
      exact c2 λz=>z (hiff.1 rfl)
     ·have hlen:0 < out.length:=List.length_pos_iff.2 e;rw [decide_eq_true (by omega)]
      exact c1 λz=>e (hiff.2 z)
    ·obtain ⟨i,hi,hq⟩:=hex;exact B λz=>hq (z.clo i hi)
    ·exact V ⟨A,G,h.frm,λi hi=>(I i hi).2,λi hi=>Z1o (hall i hi)⟩
theorem ZCj {a:Alg} {K:Int→Prop} (hf:Jk a) (h:OkAlg a→K 0) (A:¬ OkAlg a→K 1):Zdb a [] K:=by
 unfold Zdb;refine Zte hf (λz=>?_) (λz=>?_)
 ·rw [if_neg (by simp)]
  refine Zok (Q:=λ_=>True) (λi hi=>by simp at hi) (λhex=>by obtain ⟨i,hi,_⟩:=hex; simp at hi) (λ_=>?_)
  exact Zed (h z)
 ·rw [if_pos (by simp)]
  exact Zed (A z)
end Go.Proofs.YtaagfepgbofmlaaGreat
namespace Go.Proofs.YtaagfepgbofmlaaGreat
open Go Vc
def Big (n:Nat):Prop:=n < 9223372036854775808
structure LenAlg (a:Alg):Prop where
 deg:Big a.degrees.length
 img:Big a.images.length
 trm:∀ f,f∈a.images→Big f.terms.length
theorem ZCk {x:Alg} {u v:Value} {fp:List Nat} {w:World} (h:TAlg.rep x [u,v] fp w):LenAlg x:=by
 have B:=Y5 (Zfq h).1;have G:=Y5 (Zfq h).2;refine⟨by unfold Big; omega,by unfold Big; omega,λf hf=>?_⟩
 obtain ⟨i,hi,rfl⟩:=ZE8 hf;obtain ⟨A,c,hv,cs,hl,hc,hr⟩:=Zjv (Zfq h).2 i hi;obtain ⟨z,rfl⟩:=ZJj.1 (show cs.length=1 from hl)
 have I:=Y5 (Y9 hr);unfold Big; omega
theorem ZCl {f:ZMw} {n:Int} {K:Int→Prop} (hl:Big f.terms.length) (hn:0≤n∧n≤1048576) (h:(f.terms.length:Int)≤n→K (n - f.terms.length)) (A:∀ r,r < 0→K r):Zez f n K:=Zs4 (by unfold Big at hl; omega) hn h A
theorem ZCm {l:List ZMw} {n:Int} {K:Int→Prop} (hl:Big l.length) (ht:∀ f,f∈l→Big f.terms.length) (hn:0≤n∧n≤1048576) (I:∀ r,0≤r→r≤n→(l.length:Int)≤n→(∀ i,i < l.length→(l.getD i ZEu).terms.length≤1048576)→K r) (A:∀ r,r < 0→K r):Zih l n K:=by
 unfold Zih;unfold Big at hl
 rw [i64_in _ (by omega)]
 split
 ·exact A _ (by omega)
 ·rename_i q;refine Yu (λi (s:Int)=>0≤s∧s≤n∧∀ j,j < i→(l.getD j ZEu).terms.length≤1048576) l.length ?_ ?_ _ _ _ (by omega) ⟨by omega,by omega,by intro j hj; omega⟩
  ·intro i s next hi ⟨B,G,h⟩ hn';refine ZCl (ht _ (Yx hi)) (by omega) (λhle=>?_) (λr hr=>by rw [if_pos hr]; exact A _ (by omega))
   rw [if_neg (by omega)]
   refine hn' _ ⟨by omega,by omega,λj hj=>?_⟩
   by_cases e:j=i
   ·subst e; omega
   ·exact h j (by omega)
  ·intro s ⟨B,G,h⟩;exact I s B G (by omega) h
theorem ZCn {l:List ZMw} {K:List ZMw→Prop} (hl:l.length≤1048576) (ht:∀ i,i < l.length→(l.getD i ZEu).terms.length≤1048576) (h:K l):Zij l K:=by
 unfold Zij;refine⟨by omega,?_⟩
 refine Yu (λi (s:List ZMw)=>s.length=l.length∧∀ j,j < i→s.getD j ZEu=l.getD j ZEu) l.length ?_ ?_ _ _ _ (by omega) ⟨by simp,by intro j hj; omega⟩
 ·intro i s next hi ⟨A,B⟩ hn;refine Zlf (ht i hi) ⟨by omega,hn _ ⟨by simpa using A,λj hj=>?_⟩⟩
  rw [Zof (by omega)]
  by_cases e:j=i
  ·rw [if_pos e,e]
  ·rw [if_neg e]; exact B j (by omega)
 ·intro s ⟨A,B⟩;have:s=l:=ZGj A λj hj hj'=>by have:=B j (by omega); simpa [ZE0,hj,hj'] using this
  rw [this]; exact h
theorem Zol {a:Alg} {K:Alg→Prop} (A:a.degrees.length≤1048576) (B:a.images.length≤1048576) (G:∀ i,i < a.images.length→(a.images.getD i ZEu).terms.length≤1048576) (h:K a):Ze0 a K:=by
 unfold Ze0;exact Zxc A (ZCn B G h)
theorem ZCo {a:Alg} {K:Bool→Prop} (h:K true):Zf9 a a K:=ZB3 (by simpa using h)
def GoodAlg (a:Alg):Prop:=(∀ x,x∈a.degrees→Fit .i64 x)∧∀ f,f∈a.images→∀ t,t∈f.terms→Zas .u8 t.mono∧Fit .i64 t.factor
theorem GoodAlg.fit {a:Alg} (h:GoodAlg a) (A:∀ i,i < a.images.length→(a.images.getD i ZEu).terms.length≤1048576):Jk a:=λi hi=>⟨λt ht=>(h.2 _ (Yx hi) t ht).1,A i hi⟩
end Go.Proofs.YtaagfepgbofmlaaGreat
namespace Go.Proofs.YtaagfepgbofmlaaGreat
open Go Vc
def wdU (m:A8):Nat→Int
 | 0=>0
 | i+1=>wdU m i+m.get i
theorem Zgv {m:A8} (pm:∀ i,i < 8→0≤m.get i∧m.get i≤255):∀ k:Nat,k≤8→0≤wdU m k∧wdU m k≤255 * k:=by
 intro k
 induction k with
 | zero=>intro _; simp [wdU]
 | succ k ih=>intro hk; have h:=ih (by omega); have A:=pm k (by omega); simp only [wdU]; omega
theorem ZCp {m:A8} (pm:∀ i,i < 8→0≤m.get i∧m.get i≤255) {q:Nat}:∀ k:Nat,k≤8→q < k→m.get q≤wdU m k:=by
 intro k
 induction k with
 | zero=>intro _ h; omega
 | succ k ih =>
  intro hk hq;have A:=pm k (by omega)
  have B:=Zgv pm k (by omega)
  simp only [wdU];by_cases e:q=k
  ·subst e; omega
  ·have:=ih (by omega) (by omega); omega
theorem ZCq {m:A8} (p:∀ i,i < 8→0≤m.get i) (h:wdU m 8=1):∃ q,q < 8∧m=ZMz.set q 1:=by
 have A:=p 0 (by omega)
 have B:=p 1 (by omega)
 have G:=p 2 (by omega)
 have I:=p 3 (by omega)
 have L:=p 4 (by omega)
 have O:=p 5 (by omega)
 have U:=p 6 (by omega)
 have V:=p 7 (by omega)
 clear p;obtain ⟨x0,x1,x2,x3,x4,x5,x6,x7⟩:=m;simp only [wdU,A8.get] at *
 by_cases h0:x0=0
 ·skip;by_cases h1:x1=0
  ·skip;by_cases h2:x2=0
   ·skip;by_cases h3:x3=0
    ·skip;by_cases h4:x4=0
     ·skip;by_cases h5:x5=0
      ·skip;by_cases h6:x6=0
       ·skip;by_cases h7:x7=0
        ·skip;omega
        ·refine⟨7,by omega,?_⟩
         have e:Z09 x0 x1 x2 x3 x4 x5 x6 x7=Z09 0 0 0 0 0 0 0 1:=by rw [Z1h]; omega
         exact e
       ·refine⟨6,by omega,?_⟩
        have e:Z09 x0 x1 x2 x3 x4 x5 x6 x7=Z09 0 0 0 0 0 0 1 0:=by rw [Z1h]; omega
        exact e
      ·refine⟨5,by omega,?_⟩
       have e:Z09 x0 x1 x2 x3 x4 x5 x6 x7=Z09 0 0 0 0 0 1 0 0:=by rw [Z1h]; omega
       exact e
     ·refine⟨4,by omega,?_⟩
      have e:Z09 x0 x1 x2 x3 x4 x5 x6 x7=Z09 0 0 0 0 1 0 0 0:=by rw [Z1h]; omega
      exact e
    ·refine⟨3,by omega,?_⟩
     have e:Z09 x0 x1 x2 x3 x4 x5 x6 x7=Z09 0 0 0 1 0 0 0 0:=by rw [Z1h]; omega
     exact e
   ·refine⟨2,by omega,?_⟩
    have e:Z09 x0 x1 x2 x3 x4 x5 x6 x7=Z09 0 0 1 0 0 0 0 0:=by rw [Z1h]; omega
    exact e
  ·refine⟨1,by omega,?_⟩
   have e:Z09 x0 x1 x2 x3 x4 x5 x6 x7=Z09 0 1 0 0 0 0 0 0:=by rw [Z1h]; omega
   exact e
 ·refine⟨0,by omega,?_⟩
  have e:Z09 x0 x1 x2 x3 x4 x5 x6 x7=Z09 1 0 0 0 0 0 0 0:=by rw [Z1h]; omega
  exact e
theorem ZCr {q:Nat} (hq:q < 8):wdU (ZMz.set q 1) 8=1:=by
 match q,hq with
 | 0,_ | 1,_ | 2,_ | 3,_ | 4,_ | 5,_ | 6,_ | 7,_=>rfl
theorem ZCs {ds:List Int} {m:A8} (A:ds.length≤8) (pm:∀ i,i < 8→0≤m.get i∧m.get i≤255) (h:1≤wtU ds m ds.length):1≤wdU m 8:=by
 rcases Int.lt_or_le (wdU m 8) 1 with q | q
 ·exfalso;have hz:∀ i,i < 8→m.get i=0:=λi hi=>by have:=ZCp pm 8 (ZEs _) hi; have:=pm i hi; omega
  have:∀ k,k≤ds.length→wtU ds m k=0:=by
   intro k
   induction k with
   | zero=>intro _; rfl
   | succ k ih=>intro hk; simp only [wtU]; rw [ih (by omega),hz k (by omega),Z1n]; rfl
  have:=this ds.length (ZEs _);omega
 ·exact q
theorem Ztf {m:A8} {K:Int→Prop} (pm:∀ i,i < 8→0≤m.get i∧m.get i≤255) (h:K (wdU m 8)):Ze7 m K:=by
 unfold Ze7;refine Yu (λi (s:Int)=>s=wdU m i) 8 ?_ ?_ _ _ _ (by omega) rfl
 ·intro i s next hi hs hn;have A:=Zgv pm i (by omega)
  have B:=pm i hi;rw [i64_in (m.get i) (by omega),i64_in _ (by omega)]
  exact hn _ (by simp only [wdU]; rw [hs])
 ·intro s hs; rw [hs]; exact h
theorem Ztg {m:A8} {K:Int→Prop} (pm:∀ i,i < 8→0≤m.get i∧m.get i≤255) (h:K (wdU m 8)):Ze4 m K:=by
 unfold Ze4;refine Yu (λi (s:Int)=>s=wdU m i) 8 ?_ ?_ _ _ _ (by omega) rfl
 ·intro i s next hi hs hn;have A:=Zgv pm i (by omega)
  have B:=pm i hi;rw [i64_in _ (by omega)]
  exact hn _ (by simp only [wdU]; rw [hs])
 ·intro s hs; rw [hs]; exact h
theorem Zth {l:List Term} (hc:Canon l) {m:A8}:coT l m≠0↔∃ t,t∈l∧t.mono=m:=by
 constructor
 ·intro h;exact Z1o λhno=>h (Zd6 λt ht e=>hno ⟨t,ht,e⟩)
 ·rintro ⟨t,ht,rfl⟩
  have:coT l t.mono=t.factor:=by
   induction l with
   | nil=>cases ht
   | cons q l ih =>
    rcases ZEn.1 ht with rfl | ht
    ·exact hc.at_head
    ·rw [Zcl,if_neg (Zbq (hc.head t ht)),ZF7]; exact ih hc.tail ht
  have:=hc.2 t ht;omega
end Go.Proofs.YtaagfepgbofmlaaGreat
namespace Go.Proofs.YtaagfepgbofmlaaGreat
open Go Vc
theorem Zgw {a b:Int} {K:Int→Prop} (h:K (if a≠0 then a else b)):Zd8 [a,b] K:=by
 simp only [Zd8,Z9,ZHt,ZYw,List.getD_cons_zero,List.getD_cons_succ];split
 ·rename_i q; rwa [if_pos q] at h
 ·rename_i q;rw [if_neg q] at h
  split
  ·exact h
  ·rename_i A;have A:b=0:=ZH3.1 A;rwa [A] at h
theorem ZCt {l:List Term} {K:Int→Prop} (hp:Ze1 l) (hl:l.length≤1048576) (L:l.length=0→K 0) (O:∀ r,0 < l.length→(∃ j,j < l.length∧wdU (l.getD j ZEu).mono 8=r)→(∀ j,j < l.length→r≤wdU (l.getD j ZEu).mono 8)→K r):Zix ⟨l⟩ K:=by
 unfold Zix;dsimp only;refine Jg (λ(s:Int×Int)=>0≤s.2∧s.2≤l.length∧((s.2=0∧s.1=0)∨(0 < s.2∧(∃ j:Nat,(j:Int) < s.2∧wdU (l.getD j ZEu).mono 8=s.1)∧∀ j:Nat,(j:Int) < s.2→s.1≤wdU (l.getD j ZEu).mono 8))) (λs=>l.length - s.2.toNat) ?_ ⟨Z1b _,by dsimp only; omega,.inl ⟨rfl,rfl⟩⟩
 rintro ⟨s,i⟩ next ⟨U,V,A⟩ hn;dsimp only at U V A hn ⊢
 split
 ·rename_i hi;have a:i.toNat < l.length:=by omega
  rw [i64_in (i+1) (by omega)]
  refine⟨by omega,Ztf (hp _ (Yx a)) ?_⟩
  have take:(0 < i→wdU (l.getD i.toNat ZEu).mono 8 < s)→next (wdU (l.getD i.toNat ZEu).mono 8,i+1):=λhlt=>hn _ ⟨by dsimp only; omega,by dsimp only; omega,.inr ⟨by dsimp only; omega,⟨i.toNat,by dsimp only; omega,rfl⟩,λj hj=>by
   dsimp only at hj ⊢
   by_cases e:j=i.toNat
   ·subst e; exact Z1b _
   ·rcases A with ⟨e0,_⟩ | ⟨e0,_,hall⟩
    ·omega
    ·have:=hall j (by omega); have:=hlt e0; omega⟩⟩ (by dsimp only; omega)
  split
  ·rename_i q; exact take λz=>by omega
  ·rename_i q;split
   ·rename_i G; exact take λ_=>G
   ·rename_i G;rcases A with ⟨e0,_⟩ | ⟨e0,⟨B,I,h⟩,hall⟩
    ·omega
    ·refine hn _ ⟨by dsimp only; omega,by dsimp only; omega,.inr ⟨by dsimp only; omega,⟨B,by dsimp only; omega,h⟩,λj hj=>?_⟩⟩ (by dsimp only; omega)
     dsimp only at hj ⊢
     by_cases e:j=i.toNat
     ·subst e; omega
     ·exact hall j (by omega)
 ·rename_i hi;rcases A with ⟨e0,e1⟩ | ⟨e0,⟨B,I,h⟩,hall⟩
  ·rw [e1]; exact L (by omega)
  ·exact O s (by omega) ⟨B,by omega,h⟩ λj hj=>hall j (by omega)
def Zfe (a:Alg):Prop:=∀ i,i < a.images.length→∀ j,j < (a.images.getD i ZEu).terms.length→wdU ((a.images.getD i ZEu).terms.getD j ZEu).mono 8≠1
theorem ZCu {a:Alg} (ok:OkAlg a) (hf:Jk a) {i:Nat} (hi:i < a.images.length) {j:Nat} (hj:j < (a.images.getD i ZEu).terms.length):1≤wdU ((a.images.getD i ZEu).terms.getD j ZEu).mono 8:=by
 refine ZCs ok.deg.1 ((hf i hi).1.pos _ (Yx hj)) ?_
 have:=ok.hom i hi j hj;have:=ok.deg.2 i (by have:=ok.len; omega)
 omega
theorem Zom {a:Alg} {K:Bool→Prop} (ok:OkAlg a) (hf:Jk a) (B:Zfe a→K true) (G:¬ Zfe a→K false):Ziy a K:=by
 unfold Ziy;have O:=ok.deg.1;have hlen:=ok.len;refine Jg (λ(s:Int)=>0≤s∧s≤a.images.length∧∀ i:Nat,(i:Int) < s→∀ j,j < (a.images.getD i ZEu).terms.length→wdU ((a.images.getD i ZEu).terms.getD j ZEu).mono 8≠1) (λs=>a.images.length - s.toNat) ?_ ⟨Z1b _,by omega,λi hi=>by omega⟩
 rintro i next ⟨U,V,h⟩ hn;split
 ·rename_i hi;have a':i.toNat < a.images.length:=by omega
  obtain ⟨hft,hfl⟩:=hf _ a';have I:(⟨(a.images.getD i.toNat ZEu).terms⟩:ZMw)=a.images.getD i.toNat ZEu:=rfl;rw [i64_in (i+1) (by omega),← I]
  have good:(∀ j,j < (a.images.getD i.toNat ZEu).terms.length→wdU ((a.images.getD i.toNat ZEu).terms.getD j ZEu).mono 8≠1)→next (i+1):=λhh=>hn _ ⟨by omega,by omega,λk hk=>by
   by_cases e:k=i.toNat
   ·subst e; exact hh
   ·exact h k (by omega)⟩ (by omega)
  refine⟨by omega,ZCt hft.pos hfl (λe=>?_) (λr hpos hex hall=>?_)⟩
  ·rw [if_neg (by omega)]
   exact good λj hj=>by omega
  ·split
   ·rename_i q;subst q;obtain ⟨j,hj,ej⟩:=hex;exact G λz=>z _ a' j hj ej
   ·rename_i q;refine good λj hj e=>q ?_
    obtain ⟨j0,A,L⟩:=hex;have:=hall j hj;have:=ZCu ok hf a' A;omega
 ·exact B λi hi=>h i (by omega)
theorem ZCv {ds:List Int} {l:List Term} {K:List Int→Prop} (A:ds.length≤8) (hc:Canon l) (hp:FitT l) (h:K ((ZFk ds.length).map λk=>coT l (ZMz.set k 1))):Zi4 ds ⟨l⟩ K:=by
 unfold Zi4;refine Zfb hc hp λm hm=>?_
 refine Yu (λi (s:List Int)=>s=(ZFk i).map λk=>coT l (ZMz.set k 1)) ds.length ?_ ?_ _ _ _ (by omega) rfl
 ·intro i s next hi hs hn;unfold Zk6;refine⟨by omega,by rw [hs]; simp; unfold Z4; omega,hn _ ?_⟩
  rw [Zcn hm.ok.1,hm.cf,hs,Z2a,ZT6];simp
 ·intro s hs; rw [hs]; exact h
theorem Zti {α:Type} [Inhabited α] {l:List α} {p:α→(Bool→Prop)→Prop} {K:Bool→Prop} {Q:α→Prop} (hp:∀ i,i < l.length→∀ K':Bool→Prop,(Q (l.getD i ZEu)→K' true)→(¬ Q (l.getD i ZEu)→K' false)→p (l.getD i ZEu) K')
  (A:(∃ i,i < l.length∧Q (l.getD i ZEu))→K true) (B:(∀ i,i < l.length→¬ Q (l.getD i ZEu))→K false) :
  Z9 (λi (s:Unit) next=>p (l.getD i ZEu) (λr=>(if r=true then K (decide ((i:Int)≥0)) else next ()))) (λ(s:Unit)=>K (decide ((-1:Int)≥0))) l.length 0 ():=by
 refine Yu (λi (_:Unit)=>∀ j,j < i→¬ Q (l.getD j ZEu)) l.length ?_ ?_ _ _ _ (by omega) (by intro j hj; omega)
 ·intro i s next hi h hn;refine hp i hi _ (λq=>?_) (λq=>?_)
  ·rw [if_pos rfl,decide_eq_true (show (i:Int)≥0 by omega)]
   exact A ⟨i,hi,q⟩
  ·rw [if_neg (by simp)]
   refine hn _ λj hj=>?_
   by_cases e:j=i
   ·subst e; exact q
   ·exact h j (by omega)
 ·intro s h;rw [decide_eq_false (show ¬ (-1:Int)≥0 by omega)]
  exact B h
theorem ZCw {a:Alg} {K:Bool→Prop} (ok:OkAlg a) (hf:Jk a) (A:Zfe a→K true) (B:¬ Zfe a→K false):Zi5 a K:=by
 unfold Zi5 Zk7;have G:=ok.deg.1;have hlen:=ok.len
 let row (i:Nat):List Int:=(ZFk a.degrees.length).map λk=>coT (a.images.getD i ZEu).terms (ZMz.set k 1)
 refine Yu (λi (s:List (List Int))=>s=(ZFk i).map row) a.images.length ?_ ?_ _ _ _ (by omega) rfl
 ·intro i s next hi hs hn;have I:(⟨(a.images.getD i ZEu).terms⟩:ZMw)=a.images.getD i ZEu:=rfl;rw [← I]
  refine ZCv G (ok.frm i hi).canon (hf i hi).1 ⟨by rw [hs]; simp; unfold Z4; omega,hn _ ?_⟩
  rw [hs,Z2a,ZT6]
  rfl
 ·intro s hs;subst hs;have hget:∀ i,i < a.images.length→((ZFk a.images.length).map row).getD i ZEu=row i:=λi hi=>by simp [ZE0,hi]
  have hrow:∀ i k,k < a.degrees.length→(row i).getD k ZEu=coT (a.images.getD i ZEu).terms (ZMz.set k 1):=λi k hk=>by simp [row,ZE0,hk]
  have key:∀ i,i < a.images.length→((∃ k,k < a.degrees.length∧coT (a.images.getD i ZEu).terms (ZMz.set k 1)≠0)↔∃ j,j < (a.images.getD i ZEu).terms.length∧wdU ((a.images.getD i ZEu).terms.getD j ZEu).mono 8=1):=λi hi=>by
   have hc:=(ok.frm i hi).canon;constructor
   ·rintro ⟨k,hk,hnz⟩;obtain ⟨t,ht,e⟩:=(Zth hc).1 hnz;obtain ⟨j,hj,rfl⟩:=ZE8 ht;refine⟨j,hj,?_⟩
    rw [← Xm _ _ hj,e]
    exact ZCr (by omega)
   ·rintro ⟨j,hj,ej⟩;have hm:=(ok.frm i hi).mono (Yx hj);have pm:=(hf i hi).1.pos _ (Yx hj);obtain ⟨q,hq,e⟩:=ZCq (λi hi=>(pm i hi).1) ej
    have hqn:q < a.degrees.length:=by
     rcases ZFm q a.degrees.length with z | z
     ·exact z
     ·have:=(hm q hq).2 z;rw [e,ZP7 hq,if_pos rfl] at this
      omega
    exact⟨q,hqn,(Zth hc).2 ⟨_,Yx hj,e⟩⟩
  unfold Zk5 Ze6;refine Zti (l:=(ZFk a.images.length).map row) (p:=λh K_=>Zgp h K_) (K:=λr=>K (!r)) (Q:=λr=>∃ k,k < a.degrees.length∧r.getD k ZEu≠0) (λi hi K' c1 c2=>?_) (λhex=>?_) (λhall=>?_)
  ·have hi':i < a.images.length:=by simpa using hi
   unfold Zgp Zf3 Zd3;rw [hget i hi'] at c1 c2 ⊢
   refine Zti (l:=row i) (p:=Zgo) (K:=K') (Q:=λx=>x≠0) (λk hk K2 L O=>?_) (λhex=>?_) (λhall=>?_)
   ·unfold Zgo;by_cases z:(row i).getD k ZEu=0
    ·rw [decide_eq_false (λn=>n z)]; exact O λn=>n z
    ·rw [decide_eq_true z]; exact L z
   ·obtain ⟨k,hk,hz⟩:=hex;exact c1 ⟨k,by simpa [row] using hk,hz⟩
   ·exact c2 λ⟨k,hk,hz⟩=>hall k (by simpa [row] using hk) hz
  ·obtain ⟨i,hi,k,hk,hz⟩:=hex;have hi':i < a.images.length:=by simpa using hi
   rw [hget i hi',hrow i k hk] at hz
   obtain ⟨j,hj,ej⟩:=(key i hi').1 ⟨k,hk,hz⟩;exact B λz=>z i hi' j hj ej
  ·refine A λi hi j hj ej=>?_
   obtain ⟨k,hk,hz⟩:=(key i hi).2 ⟨j,hj,ej⟩;exact hall i (by simpa using hi) ⟨k,hk,by rw [hget i hi,hrow i k hk]; exact hz⟩
theorem Ztj {a:Alg} {b:Bool} {K:Int→Prop} (hf:Jk a) (h:¬ OkAlg a→K 1) (A:OkAlg a→¬ Zfe a→K 5) (B:OkAlg a→Zfe a→K (if b=true then 0 else 2)):Zi6 a b K:=by
 unfold Zi6;refine ZCj hf (λok=>?_) (λno=>?_)
 ·rw [if_pos rfl];refine ZCw ok hf (λm=>?_) (λm=>?_)
  ·rw [if_neg (by simp)]
   refine Zed (Zgw ?_)
   rw [if_neg (by simp)]
   have:=B ok m;cases b <;> simpa using this
  ·rw [if_pos (by simp)]
   refine Zed (Zgw ?_)
   rw [if_pos (by decide)]
   exact A ok m
 ·rw [if_neg (by decide)]
  refine Zed (Zgw ?_)
  rw [if_pos (by decide)]
  exact h no
end Go.Proofs.YtaagfepgbofmlaaGreat
namespace Go.Proofs.YtaagfepgbofmlaaGreat
open Go Vc
def Zap (g:Int→List A8):Nat→List A8
 | 0=>[]
 | k+1=>g k++Zap g k
def X9 (d n:Int):Int:=if d % 2=1 then(if 1 < (if 20 < n / d then 20 else n / d) then 1 else(if 20 < n / d then 20 else n / d)) else(if 20 < n / d then 20 else n / d)
def X0 (ds:List Int):Nat→Nat→A8→Int→List A8
 | 0,_,m,n=>if n=0 then [m] else []
 | f+1,i,m,n=>Zap (λk=>X0 ds f (i+1) (m.set i k) (n - k * ds.getD i ZEu)) ((X9 (ds.getD i ZEu) n).toNat+1)
theorem Zli {d n:Int} (hd:1≤d) (hn:0≤n):0≤X9 d n∧X9 d n≤20∧X9 d n * d≤n:=by
 have A:0≤n / d:=Z2c hn (by omega)
 have h:n / d * d≤n:=Int.ediv_mul_le n (by omega)
 have key:∀ x:Int,0≤x→x≤n / d→x * d≤n:=λx _ hx=>Z1q (Z1k hx (by omega)) h
 have hb:0≤X9 d n∧X9 d n≤20∧X9 d n≤n / d:=by
  unfold X9;generalize n / d=q at *
  repeat' split
  all_goals omega
 exact⟨hb.1,hb.2.1,key _ hb.1 hb.2.2⟩
theorem Ztk {c:Nat} {g rest l:List A8} (hl:l.length≤c+1):l++g.take ((c+1) - l.length)++rest.take ((c+1) - (l++g.take ((c+1) - l.length)).length)=l++(g++rest).take ((c+1) - l.length):=by
 rw [List.append_assoc,List.take_append,ZFj,ZUe]
 congr 3
 omega
theorem set_set {m:A8} {i:Nat} {a b:Int} (hi:i < 8):(m.set i a).set i b=m.set i b:=by
 refine ZP8 λq hq=>?_
 rw [ZP7 hi,ZP7 hi,ZP7 hi];split <;> rfl
theorem ZCx {k:Int} (h:0≤k∧k≤20):ZM6.wrap k=k:=Zmi _ (by omega)
theorem Ztl {d n:Int} (hn:0≤n):Int.tdiv n d=n / d:=Z2h hn
theorem ZCy {ds:List Int} (hd:OkDeg ds):∀ (f F i:Nat) (m:A8) (n:Int) (l:List A8) (K:List A8→Prop),i+f=ds.length→f < F→(0≤n∧n≤40)→l.length≤400→K (l++(X0 ds f i m n).take (401 - l.length))→f_spec_l01Fill F ds m i n l K:=by
 intro f
 induction f with
 | zero =>
  intro F i m n l K hi U hn hl h;obtain ⟨F,rfl⟩:∃ G,F=G+1:=⟨F - 1,by omega⟩
  rw [f_spec_l01Fill.eq_2,if_pos (by omega)]
  unfold X0 at h
  split
  ·rename_i q;rw [if_pos q] at h
   refine⟨by unfold Z4; omega,?_⟩
   rwa [ZF0 (by simp; omega)] at h
  ·rename_i q;rw [if_neg q] at h
   simpa using h
 | succ f ih =>
  intro F i m n l K hi U hn hl h;obtain ⟨F,rfl⟩:∃ G,F=G+1:=⟨F - 1,by omega⟩
  have h8:=hd.1;have hdi:=hd.2 i (by omega)
  obtain ⟨t0,ab,tn⟩:=Zli (d:=ds.getD i ZEu) (n:=n) hdi.1 hn.1;have ac:0≤n / ds.getD i ZEu:=Z2c hn.1 (by omega)
  have ad:n / ds.getD i ZEu≤n:=Int.ediv_le_self _ hn.1;rw [f_spec_l01Fill.eq_2,if_neg (by omega)]
  rw [Z1a,Ztl hn.1,i64_in (n / ds.getD i ZEu) (by omega),i64_in ((i:Int)+1) (by omega)]
  have loop:∀ (t:Int),X9 (ds.getD i ZEu) n=t→Xt (λ(A:A8×(List A8)×Int) B=>(if A.2.2≥0 then(if(A.2.1.length:Int)≤400 then((0≤(i:Int)∧(i:Int) < 8)∧((0≤(i:Int)∧(i:Int) < (ds.length:Int))∧f_spec_l01Fill F ds (A.1.set i (ZM6.wrap A.2.2)) ((i:Int)+1) (ZHf.wrap (n - (ZHf.wrap (A.2.2 * (ds.getD i ZEu))))) A.2.1 (λr105=>B (A.1.set i (ZM6.wrap A.2.2),r105,ZHf.wrap (A.2.2 - 1))))) else K A.2.1) else K A.2.1)) (m,l,t):=by
   rintro t rfl;rw [X0] at h
   refine Jg (λ(s:A8×List A8×Int)=>(∀ b,s.1.set i b=m.set i b)∧s.2.1.length≤401∧(-1≤s.2.2∧s.2.2≤X9 (ds.getD i ZEu) n)∧s.2.1++(Zap (λk=>X0 ds f (i+1) (m.set i k) (n - k * ds.getD i ZEu)) (s.2.2+1).toNat).take (401 - s.2.1.length)=l++(Zap (λk=>X0 ds f (i+1) (m.set i k) (n - k * ds.getD i ZEu)) ((X9 (ds.getD i ZEu) n).toNat+1)).take (401 - l.length)) (λs=>(s.2.2+1).toNat) ?_ ⟨λ_=>rfl,by dsimp only; omega,by dsimp only; omega,by dsimp only; rw [show (X9 (ds.getD i ZEu) n+1).toNat=(X9 (ds.getD i ZEu) n).toNat+1 by omega]⟩
   rintro ⟨x,y,k⟩ next ⟨L,O,V,I⟩ hx;dsimp only at L O V I hx ⊢
   split
   ·rename_i hk;have aa:0≤k * ds.getD i ZEu:=Z1i hk (by omega)
    have hkd:k * ds.getD i ZEu≤n:=Z1q (Z1k V.2 (by omega)) tn
    split
    ·rename_i hy;refine⟨by omega,by omega,?_⟩
     rw [ZCx ⟨hk,by omega⟩,i64_in (k * ds.getD i ZEu) (by omega),i64_in (n - k * ds.getD i ZEu) (by omega),i64_in (k - 1) (by omega),L k]
     have e:((i:Int)+1)=((i+1:Nat):Int):=by omega
     rw [e];refine ih F (i+1) _ _ _ _ (by omega) (by omega) (by omega) (by omega) (hx _ ⟨λb=>by dsimp only; rw [set_set (by omega)],?_,by dsimp only; omega,?_⟩ (by dsimp only; omega))
     ·dsimp only; rw [ZFj,ZUe]; omega
     ·dsimp only;rw [← I,show (k+1).toNat=k.toNat+1 by omega,Zap,show (k - 1+1).toNat=k.toNat by omega,show ((k.toNat:Nat):Int)=k by omega]
      exact Ztk (c:=400) O
    ·rename_i hy;have e:y.length=401:=by omega
     rw [← I,e] at h
     simpa using h
   ·rename_i hk;rw [← I,show (k+1).toNat=0 by omega] at h
    simpa [Zap] using h
  have ht:ZFl (ds.getD i ZEu) 2=ds.getD i ZEu % 2:=ZP9 (by omega)
  rw [ht];refine⟨by omega,by omega,by omega,?_⟩
  split
  ·rename_i q;refine loop _ ?_
   unfold X9;rw [if_pos (by omega)]
   clear loop h ih;generalize n / ds.getD i ZEu=q at *
   repeat' split
   all_goals omega
  ·rename_i q;refine loop _ ?_
   unfold X9;rw [if_neg (by omega)]
theorem ZCz {ds:List Int} (hd:OkDeg ds) (c:Nat) (hc:c≤1000):∀ (f F i:Nat) (m:A8) (n:Int) (l:List A8) (K:List A8→Prop),i+f=ds.length→f < F→(0≤n∧n≤40)→l.length≤(c+1)→K (l++(X0 ds f i m n).take ((c+1) - l.length))→f_impl_lister_from F (ds,(c:Int),l) i m n K:=by
 intro f
 induction f with
 | zero =>
  intro F i m n l K hi V hn hl h;obtain ⟨F,rfl⟩:∃ G,F=G+1:=⟨F - 1,by omega⟩
  rw [f_impl_lister_from.eq_2];dsimp only;unfold X0 at h
  split
  ·rename_i q;rw [show (c+1) - l.length=0 by omega] at h
   simpa using h
  ·rename_i q;rw [if_pos (by omega)]
   split
   ·rename_i q;rw [if_pos q] at h
    refine⟨by unfold Z4; omega,?_⟩
    rwa [ZF0 (by simp; omega)] at h
   ·rename_i q;rw [if_neg q] at h
    simpa using h
 | succ f ih =>
  intro F i m n l K hi V hn hl h;obtain ⟨F,rfl⟩:∃ G,F=G+1:=⟨F - 1,by omega⟩
  have h8:=hd.1;have hdi:=hd.2 i (by omega)
  obtain ⟨t0,ab,tn⟩:=Zli (d:=ds.getD i ZEu) (n:=n) hdi.1 hn.1;have ac:0≤n / ds.getD i ZEu:=Z2c hn.1 (by omega)
  have ad:n / ds.getD i ZEu≤n:=Int.ediv_le_self _ hn.1;rw [f_impl_lister_from.eq_2];dsimp only;split
  ·rename_i q;rw [show (c+1) - l.length=0 by omega] at h
   simpa using h
  rw [if_neg (by omega)]
  rw [Z1a,Ztl hn.1,i64_in (n / ds.getD i ZEu) (by omega),i64_in ((i:Int)+1) (by omega)]
  have loop:∀ (t:Int),X9 (ds.getD i ZEu) n=t→Xt (λ(A:A8×(List A8)×Int) B=>(if A.2.2≥0 then((0≤(i:Int)∧(i:Int) < 8)∧f_impl_lister_from F (ds,(c:Int),A.2.1) ((i:Int)+1) (A.1.set i A.2.2) (ZHf.wrap (n - (ZHf.wrap (A.2.2 * (ds.getD i ZEu))))) (λO=>B (A.1.set i A.2.2,O,ZHf.wrap (A.2.2 - 1)))) else K A.2.1)) (m,l,t):=by
   rintro t rfl;rw [X0] at h
   refine Jg (λ(s:A8×List A8×Int)=>(∀ b,s.1.set i b=m.set i b)∧s.2.1.length≤(c+1)∧(-1≤s.2.2∧s.2.2≤X9 (ds.getD i ZEu) n)∧s.2.1++(Zap (λk=>X0 ds f (i+1) (m.set i k) (n - k * ds.getD i ZEu)) (s.2.2+1).toNat).take ((c+1) - s.2.1.length)=l++(Zap (λk=>X0 ds f (i+1) (m.set i k) (n - k * ds.getD i ZEu)) ((X9 (ds.getD i ZEu) n).toNat+1)).take ((c+1) - l.length)) (λs=>(s.2.2+1).toNat) ?_ ⟨λ_=>rfl,by dsimp only; omega,by dsimp only; omega,by dsimp only; rw [show (X9 (ds.getD i ZEu) n+1).toNat=(X9 (ds.getD i ZEu) n).toNat+1 by omega]⟩
   rintro ⟨x,y,k⟩ next ⟨U,I,k3,L⟩ hx;dsimp only at U I k3 L hx ⊢
   split
   ·rename_i hk;have aa:0≤k * ds.getD i ZEu:=Z1i hk (by omega)
    have hkd:k * ds.getD i ZEu≤n:=Z1q (Z1k k3.2 (by omega)) tn
    refine⟨by omega,?_⟩
    rw [i64_in (k * ds.getD i ZEu) (by omega),i64_in (n - k * ds.getD i ZEu) (by omega),i64_in (k - 1) (by omega),U k]
    have e:((i:Int)+1)=((i+1:Nat):Int):=by omega
    rw [e];refine ih F (i+1) _ _ _ _ (by omega) (by omega) (by omega) I (hx _ ⟨λb=>by dsimp only; rw [set_set (by omega)],?_,by dsimp only; omega,?_⟩ (by dsimp only; omega))
    ·dsimp only; rw [ZFj,ZUe]; omega
    ·dsimp only;rw [← L,show (k+1).toNat=k.toNat+1 by omega,Zap,show (k - 1+1).toNat=k.toNat by omega,show ((k.toNat:Nat):Int)=k by omega]
     exact Ztk I
   ·rename_i hk;rw [← L,show (k+1).toNat=0 by omega] at h
    simpa [Zap] using h
  have ht:ZFl (ds.getD i ZEu) 2=ds.getD i ZEu % 2:=ZP9 (by omega)
  rw [ht];refine⟨by omega,by omega,?_⟩
  split
  ·rename_i q;refine loop _ ?_
   unfold X9;rw [if_pos q]
  ·rename_i q;refine loop _ ?_
   unfold X9;rw [if_neg q]
def Zjd (p:A8):Prop:=∀ q,q < 8→0≤p.get q∧p.get q≤20
theorem Zlj {g:Int→List A8} {p:A8}:∀ {t:Nat}, p∈Zap g t→∃ k:Nat,k < t∧p∈g k:=by
 intro t
 induction t with
 | zero=>intro h; simp [Zap] at h
 | succ t ih =>
  intro h;rw [Zap] at h
  rcases ZEt.1 h with h | h
  ·exact⟨t,by omega,h⟩
  ·obtain ⟨k,hk,hp⟩:=ih h;exact⟨k,by omega,hp⟩
theorem ZC0 {ds:List Int} (hd:OkDeg ds):∀ (f i:Nat) (m:A8) (n:Int),i+f=ds.length→0≤n→Zjd m→∀ p,p∈X0 ds f i m n→Zjd p:=by
 intro f
 induction f with
 | zero =>
  intro i m n hi hn hm p hp;unfold X0 at hp
  split at hp
  ·rw [ZFn.1 hp]; exact hm
  ·simp at hp
 | succ f ih =>
  intro i m n hi hn hm p hp;have A:=hd.1;have hdi:=hd.2 i (by omega)
  obtain ⟨B,h,tn⟩:=Zli (d:=ds.getD i ZEu) (n:=n) hdi.1 hn;rw [X0] at hp
  obtain ⟨k,hk,hp⟩:=Zlj hp;have hkd:(k:Int) * ds.getD i ZEu≤n:=Z1q (Z1k (by omega) (by omega)) tn
  refine ih (i+1) _ _ (by omega) (by omega) (λq hq=>?_) p hp
  rw [ZP7 (by omega)]
  split
  ·omega
  ·exact hm q hq
def mons (ds:List Int) (n:Int):List A8:=if n < 0 then [] else X0 ds ds.length 0 ZMz n
theorem Zlk {ds:List Int} (hd:OkDeg ds) {n:Int}:∀ p,p∈mons ds n→Zjd p:=λp hp=>by
 unfold mons at hp
 split at hp
 ·simp at hp
 ·exact ZC0 hd _ _ _ _ (by omega) (by omega) (λq hq=>by rw [Z1p]; omega) p hp
def Fits (ds:List Int) (n:Int):Prop:=(mons ds n).length≤120
instance (ds:List Int) (n:Int):Decidable (Fits ds n):=inferInstanceAs (Decidable (_≤_))
theorem kb {K:List A8→Bool→Prop} {a c:List A8} {b d:Bool} (h:K a b) (A:c=a) (B:d=b):K c d:=by rw [A,B]; exact h
theorem Zll {ds:List Int} (hd:OkDeg ds) {n:Int} (hn:n≤40) {K:List A8→Bool→Prop} (h:Fits ds n→K (mons ds n) true) (B:¬ Fits ds n→∀ l,K l false):Za7 ds n 120 K:=by
 unfold Za7;by_cases A:n≥0
 ·rw [if_pos A];have G:=hd.1;have e:mons ds n=X0 ds ds.length 0 ZMz n:=by unfold mons; rw [if_neg (by omega)]
  refine ZCz hd 120 (by omega) ds.length 9 0 ZMz n [] _ (by omega) (by omega) (by omega) (by simp) ?_
  rw [← e]
  have et:([]:List A8)++(mons ds n).take (120+1 - ([]:List A8).length)=(mons ds n).take 121:=by simp
  by_cases hf:Fits ds n
  ·have hf':(mons ds n).length≤120:=hf;exact kb (h hf) (by rw [et,ZF0 (by omega)]) (decide_eq_true (by rw [et,ZUe]; omega))
  ·have hf':¬ (mons ds n).length≤120:=hf;exact kb (B hf _) rfl (decide_eq_false (by rw [et,ZUe]; omega))
 ·rw [if_neg A];have e:mons ds n=[]:=by unfold mons; rw [if_pos (by omega)]
  have:=h (by unfold Fits; rw [e]; simp)
  rw [e] at this
  exact this
theorem Zje {ds:List Int} (hd:OkDeg ds) {n:Int} (hn:0≤n∧n≤40) {K:List A8→Prop} (h:K ((mons ds n).take 401)):Zdg ds n K:=by
 unfold Zdg;have A:=hd.1;have e:mons ds n=X0 ds ds.length 0 ZMz n:=by unfold mons; rw [if_neg (by omega)]
 rw [e] at h
 exact ZCy hd ds.length 9 0 ZMz n [] _ (by omega) (by omega) hn (by simp) h
theorem ZC1 {a:Alg} (hd:OkDeg a.degrees) {n:Int} (hn:0≤n∧n≤20) {K:Bool→Prop} (I:Fits a.degrees (n - 1)→Fits a.degrees n→Fits a.degrees (n+1)→K true) (L:¬ (Fits a.degrees (n - 1)∧Fits a.degrees n∧Fits a.degrees (n+1))→K false):Ziv a (ZHf.wrap (n - 1)) (ZHf.wrap (n+1)) K:=by
 unfold Ziv;rw [i64_in (n - 1) (by omega),i64_in (n+1) (by omega)]
 have fneg:∀ j:Int,j < 0→Fits a.degrees j:=λj hj=>by unfold Fits mons; rw [if_pos hj]; simp
 refine Jg (λ(s:Int)=>0≤s∧(n - 1≤s∧s≤n+2)∧∀ j:Int,n - 1≤j→j < s→Fits a.degrees j) (λs=>(n+2 - s).toNat) ?_ ?_
 ·rintro s next ⟨O,U,h⟩ hx;split
  ·rename_i q;refine Zje hd (by omega) ?_
   split
   ·rename_i B;refine L λz=>?_
    have hs:Fits a.degrees s:=by
     rcases (show s=n - 1∨s=n∨s=n+1 by omega) with e | e | e
     ·rw [e]; exact z.1
     ·rw [e]; exact z.2.1
     ·rw [e]; exact z.2.2
    have hs':(mons a.degrees s).length≤120:=hs;rw [ZUe] at B
    omega
   ·rename_i B;rw [i64_in (s+1) (by omega)]
    refine hx _ ⟨by omega,by omega,λj A G=>?_⟩ (by omega)
    by_cases e:j=s
    ·subst e
     show (mons a.degrees j).length≤120
     rw [ZUe] at B; omega
    ·exact h j A (by omega)
  ·rename_i q;exact I (h _ (by omega) (by omega)) (h _ (by omega) (by omega)) (h _ (by omega) (by omega))
 ·by_cases q:n - 1 < 0
  ·rw [if_pos q]; exact⟨by omega,by omega,λj _ hj=>fneg j hj⟩
  ·rw [if_neg q]; exact⟨by omega,by omega,λj A G=>by omega⟩
def Zbg (ds:List Int) (n:Int):Prop:=Fits ds (n - 1)∧Fits ds n∧Fits ds (n+1)
theorem ZC2 {a:Alg} {n:Int} {K:Int→Prop} (hf:Jk a) (ok:OkAlg a) (h:¬ (0≤n∧n≤20)→K 2) (A:(0≤n∧n≤20)→¬ Zbg a.degrees n→K 3) (B:(0≤n∧n≤20)→Zbg a.degrees n→K 0):Zgi a n K:=by
 unfold Zgi;refine Ztd hf (λ_=>?_) (λno=>absurd ok no)
 rw [if_neg (by simp)]
 refine Zmz ?_
 by_cases hn:0≤n∧n≤20
 ·rw [decide_eq_true hn,if_neg (by simp)]
  refine ZC1 ok.deg hn (λG I L=>?_) (λno=>?_)
  ·rw [if_neg (by simp)]; exact B hn ⟨G,I,L⟩
  ·rw [if_pos (by simp)]; exact A hn no
 ·rw [decide_eq_false hn,if_pos (by simp)]; exact h hn
theorem ZC3 {S:Type} {b:Nat→S→(S→Prop)→Prop} {e:S→Prop} {s:S} (h:b 0 s e):Z9 b e 1 0 s:=h
theorem ZC4 {ds:List Int} (hd:OkDeg ds) {n:Int} (hn:0≤n∧n≤20) {A B:Prop} (h:¬ Zbg ds n→A) (O:Zbg ds n→B) :
  Za7 ds (ZHf.wrap ((([n]:List Int).getD 0 ZEu) - 1)) 120 (λ_ G=>if¬ (G=true) then A else Za7 ds (([n]:List Int).getD 0 ZEu) 120 (λ_ I=>if¬ (I=true) then A else Za7 ds (ZHf.wrap ((([n]:List Int).getD 0 ZEu)+1)) 120 (λ_ L=>if¬ (L=true) then A else B))):=by
 show Za7 ds (ZHf.wrap (n - 1)) 120 (λ_ G=>if¬ (G=true) then A else Za7 ds n 120 (λ_ I=>if¬ (I=true) then A else Za7 ds (ZHf.wrap (n+1)) 120 (λ_ L=>if¬ (L=true) then A else B)))
 rw [i64_in (n - 1) (by omega),i64_in (n+1) (by omega)]
 refine Zll hd (by omega) (λU=>?_) (λno _=>?_)
 ·rw [if_neg (by simp)]
  refine Zll hd (by omega) (λV=>?_) (λno _=>?_)
  ·rw [if_neg (by simp)]
   refine Zll hd (by omega) (λa3=>?_) (λno _=>?_)
   ·rw [if_neg (by simp)]; exact O ⟨U,V,a3⟩
   ·rw [if_pos (by simp)]; exact h λz=>no z.2.2
  ·rw [if_pos (by simp)]; exact h λz=>no z.2.1
 ·rw [if_pos (by simp)]; exact h λz=>no z.1
theorem Zlm {ds:List Int} (hd:OkDeg ds) {n:Int} {i:Nat} (hi:i < (mons ds n).length):∀ j,j < 8→0≤((mons ds n).getD i ZEu).get j∧((mons ds n).getD i ZEu).get j≤255:=λj hj=>by
 have:=Zlk hd _ (Yx hi) j hj;omega
end Go.Proofs.YtaagfepgbofmlaaGreat
namespace Go.Proofs.YtaagfepgbofmlaaGreat
open Go Vc
end Go.Proofs.YtaagfepgbofmlaaGreat
namespace Go.Proofs.YtaagfepgbofmlaaGreat
open Go Vc
def J6 (p:Int) (l:List A8):List A8:=l.filter λm=>decide (p≤wdU m 8)
theorem Ztm {p:Int} {l:List A8} {i:Nat} (h:i < l.length):J6 p (l.take (i+1))=if p≤wdU (l.getD i ZEu) 8 then J6 p (l.take i)++[l.getD i ZEu] else J6 p (l.take i):=by
 rw [Xu h,J6,List.filter_append];by_cases q:p≤wdU (l.getD i ZEu) 8
 ·rw [if_pos q,Z1u (by simpa using q)]; rfl
 ·rw [if_neg q,Z1v (by simpa using q),List.filter_nil,ZUi]; rfl
theorem Ztn (p:Int) (l:List A8):(J6 p l).length≤l.length:=Z2m _ _
theorem ZC5 {ds:List Int} (hd:OkDeg ds) {n:Int}:J6 0 (mons ds n)=mons ds n:=by
 refine List.filter_eq_self.2 λm hm=>?_
 have hs:=Zlk hd m hm;have:=(Zgv (m:=m) (λi hi=>by have:=hs i hi; omega) 8 (by omega)).1
 simpa using this
end Go.Proofs.YtaagfepgbofmlaaGreat
namespace Go.Proofs.YtaagfepgbofmlaaGreat
open Go Vc
theorem Zto {a:Alg} {f:List Term} {K:Int→Prop} (hf:Jk a) (ff:FitT f) (A:OkAlg a→OkForm a.degrees f→K 0) (h:¬ (OkAlg a∧OkForm a.degrees f)→K 1):Zdb a [⟨f⟩] K:=by
 unfold Zdb;refine Zte hf (λz=>?_) (λz=>?_)
 ·rw [if_neg (by simp)]
  refine Zok (Q:=λg=>¬ OkForm a.degrees g.terms) (λi hi K' c1 c2=>?_) (λhex=>?_) (λhall=>?_)
  ·have hi':i < 1:=hi;obtain rfl:i=0:=by omega
   unfold Zig;refine Zsv z.deg ff ?_
   by_cases q:OkForm a.degrees f
   ·rw [decide_eq_true q]; exact c2 λn=>n q
   ·rw [decide_eq_false q]; exact c1 q
  ·obtain ⟨i,hi,hq⟩:=hex;have hi':i < 1:=hi;obtain rfl:i=0:=by omega
   exact Zed (h λy=>hq y.2)
  ·exact Zed (A z (Z1o (hall 0 (show 0 < 1 by omega))))
 ·rw [if_pos (by simp)]
  exact Zed (h λy=>z y.1)
theorem ZC6 {a:Alg} {K:Int→Prop} (hb:LenAlg a) (A:∀ r,0≤r→r≤1048576→a.degrees.length≤1048576→a.images.length≤1048576→(∀ i,i < a.images.length→(a.images.getD i ZEu).terms.length≤1048576)→K r) (h:∀ r,r < 0→K r):Zii a 1048576 K:=by
 unfold Zii Zkp;have hd:=hb.deg;unfold Big at hd
 rw [i64_in _ (by omega)]
 split
 ·dsimp only; rw [if_pos (by omega)]; exact h _ (by omega)
 ·dsimp only; rw [if_neg (by omega)]
  refine ZCm hb.img hb.trm (by omega) (λr B I L G=>?_) (λr hr=>by rw [if_pos hr]; exact h _ (by omega))
  rw [if_neg (by omega)]
  exact A r B (by omega) (by omega) (by omega) G
end Go.Proofs.YtaagfepgbofmlaaGreat
namespace Go.Proofs.YtaagfepgbofmlaaGreat
open Go Vc
theorem Zee:∀ (l xs ys:List Int) (x y:Int),y < x→Ju (l++x::xs) (l++y::ys) < 0:=by
 intro l
 induction l with
 | nil=>intro xs ys x y h; simp only [Z1w,Ju]; split <;> (try split) <;> omega
 | cons a l ih=>intro xs ys x y h; simp only [List.cons_append,Ju]; split <;> (try split) <;> first | omega | exact ih xs ys x y h
theorem ZC7 {a b:A8} {i:Nat} (hi:i < 8) (h:∀ q,q < i→a.get q=b.get q) (hg:b.get i < a.get i):pcmp a b < 0:=by
 have hl:∀ c:A8,c.list=[c.get 0,c.get 1,c.get 2,c.get 3,c.get 4,c.get 5,c.get 6,c.get 7]:=λ_=>rfl
 unfold pcmp;rw [hl a,hl b]
 match i,hi with
 | 0,_=>exact Zee [] _ _ _ _ hg
 | 1,_=>rw [h 0 (by omega)]; exact Zee [_] _ _ _ _ hg
 | 2,_=>rw [h 0 (by omega),h 1 (by omega)]; exact Zee [_,_] _ _ _ _ hg
 | 3,_=>rw [h 0 (by omega),h 1 (by omega),h 2 (by omega)]; exact Zee [_,_,_] _ _ _ _ hg
 | 4,_=>rw [h 0 (by omega),h 1 (by omega),h 2 (by omega),h 3 (by omega)]; exact Zee [_,_,_,_] _ _ _ _ hg
 | 5,_=>rw [h 0 (by omega),h 1 (by omega),h 2 (by omega),h 3 (by omega),h 4 (by omega)]; exact Zee [_,_,_,_,_] _ _ _ _ hg
 | 6,_=>rw [h 0 (by omega),h 1 (by omega),h 2 (by omega),h 3 (by omega),h 4 (by omega),h 5 (by omega)]; exact Zee [_,_,_,_,_,_] _ _ _ _ hg
 | 7,_=>rw [h 0 (by omega),h 1 (by omega),h 2 (by omega),h 3 (by omega),h 4 (by omega),h 5 (by omega),h 6 (by omega)]; exact Zee [_,_,_,_,_,_,_] _ _ _ _ hg
theorem Zon {ds:List Int}:∀ (f i:Nat) (m:A8) (n:Int),i+f=ds.length→ds.length≤8→∀ p,p∈X0 ds f i m n→∀ q,q < i→p.get q=m.get q:=by
 intro f
 induction f with
 | zero =>
  intro i m n hi h p hp q hq;unfold X0 at hp
  split at hp
  ·rw [ZFn.1 hp]
  ·simp at hp
 | succ f ih =>
  intro i m n hi h p hp q hq;rw [X0] at hp
  obtain ⟨k,hk,hp⟩:=Zlj hp;have:=ih (i+1) _ _ (by omega) h p hp q (by omega)
  rw [this,ZP7 (by omega),if_neg (by omega)]
theorem ZC8 {ds:List Int} {f i:Nat} {m:A8} {n k:Int} (hi:i+(f+1)=ds.length) (h:ds.length≤8) {p:A8} (hp:p∈X0 ds f (i+1) (m.set i k) n):p.get i=k:=by
 have:=Zon f (i+1) (m.set i k) n (by omega) h p hp i (by omega)
 rw [this,ZP7 (by omega),if_pos rfl]
theorem ZC9 {g:Int→List A8} {i:Nat} (hi:i < 8) (hag:∀ k k':Int,∀ a,a∈g k→∀ b,b∈g k'→∀ q,q < i→a.get q=b.get q) (hat:∀ k:Int,∀ a,a∈g k→a.get i=k) (hs:∀ k:Int,(g k).Pairwise (λa b=>pcmp a b < 0)) :
  ∀ t,(Zap g t).Pairwise (λa b=>pcmp a b < 0):=by
 intro t
 induction t with
 | zero=>exact ZRh
 | succ t ih =>
  rw [Zap];refine ZG6.2 ⟨hs _,ih,λa ha b hb=>?_⟩
  obtain ⟨k,hk,hb⟩:=Zlj hb;refine ZC7 hi (hag _ _ a ha b hb) ?_
  rw [hat _ a ha,hat _ b hb]; omega
theorem ZDa {ds:List Int} (h:ds.length≤8):∀ (f i:Nat) (m:A8) (n:Int),i+f=ds.length→(X0 ds f i m n).Pairwise (λa b=>pcmp a b < 0):=by
 intro f
 induction f with
 | zero =>
  intro i m n hi;unfold X0;split
  ·exact List.pairwise_singleton _ _
  ·exact ZRh
 | succ f ih =>
  intro i m n hi;rw [X0];refine ZC9 (i:=i) (by omega) (λk k' a ha b hb q hq=>?_) (λk a ha=>ZC8 hi h ha) (λk=>ih (i+1) _ _ (by omega)) _
  have A:=Zon f (i+1) _ _ (by omega) h a ha q (by omega)
  have B:=Zon f (i+1) _ _ (by omega) h b hb q (by omega)
  rw [A,B,ZP7 (by omega),ZP7 (by omega),if_neg (by omega),if_neg (by omega)]
theorem Zoo {ds:List Int} (h:ds.length≤8) (n:Int):(mons ds n).Pairwise (λa b=>pcmp a b < 0):=by
 unfold mons;split
 ·exact ZRh
 ·exact ZDa h _ _ _ _ (by omega)
def Zbv (ds:List Int) (p:A8):Nat→Nat→Int
 | 0,_=>0
 | r+1,j=>ds.getD j ZEu * p.get j+Zbv ds p r (j+1)
theorem Ztp {ds:List Int} (hd:OkDeg ds) {p:A8} (hp:∀ i,i < 8→0≤p.get i):∀ r j,j+r=ds.length→0≤Zbv ds p r j:=by
 intro r
 induction r with
 | zero=>intro j _; exact Z1b _
 | succ r ih =>
  intro j hj;have h:=hd.1;have:=ih (j+1) (by omega)
  have A:=Z1i (a:=ds.getD j ZEu) (b:=p.get j) (by have:=hd.2 j (by omega); omega) (hp j (by omega))
  simp only [Zbv]; omega
theorem ZDb {g:Int→List A8} {p:A8} {k:Nat} (hp:p∈g k):∀ t,k < t→p∈Zap g t:=by
 intro t
 induction t with
 | zero=>intro h; omega
 | succ t ih =>
  intro h;rw [Zap];by_cases e:k=t
  ·subst e; exact ZE7 _ hp
  ·exact ZE6 _ (ih (by omega))
theorem ZDc {ds:List Int} (hd:OkDeg ds) {p:A8} (hp:∀ i,i < 8→0≤p.get i) (hm:OkMono ds p):∀ (f i:Nat) (m:A8) (n:Int),i+f=ds.length→(∀ q,q < 8→m.get q=if q < i then p.get q else 0)→Zbv ds p f i=n→p∈X0 ds f i m n:=by
 intro f
 induction f with
 | zero =>
  intro i m n hi hag hn;unfold X0;simp only [Zbv] at hn
  rw [if_pos hn.symm,ZFn];refine ZP8 λq hq=>?_
  rw [hag q hq];split
  ·rfl
  ·exact(hm q hq).2 (by omega)
 | succ f ih =>
  intro i m n hi hag hn;have h:=hd.1;have hdi:=hd.2 i (by omega)
  have hpi:=hp i (by omega)
  have hmi:=(hm i (by omega)).1 (by omega)
  simp only [Zbv] at hn
  have hr:=Ztp hd hp f (i+1) (by omega)
  rw [X0];have hk:p.get i≤n / ds.getD i ZEu:=Int.le_ediv_of_mul_le (by omega) (by rw [ZGk]; omega)
  have htop:p.get i≤X9 (ds.getD i ZEu) n:=by
   unfold X9;by_cases o:ds.getD i ZEu % 2=1
   ·have A:=hmi.2 (by rw [ZP9 (by omega)]; omega)
    rw [if_pos o];generalize n / ds.getD i ZEu=t at *
    repeat' split
    all_goals omega
   ·rw [if_neg o];generalize n / ds.getD i ZEu=t at *
    repeat' split
    all_goals omega
  refine ZDb (k:=(p.get i).toNat) ?_ _ (by omega)
  have e:(((p.get i).toNat:Nat):Int)=p.get i:=by omega
  rw [e];refine ih (i+1) _ _ (by omega) (λq hq=>?_) ?_
  ·rw [ZP7 (by omega)]
   by_cases c:q=i
   ·subst c; rw [if_pos rfl,if_pos (by omega)]
   ·rw [if_neg c,hag q hq];by_cases c2:q < i
    ·rw [if_pos c2,if_pos (by omega)]
    ·rw [if_neg c2,if_neg (by omega)]
  ·rw [ZGk (p.get i)]; omega
theorem ZDd (ds:List Int) (p:A8):∀ (r j:Nat),Zbv ds p (r+1) j=Zbv ds p r j+ds.getD (j+r) ZEu * p.get (j+r):=by
 intro r
 induction r with
 | zero=>intro j; simp [Zbv]
 | succ r ih =>
  intro j;rw [Zbv,ih (j+1),show j+1+r=j+(r+1) by omega]
  simp only [Zbv]; omega
theorem Ztq (ds:List Int) (p:A8):∀ k,Zbv ds p k 0=wtU ds p k:=by
 intro k
 induction k with
 | zero=>rfl
 | succ k ih=>rw [ZDd,ih,Nat.zero_add,wtU]
theorem ZDe {ds:List Int} (hd:OkDeg ds) {p:A8} (hp:∀ i,i < 8→0≤p.get i) (hm:OkMono ds p):p∈mons ds (wtU ds p ds.length):=by
 have h:=Ztp hd hp ds.length 0 (by omega)
 rw [Ztq] at h
 unfold mons;rw [if_neg (by omega)]
 exact ZDc hd hp hm _ _ _ _ (by omega) (λq hq=>by rw [Z1p,if_neg (by omega)]) (Ztq ds p _)
def Zln (m:A8) (i:Nat):A8:=A8.mkf λj=>if i < j then m.get j else if j=i then m.get i - 1 else 0
theorem Zop (ds:List Int) (a b:A8):∀ k,wtU ds (a.add b) k=wtU ds a k+wtU ds b k:=by
 intro k
 induction k with
 | zero=>rfl
 | succ k ih=>simp only [wtU]; rw [ih,Z1f,Z1x]; omega
theorem ZDf (ds:List Int) (m:A8) (j:Nat):∀ k,k≤8→wtU ds ((X5 m j).add (Zln m j)) k=wtU ds m k - if j < k then ds.getD j ZEu else 0:=by
 intro k
 induction k with
 | zero=>intro _; simp [wtU]
 | succ k ih =>
  intro hk;simp only [wtU];rw [ih (by omega),Z1f,X5,Zln,A8.get_mkf _ (by omega),A8.get_mkf _ (by omega)]
  by_cases c1:k < j
  ·rw [if_pos c1,if_neg (by omega),if_neg (by omega),if_neg (by omega),if_neg (by omega),Z1c]; omega
  ·by_cases c2:k=j
   ·subst c2;rw [if_neg (by omega),if_neg (by omega),if_neg (by omega),if_pos rfl,if_pos (by omega),ZF7,Int.mul_sub,Z1z]; omega
   ·rw [if_neg c1,if_pos (by omega),if_pos (by omega),if_pos (by omega),ZF7]; omega
theorem Ztr {ds:List Int} (hd:OkDeg ds) {y:A8} (hp:∀ q,q < 8→0≤y.get q):∀ k,k≤ds.length→0≤wtU ds y k∧∀ q,q < k→y.get q≤wtU ds y k:=by
 intro k
 induction k with
 | zero=>intro _; exact⟨Z1b _,λq hq=>by omega⟩
 | succ k ih =>
  intro hk;have A:=hd.1;obtain ⟨B,h⟩:=ih (by omega)
  have hdk:=hd.2 k (by omega)
  have hy:=hp k (by omega)
  have hm:y.get k≤ds.getD k ZEu * y.get k:=by
   have:=Z1k (a:=1) (b:=ds.getD k ZEu) (c:=y.get k) (by omega) hy
   rwa [Z1y] at this
  simp only [wtU];refine⟨by omega,λq hq=>?_⟩
  by_cases c:q=k
  ·subst c; omega
  ·have:=h q (by omega); omega
theorem ZDg {ds:List Int} {m:A8} {i:Nat} {k:Int} (hi:i < 8):∀ j,j≤i→wtU ds (m.set i k) j=wtU ds m j:=by
 intro j
 induction j with
 | zero=>intro _; rfl
 | succ j ih=>intro hj; simp only [wtU]; rw [ih (by omega),ZP7 hi,if_neg (by omega)]
theorem Zts {ds:List Int} (hd:OkDeg ds):∀ (f i:Nat) (m:A8) (n:Int),i+f=ds.length→0≤n→(∀ q,q < 8→i≤q→m.get q=0)→(∀ q,q < i→m.get q≤20∧(ZFl (ds.getD q ZEu) 2≠0→m.get q≤1))→∀ p,p∈X0 ds f i m n→OkMono ds p∧wtU ds p ds.length=wtU ds m i+n:=by
 intro f
 induction f with
 | zero =>
  intro i m n hi hn h A p hp;unfold X0 at hp
  split at hp
  ·rename_i e;rw [ZFn.1 hp];refine⟨λq hq=>⟨λhl=>A q (by omega),λhl=>h q hq (by omega)⟩,?_⟩
   rw [show ds.length=i by omega,e,Z1c]
  ·simp at hp
 | succ f ih =>
  intro i m n hi hn h A p hp;have V:=hd.1;have hdi:=hd.2 i (by omega)
  obtain ⟨I,G,tn⟩:=Zli (d:=ds.getD i ZEu) (n:=n) hdi.1 hn;rw [X0] at hp
  obtain ⟨k,hk,hp⟩:=Zlj hp;have hkt:(k:Int)≤X9 (ds.getD i ZEu) n:=by omega
  have hkd:(k:Int) * ds.getD i ZEu≤n:=Z1q (Z1k hkt (by omega)) tn
  have B:ZFl (ds.getD i ZEu) 2≠0→(k:Int)≤1:=λo=>by
   rw [ZP9 (by omega)] at o
   have:X9 (ds.getD i ZEu) n≤1:=by
    unfold X9;rw [if_pos (by omega)]
    clear hkt hkd hp I G tn hk;generalize n / ds.getD i ZEu=q at *
    repeat' split
    all_goals omega
   omega
  obtain ⟨L,O⟩:=ih (i+1) (m.set i k) (n - k * ds.getD i ZEu) (by omega) (by omega) (λq hq U=>by rw [ZP7 (by omega),if_neg (by omega)]; exact h q hq (by omega)) (λq hq=>by
   rw [ZP7 (by omega)]
   by_cases e:q=i
   ·subst e; rw [if_pos rfl]; exact⟨by omega,B⟩
   ·rw [if_neg e]; exact A q (by omega)) p hp
  refine⟨L,?_⟩
  rw [O,wtU,ZDg (by omega) i (ZEs _),ZP7 (by omega),if_pos rfl,ZGk (k:Int)]
  omega
theorem Zoq {ds:List Int} (hd:OkDeg ds) {n:Int} {p:A8} (h:p∈mons ds n):OkMono ds p∧wtU ds p ds.length=n∧Zjd p:=by
 refine⟨?_,?_,Zlk hd p h⟩ <;> (unfold mons at h; split at h; · simp at h)
 ·exact(Zts hd _ _ _ _ (by omega) (by omega) (λq hq _=>Z1p ..) (λq hq=>by omega) p h).1
 ·have:=(Zts hd _ _ _ _ (by omega) (by omega) (λq hq _=>Z1p ..) (λq hq=>by omega) p h).2
  rw [this]; simp [wtU]
theorem ZDh {p:A8} (h:Zjd p):Zas .u8 p:=λx hx=>by
 obtain ⟨i,hi,rfl⟩:=A8.mem_list.1 hx;have:=h i hi;simp only [Fit,Lit.wf,Bool.and_eq_true,decide_eq_true_eq];simp [IntKind.min,IntKind.max,IntKind.signed,IntKind.bits];omega
theorem ZDi {m:A8} {j:Nat}:(leftA m j).add (backA m j)=(X5 m j).add (Zln m j):=ZP8 λq hq=>by
 rw [Z1f,Z1f,leftA,backA,X5,Zln,A8.get_mkf _ hq,A8.get_mkf _ hq,A8.get_mkf _ hq,A8.get_mkf _ hq];by_cases a:q < j
 ·rw [if_pos a,if_pos a,if_neg (by omega),if_neg (by omega),if_neg (by omega)]
 ·by_cases b:q=j
  ·subst b; rw [if_neg a,if_pos rfl,if_neg (by omega)]; omega
  ·rw [if_neg a,if_neg b,if_pos (by omega),if_neg a]
theorem ZDj {ds:List Int} {imgs:List (List Term)} {y m:A8} (A:ds.length≤8) (hm:OkMono ds m) (h:DMono ds imgs y m):∃ j u,j < ds.length∧0 < m.get j∧u∈imgs.getD j ZEu∧wtU ds y ds.length=wtU ds m ds.length - ds.getD j ZEu+wtU ds u.mono ds.length:=by
 obtain ⟨j,u,B,G,I,rfl,_,_⟩:=h;have hj:j < ds.length:=Nat.lt_of_not_le λz=>by have:=(hm j B).2 z; omega
 refine⟨j,u,hj,G,I,?_⟩
 have e:=ZDf ds m j ds.length A;rw [← ZDi,Zop,if_pos hj] at e
 rw [Zop,Zop];omega
theorem ZDk {ds:List Int} {imgs:List (List Term)} {y m:A8} (O:ds.length≤8) (hm:OkMono ds m) (pm:∀ i,i < 8→0≤m.get i∧m.get i≤20) (B:∀ j u,u∈imgs.getD j ZEu→OkMono ds u.mono∧∀ i,i < 8→0≤u.mono.get i∧u.mono.get i≤20) (h:DMono ds imgs y m):Jh ds y∧∀ q,q < 8→0≤y.get q:=by
 obtain ⟨j,u,G,A,I,rfl,c1,c2⟩:=h;obtain ⟨lb,bb,lbb⟩:=Zoh pm A;obtain ⟨wl,wb⟩:=Zod hm G A;obtain ⟨ou,bu⟩:=B j u I;have L:=Zle wl ou.wk (λq hq=>(lb q hq).1) (λq hq=>(bu q hq).1) (λq hq=>by have:=lb q hq; have:=bu q hq; omega) c1
 have b1:∀ q,q < 8→0≤((leftA m j).add u.mono).get q∧((leftA m j).add u.mono).get q≤40:=λq hq=>by rw [Z1f]; have:=lb q hq; have:=bu q hq; omega
 exact⟨Zle L wb (λq hq=>(b1 q hq).1) (λq hq=>(bb q hq).1) (λq hq=>by have:=b1 q hq; have:=bb q hq; omega) c2,λq hq=>by rw [Z1f]; have:=b1 q hq; have:=bb q hq; omega⟩
theorem Ztt:∀ {l:List Term}, Canon l→∀ {t:Term}, t∈l→coT l t.mono=t.factor
 | [],_,t,ht=>by simp at ht
 | s :: l, hc, t, ht => by
  rcases ZEn.1 ht with e | ht'
  ·rw [e]; exact hc.at_head
  ·rw [Zcl,if_neg (Zbq (hc.head t ht')),ZF7]; exact Ztt hc.tail ht'
theorem Ztu {l:List A8} (hs:l.Pairwise (λa b=>pcmp a b < 0)) {k:Nat} {a b:A8} (ha:a∈l.take k) (hb:b∈l.drop k):pcmp a b < 0:=by
 rw [← ZIx k l] at hs
 exact(ZG6.1 hs).2.2 a ha b hb
theorem Ztv {α:Type} [Inhabited α] {l:List α} {k:Nat} (hk:k < l.length):l.drop k=l.getD k ZEu::l.drop (k+1):=by
 rw [List.drop_eq_getElem_cons hk]; simp [ZE0,hk]
theorem Zor {f:List Term} {l:List A8} {K:List Int→Prop} (hc:Canon f) (hs:l.Pairwise (λa b=>pcmp a b < 0)) (hin:∀ t,t∈f→t.mono∈l) (hl:l.length≤1000000) (h:K (l.map (coT f))):Zca ⟨f⟩ l K:=by
 have hfl:f.length≤1000000:=by
  have hn:(f.map Z1j).Nodup:=by
   refine Z1m.2 (hc.1.imp λq=>Zbq q)
  have:=hn.length_le_of_subset (l₂:=l) (λx hx=>by obtain ⟨t,ht,rfl⟩:=ZE1.1 hx; exact hin t ht)
  rw [Z08] at this; omega
 unfold Zca;dsimp only;refine⟨by omega,?_⟩
 rw [Z1a];refine Jg (λ(s:List Int×Int×Int)=>(0≤s.2.1∧s.2.1≤f.length)∧(0≤s.2.2∧s.2.2≤l.length)∧s.1.length=l.length∧(∀ j,j < l.length→s.1.getD j ZEu=if j < s.2.2.toNat then coT f (l.getD j ZEu) else 0)∧(∀ t,t∈f.take s.2.1.toNat→t.mono∈l.take s.2.2.toNat)∧∀ t,t∈f.drop s.2.1.toNat→t.mono∈l.drop s.2.2.toNat) (λs=>l.length - s.2.2.toNat) ?_ ⟨by dsimp only; omega,by dsimp only; omega,by simp,λj hj=>by simp [ZE0,hj],by simp,by simpa using hin⟩
 rintro ⟨out,B,k⟩ next ⟨g1,g2,G,L,I,O⟩ hn;dsimp only at g1 g2 G L I O hn ⊢
 have fin:(∀ j,j < l.length→¬ j < k.toNat→coT f (l.getD j ZEu)=0)→K out:=λq=>by
  have e:out=l.map (coT f):=by
   refine ZGj (by simp [G]) λj A U=>?_
   have hj:j < l.length:=by omega
   have:=L j hj;rw [show out.getD j ZEu=out[j] by simp [ZE0,A]] at this
   rw [this,List.getElem_map,show l[j]=l.getD j ZEu by simp [ZE0,hj]]
   split
   ·rfl
   ·rename_i z; exact(q j hj z).symm
  rw [e]; exact h
 by_cases hk:k < (l.length:Int)
 ·have hkn:k.toNat < l.length:=by omega
  refine Yy hk ?_
  have ki:(k+1).toNat=k.toNat+1:=by omega
  by_cases ha:B < (f.length:Int)
  ·have han:B.toNat < f.length:=by omega
   have ai:(B+1).toNat=B.toNat+1:=by omega
   refine Yy ha ⟨⟨g1.1,ha⟩,⟨g2.1,hk⟩,?_⟩
   rw [i64_in (k+1) (by omega),i64_in (B+1) (by omega)]
   have hdl:=Ztv hkn;have hdf:=Ztv han;have hlk:l.getD k.toNat ZEu∈l.drop k.toNat:=by rw [hdl]; simp
   have hfa:f.getD B.toNat ZEu∈f.drop B.toNat:=by rw [hdf]; simp
   have hfm:f.getD B.toNat ZEu∈f:=Z2w hfa;have tk:∀ t,t∈f.take B.toNat→t.mono≠l.getD k.toNat ZEu:=λt ht=>Zbq (Ztu hs (I t ht) hlk)
   have V:∀ t,t∈f.drop (B.toNat+1)→pcmp (f.getD B.toNat ZEu).mono t.mono < 0:=λt ht=>by
    have hp:=hc.1.sublist (List.drop_sublist B.toNat f);rw [hdf] at hp
    exact(List.pairwise_cons.1 hp).1 t ht
   have step:∀ t:Term,t.mono∈l.drop k.toNat→t.mono≠l.getD k.toNat ZEu→t.mono∈l.drop (k.toNat+1):=λt A U=>by
    rw [hdl] at A
    rcases ZEn.1 A with q | q
    ·exact absurd q U
    ·exact q
   have takeS:∀ t:Term,t.mono∈l.take k.toNat→t.mono∈l.take (k.toNat+1):=λt A=>by
    rw [Xu hkn]; exact ZE7 _ A
   by_cases q:(f.getD B.toNat ZEu).mono=l.getD k.toNat ZEu
   ·refine Yy q ⟨⟨g1.1,ha⟩,⟨g2.1,by rw [G]; exact hk⟩,hn _ ⟨by dsimp only; omega,by dsimp only; omega,by dsimp only; rw [ZNp]; exact G,λj hj=>?_,λt ht=>?_,λt ht=>?_⟩ (by dsimp only; omega)⟩
    ·dsimp only;rw [Zof (by omega),ki]
     by_cases e:j=k.toNat
     ·subst e;rw [if_pos rfl,if_pos (by omega),← q,Ztt hc hfm]
     ·rw [if_neg e,L j hj];by_cases c:j < k.toNat
      ·rw [if_pos c,if_pos (by omega)]
      ·rw [if_neg c,if_neg (by omega)]
    ·dsimp only at ht ⊢
     rw [ai,Xu han] at ht
     rw [ki];rcases ZEt.1 ht with z | z
     ·exact takeS t (I t z)
     ·obtain rfl:=ZFn.1 z;rw [Xu hkn,q]; simp
    ·dsimp only at ht ⊢
     rw [ai] at ht
     rw [ki];exact step t (O t (by rw [hdf]; exact List.mem_cons_of_mem _ ht)) (λz=>Zbq (V t ht) (by rw [q,z]))
   ·have hz:∀ t,t∈f→t.mono≠l.getD k.toNat ZEu:=λt ht=>by
     rw [← ZIx B.toNat f] at ht
     rcases ZEt.1 ht with z | z
     ·exact tk t z
     ·rw [hdf] at z
      rcases ZEn.1 z with rfl | z
      ·exact q
      ·intro e;have A:=step _ (O _ hfa) q
       have U:pcmp (l.getD k.toNat ZEu) (f.getD B.toNat ZEu).mono < 0:=by
        have hp:=hs.sublist (List.drop_sublist k.toNat l);rw [hdl] at hp
        exact(List.pairwise_cons.1 hp).1 _ A
       have h3:=V t z;rw [e] at h3
       exact Zm0 U h3
    refine Yw q (hn _ ⟨by dsimp only; omega,by dsimp only; omega,G,λj hj=>?_,λt ht=>?_,λt ht=>?_⟩ (by dsimp only; omega))
    ·dsimp only;rw [L j hj,ki];by_cases e:j=k.toNat
     ·subst e;rw [if_neg (by omega),if_pos (by omega),Zd6 hz]
     ·by_cases c:j < k.toNat
      ·rw [if_pos c,if_pos (by omega)]
      ·rw [if_neg c,if_neg (by omega)]
    ·dsimp only at ht ⊢
     rw [ki]; exact takeS t (I t ht)
    ·dsimp only at ht ⊢
     rw [ki]; exact step t (O t ht) (hz t (Z2w ht))
  ·refine Yw ha (fin λj hj hjk=>Zd6 λt ht=>?_)
   have:t∈f.take B.toNat:=by rw [ZF0 (by omega)]; exact ht
   refine Zbq (Ztu hs (I t this) ?_)
   rw [List.mem_iff_getElem];exact⟨j - k.toNat,by rw [ZGw]; omega,by rw [List.getElem_drop]; simp [ZE0,hj,show k.toNat+(j - k.toNat)=j by omega]⟩
 ·exact Yw hk (fin λj hj hjk=>by omega)
theorem ZDl {ds:List Int} (hd:OkDeg ds) {y:A8} (hp:∀ q,q < 8→0≤y.get q):∀ k,k≤ds.length→∀ q,q < k→2≤ds.getD q ZEu→2 * y.get q≤wtU ds y k:=by
 intro k
 induction k with
 | zero=>intro _ q hq; omega
 | succ k ih =>
  intro hk q hq h;have A:=hd.1;have hdk:=hd.2 k (by omega)
  have hy:=hp k (by omega)
  have B:=(Ztr hd hp k (by omega)).1
  simp only [wtU];by_cases c:q=k
  ·subst c;have:=Z1k h hy;omega
  ·have:=ih (by omega) q (by omega) h
   have:=Z1i (a:=ds.getD k ZEu) (b:=y.get k) (by omega) hy
   omega
theorem ZDm {ds:List Int} (hd:OkDeg ds) {y:A8} (hw:Jh ds y) (hp:∀ q,q < 8→0≤y.get q) (h:wtU ds y ds.length≤40):OkMono ds y:=λq hq =>
 ⟨λz=>⟨by
  have B:=(Ztr hd hp ds.length (ZEs _));have hdq:=hd.2 q z;by_cases o:ZFl (ds.getD q ZEu) 2≠0
  ·have:=((hw q hq).1 z).2 o; omega
  ·have A:2≤ds.getD q ZEu:=by
    rw [ZP9 (by omega)] at o; omega
   have G:=ZDl hd hp ds.length (ZEs _) q z A;omega,((hw q hq).1 z).2⟩,(hw q hq).2⟩
theorem Ztw {ds:List Int} (hd:OkDeg ds) {y:A8} {n:Int} (hw:Jh ds y) (hp:∀ q,q < 8→0≤y.get q) (h:wtU ds y ds.length=n) (hn:n≤40):y∈mons ds n:=by
 rw [← h]; exact ZDe hd hp (ZDm hd hw hp (by omega))
end Go.Proofs.YtaagfepgbofmlaaGreat
