import Derived.Test.YtaagfepgbofmlaaGreatQ1
set_option linter.unusedSectionVars false
set_option linter.unusedSimpArgs false
set_option linter.unusedVariables false
open Decidable renaming not_not→ZH3
open Go renaming wp_seq→ZMu,wp_ret→ZM3,wp_skip→ZMy,wp_block→ZM0,wp_exit→ZM9
open Go.IntKind renaming i64→ZHf
open Go.Proofs.Tryz renaming prog→ZMx,underlying22→ZNd,underlying32→ZNe,underlying115→ZNs,func192→ZPx,underlying30→ZNi,underlying53→ZM4,underlying162→ZNa,underlying23→ZP2,underlying55→ZM1,underlying73→ZNh,underlying48→ZP6,underlying136→ZNc,underlying25→ZQa,func134→ZQd,underlying50→ZQf
open Go.Value renaming map→ZPy,ownBlock→ZFo,int→ZP4
open Inhabited renaming default→ZEu
open Int renaming tmod→ZFl,natCast_nonneg→ZNb,ofNat_lt→ZNt,zero_add→ZF7,toNat_of_nonneg→ZP5,tmod_eq_emod_of_nonneg→ZP9,mul_tdiv_add_tmod→ZRj,eq_ofNat_of_zero_le→ZRm
open List renaming toArray→ZHu,replicate→ZEp,mem_singleton→ZFn,mem_cons→ZEn,mem_map→ZE1,getD→ZE0,map_cons→ZFw,length_eq_one_iff→ZJj,nodup_cons→ZP3,pairwise_cons→ZEx,mem_append→ZEt,take_of_length_le→ZF0,pairwise_append→ZG6
open List.Pairwise renaming nil→ZRh
open List.Perm renaming refl→ZQi
open Nat renaming le_of_ble_eq_true→ZM2,le_trans→ZEv,le_refl→ZEs,lt_of_le_of_lt→ZQe
open Option renaming toList→ZNu
open Prod renaming fst→ZFx
open Vc renaming Form→ZMw,ETerm→ZMv,TForm→ZNg,TInts→ZPz
open Vc.A8 renaming enc→ZMs,zero→ZMz,enc_get→ZM7,enc_set→ZNo,get_set→ZP7,ext_get→ZP8
open Vc.Ctx renaming start→ZNf
open Vc.Term renaming enc→ZM5
open Vc.Tr renaming item→ZM8
open Vc.Ty renaming item→ZMt
set_option maxRecDepth 4000
set_option maxHeartbeats 4000000
namespace Go.Proofs.YtaagfepgbofmlaaGreat
open Go Go.RowKit Vc
variable {b0 bp0 b1 bp1 b2 bp2 b3 bp3 b4 bp4 b5 bp5 b6 bp6 b7 bp7 mb0:Nat} {u0_0 u0_1 u0_2 u0_3 u0_4 u0_5 u1_0 u1_1 u1_2 u1_3 u1_4 u1_5 u2_0 u2_1 u2_2 u2_3 u2_4 u2_5 u3_0 u3_1 u3_2 u3_3 u3_4 u3_5 u4_0 u4_1 u4_2 u4_3 u4_4 u4_5 u5_0 u5_1 u5_2 u5_3 u5_4 u5_5 u6_0 u6_1 u6_2 u6_3 u6_4 u6_5 u7_0 u7_1 u7_2 u7_3 u7_4 u7_5:Value} {fp0 fp1 fp2 fp3 fp4 fp5 fp6 fp7 fp0_0 fp0_1 fp0_2 fp0_3 fp0_4 fp0_5 fp1_0 fp1_1 fp1_2 fp1_3 fp1_4 fp1_5 F0:List Nat}
def Zeu (I:List (A8×Int)) (L:List (A8×Int)) (O:Int) (K:List (A8×Int)→Prop):Prop :=
 Zb5 (λ(A:A8×Int) (h:(List (A8×Int))) B=>Zf0 h A.1 (ZFl (ZHf.wrap (A.2 * O)) 10007) (λG=>B G)) (λ(h:(List (A8×Int)))=>K h) L.length L I
theorem Zwq (V:List (A8×Int)) (L:List (A8×Int)) (I:Int)  {K:List (A8×Int)→Prop} (h:Zeu V L I K) (w0:World) (q0:(mapS b0 V).holds w0) (d1:∀ c,c∈[b1]→c≠b0) (q1:(mapS b1 L).holds w0) :
  Calls ZMx 165 #[.map (some b0),.map (some b1),vI I] w0 λe w'=>∃ (m0:List (A8×Int)),
   e=.returned (.tuple #[])∧K m0∧(mapS b0 m0).holds w'∧BelB b0 w0 w':=by
 unfold Zeu at h
 refine cof Tryz.func165 rfl 22 Tryz.ntmps165 ?_
 have B:=Ctx.start1 w0 b0 (it:=mapS b0 V) rfl [mapS b1 L] q0 (by simp only [ZEn,List.not_mem_nil,or_false,forall_eq_or_imp,forall_eq]; exact q1) (by simp only [ZEn,List.not_mem_nil,or_false,forall_eq_or_imp,forall_eq]; exact d1)
 refine sr (Za (v:=.map (some b1)) rfl (Zhf B 0 rfl ZNs rfl λr3 ab ac au ao ad ah B=>dn (ZM0 ?_)))
 refine Zhj (S:=(List (A8×Int))) _ _ (λae G e_ w_=>∃ (O:Option MapEntry),Zt e_ [(0,.map (some b0)),(2,vI I),(9,vQ r3)]∧Ctx (λc_=>c_=b0) w0 w_ [itI (kvA .i64) (vvI .i64) r3 b1 ab ac O ae,mapS b0 G] [Zbc b1 ab ac,mapS b1 L]) ?_ (l0:=L) (s0:=V) ?_ h
 ·clear B h;rintro ae G e_ av ar aw ⟨O,ap,B⟩ h ai;rw [ue ap];refine sr ?_
  refine Zhg B 0 0 rfl rfl ad ah rfl (λaj=>?_) (λA ag aa ax U ak al B=>?_)
  ·replace h:=h.1 aj;refine Yj (v:=.bool false) rfl rfl (dn (ZMu (Z2 rfl rfl ?_)))
   refine ZM9 (Zk (Zk (Zy ?_)))
   exact Zc0 rfl  ⟨G,rfl,h,(B.getM 1 rfl),B.belB⟩ (.inr rfl)
  ·replace h:=h.2 A ag U;refine Yj (v:=.bool true) rfl rfl (dn (ZMu (Z3 rfl rfl (ZMy (Zd (ZM0 (sr (Zhh B 0 0 A rfl rfl ad rfl ak al (Yj (v:=.agg (ZHu (ZMs .i64 A.1))) rfl rfl (Yj (v:=vI A.2) rfl rfl (Yl B (ZMs .i64 ZMz) z73 rfl λay az ao B=>Zz (v:=.agg (ZHu (ZMs .i64 A.1))) B 0 (ZMs .i64 A.1) (ZMs .i64 A.1) rfl ag73.size rfl rfl rfl rfl rfl (ZM2 rfl) rfl λa3 B=>Zc (v:=vI A.2) rfl (dn (Zj (Za (v:=.map (some b0)) rfl (Yb B 0 (ZMs .i64 A.1) rfl ag73 rfl rfl rfl (Za (v:=vI A.2) rfl (Za (v:=vI I) rfl (Zal rfl rfl (X3 rfl rfl (by decide) (Zf [.map (some b0),.agg (ZHu (ZMs .i64 A.1)),vI (ZFl (ZHf.wrap (A.2 * I)) 10007)] _ Tryz.func195 rfl rfl rfl (Zqi G A.1 (ZFl (ZHf.wrap (A.2 * I)) 10007) h _ (B.getM 2 rfl)) ?_))))))))))))))))))))
   rintro _ a4 ⟨aq,rfl,h,am,an⟩;refine rt ?_
   replace B:=B.turnB 2 rfl an rfl rfl am;refine done (Zq ?_)
   exact ai A ag aq _ _ U ⟨(some aa),(slq rfl),(B.xM [1,2] rfl)⟩ h
 ·skip;exact⟨none,(slq rfl),B⟩
def Zck (a0:List (A8×Int)) (a1:List Int) (a2:List (A8×Int)) (K:List (A8×Int)→Prop):Prop :=
 Zb5 (λ(G:A8×Int) (A:(List (A8×Int))) O=>Zb5 (λ(I:A8×Int) (h:(List (A8×Int))) B=>Zhv G.1 a1 I.1 (λU L=>(if L≠0 then Zf0 h U (ZFl (ZHf.wrap ((ZHf.wrap (L * G.2)) * I.2)) 10007) (λV=>B V) else B h))) (λ(h:(List (A8×Int)))=>O h) a2.length a2 A) (λ(A:(List (A8×Int)))=>K A) a0.length a0 ([]:List (A8×Int))
theorem J5 (a0:List (A8×Int)) (a1:List Int) (a2:List (A8×Int))  {K:List (A8×Int)→Prop} (h:Zck a0 a1 a2 K) (w0:World) (q0:(mapS b0 a0).holds w0) (q1:ZPz.rep a1 [u1_0] fp1 w0) (q2:(mapS b2 a2).holds w0) :
  Calls ZMx 192 #[.map (some b0),u1_0,.map (some b2)] w0 λe w'=>∃ (r0:List (A8×Int)) (ah:Nat),
   e=.returned (.map (some ah))∧K r0∧(mapS ah r0).holds w'∧w0.heap.size≤ah∧Bel w0 w':=by
 unfold Zck at h
 refine cof ZPx rfl 48 Tryz.ntmps192 ?_
 have A:=ZNf (X:=Nox) w0 [ZMt TInts a1 [u1_0] fp1,mapS b0 a0,mapS b2 a2] (alc q1 (alc q0 (al1 q2)));refine sr (Zc (v:=.map none) rfl (dn (sr (Zhe A (kvA .i64) (vvI .i64) λb4 w6 O A=>Zc (v:=.map (some b4)) rfl (dn (ZMu (sr (Za (v:=.map (some b0)) rfl (Zhf A 1 rfl ZNs rfl λr7 ab ac bj O ai av A=>dn (ZM0 ?_))))))))))
 refine Zhj (S:=(List (A8×Int))) _ _ (λax ad e_ w_=>∃ (aj:Option MapEntry),Zt e_ [(1,u1_0),(2,.map (some b2)),(7,.map (some b4)),(16,vQ r7)]∧Ctx Nox w0 w_ [itI (kvA .i64) (vvI .i64) r7 b0 ab ac aj ax,mapS b4 ad] [Zbc b0 ab ac,ZMt TInts a1 [u1_0] fp1,mapS b0 a0,mapS b2 a2]) ?_ (l0:=a0) (s0:=([]:List (A8×Int))) ?_ h
 ·clear A h;rintro ax ad e_ bk bh bl ⟨aj,ak,A⟩ h a4;rw [ue ak];refine sr ?_
  refine Zhg A 0 0 rfl rfl ai av rfl (λa5=>?_) (λB al ae bm am a6 a7 A=>?_)
  ·replace h:=h.1 a5;refine Yj (v:=.bool false) rfl rfl (dn (ZMu (Z2 rfl rfl ?_)))
   refine ZM9 (Zk (Zk (Zy ?_)))
   refine Zd (sr (Za (v:=.map (some b4)) rfl (Zc (v:=.map (some b4)) rfl (dn (ZM3 ?_)))))
   exact Zi rfl (Ze rfl) ⟨ad,b4,rfl,h,(A.getM 1 rfl),(Zj4 A 1 rfl),A.below⟩ (.inl rfl)
  ·replace h:=h.2 B al am;refine Yj (v:=.bool true) rfl rfl (dn (ZMu (Z3 rfl rfl (ZMy (Zd (ZM0 (sr (Zhh A 0 0 B rfl rfl ai rfl a6 a7 (Yj (v:=.agg (ZHu (ZMs .i64 B.1))) rfl rfl (Yj (v:=vI B.2) rfl rfl (Yl A (ZMs .i64 ZMz) z73 rfl λay bn O A=>Zz (v:=.agg (ZHu (ZMs .i64 B.1))) A 0 (ZMs .i64 B.1) (ZMs .i64 B.1) rfl ag73.size rfl rfl rfl rfl rfl (ZM2 rfl) rfl λbo A=>Zc (v:=vI B.2) rfl (dn (sr (Za (v:=.map (some b2)) rfl (Zhf A 3 rfl ZNs rfl λaz an ao bp O ap aw A=>dn (ZM0 ?_))))))))))))))))
   refine Zhj (S:=(List (A8×Int))) _ _ (λa3 U e_ w_=>∃ (aq:Option MapEntry),Zt e_ [(1,u1_0),(2,.map (some b2)),(7,.map (some b4)),(8,vQ ay),(9,vI B.2),(16,vQ r7),(23,vQ az)]∧Ctx Nox w0 w_ [itI (kvA .i64) (vvI .i64) az b2 an ao aq a3,blk ay 73 (ZMs .i64 B.1),itI (kvA .i64) (vvI .i64) r7 b0 ab ac (some ae) al,mapS b4 U] [Zbc b2 an ao,Zbc b0 ab ac,ZMt TInts a1 [u1_0] fp1,mapS b0 a0,mapS b2 a2]) ?_ (l0:=a2) (s0:=ad) ?_ h
   ·clear A h;rintro a3 U e_ bq bi br ⟨aq,ak,A⟩ h ar;rw [ue ak];refine sr ?_
    refine Zhg A 0 0 rfl rfl ap aw rfl (λa8=>?_) (λG au ag bs V a9 ba A=>?_)
    ·replace h:=h.1 a8;refine Yj (v:=.bool false) rfl rfl (dn (ZMu (Z2 rfl rfl ?_)))
     refine ZM9 (Zk (Zk (Zy ?_)))
     refine Zq ?_
     exact a4 B al U _ _ am ⟨(some ae),(slq rfl),((A.xM [2,3] rfl).sP [1,2,3,4] rfl)⟩ h
    ·replace h:=h.2 G au V;refine Yj (v:=.bool true) rfl rfl (dn (ZMu (Z3 rfl rfl (ZMy (Zd (ZM0 (sr (Zhh A 0 0 G rfl rfl ap rfl a9 ba (Yj (v:=.agg (ZHu (ZMs .i64 G.1))) rfl rfl (Yj (v:=vI G.2) rfl rfl (Yl A (ZMs .i64 ZMz) z73 rfl λbt bu O A=>Zz (v:=.agg (ZHu (ZMs .i64 G.1))) A 0 (ZMs .i64 G.1) (ZMs .i64 G.1) rfl ag73.size rfl rfl rfl rfl rfl (ZM2 rfl) rfl λbv A=>Zc (v:=vI G.2) rfl (dn (sr (Yb A 2 (ZMs .i64 B.1) rfl ag73 rfl rfl rfl (Za (v:=u1_0) rfl (Yb A 0 (ZMs .i64 G.1) rfl ag73 rfl rfl rfl (Zf [.agg (ZHu (ZMs .i64 B.1)),u1_0,.agg (ZHu (ZMs .i64 G.1))] _ Tryz.func199 rfl rfl rfl (Zwo B.1 a1 G.1 h _ (A.getP 2 rfl)) ?_)))))))))))))))))
     rintro _ bw ⟨I,L,rfl,h,bb⟩;refine rt ?_
     replace A:=A.grow bb;refine Za (v:=.tuple #[.agg (ZHu (ZMs .i64 I)),vI L]) rfl (Yj (v:=.agg (ZHu (ZMs .i64 I))) rfl rfl (Yj (v:=vI L) rfl rfl (Yl A (ZMs .i64 ZMz) z73 rfl λbx bz O A=>Zz (v:=.agg (ZHu (ZMs .i64 I))) A 0 (ZMs .i64 I) (ZMs .i64 I) rfl ag73.size rfl rfl rfl rfl rfl (ZM2 rfl) rfl λb8 A=>Zc (v:=vI L) rfl (dn (sr (Za (v:=vI L) rfl (Y2 rfl rfl (dn ?_))))))))
     refine Zp rfl (λaa=>?_) (λaa=>?_)
     ·replace h:=ift h (ct aa);refine Zj (Za (v:=.map (some b4)) rfl (Yb A 0 (ZMs .i64 I) rfl ag73 rfl rfl rfl (Za (v:=vI L) rfl (Za (v:=vI B.2) rfl (Zal rfl rfl (Za (v:=vI G.2) rfl (Zal rfl rfl (X3 rfl rfl (by decide) (Zf [.map (some b4),.agg (ZHu (ZMs .i64 I)),vI (ZFl (ZHf.wrap ((ZHf.wrap (L * B.2)) * G.2)) 10007)] _ Tryz.func195 rfl rfl rfl (Zqi U I (ZFl (ZHf.wrap ((ZHf.wrap (L * B.2)) * G.2)) 10007) h _ (A.getM 5 rfl)) ?_)))))))))
      rintro _ b9 ⟨be,rfl,h,bc,bd⟩;refine rt ?_
      replace A:=A.turnB 5 rfl bd rfl rfl bc;refine done (Zq ?_)
      exact ar G au be _ _ V ⟨(some ag),(slq rfl),(A.xM [2,3,4,5] rfl)⟩ h
     ·replace h:=Zm h (cf aa);refine ZMy (Zq ?_)
      exact ar G au U _ _ V ⟨(some ag),(slq rfl),(A.xM [2,3,4,5] rfl)⟩ h
   ·skip;exact⟨none,(slq rfl),A⟩
 ·skip;exact⟨none,(slq rfl),A⟩
def Zf2 (h:Int) (A:Int) (B:Int) (K:Bool→Prop):Prop :=
 (if h≥A then K (decide (h≤B)) else K false)
theorem Zqj (B:Int) (I:Int) (G:Int)  {K:Bool→Prop} (h:Zf2 B I G K) (w0:World)  :
  Calls ZMx 46 #[vI B,vI I,vI G] w0 λe w'=>∃ (L:Bool),
   e=.returned (.bool L)∧K L∧Bel w0 w':=by
 unfold Zf2 at h
 refine cof Tryz.func46 rfl 15 Tryz.ntmps46 ?_
 have O:=ZNf (X:=Nox) w0 [] (by simp)
 refine sr (Zc (v:=.bool false) rfl (dn (sr (Za (v:=vI B) rfl (Za (v:=vI I) rfl (Zae rfl rfl (Za (v:=.bool (decide (B≥I))) rfl ?_)))))))
 refine Y6 (decide (B≥I)) (λA=>?_) (λA=>?_)
 ·replace h:=ift h (ct A);refine Zh 3 10 rfl rfl A (Za (v:=vI B) rfl (Zh 3 10 rfl rfl A (Za (v:=vI G) rfl (Zh 3 10 rfl rfl A (Zcd rfl rfl (Zs (v:=.bool (decide (B≤G))) (b:=true) (tr rfl (congrArg _ A)) rfl (Zc (v:=.bool (decide (B≤G))) rfl (dn (ZM3 ?_)))))))))
  exact Zi rfl (Ze rfl) ⟨decide (B≤G),rfl,h,O.below⟩ (.inl rfl)
 ·replace h:=Zm h (cf A);refine Zg (b:=false) 3 10 rfl (tr rfl (congrArg _ A)) (by decide) (Zg (b:=false) 3 10 rfl (tr rfl (congrArg _ A)) (by decide) (Zg (b:=false) 3 10 rfl (tr rfl (congrArg _ A)) (by decide) (Zs (v:=.bool false) (b:=false) (tr rfl (congrArg _ A)) rfl (Zc (v:=.bool false) rfl (dn (ZM3 ?_))))))
  exact Zi rfl (Ze rfl) ⟨false,rfl,h,O.below⟩ (.inl rfl)
def Zd3 (L:List Int) (I:Int→(Bool→Prop)→Prop) (K:Int→Prop):Prop :=
 Z9 (λh (B:Unit) A=>I (L.getD h ZEu) (λG=>(if G=true then K (h:Int) else A ()))) (λ(B:Unit)=>K (-1)) L.length 0 ()
theorem Zqk (a0:List Int) (p1:Int→(Bool→Prop)→Prop)  {K:Int→Prop} (h:Zd3 a0 p1 K) (w0:World) (q0:ZPz.rep a0 [u0_0] fp0 w0) {g1:Nat} {cp1:List Value} {fn1:Func} (hf1:ZMx.funcs[g1]? = some fn1) (hb1:fn1.body.isNone=false) (hn1:(fn1.name == "runtime.NumGoroutine")=false) (hp1:∀ (y0:Int) (K_:Bool→Prop) (w_:World),Bel w0 w_→p1 y0 K_→Calls ZMx g1 (ZHu ([vI y0]++cp1)) w_ λe w'=>∃ (z0:Bool),e=.returned (.bool z0)∧K_ z0∧Bel w_ w') :
  Calls ZMx 185 #[u0_0,.func (.func g1) #[] (ZHu cp1)] w0 λe w'=>∃ (r0:Int),
   e=.returned (vI r0)∧K r0∧Bel w0 w':=by
 unfold Zd3 at h
 refine cof Tryz.func185 rfl 19 Tryz.ntmps185 ?_
 have hC:=ZNf (X:=Nox) w0 [ZMt TInts a0 [u0_0] fp0] (al1 q0);refine sr (Zc (v:=vI 0) rfl (dn (ZMu (sr (Za (v:=u0_0) rfl (Zw hC 0 rfl ZNd rfl (Za (v:=vI 0) rfl (dn (ZM0 ?_)))))))))
 have hN10:a0.length≤9223372036854775807:=Y5 (hC.getP 0 rfl);refine Yp (S:=Unit) _ _ (λi10 s10 e_ w_=>Zt e_ [(0,u0_0),(1,.func (.func g1) #[] (ZHu cp1)),(7,vI (a0.length:Int)),(8,vI (i10:Int))]∧Ctx Nox w0 w_ [] [ZMt TInts a0 [u0_0] fp0]) a0.length ?_ ?_ (s0:=()) ?_ h
 ·clear hC h;rintro i10 s10 e_ w10 nx10 K10 hi10 ⟨hS_,hC⟩ h hK10;rw [ue hS_];refine sr (Zn rfl rfl (dn (ZMu (Z3 rfl (decide_eq_true (by omega)) (ZMy (Zd (ZMu (ZM0 (sr (Za (v:=vI (i10:Int)) rfl (Zc (v:=vI (i10:Int)) rfl (dn (sr (Za (v:=.func (.func g1) #[] (ZHu cp1)) rfl (Za (v:=u0_0) rfl (Za (v:=vI (i10:Int)) rfl ?_))))))))))))))))
  obtain ⟨Ad10,c10,hv10⟩:=Zx (hC.getP 0 rfl) i10 hi10;refine Ys (len:=a0.length) ZNd sc2.size (tr rfl hv10) rfl (ZNb _) (ZNt.2 hi10) (Yr (vI (a0.getD i10 ZEu)) (Ye (hC.getP 0 rfl) hv10 i10 hi10) sc2 rfl ?_)
  refine Zl7 [vI (a0.getD i10 ZEu)] _ rfl hf1 hb1 hn1 rfl (hp1 _ _ _ hC.below  h) (λret10 w11 hR10=>?_)
  obtain ⟨r10,rfl,h,hB10⟩:=hR10;refine⟨_,rfl,?_⟩
  replace hC:=hC.grow hB10;refine dn ?_
  refine Zp rfl (λhb10=>?_) (λhb10=>?_)
  ·replace h:=ift h (hb10);refine sr (Za (v:=vI (i10:Int)) rfl (Zc (v:=vI (i10:Int)) rfl (dn ?_)))
   refine ZM3 (Z8 (Zl (Zl (Z8 (Zl ?_)))))
   exact Zi rfl (Ze rfl) ⟨(i10:Int),rfl,h,hC.below⟩ (.inl rfl)
  ·replace h:=Zm h (Yz hb10);refine ZMy (Zq (Zd (Zj (Zo rfl rfl (Za (v:=vI (ZHf.wrap ((i10:Int)+1))) rfl (done ?_))))))
   exact hK10 () _ _ ⟨(sl ⟨rfl,rfl,rfl,(tr rfl (congrArg _ (Z7 hi10 hN10))),trivial⟩),hC⟩ h
 ·clear hC h;rintro s10 e_ w12 K10 ⟨hS_,hC⟩ h;rw [ue hS_];refine sr (Zn rfl rfl (dn (ZMu (Z2 rfl (decide_eq_false (by omega)) ?_))))
  refine ZM9 (Zk (Zk (Zy ?_)))
  refine Zd (sr (Zc (v:=vI (-1)) rfl (dn (ZM3 ?_))))
  exact Zi rfl (Ze rfl) ⟨(-1),rfl,h,hC.below⟩ (.inl rfl)
 ·skip;exact⟨(slq rfl),hC⟩
def Zf3 (h:List Int) (A:Int→(Bool→Prop)→Prop) (K:Bool→Prop):Prop :=
 Zd3 h A (λB=>K (decide (B≥0)))
theorem Zql (a0:List Int) (p1:Int→(Bool→Prop)→Prop)  {K:Bool→Prop} (h:Zf3 a0 p1 K) (w0:World) (q0:ZPz.rep a0 [u0_0] fp0 w0) {g1:Nat} {cp1:List Value} {fn1:Func} (hf1:ZMx.funcs[g1]? = some fn1) (hb1:fn1.body.isNone=false) (hn1:(fn1.name == "runtime.NumGoroutine")=false) (hp1:∀ (y0:Int) (K_:Bool→Prop) (w_:World),Bel w0 w_→p1 y0 K_→Calls ZMx g1 (ZHu ([vI y0]++cp1)) w_ λe w'=>∃ (z0:Bool),e=.returned (.bool z0)∧K_ z0∧Bel w_ w') :
  Calls ZMx 181 #[u0_0,.func (.func g1) #[] (ZHu cp1)] w0 λe w'=>∃ (r0:Bool),
   e=.returned (.bool r0)∧K r0∧Bel w0 w':=by
 unfold Zf3 at h
 refine cof Tryz.func181 rfl 9 Tryz.ntmps181 ?_
 have hC:=ZNf (X:=Nox) w0 [ZMt TInts a0 [u0_0] fp0] (al1 q0);refine sr (Zc (v:=.bool false) rfl (dn (sr (Za (v:=u0_0) rfl (Za (v:=.func (.func g1) #[] (ZHu cp1)) rfl (Zf [u0_0,.func (.func g1) #[] (ZHu cp1)] _ Tryz.func185 rfl rfl rfl (Zqk a0 p1 h _ (hC.getP 0 rfl) hf1 hb1 hn1 (λx0_ K_ w_ hb_=>hp1 x0_ K_ w_ (Zma hC.below hb_))) ?_))))))
 rintro _ w4 ⟨r5,rfl,h,hB6⟩;refine rt ?_
 replace hC:=hC.grow hB6;refine Zae rfl rfl (Zc (v:=.bool (decide (r5≥0))) rfl (dn (ZM3 ?_)))
 exact Zi rfl (Ze rfl) ⟨decide (r5≥0),rfl,h,hC.below⟩ (.inl rfl)
def Zhw (h:Int) (K:Bool→Prop):Prop :=
 Zf2 h 1 12 (λA=>K (!A))
theorem Zwr (A:Int)  {K:Bool→Prop} (h:Zhw A K) (w0:World)  :
  Calls ZMx 190 #[vI A] w0 λe w'=>∃ (G:Bool),
   e=.returned (.bool G)∧K G∧Bel w0 w':=by
 unfold Zhw at h
 refine cof Tryz.func190 rfl 6 Tryz.ntmps190 ?_
 have B:=ZNf (X:=Nox) w0 [] (by simp)
 refine sr (Zc (v:=.bool false) rfl (dn (sr (Za (v:=vI A) rfl (Zf [vI A,vI 1,vI 12] _ Tryz.func46 rfl rfl rfl (Zqj A 1 12 h _) ?_)))))
 rintro _ w3 ⟨I,rfl,h,hB5⟩;refine rt ?_
 replace B:=B.grow hB5;refine Xe rfl (Zc (v:=.bool (!I)) rfl (dn (ZM3 ?_)))
 exact Zi rfl (Ze rfl) ⟨!I,rfl,h,B.below⟩ (.inl rfl)
def Zhx (h:List Int) (K:Bool→Prop):Prop :=
 (if(h.length:Int)≤8 then Zf3 h Zhw (λA=>K (!A)) else K false)
theorem Zws (G:List Int)  {K:Bool→Prop} (h:Zhx G K) (w0:World) (q0:ZPz.rep G [u0_0] fp0 w0) :
  Calls ZMx 151 #[u0_0] w0 λe w'=>∃ (O:Bool),
   e=.returned (.bool O)∧K O∧Bel w0 w':=by
 unfold Zhx at h
 refine cof Tryz.func151 rfl 11 Tryz.ntmps151 ?_
 have B:=ZNf (X:=Nox) w0 [ZMt TInts G [u0_0] fp0] (al1 q0);refine sr (Zc (v:=.bool false) rfl (dn (sr (Za (v:=u0_0) rfl (Zw B 0 rfl ZNd rfl (Zcd rfl rfl (Za (v:=.bool (decide ((G.length:Int)≤8))) rfl ?_)))))))
 refine Y6 (decide ((G.length:Int)≤8)) (λA=>?_) (λA=>?_)
 ·replace h:=ift h (ct A);refine Zh 3 6 rfl rfl A (Za (v:=u0_0) rfl (Zh 3 6 rfl rfl A (Zf [u0_0,.func (.func 190) #[] (ZHu [])] _ Tryz.func181 rfl rfl rfl (Zql G Zhw h _ (B.getP 0 rfl) Tryz.func190 rfl rfl (λU K_ w_ _ V=>Zwr U V w_)) ?_)))
  rintro _ w8 ⟨I,rfl,h,L⟩;refine rt ?_
  replace B:=B.grow L;refine Zh 3 6 rfl rfl A (Xe rfl (Zs (v:=.bool (!I)) (b:=true) (tr rfl (congrArg _ A)) rfl (Zc (v:=.bool (!I)) rfl (dn (ZM3 ?_)))))
  exact Zi rfl (Ze rfl) ⟨!I,rfl,h,B.below⟩ (.inl rfl)
 ·replace h:=Zm h (cf A);refine Zg (b:=false) 3 6 rfl (tr rfl (congrArg _ A)) (by decide) (Zg (b:=false) 3 6 rfl (tr rfl (congrArg _ A)) (by decide) (Zg (b:=false) 3 6 rfl (tr rfl (congrArg _ A)) (by decide) (Zs (v:=.bool false) (b:=false) (tr rfl (congrArg _ A)) rfl (Zc (v:=.bool false) rfl (dn (ZM3 ?_))))))
  exact Zi rfl (Ze rfl) ⟨false,rfl,h,B.below⟩ (.inl rfl)
def Zhy (G:List Int) (I:A8) (K:Bool→Prop):Prop :=
 Z9 (λh (B:Unit) A=>(if(h:Int) < (G.length:Int) then((0≤(h:Int)∧(h:Int) < (G.length:Int))∧(if ZFl (G.getD h ZEu) 2=1 then(if I.get h > 1 then K false else A ()) else(if I.get h > 20 then K false else A ()))) else(if I.get h > 0 then K false else A ()))) (λ(B:Unit)=>K true) 8 0 ()
theorem Zwt (a0:List Int) (a1:A8)  {K:Bool→Prop} (h:Zhy a0 a1 K) (w0:World) (q0:ZPz.rep a0 [u0_0] fp0 w0) :
  Calls ZMx 156 #[u0_0,.agg (ZHu (ZMs .u8 a1))] w0 λe w'=>∃ (r0:Bool),
   e=.returned (.bool r0)∧K r0∧Bel w0 w':=by
 unfold Zhy at h
 refine cof Tryz.func156 rfl 27 Tryz.ntmps156 ?_
 have B:=ZNf (X:=Nox) w0 [ZMt TInts a0 [u0_0] fp0] (al1 q0);refine sr (Ya (v:=.agg (ZHu (ZMs .u8 a1))) B (ZMs .u8 a1) rfl rfl λb2 w4 ak B=>Zc (v:=.bool false) rfl (dn (ZMu (sr (Yb B 0 (ZMs .u8 a1) rfl ag136 rfl rfl rfl (Za (v:=vI 0) rfl (dn (ZM0 ?_))))))))
 refine Yp (S:=Unit) _ _ (λA ad e_ w_=>Zt e_ [(0,u0_0),(8,.agg (ZHu (ZMs .u8 a1))),(9,vI (A:Int))]∧Ctx Nox w0 w_ [] [ZMt TInts a0 [u0_0] fp0]) 8 ?_ ?_ (s0:=()) ?_ h
 ·clear B h;rintro A ad e_ al ai ae G ⟨ab,B⟩ h I;rw [ue ab];refine sr (Zn rfl rfl (dn (ZMu (Z3 rfl (decide_eq_true (by omega)) (ZMy (Zd (ZMu (ZM0 (sr (Za (v:=vI (A:Int)) rfl (Zjs (.int .u8 (a1.get A)) ZNc rfl rfl (ZNb _) (by omega) sc5 (ZM7 _ _ G) (Zc (v:=vI (A:Int)) rfl (Zc (v:=.int .u8 (a1.get A)) rfl (dn (sr (Zc (v:=.int .u8 0) rfl (dn (ZMu (sr (Za (v:=vI (A:Int)) rfl (Za (v:=u0_0) rfl (Zw B 0 rfl ZNd rfl (Zn rfl rfl (dn ?_))))))))))))))))))))))))
  refine Zp rfl (λL=>?_) (λL=>?_)
  ·replace h:=ift h (ct L);refine sr (Zc (v:=.int .u8 20) rfl (dn (sr (Za (v:=u0_0) rfl (Za (v:=vI (A:Int)) rfl ?_)))))
   obtain ⟨⟨ag,ah⟩,h⟩:=h;obtain ⟨aj,am,ac⟩:=Zx (B.getP 0 rfl) A (show A < a0.length by omega)
   refine Ys (len:=a0.length) ZNd sc2.size (tr rfl ac) rfl ag ah (Yr (vI (a0.getD A ZEu)) (Ye (B.getP 0 rfl) ac A (show A < a0.length by omega)) sc2 rfl (X3 rfl rfl (by decide) (Xg rfl rfl (dn ?_))))
   refine Zp rfl (λO=>?_) (λO=>?_)
   ·replace h:=ift h (ct O);refine Zj (Zc (v:=.int .u8 1) rfl (dn (sr (Za (v:=.int .u8 (a1.get A)) rfl (Za (v:=.int .u8 1) rfl (Ja rfl rfl (dn ?_)))))))
    refine Zp rfl (λU=>?_) (λU=>?_)
    ·replace h:=ift h (ct U);refine sr (Zc (v:=.bool false) rfl (dn ?_))
     refine ZM3 (Z8 (Zl (Zl (Z8 (Zl ?_)))))
     exact Zi rfl (Ze rfl) ⟨false,rfl,h,B.below⟩ (.inl rfl)
    ·replace h:=Zm h (cf U);refine ZMy (Zq (Zd (Zj (Zo rfl rfl (Za (v:=vI (ZHf.wrap ((A:Int)+1))) rfl (done ?_))))))
     exact I () _ _ ⟨(sl ⟨rfl,rfl,(tr rfl (congrArg _ (Z7 G (by decide)))),trivial⟩),B⟩ h
   ·replace h:=Zm h (cf O);refine ZMy (Zd (sr (Za (v:=.int .u8 (a1.get A)) rfl (Za (v:=.int .u8 20) rfl (Ja rfl rfl (dn ?_))))))
    refine Zp rfl (λV=>?_) (λV=>?_)
    ·replace h:=ift h (ct V);refine sr (Zc (v:=.bool false) rfl (dn ?_))
     refine ZM3 (Z8 (Zl (Zl (Z8 (Zl ?_)))))
     exact Zi rfl (Ze rfl) ⟨false,rfl,h,B.below⟩ (.inl rfl)
    ·replace h:=Zm h (cf V);refine ZMy (Zq (Zd (Zj (Zo rfl rfl (Za (v:=vI (ZHf.wrap ((A:Int)+1))) rfl (done ?_))))))
     exact I () _ _ ⟨(sl ⟨rfl,rfl,(tr rfl (congrArg _ (Z7 G (by decide)))),trivial⟩),B⟩ h
  ·replace h:=Zm h (cf L);refine ZMy (Zd (sr (Za (v:=.int .u8 (a1.get A)) rfl (Za (v:=.int .u8 0) rfl (Ja rfl rfl (dn ?_))))))
   refine Zp rfl (λaa=>?_) (λaa=>?_)
   ·replace h:=ift h (ct aa);refine sr (Zc (v:=.bool false) rfl (dn ?_))
    refine ZM3 (Z8 (Zl (Zl (Z8 (Zl ?_)))))
    exact Zi rfl (Ze rfl) ⟨false,rfl,h,B.below⟩ (.inl rfl)
   ·replace h:=Zm h (cf aa);refine ZMy (Zq (Zd (Zj (Zo rfl rfl (Za (v:=vI (ZHf.wrap ((A:Int)+1))) rfl (done ?_))))))
    exact I () _ _ ⟨(sl ⟨rfl,rfl,(tr rfl (congrArg _ (Z7 G (by decide)))),trivial⟩),B⟩ h
 ·clear B h;rintro ad e_ an ae ⟨ab,B⟩ h;rw [ue ab];refine sr (Zn rfl rfl (dn (ZMu (Z2 rfl (decide_eq_false (by omega)) ?_))))
  refine ZM9 (Zk (Zk (Zy ?_)))
  refine Zd (sr (Zc (v:=.bool true) rfl (dn (ZM3 ?_))))
  exact Zi rfl (Ze rfl) ⟨true,rfl,h,B.below⟩ (.inl rfl)
 ·skip;exact⟨(slq rfl),(B.xM [] rfl)⟩
def Zke (h:Int) (K:Bool→Prop):Prop :=
 Zf2 h 1 10006 (λA=>K A)
theorem Zwu (A:Int)  {K:Bool→Prop} (h:Zke A K) (w0:World)  :
  Calls ZMx 157 #[vI A] w0 λe w'=>∃ (G:Bool),
   e=.returned (.bool G)∧K G∧Bel w0 w':=by
 unfold Zke at h
 refine cof Tryz.func157 rfl 5 Tryz.ntmps157 ?_
 have B:=ZNf (X:=Nox) w0 [] (by simp)
 refine sr (Zc (v:=.bool false) rfl (dn (sr (Za (v:=vI A) rfl (Zf [vI A,vI 1,vI 10006] _ Tryz.func46 rfl rfl rfl (Zqj A 1 10006 h _) ?_)))))
 rintro _ w3 ⟨I,rfl,h,hB5⟩;refine rt ?_
 replace B:=B.grow hB5;refine Zc (v:=.bool I) rfl (dn (ZM3 ?_))
 exact Zi rfl (Ze rfl) ⟨I,rfl,h,B.below⟩ (.inl rfl)
def Zf4 (V:List Int) (a1:ZMw) (K:Bool→Prop):Prop :=
 (if(a1.terms.length:Int) > 400 then K false else Z9 (λh (B:Unit) A=>Zhy V ((a1.terms.getD h ZEu).mono) (λG=>(if¬ (G=true) then K false else Zke ((a1.terms.getD h ZEu).factor) (λI=>(if¬ (I=true) then K false else(if(h:Int) > 0 then((0≤ZHf.wrap ((h:Int) - 1)∧ZHf.wrap ((h:Int) - 1) < (a1.terms.length:Int))∧Zd2 ((a1.terms.getD ((ZHf.wrap ((h:Int) - 1)).toNat) ZEu).mono) (λL=>Zd2 ((a1.terms.getD h ZEu).mono) (λO=>Zkd L O (λU=>(if U≥0 then K false else A ()))))) else A ())))))) (λ(B:Unit)=>K true) a1.terms.length 0 ())
theorem Zqm (a0:List Int) (a1:ZMw)  {K:Bool→Prop} (h:Zf4 a0 a1 K) (w0:World) (q0:ZPz.rep a0 [u0_0] fp0 w0) (q1:ZNg.rep a1 [u1_0] fp1 w0) :
  Calls ZMx 99 #[u0_0,.agg #[u1_0]] w0 λe w'=>∃ (r0:Bool),
   e=.returned (.bool r0)∧K r0∧Bel w0 w':=by
 unfold Zf4 at h
 refine cof Tryz.func99 rfl 48 Tryz.ntmps99 ?_
 have G:=ZNf (X:=Nox) w0 [ZMt TInts a0 [u0_0] fp0,ZMt TForm a1 [u1_0] fp1] (alc q0 (al1 q1));have aw:=(G.getP 1 rfl);replace G:=G.derive 1 rfl (ZMt ZMv.ty.sl a1.terms [u1_0] fp1) (λ_=>(Y9 aw)) (λ_ ax=>ax)
 refine sr (Ya (v:=.agg #[u1_0]) G [u1_0] rfl rfl λb5 w7 O G=>Zc (v:=.bool false) rfl (dn (ZMu (sr (Zu 0 ZM1 rfl sc53.size rfl rfl (Z5 G 0 (u1_0) rfl sc53 rfl rfl (Zw G 0 rfl ZM4 rfl (Ja rfl rfl (dn ?_)))))))))
 refine Zp rfl (λab=>?_) (λab=>?_)
 ·replace h:=ift h (ct ab);refine sr (Zc (v:=.bool false) rfl (dn ?_))
  refine ZM3 (Zl ?_)
  exact Zi rfl (Ze rfl) ⟨false,rfl,h,G.below⟩ (.inl rfl)
 ·replace h:=Zm h (cf ab);refine ZMy (Zd (ZMu (sr (Zu 0 ZM1 rfl sc53.size rfl rfl (Z5 G 0 (u1_0) rfl sc53 rfl rfl (Zw G 0 rfl ZM4 rfl (Za (v:=vI 0) rfl (dn (ZM0 ?_)))))))))
  have ae:a1.terms.length≤9223372036854775807:=Y5 (G.getP 0 rfl);refine Yp (S:=Unit) _ _ (λB al e_ U=>Zt e_ [(0,u0_0),(3,vQ b5),(12,u1_0),(13,vI (a1.terms.length:Int)),(14,vI (B:Int))]∧Ctx Nox w0 U [blk b5 55 [u1_0]] [ZMt ZMv.ty.sl a1.terms [u1_0] fp1,ZMt TInts a0 [u0_0] fp0,ZMt TForm a1 [u1_0] fp1]) a1.terms.length ?_ ?_ (s0:=()) ?_ h
  ·clear G h;rintro B al e_ a8 a6 ay V ⟨ag,G⟩ h ah;rw [ue ag];refine sr (Zn rfl rfl (dn (ZMu (Z3 rfl (decide_eq_true (by omega)) (ZMy (Zd (ZMu (ZM0 (sr (Za (v:=vI (B:Int)) rfl ?_))))))))))
   obtain ⟨a7,a9,ai⟩:=Zx (G.getP 0 rfl) B V;refine Ys (len:=a1.terms.length) ZM4 ag162.size (tr rfl ai) rfl (ZNb _) (ZNt.2 V) (Je (ZM5 (a1.terms.getD B ZEu)) (Ye (G.getP 0 rfl) ai B V) ag162 rfl rfl (Yl G (ZM5 (⟨ZMz,0⟩:Term)) Zfw rfl λaz ba O G=>Zc (v:=vI (B:Int)) rfl (Zz (v:=.agg (ZHu (ZM5 (a1.terms.getD B ZEu)))) G 0 (ZM5 (a1.terms.getD B ZEu)) (ZM5 (a1.terms.getD B ZEu)) rfl ag162.size rfl rfl rfl rfl rfl (ZM2 rfl) rfl λbb G=>dn (ZMu (sr (Za (v:=u0_0) rfl (Zu 0 ZNa rfl ag136.size rfl rfl (Yb G 0 (ZMs .u8 ((a1.terms.getD B ZEu).mono)) rfl ag136 rfl rfl rfl (Zf [u0_0,.agg (ZHu (ZMs .u8 ((a1.terms.getD B ZEu).mono)))] _ Tryz.func156 rfl rfl rfl (Zwt a0 ((a1.terms.getD B ZEu).mono) h _ (G.getP 1 rfl)) ?_)))))))))
   rintro _ bc ⟨am,rfl,h,ap⟩;refine rt ?_
   replace G:=G.grow ap;refine Xe rfl (Za (v:=.bool (!am)) rfl ?_)
   refine Y6 (!am) (λL=>?_) (λL=>?_)
   ·replace h:=ift h (Yz (Xi L));refine Zg (b:=true) 5 24 rfl (tr rfl (congrArg _ L)) (by decide) (Zg (b:=true) 5 24 rfl (tr rfl (congrArg _ L)) (by decide) (Zg (b:=true) 5 24 rfl (tr rfl (congrArg _ L)) (by decide) (Zg (b:=true) 5 24 rfl (tr rfl (congrArg _ L)) (by decide) (Zs (v:=.bool true) (b:=true) (tr rfl (congrArg _ L)) rfl (dn (Z3 rfl rfl (sr (Zc (v:=.bool false) rfl (dn ?_)))))))))
    refine ZM3 (Zl (Z8 (Zl (Zl (Z8 (Zl ?_))))))
    exact Zi rfl (Ze rfl) ⟨false,rfl,h,G.below⟩ (.inl rfl)
   ·replace h:=Zm h (not_not_intro ((Xj L)));refine Zh 5 24 rfl rfl L (Zu 8 ZNa rfl sc2.size rfl rfl (Zh 5 24 rfl rfl L (Z5 G 0 (vI ((a1.terms.getD B ZEu).factor)) rfl sc2 rfl rfl (Zh 5 24 rfl rfl L (Zf [vI ((a1.terms.getD B ZEu).factor)] _ Tryz.func157 rfl rfl rfl (Zwu ((a1.terms.getD B ZEu).factor) h _) ?_)))))
    rintro _ bd ⟨a2,rfl,h,aq⟩;refine rt ?_
    replace G:=G.grow aq;refine Zh 5 24 rfl rfl L (Xe rfl (Zs (v:=.bool (!a2)) (b:=false) (tr rfl (congrArg _ L)) rfl (dn ?_)))
    refine Zp rfl (λac=>?_) (λac=>?_)
    ·replace h:=ift h (Yz (Xi ac));refine sr (Zc (v:=.bool false) rfl (dn ?_))
     refine ZM3 (Zl (Z8 (Zl (Zl (Z8 (Zl ?_))))))
     exact Zi rfl (Ze rfl) ⟨false,rfl,h,G.below⟩ (.inl rfl)
    ·replace h:=Zm h (not_not_intro ((Xj ac)));refine ZMy (Zd (ZMu ?_))
     refine cwd 13 Yh [0,1,3,7,15,7,39,127,255,511,1023,7,2055,8191,16383,32767,65535] [4,7,9,12] [0,1,2,3,4,5,6,7,8,9,10,11,12] (λaa I be O=>?_)
     replace G:=G.grow O;refine bM 0 (vI (B:Int)) rfl I (Zb 17 1) (bF 1 (.bool (decide ((B:Int) > 0))) rfl rfl I (λ_=>by exact Zpa rfl rfl) (Zb 17 3) (bM 2 (.bool (decide ((B:Int) > 0))) rfl I (Zb 17 7) ?_))
     refine Y6 (decide ((B:Int) > 0)) (λA=>?_) (λA=>?_)
     ·replace h:=ift h (ct A);refine aF 3 (vQ b5) rfl rfl (I 3 rfl) (Yg 2 32 rfl rfl A) (λ_=>by exact Yk 0 ZM1 rfl sc53.size rfl rfl) (Zb 17 15) (aL 4 (u1_0) rfl rfl (aa 4 rfl) (Yg 2 32 rfl rfl A) (λ_ O=>by exact Yc (G.grow O) 1 (u1_0) rfl sc53 rfl rfl) (Zb 17 31) (aF 5 (vI (B:Int)) rfl rfl (I 5 rfl) (Yg 2 32 rfl rfl A) (λ_=>by exact Zau (v:=vI (B:Int)) rfl) (Zb 17 63) (aF 6 (vI (ZHf.wrap ((B:Int) - 1))) rfl rfl (I 6 rfl) (Yg 2 32 rfl rfl A) (λ_=>by exact Zha rfl rfl) (Zb 17 127) ?_)))
      obtain ⟨⟨a3,a4⟩,h⟩:=h;obtain ⟨aj,bh,ak⟩:=Zx (G.getP 0 rfl) ((ZHf.wrap ((B:Int) - 1)).toNat) (show (ZHf.wrap ((B:Int) - 1)).toNat < a1.terms.length by omega)
      refine aL 7 (.pointer (some (aj.add ((ZHf.wrap ((B:Int) - 1)).toNat * 9)))) rfl rfl (aa 7 rfl) (Yg 2 32 rfl rfl A) (λ_ O=>by exact Y1 (len:=a1.terms.length) ZM4 ag162.size (by exact tr rfl ak) rfl a3 a4) (Zb 17 255) (aF 8 (.pointer (some (aj.add ((ZHf.wrap ((B:Int) - 1)).toNat * 9+0)))) rfl rfl (I 8 rfl) (Yg 2 32 rfl rfl A) (λ_=>by exact Za1 ((ZHf.wrap ((B:Int) - 1)).toNat * 9+0) ZNa rfl ag136.size rfl rfl) (Zb 17 511) (aL 9 (.agg (ZHu (ZMs .u8 ((a1.terms.getD ((ZHf.wrap ((B:Int) - 1)).toNat) ZEu).mono)))) rfl rfl (aa 9 rfl) (Yg 2 32 rfl rfl A) (λ_ O=>by exact Jr (ZMs .u8 ((a1.terms.getD ((ZHf.wrap ((B:Int) - 1)).toNat) ZEu).mono)) (Jz (o:=0) (k:=8) (Ye ((G.grow O).getP 0 rfl) ak ((ZHf.wrap ((B:Int) - 1)).toNat) (show (ZHf.wrap ((B:Int) - 1)).toNat < a1.terms.length by omega)) rfl) ag136 rfl rfl) (Zb 17 1023) (aF 11 (vQ az) rfl rfl (I 11 rfl) (Yg 2 32 rfl rfl A) (λ_=>by exact Yk 0 ZNa rfl ag136.size rfl rfl) (Zb 17 3071) (aL 12 (.agg (ZHu (ZMs .u8 ((a1.terms.getD B ZEu).mono)))) rfl rfl (aa 12 rfl) (Yg 2 32 rfl rfl A) (λ_ O=>by exact Xa (G.grow O) 0 (ZMs .u8 ((a1.terms.getD B ZEu).mono)) rfl ag136 rfl rfl rfl) (Zb 17 7167) (aO 10 rfl (Zh 2 32 rfl rfl A (Zf [.agg (ZHu (ZMs .u8 ((a1.terms.getD ((ZHf.wrap ((B:Int) - 1)).toNat) ZEu).mono)))] _ ZQd rfl rfl rfl (Zkc ((a1.terms.getD ((ZHf.wrap ((B:Int) - 1)).toNat) ZEu).mono) h _) ?_)))))))
      rintro _ bi ⟨an,rfl,h,ar⟩;refine rt ?_
      replace G:=G.grow ar;refine done (aK (by assumption) (Zb 17 8191) (Z0 13 (by decide) (by decide) (by kernel_rfl) (by kernel_rfl) rfl (Zh 2 32 rfl rfl A (Zf [.agg (ZHu (ZMs .u8 ((a1.terms.getD B ZEu).mono)))] _ ZQd rfl rfl rfl (Zkc ((a1.terms.getD B ZEu).mono) h _) ?_))))
      rintro _ bj ⟨ao,rfl,h,au⟩;refine rt ?_
      replace G:=G.grow au;refine Zh 2 32 rfl rfl A (Zf [.agg (ZHu (ZMs .i64 an)),.agg (ZHu (ZMs .i64 ao))] _ Tryz.func158 rfl rfl rfl (Zwp an ao h _) ?_)
      rintro _ bk ⟨a5,rfl,h,av⟩;refine rt ?_
      replace G:=G.grow av;refine Zh 2 32 rfl rfl A (Zae rfl rfl (Zs (v:=.bool (decide (a5≥0))) (b:=true) (tr rfl (congrArg _ A)) rfl (done (Z1 (Zd ?_)))))
      refine Zp rfl (λad=>?_) (λad=>?_)
      ·replace h:=ift h (ct ad);refine sr (Zc (v:=.bool false) rfl (dn ?_))
       refine ZM3 (Z8 (Zl (Zl (Z8 (Zl ?_)))))
       exact Zi rfl (Ze rfl) ⟨false,rfl,h,G.below⟩ (.inl rfl)
      ·replace h:=Zm h (cf ad);refine ZMy (Zq (Zd (Zj (Zo rfl rfl (Za (v:=vI (ZHf.wrap ((B:Int)+1))) rfl (done ?_))))))
       exact ah () _ _ ⟨(sl ⟨rfl,rfl,rfl,rfl,(tr rfl (congrArg _ (Z7 V ae))),trivial⟩),(G.xM [1] rfl)⟩ h
     ·replace h:=Zm h (cf A);refine Zr Zv 3 undef rfl rfl (by kernel_rfl) (I 3 rfl) (λU=>.inr ⟨Yd (b:=false) 2 32 rfl (tr rfl (congrArg _ A)) (by decide),rfl⟩) (l9:=(Zb 17 15)) (by kernel_rfl) (Zr Zv 4 undef rfl rfl (by kernel_rfl) (I 4 rfl) (λU=>.inr ⟨Yd (b:=false) 2 32 rfl (tr rfl (congrArg _ A)) (by decide),rfl⟩) (l9:=(Zb 17 31)) (by kernel_rfl) (Zr Zv 5 undef rfl rfl (by kernel_rfl) (I 5 rfl) (λU=>.inr ⟨Yd (b:=false) 2 32 rfl (tr rfl (congrArg _ A)) (by decide),rfl⟩) (l9:=(Zb 17 63)) (by kernel_rfl) (Zr Zv 6 undef rfl rfl (by kernel_rfl) (I 6 rfl) (λU=>.inr ⟨Yd (b:=false) 2 32 rfl (tr rfl (congrArg _ A)) (by decide),rfl⟩) (l9:=(Zb 17 127)) (by kernel_rfl) (Zr Zv 7 undef rfl rfl (by kernel_rfl) (I 7 rfl) (λU=>.inr ⟨Yd (b:=false) 2 32 rfl (tr rfl (congrArg _ A)) (by decide),rfl⟩) (l9:=(Zb 17 255)) (by kernel_rfl) (Zr Zv 8 undef rfl rfl (by kernel_rfl) (I 8 rfl) (λU=>.inr ⟨Yd (b:=false) 2 32 rfl (tr rfl (congrArg _ A)) (by decide),rfl⟩) (l9:=(Zb 17 511)) (by kernel_rfl) (Zr Zv 9 undef rfl rfl (by kernel_rfl) (I 9 rfl) (λU=>.inr ⟨Yd (b:=false) 2 32 rfl (tr rfl (congrArg _ A)) (by decide),rfl⟩) (l9:=(Zb 17 1023)) (by kernel_rfl) (Zr Zv 10 undef rfl rfl (by kernel_rfl) (I 10 rfl) (λU=>.inr ⟨Yd (b:=false) 2 32 rfl (tr rfl (congrArg _ A)) (by decide),rfl⟩) (l9:=(Zb 17 2047)) (by kernel_rfl) (Zr Zv 11 undef rfl rfl (by kernel_rfl) (I 11 rfl) (λU=>.inr ⟨Yd (b:=false) 2 32 rfl (tr rfl (congrArg _ A)) (by decide),rfl⟩) (l9:=(Zb 17 4095)) (by kernel_rfl) (Zr Zv 12 undef rfl rfl (by kernel_rfl) (I 12 rfl) (λU=>.inr ⟨Yd (b:=false) 2 32 rfl (tr rfl (congrArg _ A)) (by decide),rfl⟩) (l9:=(Zb 17 8191)) (by kernel_rfl) (Z0 13 (by decide) (by decide) (by kernel_rfl) (by kernel_rfl) rfl (Zg (b:=false) 2 32 rfl (tr rfl (congrArg _ A)) (by decide) (Zg (b:=false) 2 32 rfl (tr rfl (congrArg _ A)) (by decide) (Zg (b:=false) 2 32 rfl (tr rfl (congrArg _ A)) (by decide) (Zs (v:=.bool false) (b:=false) (tr rfl (congrArg _ A)) rfl (done (Z1 (Zd (Z2 rfl rfl (ZMy (Zq (Zd (Zj (Zo rfl rfl (Za (v:=vI (ZHf.wrap ((B:Int)+1))) rfl (done ?_)))))))))))))))))))))))))
      exact ah () _ _ ⟨(sl ⟨rfl,rfl,rfl,rfl,(tr rfl (congrArg _ (Z7 V ae))),trivial⟩),(G.xM [1] rfl)⟩ h
  ·clear G h;rintro al e_ bl ay ⟨ag,G⟩ h;rw [ue ag];refine sr (Zn rfl rfl (dn (ZMu (Z2 rfl (decide_eq_false (by omega)) ?_))))
   refine ZM9 (Zk (Zk (Zy ?_)))
   refine Zd (sr (Zc (v:=.bool true) rfl (dn (ZM3 ?_))))
   exact Zi rfl (Ze rfl) ⟨true,rfl,h,G.below⟩ (.inl rfl)
  ·skip;exact⟨(slq rfl),G⟩
def Zhz (G:A8) (I:List Int) (K:Int→Prop):Prop :=
 Z9 (λh (A:Int) B=>((0≤(h:Int)∧(h:Int) < 8)∧B (ZHf.wrap (A+(ZHf.wrap ((I.getD h ZEu) * (G.get h))))))) (λ(A:Int)=>K A) I.length 0 0
theorem Zwv (L:A8) (V:List Int)  {K:Int→Prop} (h:Zhz L V K) (w0:World) (q1:ZPz.rep V [u1_0] fp1 w0) :
  Calls ZMx 183 #[.agg (ZHu (ZMs .i64 L)),u1_0] w0 λe w'=>∃ (r0:Int),
   e=.returned (vI r0)∧K r0∧Bel w0 w':=by
 unfold Zhz at h
 refine cof Tryz.func183 rfl 24 Tryz.ntmps183 ?_
 have B:=ZNf (X:=Nox) w0 [ZMt TInts V [u1_0] fp1] (al1 q1);refine sr (Ya (v:=.agg (ZHu (ZMs .i64 L))) B (ZMs .i64 L) rfl rfl λb2 w4 ai B=>Zc (v:=vI 0) rfl (dn (sr (Zc (v:=vI 0) rfl (dn (ZMu (sr (Za (v:=u1_0) rfl (Zw B 0 rfl ZNd rfl (Za (v:=vI 0) rfl (dn (ZM0 ?_))))))))))))
 have aa:V.length≤9223372036854775807:=Y5 (B.getP 0 rfl);refine Yp (S:=Int) _ _ (λA G e_ w_=>Zt e_ [(2,vQ b2),(5,vI G),(8,u1_0),(9,vI (V.length:Int)),(10,vI (A:Int))]∧Ctx Nox w0 w_ [blk b2 73 (ZMs .i64 L)] [ZMt TInts V [u1_0] fp1]) V.length ?_ ?_ (s0:=0) ?_ h
 ·clear B h;rintro A G e_ aj ag ac I ⟨O,B⟩ h ab;rw [ue O];refine sr (Zn rfl rfl (dn (ZMu (Z3 rfl (decide_eq_true (by omega)) (ZMy (Zd (ZMu (ZM0 (sr (Za (v:=vI (A:Int)) rfl ?_))))))))))
  obtain ⟨ah,ak,U⟩:=Zx (B.getP 0 rfl) A I;refine Ys (len:=V.length) ZNd sc2.size (tr rfl U) rfl (ZNb _) (ZNt.2 I) (Yr (vI (V.getD A ZEu)) (Ye (B.getP 0 rfl) U A I) sc2 rfl (Zc (v:=vI (A:Int)) rfl (Zc (v:=vI (V.getD A ZEu)) rfl (dn (Zj (Za (v:=vI G) rfl (Za (v:=vI (V.getD A ZEu)) rfl (Za (v:=vI (A:Int)) rfl ?_))))))))
  obtain ⟨⟨ad,ae⟩,h⟩:=h;refine Xs A ZNh sc3.size rfl rfl ad ae (by omega) (Z5 B 0 (vI (L.get A)) rfl sc3 rfl (ZM7 _ _ (show A < 8 by omega)) (Zal rfl rfl (Zo rfl rfl (Zc (v:=vI (ZHf.wrap (G+(ZHf.wrap ((V.getD A ZEu) * (L.get A)))))) rfl (done (Zq (Zd (Zj (Zo rfl rfl (Za (v:=vI (ZHf.wrap ((A:Int)+1))) rfl (done ?_)))))))))))
  exact ab (ZHf.wrap (G+(ZHf.wrap ((V.getD A ZEu) * (L.get A))))) _ _ ⟨(sl ⟨rfl,rfl,rfl,rfl,(tr rfl (congrArg _ (Z7 I aa))),trivial⟩),B⟩ h
 ·clear B h;rintro G e_ al ac ⟨O,B⟩ h;rw [ue O];refine sr (Zn rfl rfl (dn (ZMu (Z2 rfl (decide_eq_false (by omega)) ?_))))
  refine ZM9 (Zk (Zk (Zy ?_)))
  refine Zd (sr (Za (v:=vI G) rfl (Zc (v:=vI G) rfl (dn (ZM3 ?_)))))
  exact Zi rfl (Ze rfl) ⟨G,rfl,h,B.below⟩ (.inl rfl)
 ·skip;exact⟨(slq rfl),B⟩
def Zf5 (L:List Int) (O:ZMw) (K:Int→Bool→Prop):Prop :=
 Z9 (λG (h:Int) A=>Zd2 ((O.terms.getD G ZEu).mono) (λI=>Zhz I L (λB=>(if h≥0 then(if B≠h then K 0 false else A B) else A B)))) (λ(h:Int)=>K h true) O.terms.length 0 (-1)
theorem Zqn (V:List Int) (a1:ZMw)  {K:Int→Bool→Prop} (h:Zf5 V a1 K) (w0:World) (q0:ZPz.rep V [u0_0] fp0 w0) (q1:ZNg.rep a1 [u1_0] fp1 w0) :
  Calls ZMx 132 #[u0_0,.agg #[u1_0]] w0 λe w'=>∃ (r0:Int) (r1:Bool),
   e=.returned (.tuple #[vI r0,.bool r1])∧K r0 r1∧Bel w0 w':=by
 unfold Zf5 at h
 refine cof Tryz.func132 rfl 32 Tryz.ntmps132 ?_
 have A:=ZNf (X:=Nox) w0 [ZMt TInts V [u0_0] fp0,ZMt TForm a1 [u1_0] fp1] (alc q0 (al1 q1));have ai:=(A.getP 1 rfl);replace A:=A.derive 1 rfl (ZMt ZMv.ty.sl a1.terms [u1_0] fp1) (λ_=>(Y9 ai)) (λ_ aj=>aj)
 refine sr (Ya (v:=.agg #[u1_0]) A [u1_0] rfl rfl λb5 w7 ak A=>Zc (v:=vI 0) rfl (Zc (v:=.bool false) rfl (dn (sr (Zc (v:=vI (-1)) rfl (dn (ZMu (sr (Zu 0 ZM1 rfl sc53.size rfl rfl (Z5 A 0 (u1_0) rfl sc53 rfl rfl (Zw A 0 rfl ZM4 rfl (Za (v:=vI 0) rfl (dn (ZM0 ?_))))))))))))))
 have aa:a1.terms.length≤9223372036854775807:=Y5 (A.getP 0 rfl);refine Yp (S:=Int) _ _ (λG I e_ w_=>Zt e_ [(0,u0_0),(6,vI I),(11,u1_0),(12,vI (a1.terms.length:Int)),(13,vI (G:Int))]∧Ctx Nox w0 w_ [] [ZMt ZMv.ty.sl a1.terms [u1_0] fp1,ZMt TInts V [u0_0] fp0,ZMt TForm a1 [u1_0] fp1]) a1.terms.length ?_ ?_ (s0:=(-1)) ?_ h
 ·clear A h;rintro G I e_ ao am al O ⟨ab,A⟩ h ac;rw [ue ab];refine sr (Zn rfl rfl (dn (ZMu (Z3 rfl (decide_eq_true (by omega)) (ZMy (Zd (ZMu (ZM0 (sr ?_)))))))))
  obtain ⟨an,ap,ad⟩:=Zx (A.getP 0 rfl) G O;refine Ys (len:=a1.terms.length) ZM4 ag162.size (tr rfl ad) rfl (ZNb _) (ZNt.2 O) (Je (ZM5 (a1.terms.getD G ZEu)) (Ye (A.getP 0 rfl) ad G O) ag162 rfl rfl (Yl A (ZM5 (⟨ZMz,0⟩:Term)) Zfw rfl λaq ar ak A=>Zz (v:=.agg (ZHu (ZM5 (a1.terms.getD G ZEu)))) A 0 (ZM5 (a1.terms.getD G ZEu)) (ZM5 (a1.terms.getD G ZEu)) rfl ag162.size rfl rfl rfl rfl rfl (ZM2 rfl) rfl λau A=>dn (sr (Zu 0 ZNa rfl ag136.size rfl rfl (Yb A 0 (ZMs .u8 ((a1.terms.getD G ZEu).mono)) rfl ag136 rfl rfl rfl (Zf [.agg (ZHu (ZMs .u8 ((a1.terms.getD G ZEu).mono)))] _ ZQd rfl rfl rfl (Zkc ((a1.terms.getD G ZEu).mono) h _) ?_))))))
  rintro _ av ⟨ae,rfl,h,ag⟩;refine rt ?_
  replace A:=A.grow ag;refine Za (v:=u0_0) rfl (Zf [.agg (ZHu (ZMs .i64 ae)),u0_0] _ Tryz.func183 rfl rfl rfl (Zwv ae V h _ (A.getP 1 rfl)) ?_)
  rintro _ aw ⟨L,rfl,h,ah⟩;refine rt ?_
  replace A:=A.grow ah;refine Zc (v:=vI L) rfl (dn (ZMu (sr (Za (v:=vI I) rfl (Zae rfl rfl (Za (v:=.bool (decide (I≥0))) rfl ?_))))))
  refine Y6 (decide (I≥0)) (λB=>?_) (λB=>?_)
  ·replace h:=ift h (ct B);refine Zh 2 24 rfl rfl B (Za (v:=vI L) rfl (Zh 2 24 rfl rfl B (Za (v:=vI I) rfl (Zh 2 24 rfl rfl B (Y2 rfl rfl (Zs (v:=.bool (decide (L≠I))) (b:=true) (tr rfl (congrArg _ B)) rfl (dn ?_)))))))
   refine Zp rfl (λU=>?_) (λU=>?_)
   ·replace h:=ift h (ct U);refine sr (Zc (v:=vI 0) rfl (Zc (v:=.bool false) rfl (dn ?_)))
    refine ZM3 (Zl (Z8 (Zl (Zl (Z8 (Zl ?_))))))
    exact Xv rfl (Ze rfl) (Ze rfl) ⟨0,false,rfl,h,A.below⟩ (.inl rfl)
   ·replace h:=Zm h (cf U);refine ZMy (Zd (Zj (Za (v:=vI L) rfl (Zc (v:=vI L) rfl (done (Zq (Zd (Zj (Zo rfl rfl (Za (v:=vI (ZHf.wrap ((G:Int)+1))) rfl (done ?_)))))))))))
    exact ac L _ _ ⟨(sl ⟨rfl,rfl,rfl,rfl,(tr rfl (congrArg _ (Z7 O aa))),trivial⟩),(A.xM [] rfl)⟩ h
  ·replace h:=Zm h (cf B);refine Zg (b:=false) 2 24 rfl (tr rfl (congrArg _ B)) (by decide) (Zg (b:=false) 2 24 rfl (tr rfl (congrArg _ B)) (by decide) (Zg (b:=false) 2 24 rfl (tr rfl (congrArg _ B)) (by decide) (Zs (v:=.bool false) (b:=false) (tr rfl (congrArg _ B)) rfl (dn (Z2 rfl rfl (ZMy (Zd (Zj (Za (v:=vI L) rfl (Zc (v:=vI L) rfl (done (Zq (Zd (Zj (Zo rfl rfl (Za (v:=vI (ZHf.wrap ((G:Int)+1))) rfl (done ?_)))))))))))))))))
   exact ac L _ _ ⟨(sl ⟨rfl,rfl,rfl,rfl,(tr rfl (congrArg _ (Z7 O aa))),trivial⟩),(A.xM [] rfl)⟩ h
 ·clear A h;rintro I e_ ax al ⟨ab,A⟩ h;rw [ue ab];refine sr (Zn rfl rfl (dn (ZMu (Z2 rfl (decide_eq_false (by omega)) ?_))))
  refine ZM9 (Zk (Zk (Zy ?_)))
  refine Zd (sr (Za (v:=vI I) rfl (Zc (v:=vI I) rfl (Zc (v:=.bool true) rfl (dn (ZM3 ?_))))))
  exact Xv rfl (Ze rfl) (Ze rfl) ⟨I,true,rfl,h,A.below⟩ (.inl rfl)
 ·skip;exact⟨(slq rfl),(A.xM [] rfl)⟩
def Zh0 (B:List Int) (G:ZMw) (I:Int) (K:Bool→Prop):Prop :=
 Zf5 B G (λh A=>(if A=true then(if h=(-1) then K true else K (decide (h=I))) else K false))
theorem Zww (U:List Int) (V:ZMw) (O:Int)  {K:Bool→Prop} (h:Zh0 U V O K) (w0:World) (q0:ZPz.rep U [u0_0] fp0 w0) (q1:ZNg.rep V [u1_0] fp1 w0) :
  Calls ZMx 152 #[u0_0,.agg #[u1_0],vI O] w0 λe w'=>∃ (r0:Bool),
   e=.returned (.bool r0)∧K r0∧Bel w0 w':=by
 unfold Zh0 at h
 refine cof Tryz.func152 rfl 25 Tryz.ntmps152 ?_
 have I:=ZNf (X:=Nox) w0 [ZMt TInts U [u0_0] fp0,ZMt TForm V [u1_0] fp1] (alc q0 (al1 q1));have ab:=(I.getP 1 rfl);replace I:=I.derive 1 rfl (ZMt ZMv.ty.sl V.terms [u1_0] fp1) (λ_=>(Y9 ab)) (λ_ ac=>ac)
 refine sr (Ya (v:=.agg #[u1_0]) I [u1_0] rfl rfl λb5 w7 ad I=>Zc (v:=.bool false) rfl (dn (sr (Za (v:=u0_0) rfl (Yb I 0 [u1_0] rfl ag55 rfl rfl rfl (Zf [u0_0,.agg #[u1_0]] _ Tryz.func132 rfl rfl rfl (Zqn U V h _ (I.getP 1 rfl) (Yi (I.getP 0 rfl))) ?_))))))
 rintro _ ae ⟨G,L,rfl,h,aa⟩;refine rt ?_
 replace I:=I.grow aa;refine Za (v:=.tuple #[vI G,.bool L]) rfl (Yj (v:=vI G) rfl rfl (Yj (v:=.bool L) rfl rfl (Zc (v:=vI G) rfl (Zc (v:=.bool L) rfl (dn (sr (Za (v:=.bool L) rfl (Za (v:=.bool L) rfl ?_))))))))
 refine Y6 L (λA=>?_) (λA=>?_)
 ·replace h:=ift h (A);refine Zh 1 16 rfl rfl A (Za (v:=vI G) rfl (Zh 1 16 rfl rfl A (Xg rfl rfl (Zh 1 16 rfl rfl A (Za (v:=.bool (decide (G=(-1)))) rfl ?_)))))
  refine Y6 (decide (G=(-1))) (λB=>?_) (λB=>?_)
  ·replace h:=ift h (ct B);refine Zg (b:=true) 4 19 rfl (tr rfl (congrArg _ B)) (by decide) (Zg (b:=true) 4 19 rfl (tr rfl (congrArg _ B)) (by decide) (Zg (b:=true) 4 19 rfl (tr rfl (congrArg _ B)) (by decide) (Zh 1 16 rfl rfl A (Zs (v:=.bool true) (b:=true) (tr rfl (congrArg _ B)) rfl (Zs (v:=.bool true) (b:=true) (tr rfl (congrArg _ A)) rfl (Zc (v:=.bool true) rfl (dn (ZM3 ?_))))))))
   exact Zi rfl (Ze rfl) ⟨true,rfl,h,I.below⟩ (.inl rfl)
  ·replace h:=Zm h (cf B);refine Zh 4 19 rfl rfl B (Za (v:=vI G) rfl (Zh 4 19 rfl rfl B (Za (v:=vI O) rfl (Zh 4 19 rfl rfl B (Xg rfl rfl (Zh 1 16 rfl rfl A (Zs (v:=.bool (decide (G=O))) (b:=false) (tr rfl (congrArg _ B)) rfl (Zs (v:=.bool (decide (G=O))) (b:=true) (tr rfl (congrArg _ A)) rfl (Zc (v:=.bool (decide (G=O))) rfl (dn (ZM3 ?_)))))))))))
   exact Zi rfl (Ze rfl) ⟨decide (G=O),rfl,h,I.below⟩ (.inl rfl)
 ·replace h:=Zm h (Yz A);refine Zg (b:=false) 1 16 rfl (tr rfl (congrArg _ A)) (by decide) (Zg (b:=false) 1 16 rfl (tr rfl (congrArg _ A)) (by decide) (Zg (b:=false) 1 16 rfl (tr rfl (congrArg _ A)) (by decide) (Yq 4 19 rfl rfl (Yq 4 19 rfl rfl (Yq 4 19 rfl rfl (Zg (b:=false) 1 16 rfl (tr rfl (congrArg _ A)) (by decide) (Zs (v:=.bool false) (b:=false) (tr rfl (congrArg _ A)) rfl (Zc (v:=.bool false) rfl (dn (ZM3 ?_))))))))))
  exact Zi rfl (Ze rfl) ⟨false,rfl,h,I.below⟩ (.inl rfl)
def Zh1 (I:Alg) (K:List (Option (List (A8×Int)))→Prop):Prop :=
 Z9 (λh (A:(List (Option (List (A8×Int))))) B=>Zbp (I.images.getD h ZEu) (λG=>((0≤(h:Int)∧(h:Int) < 8)∧B (A.set h (some G))))) (λ(A:(List (Option (List (A8×Int)))))=>K A) I.images.length 0 (ZEp 8 none:List (Option (List (A8×Int))))
theorem Zwx (a0:Alg)  {K:List (Option (List (A8×Int)))→Prop} (h:Zh1 a0 K) (w0:World) (q0:TAlg.rep a0 [u0_0,u0_1] fp0 w0) (a3:(blk b0 32 [u0_0,u0_1]).holds w0) :
  Calls ZMx 191 #[vQ b0] w0 λe w'=>∃ (r0:List (Option (List (A8×Int)))) (ao:List Value) (ap:List Nat),
   e=.returned (.agg (ZHu ao))∧K r0∧(Zab (kvA .i64) (vvI .i64) 8).rep r0 ao ap w'∧(∀ b,b∈ap→w0.heap.size≤b)∧Bel w0 w':=by
 unfold Zh1 at h
 refine cof Tryz.func191 rfl 23 Tryz.ntmps191 ?_
 have A:=ZNf (X:=Nox) w0 [ZMt TAlg a0 [u0_0,u0_1] fp0,blk b0 32 [u0_0,u0_1]] (alc q0 (al1 a3));replace A:=A.dAlg 0 rfl;refine sr (Yl A (ZEp 8 (ZPy none)) Zmr rfl λb5 w7 aq A=>dn (sr (J8 (v:=.agg (ZHu (ZEp 8 (ZPy none)))) [] rfl (Zwk _) (Yl A (ZEp 8 (ZPy none)) Zmr rfl λb8 ba aq A=>?_))))
 replace A:=A.pushE (ZMt (Zab (kvA .i64) (vvI .i64) 8) (ZEp 8 none:List (Option (List (A8×Int)))) (ZEp 8 (ZPy none)) []) (Zj8 (kvA .i64) (vvI .i64) 8 _) rfl;replace A:=A.pushE (ZMt (Zab (kvA .i64) (vvI .i64) 8) (ZEp 8 none:List (Option (List (A8×Int)))) (ZEp 8 (ZPy none)) []) (Zj8 (kvA .i64) (vvI .i64) 8 _) rfl;have ad:=Zc6 (A.getP 1 rfl);have ae:=Zc6 (A.getP 0 rfl);refine Zz (v:=.agg (ZHu (ZEp 8 (ZPy none)))) A 0 (ZEp 8 (ZPy none)) (ZEp 8 (ZPy none)) rfl ag211.size rfl rfl rfl ae (Zmm (A.getP 0 rfl)) (by rw [ad]; exact ZEs _) (Zmn (ae.trans ad.symm)) λbb A=>dn (ZMu (sr (Za (v:=vQ b0) rfl (Xf rfl (Zu 1 ZNe rfl sc30.size rfl rfl (Zc2 (u0_1) (A.getP 5 rfl) sc30 rfl rfl (Zw A 2 rfl ZNi rfl (Za (v:=vI 0) rfl (dn (ZM0 ?_))))))))))
 have ar:a0.images.length≤9223372036854775807:=Y5 (A.getP 2 rfl);refine Yp (S:=(List (Option (List (A8×Int))))) _ _ (λB V e_ w_=>∃ (G:List Value),∃ (L:List Nat),Zt e_ [(2,vQ b5),(3,vQ b8),(10,u0_1),(11,vI (a0.images.length:Int)),(12,vI (B:Int))]∧(∀ b,b∈L→w0.heap.size≤b)∧Ctx Nox w0 w_ [blk b8 211 G,blk b5 211 (ZEp 8 (ZPy none))] [ZMt (Zab (kvA .i64) (vvI .i64) 8) V G L,ZMt ZNg.sl a0.images [u0_1] fp0,ZMt TInts a0.degrees [u0_0] fp0,ZMt TAlg a0 [u0_0,u0_1] fp0,blk b0 32 [u0_0,u0_1]]) a0.images.length ?_ ?_ (s0:=(ZEp 8 none:List (Option (List (A8×Int))))) ?_ h
 ·clear A h;rintro B V e_ bc a8 a4 O ⟨G,L,ag,ab,A⟩ h au;rw [ue ag];refine sr (Zn rfl rfl (dn (ZMu (Z3 rfl (decide_eq_true (by omega)) (ZMy (Zd (ZMu (ZM0 (sr (Za (v:=vI (B:Int)) rfl ?_))))))))))
  obtain ⟨a9,bd,ah⟩:=Zx (A.getP 1 rfl) B O;refine Ys (len:=a0.images.length) ZNi ag55.size (tr rfl ah) rfl (ZNb _) (ZNt.2 O) ?_
  obtain ⟨be,ai,av,aj⟩:=Xp (A.getP 1 rfl) ah B O;obtain ⟨U,rfl⟩:=ZJj.1 ai;clear ai;rw [Xm _ _ O] at aj
  have aw:=aj;replace A:=A.derive 1 rfl (ZMt ZMv.ty.sl ((a0.images.getD B ZEu).terms) [U] fp0) (λ_=>(Y9 aw)) (λ_ aa=>aa)
  refine Je [U] av ag55 rfl rfl (Yl A [.slice none 0 0] z55 rfl λbh bi aq A=>Zc (v:=vI (B:Int)) rfl (Zz (v:=.agg #[U]) A 0 [U] [U] rfl ag55.size rfl rfl rfl rfl (Xr (Zdt (A.getP 0 rfl)) rfl) (ZM2 rfl) rfl λbj A=>dn (Zj (Za (v:=vI (B:Int)) rfl (Yb A 0 [U] rfl ag55 rfl rfl rfl (Zf [.agg #[U]] _ Tryz.func78 rfl rfl rfl (Zf1 (a0.images.getD B ZEu) h _ (Yi (A.getP 0 rfl))) ?_))))))
  rintro _ bk ⟨ac,I,rfl,h,ax,ay,az⟩;refine rt ?_
  replace A:=A.push az (mapS I ac) ax (λb_ aa=>by obtain rfl:=ZFn.1 aa; exact ay)
  obtain ⟨⟨a5,a6⟩,h⟩:=h;refine Xs B Tryz.underlying211 sc115.size rfl rfl a5 a6 (by omega) ?_
  have a1:=Zj4 A 0 rfl;replace A:=A.thaw 0 rfl (mapS I ac) id (λ_ aa=>aa)
  replace A:=A.joinP 0 2 rfl rfl (ZMt (Zab (kvA .i64) (vvI .i64) 8) (V.set B (some ac)) (G.set B (ZPy (some I))) (I::L)) (λa_ b_=>Zv6 b_ a_) (λc_ a7=>(ZEn.1 a7).elim (λh_=>.inl (by rw [h_]; exact ZFn.2 rfl)) .inr)
  have a2:∀ b,b∈(I::L)→w0.heap.size≤b:=(λb hb=>(ZEn.1 hb).elim (λh_=>by rw [h_]; exact a1) (λhb=>ab b hb))
  have ak:=Zc6 (A.getP 3 rfl);refine Zz (v:=.map (some I)) A 1 [.map (some I)] (G.set B (ZPy (some I))) rfl sc115.size rfl rfl rfl rfl rfl (by rw [ak]; omega) (Zqa (by rw [ak]; omega) (by omega)) λbl A=>done (Zq (Zd (Zj (Zo rfl rfl (Za (v:=vI (ZHf.wrap ((B:Int)+1))) rfl (done ?_))))))
  exact au (V.set B (some ac)) _ _ ⟨G.set B (ZPy (some I)),(I::L),(sl ⟨rfl,rfl,rfl,rfl,(tr rfl (congrArg _ (Z7 O ar))),trivial⟩),a2,((A.xM [1,2] rfl).sP [0,4,5,6,7] rfl)⟩ h
 ·clear A h;rintro V e_ bm a4 ⟨G,L,ag,ab,A⟩ h;rw [ue ag];refine sr (Zn rfl rfl (dn (ZMu (Z2 rfl (decide_eq_false (by omega)) ?_))))
  refine ZM9 (Zk (Zk (Zy ?_)))
  refine Zd (sr ?_)
  have al:=Zc6 (A.getP 0 rfl);refine Yb A 0 G rfl ag211 rfl (Zv8 al) al ?_
  replace A:=A.pushE (ZMt (Zab (kvA .i64) (vvI .i64) 8) (ZEp 8 none:List (Option (List (A8×Int)))) (ZEp 8 (ZPy none)) []) (Zj8 (kvA .i64) (vvI .i64) 8 _) rfl;have am:=Zc6 (A.getP 0 rfl);have an:=Zc6 (A.getP 1 rfl);refine Zz (v:=.agg (ZHu G)) A 1 G G rfl ag211.size rfl rfl rfl an (Zmm (A.getP 1 rfl)) (by rw [am]; exact ZEs _) (Zmn (an.trans am.symm)) λbn A=>dn (ZM3 ?_)
  exact Zi rfl (Zag A 1 rfl ag211 rfl (Zc6 (A.getP 1 rfl))) ⟨V,G,L,rfl,h,(A.getP 1 rfl),(λb hb=>ab b hb),A.below⟩ (.inl rfl)
 ·skip;exact⟨ZEp 8 (ZPy none),[],(slq rfl),(λb hb=>absurd hb (by simp)),(A.sP [0,2,3,4,5] rfl)⟩
def Zd4 (a0:Alg) (a1:List (A8×Int)) (K:List (A8×Int)→Prop):Prop :=
 Zh1 a0 (λab=>Zb5 (λ(B:A8×Int) (O:(List (A8×Int))) V=>Z9 (λh (A:A8×(List (A8×Int))×Int) G=>(if B.1.get h > 0 then Xt (λ(I:A8×Int) aa=>(if I.2 < ZHf.wrap ((h:Int)+1) then((0≤I.2∧I.2 < 8)∧aa (I.1.set I.2.toNat 0,ZHf.wrap (I.2+1))) else(∃ U,ab[h]? = some (some U)∧Zck (Yo ([]:List (A8×Int)) (A.1.set h (ZHf.wrap ((B.1.get h) - 1))) 1) a0.degrees U (λac=>Zck ac a0.degrees (Yo ([]:List (A8×Int)) I.1 1) (λad=>Zc8 (ZHf.wrap ((ZHf.wrap (A.2.2 * B.2)) * (B.1.get h))) (λae=>Zeu A.2.1 ad ae (λL=>(if(h:Int) < (a0.degrees.length:Int) then((0≤(h:Int)∧(h:Int) < (a0.degrees.length:Int))∧(if ZFl (a0.degrees.getD h ZEu) 2=1 then(if ZFl (B.1.get h) 2=1 then G (A.1.set h (B.1.get h),L,ZHf.wrap (0 - A.2.2)) else G (A.1.set h (B.1.get h),L,A.2.2)) else G (A.1.set h (B.1.get h),L,A.2.2))) else G (A.1.set h (B.1.get h),L,A.2.2))))))))) (B.1,0) else(if(h:Int) < (a0.degrees.length:Int) then((0≤(h:Int)∧(h:Int) < (a0.degrees.length:Int))∧(if ZFl (a0.degrees.getD h ZEu) 2=1 then(if ZFl (B.1.get h) 2=1 then G (A.1.set h (B.1.get h),A.2.1,ZHf.wrap (0 - A.2.2)) else G (A.1.set h (B.1.get h),A.2.1,A.2.2)) else G (A.1.set h (B.1.get h),A.2.1,A.2.2))) else G (A.1.set h (B.1.get h),A.2.1,A.2.2)))) (λ(A:A8×(List (A8×Int))×Int)=>V A.2.1) 8 0 (ZMz,O,1)) (λ(O:(List (A8×Int)))=>K O) a1.length a1 ([]:List (A8×Int)))
theorem Zmy (a0:Alg) (a1:List (A8×Int))  {K:List (A8×Int)→Prop} (h:Zd4 a0 a1 K) (w0:World) (q0:TAlg.rep a0 [u0_0,u0_1] fp0 w0) (f2:(blk b0 32 [u0_0,u0_1]).holds w0) (q1:(mapS b1 a1).holds w0) :
  Calls ZMx 154 #[vQ b0,.map (some b1)] w0 λe w'=>∃ (r0:List (A8×Int)) (bk:Nat),
   e=.returned (.map (some bk))∧K r0∧(mapS bk r0).holds w'∧w0.heap.size≤bk∧Bel w0 w':=by
 unfold Zd4 at h
 refine cof Tryz.func154 rfl 107 Tryz.ntmps154 ?_
 have A:=ZNf (X:=Nox) w0 [ZMt TAlg a0 [u0_0,u0_1] fp0,blk b0 32 [u0_0,u0_1],mapS b1 a1] (alc q0 (alc f2 (al1 q1)));replace A:=A.dAlg 0 rfl;refine sr (Zc (v:=.map none) rfl (dn (sr (Zhe A (kvA .i64) (vvI .i64) λb6 w8 ad A=>Za (v:=vQ b0) rfl (Zf [vQ b0] _ Tryz.func191 rfl rfl rfl (Zwx a0 h _ (Y3 (A.getP 1 rfl) (A.getP 0 rfl)) (A.getP 3 rfl)) ?_)))))
 rintro _ gh ⟨a5,ag,a6,rfl,h,du,bl,dv⟩;refine rt ?_
 have ga:=Zmb A.size bl;replace A:=A.pushR dv (ZMt (Zab (kvA .i64) (vvI .i64) 8) a5 ag a6) du (λb hb=>.inl (bl b hb))
 refine Yl A (ZEp 8 (ZPy none)) Zmr rfl λap gi ad A=>Zc (v:=.map (some b6)) rfl ?_
 replace A:=A.pushE (ZMt (Zab (kvA .i64) (vvI .i64) 8) (ZEp 8 none:List (Option (List (A8×Int)))) (ZEp 8 (ZPy none)) []) (Zj8 (kvA .i64) (vvI .i64) 8 _) rfl;have bm:=Zc6 (A.getP 0 rfl);have bn:=Zc6 (A.getP 1 rfl);refine Zz (v:=.agg (ZHu ag)) A 0 ag ag rfl ag211.size rfl rfl rfl bn (Zmm (A.getP 1 rfl)) (by rw [bm]; exact ZEs _) (Zmn (bn.trans bm.symm)) λgj A=>dn (ZMu (sr (Za (v:=.map (some b1)) rfl (Zhf A 6 rfl ZNs rfl λaw am an gk ad bo ce A=>dn (ZM0 ?_)))))
 refine Zhj (S:=(List (A8×Int))) _ _ (λch be e_ w_=>∃ (bp:Option MapEntry),Zt e_ [(0,vQ b0),(5,.map (some b6)),(6,vQ ap),(21,vQ aw)]∧Ctx Nox w0 w_ [itI (kvA .i64) (vvI .i64) aw b1 am an bp ch,blk ap 211 ag,mapS b6 be] [Zbc b1 am an,ZMt (Zab (kvA .i64) (vvI .i64) 8) a5 ag a6,ZMt ZNg.sl a0.images [u0_1] fp0,ZMt TInts a0.degrees [u0_0] fp0,ZMt TAlg a0 [u0_0,u0_1] fp0,blk b0 32 [u0_0,u0_1],mapS b1 a1]) ?_ (l0:=a1) (s0:=([]:List (A8×Int))) ?_ h
 ·clear A h;rintro ch be e_ gl gb gm ⟨bp,aq,A⟩ h dw;rw [ue aq];refine sr ?_
  refine Zhg A 0 0 rfl rfl bo ce rfl (λdx=>?_) (λI a7 ay gn bq dy dz A=>?_)
  ·replace h:=h.1 dx;refine Yj (v:=.bool false) rfl rfl (dn (ZMu (Z2 rfl rfl ?_)))
   refine ZM9 (Zk (Zk (Zy ?_)))
   refine Zd (sr (Za (v:=.map (some b6)) rfl (Zc (v:=.map (some b6)) rfl (dn (ZM3 ?_)))))
   exact Zi rfl (Ze rfl) ⟨be,b6,rfl,h,(A.getM 2 rfl),(Zj4 A 2 rfl),A.below⟩ (.inl rfl)
  ·replace h:=h.2 I a7 bq;refine Yj (v:=.bool true) rfl rfl (dn (ZMu (Z3 rfl rfl (ZMy (Zd (ZM0 (sr (Zhh A 0 0 I rfl rfl bo rfl dy dz (Yj (v:=.agg (ZHu (ZMs .i64 I.1))) rfl rfl (Yj (v:=vI I.2) rfl rfl (Yl A (ZMs .i64 ZMz) z73 rfl λaz go ad A=>Zz (v:=.agg (ZHu (ZMs .i64 I.1))) A 0 (ZMs .i64 I.1) (ZMs .i64 I.1) rfl ag73.size rfl rfl rfl rfl rfl (ZM2 rfl) rfl λgp A=>Zc (v:=vI I.2) rfl (dn (sr (J8 [] rfl (Zhq   _) (Yl A (ZMs .i64 ZMz) z73 rfl λa2 gq ad A=>Zz (v:=.agg (ZHu (ZMs .i64 ZMz))) A 0 (ZMs .i64 ZMz) (ZMs .i64 ZMz) rfl ag73.size rfl rfl rfl rfl rfl (ZM2 rfl) rfl λgr A=>Zc (v:=vI 1) rfl (dn (sr (Yb A 1 (ZMs .i64 I.1) rfl ag73 rfl rfl rfl (Za (v:=vI 0) rfl (dn (ZM0 ?_)))))))))))))))))))))
   refine Yp (S:=A8×(List (A8×Int))×Int) _ _ (λB L e_ w_=>Zt e_ [(0,vQ b0),(5,.map (some b6)),(6,vQ ap),(7,vQ az),(8,vI I.2),(9,vQ a2),(10,vI L.2.2),(21,vQ aw),(28,.agg (ZHu (ZMs .i64 I.1))),(29,vI (B:Int))]∧Ctx Nox w0 w_ [blk a2 73 (ZMs .i64 L.1),blk az 73 (ZMs .i64 I.1),itI (kvA .i64) (vvI .i64) aw b1 am an (some ay) a7,blk ap 211 ag,mapS b6 L.2.1] [Zbc b1 am an,ZMt (Zab (kvA .i64) (vvI .i64) 8) a5 ag a6,ZMt ZNg.sl a0.images [u0_1] fp0,ZMt TInts a0.degrees [u0_0] fp0,ZMt TAlg a0 [u0_0,u0_1] fp0,blk b0 32 [u0_0,u0_1],mapS b1 a1]) 8 ?_ ?_ (s0:=(ZMz,be,1)) ?_ h
   ·clear A h;rintro B L e_ gs a4 f3 ae ⟨aq,A⟩ h ao;rw [ue aq];refine sr (Zn rfl rfl (dn (ZMu (Z3 rfl (decide_eq_true (by omega)) (ZMy (Zd (ZMu (ZM0 (sr (Za (v:=vI (B:Int)) rfl (Zjs (vI (I.1.get B)) ZNh rfl rfl (ZNb _) (by omega) sc3 (ZM7 _ _ ae) (Zc (v:=vI (B:Int)) rfl (Zc (v:=vI (I.1.get B)) rfl (dn (ZMu (sr (Za (v:=vI (I.1.get B)) rfl (Ja rfl rfl (dn ?_)))))))))))))))))))
    refine Zp rfl (λba=>?_) (λba=>?_)
    ·replace h:=ift h (ct ba);refine sr (Yb A 1 (ZMs .i64 I.1) rfl ag73 rfl rfl rfl (Yl A (ZMs .i64 ZMz) z73 rfl λci gu ad A=>Zz (v:=.agg (ZHu (ZMs .i64 I.1))) A 0 (ZMs .i64 I.1) (ZMs .i64 I.1) rfl ag73.size rfl rfl rfl rfl rfl (ZM2 rfl) rfl λgv A=>dn (ZMu (sr (Za (v:=vI (B:Int)) rfl (Zo rfl rfl (Za (v:=vI 0) rfl (dn (ZM0 ?_)))))))))
     refine X6 (S:=A8×Int) _ (λV e_ w_=>Zt e_ [(0,vQ b0),(5,.map (some b6)),(6,vQ ap),(7,vQ az),(8,vI I.2),(9,vQ a2),(10,vI L.2.2),(11,vI (B:Int)),(12,vI (I.1.get B)),(13,vQ ci),(21,vQ aw),(28,.agg (ZHu (ZMs .i64 I.1))),(29,vI (B:Int)),(37,vI (ZHf.wrap ((B:Int)+1))),(38,vI V.2)]∧Ctx Nox w0 w_ [blk ci 73 (ZMs .i64 V.1),blk a2 73 (ZMs .i64 L.1),blk az 73 (ZMs .i64 I.1),itI (kvA .i64) (vvI .i64) aw b1 am an (some ay) a7,blk ap 211 ag,mapS b6 L.2.1] [Zbc b1 am an,ZMt (Zab (kvA .i64) (vvI .i64) 8) a5 ag a6,ZMt ZNg.sl a0.images [u0_1] fp0,ZMt TInts a0.degrees [u0_0] fp0,ZMt TAlg a0 [u0_0,u0_1] fp0,blk b0 32 [u0_0,u0_1],mapS b1 a1]) ?_ (s0:=(I.1,0)) ?_ h
     ·clear A h;rintro V e_ gw gc gx ⟨aq,A⟩ h d0;rw [ue aq];refine sr (Zn rfl rfl (dn (ZMu ?_)))
      refine Zp rfl (λbb=>?_) (λbb=>?_)
      ·replace h:=ift h (ct bb);refine ZMy (Zd (ZMu (ZM0 (sr (Za (v:=vI V.2) rfl (Zc (v:=vI V.2) rfl (dn (Zj (Za (v:=vI V.2) rfl ?_)))))))))
       obtain ⟨⟨f4,f5⟩,h⟩:=h;refine Xs V.2.toNat ZNh sc3.size rfl rfl f4 f5 (by omega) (Zz (v:=vI 0) A 0 [vI 0] (ZMs .i64 (V.1.set V.2.toNat 0)) rfl sc3.size rfl rfl rfl rfl rfl (show V.2.toNat < 8 by omega) (ZNo _ _ _ (show V.2.toNat < 8 by omega)) λgy A=>done (Zq (Zd (Zj (Zo rfl rfl (Za (v:=vI (ZHf.wrap (V.2+1))) rfl (done ?_)))))))
       exact d0 (V.1.set V.2.toNat 0,ZHf.wrap (V.2+1)) _ _ ⟨(slq rfl),A⟩ h
      ·replace h:=Zm h (cf bb);refine ZM9 (Zk (Zk (Zy ?_)))
       refine Zd (sr (Yb A 1 (ZMs .i64 L.1) rfl ag73 rfl rfl rfl (Yl A (ZMs .i64 ZMz) z73 rfl λgz g0 ad A=>Zz (v:=.agg (ZHu (ZMs .i64 L.1))) A 0 (ZMs .i64 L.1) (ZMs .i64 L.1) rfl ag73.size rfl rfl rfl rfl rfl (ZM2 rfl) rfl λg1 A=>dn (sr (Za (v:=vI (B:Int)) rfl (Za (v:=vI (I.1.get B)) rfl (J4 rfl rfl (Xs B ZNh sc3.size rfl rfl (ZNb _) (by omega) (by omega) (Zz (v:=vI (ZHf.wrap ((I.1.get B) - 1))) A 0 [vI (ZHf.wrap ((I.1.get B) - 1))] (ZMs .i64 (L.1.set B (ZHf.wrap ((I.1.get B) - 1)))) rfl sc3.size rfl rfl rfl rfl rfl ae (ZNo _ _ _ ae) λg2 A=>dn (ZMu ?_))))))))))
       refine Zmp 20 Yh [0,0,3,7,0,16,48,112,0,256,768,2047,0,4096,12288,28672,0,0,196608,458752,1048575,2097151] [1,7,9,10,15,17] [3,4,5,6,8,12,13,14,19] (λav aa cj ad=>?_)
       replace A:=A.grow ad;have G:cj.heap.size≤cj.heap.size:=ZEs _;refine Zar (Xc _) 1 (.agg (ZHu (ZMs .i64 (L.1.set B (ZHf.wrap ((I.1.get B) - 1)))))) rfl rfl (by kernel_rfl) (av 1 rfl) (λw_ ad=>.inl ⟨rfl,by exact Xa (A.grow (Zcj ad)) 0 (ZMs .i64 (L.1.set B (ZHf.wrap ((I.1.get B) - 1)))) rfl ag73 rfl rfl rfl⟩) (l9:=(Zb 22 2)) (by kernel_rfl) (bMR (Xc _) 4 (vQ b0) rfl aa (Zb 22 18) (Zr (Xc _) 5 (vQ b0) rfl rfl (by kernel_rfl) (aa 5 rfl) (λw_=>.inl ⟨rfl,by exact J7 rfl⟩) (l9:=(Zb 22 50)) (by kernel_rfl) (Zr (Xc _) 6 (vQ b0) rfl rfl (by kernel_rfl) (aa 6 rfl) (λw_=>.inl ⟨rfl,by exact Yk 0 ZNe rfl sc22.size rfl rfl⟩) (l9:=(Zb 22 114)) (by kernel_rfl) (Zar (Xc _) 7 (u0_0) rfl rfl (by kernel_rfl) (av 7 rfl) (λw_ ad=>.inl ⟨rfl,by exact Zds (u0_0) ((A.grow (Zcj ad)).getP 5 rfl) sc22 rfl rfl⟩) (l9:=(Zb 22 242)) (by kernel_rfl) (bMR (Xc _) 8 (vI (B:Int)) rfl aa (Zb 22 498) (Zar (Xc _) 9 (.pointer (some ⟨ap,B,none⟩)) rfl rfl (by kernel_rfl) (av 9 rfl) (λw_ ad=>.inl ⟨rfl,by exact Zaf B Tryz.underlying211 sc115.size rfl rfl (ZNb _) (by omega) (by omega)⟩) (l9:=(Zb 22 1010)) (by kernel_rfl) ?_))))))
       obtain ⟨ah,d1,h⟩:=h;obtain ⟨ak,d2,cg,d3⟩:=Zv7 (A.getP 1 rfl) d1;replace A:=A.derive 1 rfl (mapS ak ah) (λ_=>d3) (λc_ br=>by obtain rfl:=ZFn.1 br; exact cg)
       refine Zar (Xc _) 10 (.map (some ak)) rfl rfl (by kernel_rfl) (av 10 rfl) (λw_ ad=>.inl ⟨rfl,by exact Yc (A.grow (Zcj ad)) 5 (.map (some ak)) rfl sc115 rfl (Zv9 d2 (by omega))⟩) (l9:=(Zb 22 2034)) (by kernel_rfl) (bMR (Xc _) 12 (vQ b0) rfl aa (Zb 22 6130) (Zr (Xc _) 13 (vQ b0) rfl rfl (by kernel_rfl) (aa 13 rfl) (λw_=>.inl ⟨rfl,by exact J7 rfl⟩) (l9:=(Zb 22 14322)) (by kernel_rfl) (Zr (Xc _) 14 (vQ b0) rfl rfl (by kernel_rfl) (aa 14 rfl) (λw_=>.inl ⟨rfl,by exact Yk 0 ZNe rfl sc22.size rfl rfl⟩) (l9:=(Zb 22 30706)) (by kernel_rfl) (Zar (Xc _) 15 (u0_0) rfl rfl (by kernel_rfl) (av 15 rfl) (λw_ ad=>.inl ⟨rfl,by exact Zds (u0_0) ((A.grow (Zcj ad)).getP 6 rfl) sc22 rfl rfl⟩) (l9:=(Zb 22 63474)) (by kernel_rfl) (Zar (Xc _) 17 (.agg (ZHu (ZMs .i64 V.1))) rfl rfl (by kernel_rfl) (av 17 rfl) (λw_ ad=>.inl ⟨rfl,by exact Xa (A.grow (Zcj ad)) 1 (ZMs .i64 V.1) rfl ag73 rfl rfl rfl⟩) (l9:=(Zb 22 194546)) (by kernel_rfl) ?_)))))
       refine Zdr (λe_ w_=>∃ (a8:Nat),∃ (bh:List (A8×Int)),Zt e_ [(0,vQ b0),(5,.map (some b6)),(6,vQ ap),(7,vQ az),(8,vI I.2),(9,vQ a2),(10,vI L.2.2),(11,vI (B:Int)),(12,vI (I.1.get B)),(16,.map (some a8)),(21,vQ aw),(28,.agg (ZHu (ZMs .i64 I.1))),(29,vI (B:Int))]∧Ctx Nox w0 w_ [mapS a8 bh,blk a2 73 (ZMs .i64 L.1),blk az 73 (ZMs .i64 I.1),itI (kvA .i64) (vvI .i64) aw b1 am an (some ay) a7,blk ap 211 ag,mapS b6 L.2.1] [Zbc b1 am an,ZMt (Zab (kvA .i64) (vvI .i64) 8) a5 ag a6,ZMt ZNg.sl a0.images [u0_1] fp0,ZMt TInts a0.degrees [u0_0] fp0,ZMt TAlg a0 [u0_0,u0_1] fp0,blk b0 32 [u0_0,u0_1],mapS b1 a1]∧(Zc8 (ZHf.wrap ((ZHf.wrap (L.2.2 * I.2)) * (I.1.get B))) (λbi=>Zeu L.2.1 bh bi (λar=>(if(B:Int) < (a0.degrees.length:Int) then((0≤(B:Int)∧(B:Int) < (a0.degrees.length:Int))∧(if ZFl (a0.degrees.getD B ZEu) 2=1 then(if ZFl (I.1.get B) 2=1 then a4 (L.1.set B (I.1.get B),ar,ZHf.wrap (0 - L.2.2)) else a4 (L.1.set B (I.1.get B),ar,L.2.2)) else a4 (L.1.set B (I.1.get B),ar,L.2.2))) else a4 (L.1.set B (I.1.get B),ar,L.2.2)))))) ?_ ?_
       ·clear A h;rintro e_ g3 ⟨a8,bh,aq,A,h⟩;rw [ue aq];refine Zd (Zj (Za (v:=.map (some b6)) rfl (Za (v:=.map (some a8)) rfl (Za (v:=vI L.2.2) rfl (Za (v:=vI I.2) rfl (Zal rfl rfl (Za (v:=vI (I.1.get B)) rfl (Zal rfl rfl (Zf [vI (ZHf.wrap ((ZHf.wrap (L.2.2 * I.2)) * (I.1.get B)))] _ Tryz.func187 rfl rfl rfl (Zmx (ZHf.wrap ((ZHf.wrap (L.2.2 * I.2)) * (I.1.get B))) h _) ?_)))))))))
        rintro _ g4 ⟨bi,rfl,h,d4⟩;refine rt ?_
        replace A:=A.grow d4;refine Zf [.map (some b6),.map (some a8),vI bi] _ Tryz.func165 rfl rfl rfl (Zwq L.2.1 bh bi h _ (A.getM 5 rfl) (λc_ br e_=>A.mm 0 5 rfl rfl (by decide) c_ br (ZFn.2 e_)) (A.getM 0 rfl)) ?_
        rintro _ g5 ⟨ar,rfl,h,d5,d6⟩;refine rt ?_
        replace A:=A.turnB 5 rfl d6 rfl rfl d5;refine dn (sr (Za (v:=vI (B:Int)) rfl (Za (v:=vI (I.1.get B)) rfl (Xs B ZNh sc3.size rfl rfl (ZNb _) (by omega) (by omega) (Zz (v:=vI (I.1.get B)) A 1 [vI (I.1.get B)] (ZMs .i64 (L.1.set B (I.1.get B))) rfl sc3.size rfl rfl rfl rfl rfl ae (ZNo _ _ _ ae) λg6 A=>dn (sr (Za (v:=vI (B:Int)) rfl (Za (v:=vQ b0) rfl (Xf rfl (Zu 0 ZNe rfl sc22.size rfl rfl (Zc2 (u0_0) (A.getP 5 rfl) sc22 rfl rfl (Zw A 3 rfl ZNd rfl (Zn rfl rfl (Za (v:=.bool (decide ((B:Int) < (a0.degrees.length:Int)))) rfl ?_))))))))))))))
        refine Y6 (decide ((B:Int) < (a0.degrees.length:Int))) (λab=>?_) (λab=>?_)
        ·replace h:=ift h (ct ab);refine Zh 7 87 rfl rfl ab (Za (v:=vQ b0) rfl (Zh 7 87 rfl rfl ab (Xf rfl (Zh 7 87 rfl rfl ab (Zu 0 ZNe rfl sc22.size rfl rfl (Zh 7 87 rfl rfl ab (Zc2 (u0_0) (A.getP 5 rfl) sc22 rfl rfl (Zh 7 87 rfl rfl ab (Za (v:=vI (B:Int)) rfl (Zh 7 87 rfl rfl ab ?_))))))))))
         obtain ⟨⟨f6,f7⟩,h⟩:=h;obtain ⟨gf,g7,bs⟩:=Zx (A.getP 3 rfl) B (show B < a0.degrees.length by omega)
         refine Ys (len:=a0.degrees.length) ZNd sc2.size (tr rfl bs) rfl f6 f7 (Zh 7 87 rfl rfl ab (Yr (vI (a0.degrees.getD B ZEu)) (Ye (A.getP 3 rfl) bs B (show B < a0.degrees.length by omega)) sc2 rfl (Zh 7 87 rfl rfl ab (X3 rfl rfl (by decide) (Zh 7 87 rfl rfl ab (Xg rfl rfl (Zs (v:=.bool (decide (ZFl (a0.degrees.getD B ZEu) 2=1))) (b:=true) (tr rfl (congrArg _ ab)) rfl (Za (v:=.bool (decide (ZFl (a0.degrees.getD B ZEu) 2=1))) rfl ?_))))))))
         refine Y6 (decide (ZFl (a0.degrees.getD B ZEu) 2=1)) (λai=>?_) (λai=>?_)
         ·replace h:=ift h (ct ai);refine Zh 18 98 rfl rfl ai (Za (v:=vI (I.1.get B)) rfl (Zh 18 98 rfl rfl ai (X3 rfl rfl (by decide) (Zh 18 98 rfl rfl ai (Xg rfl rfl (Zs (v:=.bool (decide (ZFl (I.1.get B) 2=1))) (b:=true) (tr rfl (congrArg _ ai)) rfl (dn ?_)))))))
          refine Zp rfl (λbc=>?_) (λbc=>?_)
          ·replace h:=ift h (ct bc);refine Zj (Za (v:=vI L.2.2) rfl (Zjq rfl (Zc (v:=vI (ZHf.wrap (0 - L.2.2))) rfl (done (Zq (Zd (Zj (Zo rfl rfl (Za (v:=vI (ZHf.wrap ((B:Int)+1))) rfl (done ?_))))))))))
           exact ao (L.1.set B (I.1.get B),ar,ZHf.wrap (0 - L.2.2)) _ _ ⟨(sl ⟨rfl,rfl,rfl,rfl,rfl,rfl,rfl,rfl,rfl,(tr rfl (congrArg _ (Z7 ae (by decide)))),trivial⟩),(A.xM [1,2,3,4,5] rfl)⟩ h
          ·replace h:=Zm h (cf bc);refine ZMy (Zq (Zd (Zj (Zo rfl rfl (Za (v:=vI (ZHf.wrap ((B:Int)+1))) rfl (done ?_))))))
           exact ao (L.1.set B (I.1.get B),ar,L.2.2) _ _ ⟨(sl ⟨rfl,rfl,rfl,rfl,rfl,rfl,rfl,rfl,rfl,(tr rfl (congrArg _ (Z7 ae (by decide)))),trivial⟩),(A.xM [1,2,3,4,5] rfl)⟩ h
         ·replace h:=Zm h (cf ai);refine Zg (b:=false) 18 98 rfl (tr rfl (congrArg _ ai)) (by decide) (Zg (b:=false) 18 98 rfl (tr rfl (congrArg _ ai)) (by decide) (Zg (b:=false) 18 98 rfl (tr rfl (congrArg _ ai)) (by decide) (Zs (v:=.bool false) (b:=false) (tr rfl (congrArg _ ai)) rfl (dn (Z2 rfl rfl (ZMy (Zq (Zd (Zj (Zo rfl rfl (Za (v:=vI (ZHf.wrap ((B:Int)+1))) rfl (done ?_))))))))))))
          exact ao (L.1.set B (I.1.get B),ar,L.2.2) _ _ ⟨(sl ⟨rfl,rfl,rfl,rfl,rfl,rfl,rfl,rfl,rfl,(tr rfl (congrArg _ (Z7 ae (by decide)))),trivial⟩),(A.xM [1,2,3,4,5] rfl)⟩ h
        ·replace h:=Zm h (cf ab);refine Zg (b:=false) 7 87 rfl (tr rfl (congrArg _ ab)) (by decide) (Zg (b:=false) 7 87 rfl (tr rfl (congrArg _ ab)) (by decide) (Zg (b:=false) 7 87 rfl (tr rfl (congrArg _ ab)) (by decide) (Zg (b:=false) 7 87 rfl (tr rfl (congrArg _ ab)) (by decide) (Zg (b:=false) 7 87 rfl (tr rfl (congrArg _ ab)) (by decide) (Zg (b:=false) 7 87 rfl (tr rfl (congrArg _ ab)) (by decide) (Zg (b:=false) 7 87 rfl (tr rfl (congrArg _ ab)) (by decide) (Zg (b:=false) 7 87 rfl (tr rfl (congrArg _ ab)) (by decide) (Zg (b:=false) 7 87 rfl (tr rfl (congrArg _ ab)) (by decide) (Zs (v:=.bool false) (b:=false) (tr rfl (congrArg _ ab)) rfl (Za (v:=.bool false) rfl (Zg (b:=false) 18 98 rfl (tr rfl (congrArg _ rfl)) (by decide) (Zg (b:=false) 18 98 rfl (tr rfl (congrArg _ rfl)) (by decide) (Zg (b:=false) 18 98 rfl (tr rfl (congrArg _ rfl)) (by decide) (Zs (v:=.bool false) (b:=false) rfl rfl (dn (Z2 rfl rfl (ZMy (Zq (Zd (Zj (Zo rfl rfl (Za (v:=vI (ZHf.wrap ((B:Int)+1))) rfl (done ?_)))))))))))))))))))))))
         exact ao (L.1.set B (I.1.get B),ar,L.2.2) _ _ ⟨(sl ⟨rfl,rfl,rfl,rfl,rfl,rfl,rfl,rfl,rfl,(tr rfl (congrArg _ (Z7 ae (by decide)))),trivial⟩),(A.xM [1,2,3,4,5] rfl)⟩ h
       refine Jy 0 16 rfl rfl (by kernel_rfl) ?_ ?_
       ·skip;refine Zdx A (kvA .i64) (vvI .i64) λau g8 al ad A=>?_
        have hnb_b12975:=ZEv G al;refine done ?_
        refine Xb (Ji G (by assumption)) G (l9:=(Zb 22 194547)) (by kernel_rfl) (λG=>?_)
        refine Jy 2 16 rfl rfl (by kernel_rfl) ?_ ?_
        ·skip;refine Zam A 0 (L.1.set B (ZHf.wrap ((I.1.get B) - 1))) 1 rfl Jt ZNs rfl rfl rfl (λg9 O A=>?_) (.inr rfl)
         refine done ?_
         refine Xb (Zac G hnb_b12975 O) G (l9:=(Zb 22 194551)) (by kernel_rfl) (λG=>?_)
         refine bMR (Xc _) 3 (.map (some au)) rfl aa (Zb 22 194559) ?_
         refine Jy 11 16 rfl rfl (by kernel_rfl) ?_ ?_
         ·skip;refine Zf [.map (some au),u0_0,.map (some ak)] _ ZPx rfl rfl rfl (J5 (Yo ([]:List (A8×Int)) (L.1.set B (ZHf.wrap ((I.1.get B) - 1))) 1) a0.degrees ah h _ (A.getM 0 rfl) (A.getP 4 rfl) (A.getP 0 rfl)) ?_
          rintro _ ha ⟨ck,cl,rfl,h,d7,d8,d9⟩;refine rt ?_
          replace A:=A.push d9 (mapS cl ck) d7 (λb_ U=>by obtain rfl:=ZFn.1 U; exact d8)
          refine done ?_
          refine Xb (Ji G (by assumption)) G (l9:=(Zb 22 196607)) (by kernel_rfl) (λG=>?_)
          refine aO 16 rfl (Zdx A (kvA .i64) (vvI .i64) λcm hc al ad A=>?_)
          have hnb_b12988:=ZEv G al;refine done ?_
          refine Xb (Ji G (by assumption)) G (l9:=(Zb 22 262143)) (by kernel_rfl) (λG=>?_)
          refine aO 18 rfl ?_
          refine Zam A 0 V.1 1 rfl Jt ZNs rfl rfl rfl (λhe O A=>?_) (.inr rfl)
          refine done ?_
          refine Xb (Zac G hnb_b12988 O) G (l9:=(Zb 22 524287)) (by kernel_rfl) (λG=>?_)
          refine bMR (Xc _) 19 (.map (some cm)) rfl aa (Zb 22 1048575) (Z0 20 (by decide) (by decide) (by kernel_rfl) (by kernel_rfl) rfl (Zf [.map (some cl),u0_0,.map (some cm)] _ ZPx rfl rfl rfl (J5 ck a0.degrees (Yo ([]:List (A8×Int)) V.1 1) h _ (A.getM 1 rfl) (A.getP 4 rfl) (A.getM 0 rfl)) ?_))
          rintro _ hf ⟨cn,bt,rfl,h,ea,eb,ec⟩;refine rt ?_
          replace A:=A.push ec (mapS bt cn) ea (λb_ U=>by obtain rfl:=ZFn.1 U; exact eb)
          refine Zc (v:=.map (some bt)) rfl (done (Z1 ?_))
          exact⟨rfl,_,rfl,⟨bt,cn,(slq rfl),((A.xM [0,6,7,8,9,10] rfl).sP [1,2,3,4,5,6,7] rfl),h⟩⟩
         ·skip;refine Zdx A (kvA .i64) (vvI .i64) λbj hg al ad A=>?_
          have hnb_b13001:=ZEv G al;refine done ?_
          refine Xb (Ji G (by assumption)) G (l9:=(Zb 22 260095)) (by kernel_rfl) (λG=>?_)
          refine Jy 11 18 rfl rfl (by kernel_rfl) ?_ ?_
          ·skip;refine Zf [.map (some au),u0_0,.map (some ak)] _ ZPx rfl rfl rfl (J5 (Yo ([]:List (A8×Int)) (L.1.set B (ZHf.wrap ((I.1.get B) - 1))) 1) a0.degrees ah h _ (A.getM 1 rfl) (A.getP 4 rfl) (A.getP 0 rfl)) ?_
           rintro _ hh ⟨cp,cq,rfl,h,ed,ee,ef⟩;refine rt ?_
           replace A:=A.push ef (mapS cq cp) ed (λb_ U=>by obtain rfl:=ZFn.1 U; exact ee)
           refine done ?_
           refine Xb (Ji G (by assumption)) G (l9:=(Zb 22 262143)) (by kernel_rfl) (λG=>?_)
           refine aO 18 rfl ?_
           refine Zam A 1 V.1 1 rfl Jt ZNs rfl rfl rfl (λhk O A=>?_) (.inr rfl)
           refine done ?_
           refine Xb (Zac G hnb_b13001 O) G (l9:=(Zb 22 524287)) (by kernel_rfl) (λG=>?_)
           refine bMR (Xc _) 19 (.map (some bj)) rfl aa (Zb 22 1048575) (Z0 20 (by decide) (by decide) (by kernel_rfl) (by kernel_rfl) rfl (Zf [.map (some cq),u0_0,.map (some bj)] _ ZPx rfl rfl rfl (J5 cp a0.degrees (Yo ([]:List (A8×Int)) V.1 1) h _ (A.getM 0 rfl) (A.getP 4 rfl) (A.getM 1 rfl)) ?_))
           rintro _ hl ⟨cr,bu,rfl,h,eg,eh,ei⟩;refine rt ?_
           replace A:=A.push ei (mapS bu cr) eg (λb_ U=>by obtain rfl:=ZFn.1 U; exact eh)
           refine Zc (v:=.map (some bu)) rfl (done (Z1 ?_))
           exact⟨rfl,_,rfl,⟨bu,cr,(slq rfl),((A.xM [0,6,7,8,9,10] rfl).sP [1,2,3,4,5,6,7] rfl),h⟩⟩
          ·skip;refine Zam A 0 V.1 1 rfl Jt ZNs rfl rfl rfl (λhm O A=>?_) (.inr rfl)
           refine done ?_
           refine Xb (Zac G hnb_b13001 O) G (l9:=(Zb 22 522239)) (by kernel_rfl) (λG=>?_)
           refine bMR (Xc _) 19 (.map (some bj)) rfl aa (Zb 22 1046527) (aO 11 rfl (Zf [.map (some au),u0_0,.map (some ak)] _ ZPx rfl rfl rfl (J5 (Yo ([]:List (A8×Int)) (L.1.set B (ZHf.wrap ((I.1.get B) - 1))) 1) a0.degrees ah h _ (A.getM 1 rfl) (A.getP 4 rfl) (A.getP 0 rfl)) ?_))
           rintro _ hn ⟨cu,cv,rfl,h,ej,ek,en⟩;refine rt ?_
           replace A:=A.push en (mapS cv cu) ej (λb_ U=>by obtain rfl:=ZFn.1 U; exact ek)
           refine done ?_
           refine Xb (Ji G (by assumption)) G (l9:=(Zb 22 1048575)) (by kernel_rfl) (λG=>?_)
           refine Z0 20 (by decide) (by decide) (by kernel_rfl) (by kernel_rfl) rfl (Zf [.map (some cv),u0_0,.map (some bj)] _ ZPx rfl rfl rfl (J5 cu a0.degrees (Yo ([]:List (A8×Int)) V.1 1) h _ (A.getM 0 rfl) (A.getP 4 rfl) (A.getM 1 rfl)) ?_)
           rintro _ ho ⟨cw,bv,rfl,h,eo,ep,er⟩;refine rt ?_
           replace A:=A.push er (mapS bv cw) eo (λb_ U=>by obtain rfl:=ZFn.1 U; exact ep)
           refine Zc (v:=.map (some bv)) rfl (done (Z1 ?_))
           exact⟨rfl,_,rfl,⟨bv,cw,(slq rfl),((A.xM [0,6,7,8,9,10] rfl).sP [1,2,3,4,5,6,7] rfl),h⟩⟩
        ·skip;refine Zdx A (kvA .i64) (vvI .i64) λa3 hp al ad A=>?_
         have hnb_b13042:=ZEv G al;refine done ?_
         refine Xb (Ji G (by assumption)) G (l9:=(Zb 22 260083)) (by kernel_rfl) (λG=>?_)
         refine Jy 2 18 rfl rfl (by kernel_rfl) ?_ ?_
         ·skip;refine Zam A 1 (L.1.set B (ZHf.wrap ((I.1.get B) - 1))) 1 rfl Jt ZNs rfl rfl rfl (λhq O A=>?_) (.inr rfl)
          refine done ?_
          refine Xb (Zac G hnb_b12975 O) G (l9:=(Zb 22 260087)) (by kernel_rfl) (λG=>?_)
          refine bMR (Xc _) 3 (.map (some au)) rfl aa (Zb 22 260095) ?_
          refine Jy 11 18 rfl rfl (by kernel_rfl) ?_ ?_
          ·skip;refine Zf [.map (some au),u0_0,.map (some ak)] _ ZPx rfl rfl rfl (J5 (Yo ([]:List (A8×Int)) (L.1.set B (ZHf.wrap ((I.1.get B) - 1))) 1) a0.degrees ah h _ (A.getM 1 rfl) (A.getP 4 rfl) (A.getP 0 rfl)) ?_
           rintro _ hr ⟨cx,cy,rfl,h,es,et,eu⟩;refine rt ?_
           replace A:=A.push eu (mapS cy cx) es (λb_ U=>by obtain rfl:=ZFn.1 U; exact et)
           refine done ?_
           refine Xb (Ji G (by assumption)) G (l9:=(Zb 22 262143)) (by kernel_rfl) (λG=>?_)
           refine aO 18 rfl ?_
           refine Zam A 1 V.1 1 rfl Jt ZNs rfl rfl rfl (λhs O A=>?_) (.inr rfl)
           refine done ?_
           refine Xb (Zac G hnb_b13042 O) G (l9:=(Zb 22 524287)) (by kernel_rfl) (λG=>?_)
           refine bMR (Xc _) 19 (.map (some a3)) rfl aa (Zb 22 1048575) (Z0 20 (by decide) (by decide) (by kernel_rfl) (by kernel_rfl) rfl (Zf [.map (some cy),u0_0,.map (some a3)] _ ZPx rfl rfl rfl (J5 cx a0.degrees (Yo ([]:List (A8×Int)) V.1 1) h _ (A.getM 0 rfl) (A.getP 4 rfl) (A.getM 1 rfl)) ?_))
           rintro _ ht ⟨cz,bw,rfl,h,ew,ex,ey⟩;refine rt ?_
           replace A:=A.push ey (mapS bw cz) ew (λb_ U=>by obtain rfl:=ZFn.1 U; exact ex)
           refine Zc (v:=.map (some bw)) rfl (done (Z1 ?_))
           exact⟨rfl,_,rfl,⟨bw,cz,(slq rfl),((A.xM [0,6,7,8,9,10] rfl).sP [1,2,3,4,5,6,7] rfl),h⟩⟩
          ·skip;refine Zam A 0 V.1 1 rfl Jt ZNs rfl rfl rfl (λhu O A=>?_) (.inr rfl)
           refine done ?_
           refine Xb (Zac G hnb_b13042 O) G (l9:=(Zb 22 522239)) (by kernel_rfl) (λG=>?_)
           refine bMR (Xc _) 19 (.map (some a3)) rfl aa (Zb 22 1046527) (aO 11 rfl (Zf [.map (some au),u0_0,.map (some ak)] _ ZPx rfl rfl rfl (J5 (Yo ([]:List (A8×Int)) (L.1.set B (ZHf.wrap ((I.1.get B) - 1))) 1) a0.degrees ah h _ (A.getM 1 rfl) (A.getP 4 rfl) (A.getP 0 rfl)) ?_))
           rintro _ hv ⟨c0,c6,rfl,h,ez,e1,e2⟩;refine rt ?_
           replace A:=A.push e2 (mapS c6 c0) ez (λb_ U=>by obtain rfl:=ZFn.1 U; exact e1)
           refine done ?_
           refine Xb (Ji G (by assumption)) G (l9:=(Zb 22 1048575)) (by kernel_rfl) (λG=>?_)
           refine Z0 20 (by decide) (by decide) (by kernel_rfl) (by kernel_rfl) rfl (Zf [.map (some c6),u0_0,.map (some a3)] _ ZPx rfl rfl rfl (J5 c0 a0.degrees (Yo ([]:List (A8×Int)) V.1 1) h _ (A.getM 0 rfl) (A.getP 4 rfl) (A.getM 1 rfl)) ?_)
           rintro _ hw ⟨c7,bx,rfl,h,e3,e4,e5⟩;refine rt ?_
           replace A:=A.push e5 (mapS bx c7) e3 (λb_ U=>by obtain rfl:=ZFn.1 U; exact e4)
           refine Zc (v:=.map (some bx)) rfl (done (Z1 ?_))
           exact⟨rfl,_,rfl,⟨bx,c7,(slq rfl),((A.xM [0,6,7,8,9,10] rfl).sP [1,2,3,4,5,6,7] rfl),h⟩⟩
         ·skip;refine Zam A 0 V.1 1 rfl Jt ZNs rfl rfl rfl (λhx O A=>?_) (.inr rfl)
          refine done ?_
          refine Xb (Zac G hnb_b13042 O) G (l9:=(Zb 22 522227)) (by kernel_rfl) (λG=>?_)
          refine bMR (Xc _) 19 (.map (some a3)) rfl aa (Zb 22 1046515) (aO 2 rfl ?_)
          refine Zam A 1 (L.1.set B (ZHf.wrap ((I.1.get B) - 1))) 1 rfl Jt ZNs rfl rfl rfl (λhy O A=>?_) (.inr rfl)
          refine done ?_
          refine Xb (Zac G hnb_b12975 O) G (l9:=(Zb 22 1046519)) (by kernel_rfl) (λG=>?_)
          refine bMR (Xc _) 3 (.map (some au)) rfl aa (Zb 22 1046527) (aO 11 rfl (Zf [.map (some au),u0_0,.map (some ak)] _ ZPx rfl rfl rfl (J5 (Yo ([]:List (A8×Int)) (L.1.set B (ZHf.wrap ((I.1.get B) - 1))) 1) a0.degrees ah h _ (A.getM 1 rfl) (A.getP 4 rfl) (A.getP 0 rfl)) ?_))
          rintro _ hz ⟨c8,c9,rfl,h,e6,e7,e8⟩;refine rt ?_
          replace A:=A.push e8 (mapS c9 c8) e6 (λb_ U=>by obtain rfl:=ZFn.1 U; exact e7)
          refine done ?_
          refine Xb (Ji G (by assumption)) G (l9:=(Zb 22 1048575)) (by kernel_rfl) (λG=>?_)
          refine Z0 20 (by decide) (by decide) (by kernel_rfl) (by kernel_rfl) rfl (Zf [.map (some c9),u0_0,.map (some a3)] _ ZPx rfl rfl rfl (J5 c8 a0.degrees (Yo ([]:List (A8×Int)) V.1 1) h _ (A.getM 0 rfl) (A.getP 4 rfl) (A.getM 1 rfl)) ?_)
          rintro _ h0 ⟨da,bz,rfl,h,e9,fa,fb⟩;refine rt ?_
          replace A:=A.push fb (mapS bz da) e9 (λb_ U=>by obtain rfl:=ZFn.1 U; exact fa)
          refine Zc (v:=.map (some bz)) rfl (done (Z1 ?_))
          exact⟨rfl,_,rfl,⟨bz,da,(slq rfl),((A.xM [0,6,7,8,9,10] rfl).sP [1,2,3,4,5,6,7] rfl),h⟩⟩
       ·skip;refine Zdx A (kvA .i64) (vvI .i64) λax h1 al ad A=>?_
        have hnb_b13104:=ZEv G al;refine done ?_
        refine Xb (Ji G (by assumption)) G (l9:=(Zb 22 260082)) (by kernel_rfl) (λG=>?_)
        refine Jy 0 18 rfl rfl (by kernel_rfl) ?_ ?_
        ·skip;refine Zdx A (kvA .i64) (vvI .i64) λa9 h2 al ad A=>?_
         have hnb_b13107:=ZEv G al;refine done ?_
         refine Xb (Ji G (by assumption)) G (l9:=(Zb 22 260083)) (by kernel_rfl) (λG=>?_)
         refine Jy 2 18 rfl rfl (by kernel_rfl) ?_ ?_
         ·skip;refine Zam A 0 (L.1.set B (ZHf.wrap ((I.1.get B) - 1))) 1 rfl Jt ZNs rfl rfl rfl (λh3 O A=>?_) (.inr rfl)
          refine done ?_
          refine Xb (Zac G hnb_b13107 O) G (l9:=(Zb 22 260087)) (by kernel_rfl) (λG=>?_)
          refine bMR (Xc _) 3 (.map (some a9)) rfl aa (Zb 22 260095) ?_
          refine Jy 11 18 rfl rfl (by kernel_rfl) ?_ ?_
          ·skip;refine Zf [.map (some a9),u0_0,.map (some ak)] _ ZPx rfl rfl rfl (J5 (Yo ([]:List (A8×Int)) (L.1.set B (ZHf.wrap ((I.1.get B) - 1))) 1) a0.degrees ah h _ (A.getM 0 rfl) (A.getP 4 rfl) (A.getP 0 rfl)) ?_
           rintro _ h4 ⟨db,dc,rfl,h,fc,fd,fe⟩;refine rt ?_
           replace A:=A.push fe (mapS dc db) fc (λb_ U=>by obtain rfl:=ZFn.1 U; exact fd)
           refine done ?_
           refine Xb (Ji G (by assumption)) G (l9:=(Zb 22 262143)) (by kernel_rfl) (λG=>?_)
           refine aO 18 rfl ?_
           refine Zam A 2 V.1 1 rfl Jt ZNs rfl rfl rfl (λh5 O A=>?_) (.inr rfl)
           refine done ?_
           refine Xb (Zac G hnb_b13104 O) G (l9:=(Zb 22 524287)) (by kernel_rfl) (λG=>?_)
           refine bMR (Xc _) 19 (.map (some ax)) rfl aa (Zb 22 1048575) (Z0 20 (by decide) (by decide) (by kernel_rfl) (by kernel_rfl) rfl (Zf [.map (some dc),u0_0,.map (some ax)] _ ZPx rfl rfl rfl (J5 db a0.degrees (Yo ([]:List (A8×Int)) V.1 1) h _ (A.getM 0 rfl) (A.getP 4 rfl) (A.getM 2 rfl)) ?_))
           rintro _ h6 ⟨dd,b8,rfl,h,ff,fg,fh⟩;refine rt ?_
           replace A:=A.push fh (mapS b8 dd) ff (λb_ U=>by obtain rfl:=ZFn.1 U; exact fg)
           refine Zc (v:=.map (some b8)) rfl (done (Z1 ?_))
           exact⟨rfl,_,rfl,⟨b8,dd,(slq rfl),((A.xM [0,6,7,8,9,10] rfl).sP [1,2,3,4,5,6,7] rfl),h⟩⟩
          ·skip;refine Zam A 1 V.1 1 rfl Jt ZNs rfl rfl rfl (λh7 O A=>?_) (.inr rfl)
           refine done ?_
           refine Xb (Zac G hnb_b13104 O) G (l9:=(Zb 22 522239)) (by kernel_rfl) (λG=>?_)
           refine bMR (Xc _) 19 (.map (some ax)) rfl aa (Zb 22 1046527) (aO 11 rfl (Zf [.map (some a9),u0_0,.map (some ak)] _ ZPx rfl rfl rfl (J5 (Yo ([]:List (A8×Int)) (L.1.set B (ZHf.wrap ((I.1.get B) - 1))) 1) a0.degrees ah h _ (A.getM 0 rfl) (A.getP 4 rfl) (A.getP 0 rfl)) ?_))
           rintro _ h8 ⟨de,dh,rfl,h,fi,fj,fk⟩;refine rt ?_
           replace A:=A.push fk (mapS dh de) fi (λb_ U=>by obtain rfl:=ZFn.1 U; exact fj)
           refine done ?_
           refine Xb (Ji G (by assumption)) G (l9:=(Zb 22 1048575)) (by kernel_rfl) (λG=>?_)
           refine Z0 20 (by decide) (by decide) (by kernel_rfl) (by kernel_rfl) rfl (Zf [.map (some dh),u0_0,.map (some ax)] _ ZPx rfl rfl rfl (J5 de a0.degrees (Yo ([]:List (A8×Int)) V.1 1) h _ (A.getM 0 rfl) (A.getP 4 rfl) (A.getM 2 rfl)) ?_)
           rintro _ h9 ⟨di,b9,rfl,h,fl,fm,fo⟩;refine rt ?_
           replace A:=A.push fo (mapS b9 di) fl (λb_ U=>by obtain rfl:=ZFn.1 U; exact fm)
           refine Zc (v:=.map (some b9)) rfl (done (Z1 ?_))
           exact⟨rfl,_,rfl,⟨b9,di,(slq rfl),((A.xM [0,6,7,8,9,10] rfl).sP [1,2,3,4,5,6,7] rfl),h⟩⟩
         ·skip;refine Zam A 1 V.1 1 rfl Jt ZNs rfl rfl rfl (λia O A=>?_) (.inr rfl)
          refine done ?_
          refine Xb (Zac G hnb_b13104 O) G (l9:=(Zb 22 522227)) (by kernel_rfl) (λG=>?_)
          refine bMR (Xc _) 19 (.map (some ax)) rfl aa (Zb 22 1046515) (aO 2 rfl ?_)
          refine Zam A 0 (L.1.set B (ZHf.wrap ((I.1.get B) - 1))) 1 rfl Jt ZNs rfl rfl rfl (λib O A=>?_) (.inr rfl)
          refine done ?_
          refine Xb (Zac G hnb_b13107 O) G (l9:=(Zb 22 1046519)) (by kernel_rfl) (λG=>?_)
          refine bMR (Xc _) 3 (.map (some a9)) rfl aa (Zb 22 1046527) (aO 11 rfl (Zf [.map (some a9),u0_0,.map (some ak)] _ ZPx rfl rfl rfl (J5 (Yo ([]:List (A8×Int)) (L.1.set B (ZHf.wrap ((I.1.get B) - 1))) 1) a0.degrees ah h _ (A.getM 0 rfl) (A.getP 4 rfl) (A.getP 0 rfl)) ?_))
          rintro _ ic ⟨dj,dk,rfl,h,fq,fr,fs⟩;refine rt ?_
          replace A:=A.push fs (mapS dk dj) fq (λb_ U=>by obtain rfl:=ZFn.1 U; exact fr)
          refine done ?_
          refine Xb (Ji G (by assumption)) G (l9:=(Zb 22 1048575)) (by kernel_rfl) (λG=>?_)
          refine Z0 20 (by decide) (by decide) (by kernel_rfl) (by kernel_rfl) rfl (Zf [.map (some dk),u0_0,.map (some ax)] _ ZPx rfl rfl rfl (J5 dj a0.degrees (Yo ([]:List (A8×Int)) V.1 1) h _ (A.getM 0 rfl) (A.getP 4 rfl) (A.getM 2 rfl)) ?_)
          rintro _ ie ⟨dm,ca,rfl,h,ft,fu,fv⟩;refine rt ?_
          replace A:=A.push fv (mapS ca dm) ft (λb_ U=>by obtain rfl:=ZFn.1 U; exact fu)
          refine Zc (v:=.map (some ca)) rfl (done (Z1 ?_))
          exact⟨rfl,_,rfl,⟨ca,dm,(slq rfl),((A.xM [0,6,7,8,9,10] rfl).sP [1,2,3,4,5,6,7] rfl),h⟩⟩
        ·skip;refine Zam A 0 V.1 1 rfl Jt ZNs rfl rfl rfl (λig O A=>?_) (.inr rfl)
         refine done ?_
         refine Xb (Zac G hnb_b13104 O) G (l9:=(Zb 22 522226)) (by kernel_rfl) (λG=>?_)
         refine bMR (Xc _) 19 (.map (some ax)) rfl aa (Zb 22 1046514) (aO 0 rfl (Zdx A (kvA .i64) (vvI .i64) λdp ih al ad A=>?_))
         have hnb_b13170:=ZEv G al;refine done ?_
         refine Xb (Ji G (by assumption)) G (l9:=(Zb 22 1046515)) (by kernel_rfl) (λG=>?_)
         refine aO 2 rfl ?_
         refine Zam A 0 (L.1.set B (ZHf.wrap ((I.1.get B) - 1))) 1 rfl Jt ZNs rfl rfl rfl (λii O A=>?_) (.inr rfl)
         refine done ?_
         refine Xb (Zac G hnb_b13170 O) G (l9:=(Zb 22 1046519)) (by kernel_rfl) (λG=>?_)
         refine bMR (Xc _) 3 (.map (some dp)) rfl aa (Zb 22 1046527) (aO 11 rfl (Zf [.map (some dp),u0_0,.map (some ak)] _ ZPx rfl rfl rfl (J5 (Yo ([]:List (A8×Int)) (L.1.set B (ZHf.wrap ((I.1.get B) - 1))) 1) a0.degrees ah h _ (A.getM 0 rfl) (A.getP 4 rfl) (A.getP 0 rfl)) ?_))
         rintro _ ij ⟨dq,dr,rfl,h,fw,fx,fy⟩;refine rt ?_
         replace A:=A.push fy (mapS dr dq) fw (λb_ U=>by obtain rfl:=ZFn.1 U; exact fx)
         refine done ?_
         refine Xb (Ji G (by assumption)) G (l9:=(Zb 22 1048575)) (by kernel_rfl) (λG=>?_)
         refine Z0 20 (by decide) (by decide) (by kernel_rfl) (by kernel_rfl) rfl (Zf [.map (some dr),u0_0,.map (some ax)] _ ZPx rfl rfl rfl (J5 dq a0.degrees (Yo ([]:List (A8×Int)) V.1 1) h _ (A.getM 0 rfl) (A.getP 4 rfl) (A.getM 2 rfl)) ?_)
         rintro _ il ⟨dt,cb,rfl,h,fz,f0,f1⟩;refine rt ?_
         replace A:=A.push f1 (mapS cb dt) fz (λb_ U=>by obtain rfl:=ZFn.1 U; exact f0)
         refine Zc (v:=.map (some cb)) rfl (done (Z1 ?_))
         exact⟨rfl,_,rfl,⟨cb,dt,(slq rfl),((A.xM [0,6,7,8,9,10] rfl).sP [1,2,3,4,5,6,7] rfl),h⟩⟩
     ·skip;exact⟨(slq rfl),A⟩
    ·replace h:=Zm h (cf ba);refine ZMy (Zd (sr (Za (v:=vI (B:Int)) rfl (Za (v:=vI (I.1.get B)) rfl (Xs B ZNh sc3.size rfl rfl (ZNb _) (by omega) (by omega) (Zz (v:=vI (I.1.get B)) A 0 [vI (I.1.get B)] (ZMs .i64 (L.1.set B (I.1.get B))) rfl sc3.size rfl rfl rfl rfl rfl ae (ZNo _ _ _ ae) λim A=>dn (sr (Za (v:=vI (B:Int)) rfl (Za (v:=vQ b0) rfl (Xf rfl (Zu 0 ZNe rfl sc22.size rfl rfl (Zc2 (u0_0) (A.getP 5 rfl) sc22 rfl rfl (Zw A 3 rfl ZNd rfl (Zn rfl rfl (Za (v:=.bool (decide ((B:Int) < (a0.degrees.length:Int)))) rfl ?_)))))))))))))))
     refine Y6 (decide ((B:Int) < (a0.degrees.length:Int))) (λac=>?_) (λac=>?_)
     ·replace h:=ift h (ct ac);refine Zh 7 87 rfl rfl ac (Za (v:=vQ b0) rfl (Zh 7 87 rfl rfl ac (Xf rfl (Zh 7 87 rfl rfl ac (Zu 0 ZNe rfl sc22.size rfl rfl (Zh 7 87 rfl rfl ac (Zc2 (u0_0) (A.getP 5 rfl) sc22 rfl rfl (Zh 7 87 rfl rfl ac (Za (v:=vI (B:Int)) rfl (Zh 7 87 rfl rfl ac ?_))))))))))
      obtain ⟨⟨f8,f9⟩,h⟩:=h;obtain ⟨gg,io,cc⟩:=Zx (A.getP 3 rfl) B (show B < a0.degrees.length by omega)
      refine Ys (len:=a0.degrees.length) ZNd sc2.size (tr rfl cc) rfl f8 f9 (Zh 7 87 rfl rfl ac (Yr (vI (a0.degrees.getD B ZEu)) (Ye (A.getP 3 rfl) cc B (show B < a0.degrees.length by omega)) sc2 rfl (Zh 7 87 rfl rfl ac (X3 rfl rfl (by decide) (Zh 7 87 rfl rfl ac (Xg rfl rfl (Zs (v:=.bool (decide (ZFl (a0.degrees.getD B ZEu) 2=1))) (b:=true) (tr rfl (congrArg _ ac)) rfl (Za (v:=.bool (decide (ZFl (a0.degrees.getD B ZEu) 2=1))) rfl ?_))))))))
      refine Y6 (decide (ZFl (a0.degrees.getD B ZEu) 2=1)) (λaj=>?_) (λaj=>?_)
      ·replace h:=ift h (ct aj);refine Zh 18 98 rfl rfl aj (Za (v:=vI (I.1.get B)) rfl (Zh 18 98 rfl rfl aj (X3 rfl rfl (by decide) (Zh 18 98 rfl rfl aj (Xg rfl rfl (Zs (v:=.bool (decide (ZFl (I.1.get B) 2=1))) (b:=true) (tr rfl (congrArg _ aj)) rfl (dn ?_)))))))
       refine Zp rfl (λbd=>?_) (λbd=>?_)
       ·replace h:=ift h (ct bd);refine Zj (Za (v:=vI L.2.2) rfl (Zjq rfl (Zc (v:=vI (ZHf.wrap (0 - L.2.2))) rfl (done (Zq (Zd (Zj (Zo rfl rfl (Za (v:=vI (ZHf.wrap ((B:Int)+1))) rfl (done ?_))))))))))
        exact ao (L.1.set B (I.1.get B),L.2.1,ZHf.wrap (0 - L.2.2)) _ _ ⟨(sl ⟨rfl,rfl,rfl,rfl,rfl,rfl,rfl,rfl,rfl,(tr rfl (congrArg _ (Z7 ae (by decide)))),trivial⟩),A⟩ h
       ·replace h:=Zm h (cf bd);refine ZMy (Zq (Zd (Zj (Zo rfl rfl (Za (v:=vI (ZHf.wrap ((B:Int)+1))) rfl (done ?_))))))
        exact ao (L.1.set B (I.1.get B),L.2.1,L.2.2) _ _ ⟨(sl ⟨rfl,rfl,rfl,rfl,rfl,rfl,rfl,rfl,rfl,(tr rfl (congrArg _ (Z7 ae (by decide)))),trivial⟩),A⟩ h
      ·replace h:=Zm h (cf aj);refine Zg (b:=false) 18 98 rfl (tr rfl (congrArg _ aj)) (by decide) (Zg (b:=false) 18 98 rfl (tr rfl (congrArg _ aj)) (by decide) (Zg (b:=false) 18 98 rfl (tr rfl (congrArg _ aj)) (by decide) (Zs (v:=.bool false) (b:=false) (tr rfl (congrArg _ aj)) rfl (dn (Z2 rfl rfl (ZMy (Zq (Zd (Zj (Zo rfl rfl (Za (v:=vI (ZHf.wrap ((B:Int)+1))) rfl (done ?_))))))))))))
       exact ao (L.1.set B (I.1.get B),L.2.1,L.2.2) _ _ ⟨(sl ⟨rfl,rfl,rfl,rfl,rfl,rfl,rfl,rfl,rfl,(tr rfl (congrArg _ (Z7 ae (by decide)))),trivial⟩),A⟩ h
     ·replace h:=Zm h (cf ac);refine Zg (b:=false) 7 87 rfl (tr rfl (congrArg _ ac)) (by decide) (Zg (b:=false) 7 87 rfl (tr rfl (congrArg _ ac)) (by decide) (Zg (b:=false) 7 87 rfl (tr rfl (congrArg _ ac)) (by decide) (Zg (b:=false) 7 87 rfl (tr rfl (congrArg _ ac)) (by decide) (Zg (b:=false) 7 87 rfl (tr rfl (congrArg _ ac)) (by decide) (Zg (b:=false) 7 87 rfl (tr rfl (congrArg _ ac)) (by decide) (Zg (b:=false) 7 87 rfl (tr rfl (congrArg _ ac)) (by decide) (Zg (b:=false) 7 87 rfl (tr rfl (congrArg _ ac)) (by decide) (Zg (b:=false) 7 87 rfl (tr rfl (congrArg _ ac)) (by decide) (Zs (v:=.bool false) (b:=false) (tr rfl (congrArg _ ac)) rfl (Za (v:=.bool false) rfl (Zg (b:=false) 18 98 rfl (tr rfl (congrArg _ rfl)) (by decide) (Zg (b:=false) 18 98 rfl (tr rfl (congrArg _ rfl)) (by decide) (Zg (b:=false) 18 98 rfl (tr rfl (congrArg _ rfl)) (by decide) (Zs (v:=.bool false) (b:=false) rfl rfl (dn (Z2 rfl rfl (ZMy (Zq (Zd (Zj (Zo rfl rfl (Za (v:=vI (ZHf.wrap ((B:Int)+1))) rfl (done ?_)))))))))))))))))))))))
      exact ao (L.1.set B (I.1.get B),L.2.1,L.2.2) _ _ ⟨(sl ⟨rfl,rfl,rfl,rfl,rfl,rfl,rfl,rfl,rfl,(tr rfl (congrArg _ (Z7 ae (by decide)))),trivial⟩),A⟩ h
   ·clear A h;rintro L e_ ip f3 ⟨aq,A⟩ h;rw [ue aq];refine sr (Zn rfl rfl (dn (ZMu (Z2 rfl (decide_eq_false (by omega)) ?_))))
    refine ZM9 (Zk (Zk (Zy ?_)))
    refine Zq ?_
    exact dw I a7 L.2.1 _ _ bq ⟨(some ay),(slq rfl),(A.xM [2,3,4] rfl)⟩ h
   ·skip;exact⟨(slq rfl),A⟩
 ·skip;exact⟨none,(slq rfl),(A.sP [0,2,3,4,5,6,7] rfl)⟩
def Zh2 (G:A8) (K:A8→Prop):Prop :=
 Z9 (λA (h:A8) B=>B (h.set A (G.get A))) (λ(h:A8)=>K h) 8 0 ZMz
theorem Zwy (L:A8)  {K:A8→Prop} (h:Zh2 L K) (w0:World)  :
  Calls ZMx 177 #[.agg (ZHu (ZMs .u8 L))] w0 λe w'=>∃ (r0:A8),
   e=.returned (.agg (ZHu (ZMs .u8 r0)))∧K r0∧Bel w0 w':=by
 unfold Zh2 at h
 refine cof Tryz.func177 rfl 15 Tryz.ntmps177 ?_
 have B:=ZNf (X:=Nox) w0 [] (by simp)
 refine sr (Ya (v:=.agg (ZHu (ZMs .u8 L))) B (ZMs .u8 L) rfl rfl λb1 w3 U B=>Yl B (ZMs .u8 ZMz) Zbn rfl λb4 w6 U B=>dn (sr (Yl B (ZMs .u8 ZMz) Zbn rfl λb7 w9 U B=>dn (ZMu (sr (Zc (v:=vI 0) rfl (dn (ZM0 ?_))))))))
 refine Yp (S:=A8) _ _ (λA G V w_=>Zt V [(1,vQ b1),(2,vQ b4),(3,vQ b7),(4,vI (A:Int))]∧Ctx Nox w0 w_ [blk b7 136 (ZMs .u8 G),blk b4 136 (ZMs .u8 ZMz),blk b1 135 (ZMs .u8 L)] []) 8 ?_ ?_ (s0:=ZMz) ?_ h
 ·clear B h;rintro A G V ad ac ab I ⟨O,B⟩ h aa;rw [ue O];refine ZMu (sr (Za (v:=vI (A:Int)) rfl (Zn rfl rfl (dn (Z3 rfl (decide_eq_true (by omega)) (ZMy (Zd (ZMu (ZM0 (Zj (Za (v:=vI (A:Int)) rfl (Za (v:=vI (A:Int)) rfl (Xs A Tryz.underlying135 sc5.size rfl rfl (ZNb _) (by omega) (by omega) (Z5 B 2 (.int .u8 (L.get A)) rfl sc5 rfl (ZM7 _ _ I) (Xs A ZNc sc5.size rfl rfl (ZNb _) (by omega) (by omega) (Zz (v:=.int .u8 (L.get A)) B 0 [.int .u8 (L.get A)] (ZMs .u8 (G.set A (L.get A))) rfl sc5.size rfl rfl rfl rfl rfl I (ZNo _ _ _ I) λae B=>done (Zq (Zd (Zj (Za (v:=vI (A:Int)) rfl (Zo rfl rfl (Zc (v:=vI (ZHf.wrap ((A:Int)+1))) rfl (done ?_)))))))))))))))))))))))
  exact aa (G.set A (L.get A)) _ _ ⟨(sl ⟨rfl,rfl,rfl,(tr rfl (congrArg _ (Z7 I (by decide)))),trivial⟩),B⟩ h
 ·clear B h;rintro G V ag ab ⟨O,B⟩ h;rw [ue O];refine ZMu (sr (Za (v:=vI 8) rfl (Zn rfl rfl (dn (Z2 rfl (decide_eq_false (by omega)) ?_)))))
  refine ZM9 (Zk (Zk (Zy ?_)))
  refine Zd (sr (Yb B 0 (ZMs .u8 G) rfl ag136 rfl rfl rfl (Zz (v:=.agg (ZHu (ZMs .u8 G))) B 1 (ZMs .u8 G) (ZMs .u8 G) rfl ag136.size rfl rfl rfl rfl rfl (ZM2 rfl) rfl λah B=>dn (ZM3 ?_))))
  exact Zi rfl (Zag B 1 rfl ag136 rfl rfl) ⟨G,rfl,h,B.below⟩ (.inl rfl)
 ·skip;exact⟨(slq rfl),B⟩
def Zh3 (G:List Int) (K:List Int→Prop):Prop :=
 ((0≤(G.length:Int)∧(G.length:Int) * 8≤281474976710656)∧Z9 (λh (A:(List Int)) B=>((0≤(h:Int)∧(h:Int) < (A.length:Int))∧B (A.set h (G.getD h ZEu)))) (λ(A:(List Int))=>K A) G.length 0 (ZEp ((G.length:Int).toNat) (0:Int)))
theorem Zwz (a0:List Int)  {K:List Int→Prop} (h:Zh3 a0 K) (w0:World) (q0:ZPz.rep a0 [u0_0] fp0 w0) :
  Calls ZMx 41 #[u0_0] w0 λe w'=>∃ (r0:List Int) (z0_0:Value) (aa:List Nat),
   e=.returned (z0_0)∧K r0∧(ZM8 (Tr.sl 2 (eI.tr)) r0 [z0_0] aa).holds w'∧(∀ b,b∈aa→w0.heap.size≤b)∧Bel w0 w':=by
 unfold Zh3 at h
 refine cof Tryz.func41 rfl 22 Tryz.ntmps41 ?_
 have B:=ZNf (X:=Nox) w0 [ZMt TInts a0 [u0_0] fp0] (al1 q0);refine sr (Zc (v:=.slice none 0 0) rfl (dn (sr (Za (v:=u0_0) rfl (Zw B 0 rfl ZNd rfl ?_)))))
 obtain ⟨ak,h⟩:=h;refine Zcf (sz:=1) B (eI.encs (ZEp ((a0.length:Int).toNat) (0:Int))) ZNd el2 (tr rfl (congrArg (ZP4 .i64) (ZP5 ak.1).symm)) (tr rfl (congrArg (ZP4 .i64) (ZP5 ak.1).symm)) (by omega) (by omega) (Zb4 (E:=eI) _ _) λv5 w6 al B=>?_
 replace B:=Y7 B 0 ((ZEp ((a0.length:Int).toNat) (0:Int)).length) (eI.encs (ZEp ((a0.length:Int).toNat) (0:Int))) rfl (by simp) rfl
 refine Zc (v:=v5) rfl (dn (ZMu (sr (Zc (v:=vI 0) rfl (dn (ZM0 ?_))))))
 have ab:a0.length≤9223372036854775807:=Y5 (B.getP 0 rfl);refine Yp (S:=(List Int)) _ _ (λA G e_ w_=>∃ (I:Value),Zt e_ [(0,u0_0),(3,I),(4,vI (A:Int))]∧Ctx Nox w0 w_ [own 2 1 I G.length (eI.encs G)] [ZMt TInts a0 [u0_0] fp0]) a0.length ?_ ?_ (s0:=(ZEp ((a0.length:Int).toNat) (0:Int))) ?_ h
 ·clear B h;rintro A G e_ am ah ad L ⟨I,O,B⟩ h ac;rw [ue O];refine ZMu (sr (Za (v:=vI (A:Int)) rfl (Za (v:=u0_0) rfl (Zw B 0 rfl ZNd rfl (Zn rfl rfl (dn (Z3 rfl (decide_eq_true (by omega)) (ZMy (Zd (ZMu (ZM0 (Zj (Za (v:=I) rfl (Za (v:=vI (A:Int)) rfl (Za (v:=u0_0) rfl (Za (v:=vI (A:Int)) rfl ?_))))))))))))))))
  obtain ⟨ai,an,U⟩:=Zx (B.getP 0 rfl) A L;refine Ys (len:=a0.length) ZNd sc2.size (tr rfl U) rfl (ZNb _) (ZNt.2 L) (Yr (vI (a0.getD A ZEu)) (Ye (B.getP 0 rfl) U A L) sc2 rfl ?_)
  obtain ⟨⟨ae,ag⟩,h⟩:=h;obtain ⟨aj,ao,V⟩:=Jf (B.getM 0 rfl) (ZQe (Nat.zero_le _) (show A < G.length by omega))
  refine Js (A * 1) ZNd sc2.size (tr rfl V) rfl ae ag rfl (Zdo (v:=vI (a0.getD A ZEu)) B 0 [vI (a0.getD A ZEu)] (eI.encs (G.set A (a0.getD A ZEu))) rfl V sc2.size rfl rfl rfl rfl rfl (by rw [Enc.encs_len]; exact Za3 (sz:=1) (show A < G.length by omega)) (Zdp _ _ _ (show A < G.length by omega)) λap B=>?_)
  replace B:=Y7 B 0 ((G.set A (a0.getD A ZEu)).length) (eI.encs (G.set A (a0.getD A ZEu))) rfl (by simp) rfl
  refine done (Zq (Zd (Zj (Za (v:=vI (A:Int)) rfl (Zo rfl rfl (Zc (v:=vI (ZHf.wrap ((A:Int)+1))) rfl (done ?_)))))))
  exact ac (G.set A (a0.getD A ZEu)) _ _ ⟨I,(sl ⟨rfl,rfl,(tr rfl (congrArg _ (Z7 L ab))),trivial⟩),B⟩ h
 ·clear B h;rintro G e_ aq ad ⟨I,O,B⟩ h;rw [ue O];refine ZMu (sr (Za (v:=vI (a0.length:Int)) rfl (Za (v:=u0_0) rfl (Zw B 0 rfl ZNd rfl (Zn rfl rfl (dn (Z2 rfl (decide_eq_false (by omega)) ?_)))))))
  refine ZM9 (Zk (Zk (Zy ?_)))
  refine Zd (sr (Za (v:=I) rfl (Zc (v:=I) rfl (dn (ZM3 ?_)))))
  exact Zi rfl (Ze rfl) ⟨G,I,(ZNu (ZFo I)),rfl,h,(Xx (B.getM 0 rfl)),(Yt B 0 rfl),B.below⟩ (.inl rfl)
 ·skip;exact⟨v5,(slq rfl),B⟩
def Zh4 (G:A8) (I:A8) (K:Bool→Prop):Prop :=
 Z9 (λh (B:Unit) A=>(if G.get h≠I.get h then K false else A ())) (λ(B:Unit)=>K true) 8 0 ()
theorem Zw0 (U:A8) (V:A8)  {K:Bool→Prop} (h:Zh4 U V K) (w0:World)  :
  Calls ZMx 188 #[.agg (ZHu (ZMs .u8 U)),.agg (ZHu (ZMs .u8 V))] w0 λe w'=>∃ (r0:Bool),
   e=.returned (.bool r0)∧K r0∧Bel w0 w':=by
 unfold Zh4 at h
 refine cof Tryz.func188 rfl 17 Tryz.ntmps188 ?_
 have B:=ZNf (X:=Nox) w0 [] (by simp)
 refine sr (Ya (v:=.agg (ZHu (ZMs .u8 U))) B (ZMs .u8 U) rfl rfl λb1 w3 G B=>Ya (v:=.agg (ZHu (ZMs .u8 V))) B (ZMs .u8 V) rfl rfl λb4 w6 G B=>Zc (v:=.bool false) rfl (dn (ZMu (sr (Zc (v:=vI 0) rfl (dn (ZM0 ?_)))))))
 refine Yp (S:=Unit) _ _ (λA ac e_ w_=>Zt e_ [(2,vQ b1),(3,vQ b4),(5,vI (A:Int))]∧Ctx Nox w0 w_ [blk b4 136 (ZMs .u8 V),blk b1 136 (ZMs .u8 U)] []) 8 ?_ ?_ (s0:=()) ?_ h
 ·clear B h;rintro A ac e_ ah ag ae L ⟨aa,B⟩ h ad;rw [ue aa];refine ZMu (sr (Za (v:=vI (A:Int)) rfl (Zn rfl rfl (dn (Z3 rfl (decide_eq_true (by omega)) (ZMy (Zd (ZMu (ZM0 (ZMu ?_))))))))))
  refine cwd 6 Yh [0,1,3,0,8,24,63] [1,2,4,5] [0,3] (λI ab ai G=>?_)
  replace B:=B.grow G;refine bM 0 (vI (A:Int)) rfl ab (Zb 7 1) (bL 1 (.pointer (some ⟨b1,A,none⟩)) rfl rfl I (λ_ G=>by exact Zaf A ZNc sc5.size rfl rfl (ZNb _) (by omega) (by omega)) (Zb 7 3) (bL 2 (.int .u8 (U.get A)) rfl rfl I (λ_ G=>by exact Yc (B.grow G) 1 (.int .u8 (U.get A)) rfl sc5 rfl (ZM7 _ _ L)) (Zb 7 7) (bM 3 (vI (A:Int)) rfl ab (Zb 7 15) (bL 4 (.pointer (some ⟨b4,A,none⟩)) rfl rfl I (λ_ G=>by exact Zaf A ZNc sc5.size rfl rfl (ZNb _) (by omega) (by omega)) (Zb 7 31) (bL 5 (.int .u8 (V.get A)) rfl rfl I (λ_ G=>by exact Yc (B.grow G) 0 (.int .u8 (V.get A)) rfl sc5 rfl (ZM7 _ _ L)) (Zb 7 63) (Z0 6 (by decide) (by decide) (by kernel_rfl) (by kernel_rfl) rfl (Y2 rfl rfl (done (Z1 (Zd ?_))))))))))
  refine Zp rfl (λO=>?_) (λO=>?_)
  ·replace h:=ift h (ct O);refine sr (Zc (v:=.bool false) rfl (dn ?_))
   refine ZM3 (Z8 (Zl (Zl (Z8 (Zl ?_)))))
   exact Zi rfl (Ze rfl) ⟨false,rfl,h,B.below⟩ (.inl rfl)
  ·replace h:=Zm h (cf O);refine ZMy (Zq (Zd (Zj (Za (v:=vI (A:Int)) rfl (Zo rfl rfl (Zc (v:=vI (ZHf.wrap ((A:Int)+1))) rfl (done ?_)))))))
   exact ad () _ _ ⟨(sl ⟨rfl,rfl,(tr rfl (congrArg _ (Z7 L (by decide)))),trivial⟩),B⟩ h
 ·clear B h;rintro ac e_ aj ae ⟨aa,B⟩ h;rw [ue aa];refine ZMu (sr (Za (v:=vI 8) rfl (Zn rfl rfl (dn (Z2 rfl (decide_eq_false (by omega)) ?_)))))
  refine ZM9 (Zk (Zk (Zy ?_)))
  refine Zd (sr (Zc (v:=.bool true) rfl (dn (ZM3 ?_))))
  exact Zi rfl (Ze rfl) ⟨true,rfl,h,B.below⟩ (.inl rfl)
 ·skip;exact⟨(slq rfl),B⟩
def Zh5 (G:List Int) (I:List Int) (K:Bool→Prop):Prop :=
 (if(G.length:Int)≠(I.length:Int) then K false else Z9 (λh (B:Unit) A=>((0≤(h:Int)∧(h:Int) < (I.length:Int))∧(if G.getD h ZEu≠I.getD h ZEu then K false else A ()))) (λ(B:Unit)=>K true) G.length 0 ())
theorem Zw1 (a0:List Int) (a1:List Int)  {K:Bool→Prop} (h:Zh5 a0 a1 K) (w0:World) (q0:ZPz.rep a0 [u0_0] fp0 w0) (q1:ZPz.rep a1 [u1_0] fp1 w0) :
  Calls ZMx 25 #[u0_0,u1_0] w0 λe w'=>∃ (r0:Bool),
   e=.returned (.bool r0)∧K r0∧Bel w0 w':=by
 unfold Zh5 at h
 refine cof Tryz.func25 rfl 26 Tryz.ntmps25 ?_
 have B:=ZNf (X:=Nox) w0 [ZMt TInts a0 [u0_0] fp0,ZMt TInts a1 [u1_0] fp1] (alc q0 (al1 q1));refine sr (Zc (v:=.bool false) rfl (dn (ZMu (sr (Za (v:=u0_0) rfl (Zw B 0 rfl ZNd rfl (Za (v:=u1_0) rfl (Zw B 1 rfl ZNd rfl (Y2 rfl rfl (dn ?_))))))))))
 refine Zp rfl (λV=>?_) (λV=>?_)
 ·replace h:=ift h (ct V);refine sr (Zc (v:=.bool false) rfl (dn ?_))
  refine ZM3 (Zl ?_)
  exact Zi rfl (Ze rfl) ⟨false,rfl,h,B.below⟩ (.inl rfl)
 ·replace h:=Zm h (cf V);refine ZMy (Zd (ZMu (sr (Zc (v:=vI 0) rfl (dn (ZM0 ?_))))))
  have ae:a0.length≤9223372036854775807:=Y5 (B.getP 0 rfl);refine Yp (S:=Unit) _ _ (λA ad e_ w_=>Zt e_ [(0,u0_0),(1,u1_0),(5,vI (A:Int))]∧Ctx Nox w0 w_ [] [ZMt TInts a0 [u0_0] fp0,ZMt TInts a1 [u1_0] fp1]) a0.length ?_ ?_ (s0:=()) ?_ h
  ·clear B h;rintro A ad e_ an am aj I ⟨aa,B⟩ h ag;rw [ue aa];refine ZMu (sr (Za (v:=vI (A:Int)) rfl (Za (v:=u0_0) rfl (Zw B 0 rfl ZNd rfl (Zn rfl rfl (dn (Z3 rfl (decide_eq_true (by omega)) (ZMy (Zd (ZMu (ZM0 (ZMu ?_))))))))))))
   refine cwd 8 Yh [0,0,3,7,0,0,48,112,255] [2,3,6,7] [0,1,4,5] (λL O ao G=>?_)
   replace B:=B.grow G;refine bM 0 (u0_0) rfl O (Zb 9 1) (bM 1 (vI (A:Int)) rfl O (Zb 9 3) ?_)
   obtain ⟨ah,ap,ab⟩:=Zx (B.getP 0 rfl) A I;refine bL 2 (.pointer (some (ah.add (A * 1)))) rfl rfl L (λ_ G=>by exact Y1 (len:=a0.length) ZNd sc2.size (by exact tr rfl ab) rfl (ZNb _) (ZNt.2 I)) (Zb 9 7) (bL 3 (vI (a0.getD A ZEu)) rfl rfl L (λ_ G=>by exact Xh (vI (a0.getD A ZEu)) (Ye ((B.grow G).getP 0 rfl) ab A I) sc2 rfl) (Zb 9 15) (bM 4 (u1_0) rfl O (Zb 9 31) (bM 5 (vI (A:Int)) rfl O (Zb 9 63) ?_)))
   obtain ⟨⟨ak,al⟩,h⟩:=h;obtain ⟨ai,aq,ac⟩:=Zx (B.getP 1 rfl) A (show A < a1.length by omega)
   refine bL 6 (.pointer (some (ai.add (A * 1)))) rfl rfl L (λ_ G=>by exact Y1 (len:=a1.length) ZNd sc2.size (by exact tr rfl ac) rfl ak al) (Zb 9 127) (bL 7 (vI (a1.getD A ZEu)) rfl rfl L (λ_ G=>by exact Xh (vI (a1.getD A ZEu)) (Ye ((B.grow G).getP 1 rfl) ac A (show A < a1.length by omega)) sc2 rfl) (Zb 9 255) (Z0 8 (by decide) (by decide) (by kernel_rfl) (by kernel_rfl) rfl (Y2 rfl rfl (done (Z1 (Zd ?_))))))
   refine Zp rfl (λU=>?_) (λU=>?_)
   ·replace h:=ift h (ct U);refine sr (Zc (v:=.bool false) rfl (dn ?_))
    refine ZM3 (Z8 (Zl (Zl (Z8 (Zl ?_)))))
    exact Zi rfl (Ze rfl) ⟨false,rfl,h,B.below⟩ (.inl rfl)
   ·replace h:=Zm h (cf U);refine ZMy (Zq (Zd (Zj (Za (v:=vI (A:Int)) rfl (Zo rfl rfl (Zc (v:=vI (ZHf.wrap ((A:Int)+1))) rfl (done ?_)))))))
    exact ag () _ _ ⟨(sl ⟨rfl,rfl,(tr rfl (congrArg _ (Z7 I ae))),trivial⟩),B⟩ h
  ·clear B h;rintro ad e_ ar aj ⟨aa,B⟩ h;rw [ue aa];refine ZMu (sr (Za (v:=vI (a0.length:Int)) rfl (Za (v:=u0_0) rfl (Zw B 0 rfl ZNd rfl (Zn rfl rfl (dn (Z2 rfl (decide_eq_false (by omega)) ?_)))))))
   refine ZM9 (Zk (Zk (Zy ?_)))
   refine Zd (sr (Zc (v:=.bool true) rfl (dn (ZM3 ?_))))
   exact Zi rfl (Ze rfl) ⟨true,rfl,h,B.below⟩ (.inl rfl)
  ·skip;exact⟨(slq rfl),B⟩
def Zh6 (A:Term) (K:Term→Prop):Prop :=
 Zh2 A.mono (λh=>K (⟨h,A.factor⟩:Term))
theorem Zw2 (G:Term)  {K:Term→Prop} (h:Zh6 G K) (w0:World)  :
  Calls ZMx 130 #[.agg (ZHu (ZM5 G))] w0 λe w'=>∃ (O:Term),
   e=.returned (.agg (ZHu (ZM5 O)))∧K O∧Bel w0 w':=by
 unfold Zh6 at h
 refine cof Tryz.func130 rfl 12 Tryz.ntmps130 ?_
 have A:=ZNf (X:=Nox) w0 [] (by simp)
 refine sr (Ya (v:=.agg (ZHu (ZM5 G))) A (ZM5 G) rfl rfl λb1 w3 I A=>Yl A (ZM5 (⟨ZMz,0⟩:Term)) Zfw rfl λb4 w6 I A=>dn (sr (Yl A (ZM5 (⟨ZMz,0⟩:Term)) Zfw rfl λb7 w9 I A=>dn (sr (Zu 0 Tryz.underlying170 rfl ag135.size rfl rfl (Yb A 2 (ZMs .u8 G.mono) rfl ag135 rfl rfl rfl (Zf [.agg (ZHu (ZMs .u8 G.mono))] _ Tryz.func177 rfl rfl rfl (Zwy G.mono h _) ?_)))))))
 rintro _ U ⟨B,rfl,h,L⟩;refine rt ?_
 replace A:=A.grow L;refine Zu 0 ZNa rfl ag136.size rfl rfl (Zz (v:=.agg (ZHu (ZMs .u8 B))) A 0 (ZMs .u8 B) (ZM5 (⟨B,0⟩:Term)) rfl ag136.size rfl rfl rfl rfl rfl (ZM2 rfl) rfl λV A=>dn (sr (Zu 8 Tryz.underlying170 rfl sc2.size rfl rfl (Z5 A 2 (vI G.factor) rfl sc2 rfl rfl (Zu 8 ZNa rfl sc2.size rfl rfl (Zz (v:=vI G.factor) A 0 [vI G.factor] (ZM5 (⟨B,G.factor⟩:Term)) rfl sc2.size rfl rfl rfl rfl rfl (ZM2 rfl) rfl λaa A=>dn (sr (Yb A 0 (ZM5 (⟨B,G.factor⟩:Term)) rfl ag162 rfl rfl rfl (Zz (v:=.agg (ZHu (ZM5 (⟨B,G.factor⟩:Term)))) A 1 (ZM5 (⟨B,G.factor⟩:Term)) (ZM5 (⟨B,G.factor⟩:Term)) rfl ag162.size rfl rfl rfl rfl rfl (ZM2 rfl) rfl λab A=>dn (ZM3 ?_))))))))))
 exact Zi rfl (Zag A 1 rfl ag162 rfl rfl) ⟨(⟨B,G.factor⟩:Term),rfl,h,A.below⟩ (.inl rfl)
def Zh7 (I:List Term) (K:List Term→Prop):Prop :=
 ((0≤(I.length:Int)∧(I.length:Int) * 16≤281474976710656)∧Z9 (λh (A:(List Term)) B=>Zh6 (I.getD h ZEu) (λG=>((0≤(h:Int)∧(h:Int) < (A.length:Int))∧B (A.set h G)))) (λ(A:(List Term))=>K A) I.length 0 (ZEp ((I.length:Int).toNat) ((⟨ZMz,0⟩:Term):Term)))
theorem Zw3 (a0:List Term)  {K:List Term→Prop} (h:Zh7 a0 K) (w0:World) (q0:ZMv.ty.sl.rep a0 [u0_0] fp0 w0) :
  Calls ZMx 74 #[u0_0] w0 λe w'=>∃ (r0:List Term) (z0_0:Value) (ab:List Nat),
   e=.returned (z0_0)∧K r0∧(ZM8 (Tr.sl 162 ZMv.tr) r0 [z0_0] ab).holds w'∧(∀ b,b∈ab→w0.heap.size≤b)∧Bel w0 w':=by
 unfold Zh7 at h
 refine cof Tryz.func74 rfl 23 Tryz.ntmps74 ?_
 have B:=ZNf (X:=Nox) w0 [ZMt ZMv.ty.sl a0 [u0_0] fp0] (al1 q0);refine sr (Zc (v:=.slice none 0 0) rfl (dn (sr (Za (v:=u0_0) rfl (Zw B 0 rfl ZP6 rfl ?_)))))
 obtain ⟨am,h⟩:=h;refine Zcf (sz:=9) B (ZMv.encs (ZEp ((a0.length:Int).toNat) ((⟨ZMz,0⟩:Term):Term))) ZM4 Zhp (tr rfl (congrArg (ZP4 .i64) (ZP5 am.1).symm)) (tr rfl (congrArg (ZP4 .i64) (ZP5 am.1).symm)) (by omega) (by omega) (Zb4 (E:=ETerm) _ _) λv5 w6 an B=>?_
 replace B:=Y7 B 0 ((ZEp ((a0.length:Int).toNat) ((⟨ZMz,0⟩:Term):Term)).length) (ZMv.encs (ZEp ((a0.length:Int).toNat) ((⟨ZMz,0⟩:Term):Term))) rfl (by simp) rfl
 refine Zc (v:=v5) rfl (dn (ZMu (sr (Zc (v:=vI 0) rfl (dn (ZM0 ?_))))))
 have ac:a0.length≤9223372036854775807:=Y5 (B.getP 0 rfl);refine Yp (S:=(List Term)) _ _ (λA G e_ w_=>∃ (I:Value),Zt e_ [(0,u0_0),(3,I),(4,vI (A:Int))]∧Ctx Nox w0 w_ [own 162 9 I G.length (ZMv.encs G)] [ZMt ZMv.ty.sl a0 [u0_0] fp0]) a0.length ?_ ?_ (s0:=(ZEp ((a0.length:Int).toNat) ((⟨ZMz,0⟩:Term):Term))) ?_ h
 ·clear B h;rintro A G e_ ao aj ag O ⟨I,U,B⟩ h ad;rw [ue U];refine ZMu (sr (Za (v:=vI (A:Int)) rfl (Za (v:=u0_0) rfl (Zw B 0 rfl ZP6 rfl (Zn rfl rfl (dn (Z3 rfl (decide_eq_true (by omega)) (ZMy (Zd (ZMu (ZM0 (Zj (Za (v:=I) rfl (Za (v:=vI (A:Int)) rfl (Za (v:=u0_0) rfl (Za (v:=vI (A:Int)) rfl ?_))))))))))))))))
  obtain ⟨ak,ap,V⟩:=Zx (B.getP 0 rfl) A O;refine Ys (len:=a0.length) ZP6 ag170.size (tr rfl V) rfl (ZNb _) (ZNt.2 O) (Je (ZM5 (a0.getD A ZEu)) (Ye (B.getP 0 rfl) V A O) ag170 rfl rfl (Zf [.agg (ZHu (ZM5 (a0.getD A ZEu)))] _ Tryz.func130 rfl rfl rfl (Zw2 (a0.getD A ZEu) h _) ?_))
  rintro _ aq ⟨L,rfl,h,ae⟩;refine rt ?_
  replace B:=B.grow ae;obtain ⟨⟨ah,ai⟩,h⟩:=h;obtain ⟨al,ar,aa⟩:=Jf (B.getM 0 rfl) (ZQe (Nat.zero_le _) (show A < G.length by omega))
  refine Js (A * 9) ZM4 ag162.size (tr rfl aa) rfl ah ai rfl (Zdo (v:=.agg (ZHu (ZM5 L))) B 0 (ZM5 L) (ZMv.encs (G.set A L)) rfl aa ag162.size rfl rfl rfl rfl rfl (by rw [Enc.encs_len]; exact Za3 (sz:=9) (show A < G.length by omega)) (Zdp _ _ _ (show A < G.length by omega)) λau B=>?_)
  replace B:=Y7 B 0 ((G.set A L).length) (ZMv.encs (G.set A L)) rfl (by simp) rfl
  refine done (Zq (Zd (Zj (Za (v:=vI (A:Int)) rfl (Zo rfl rfl (Zc (v:=vI (ZHf.wrap ((A:Int)+1))) rfl (done ?_)))))))
  exact ad (G.set A L) _ _ ⟨I,(sl ⟨rfl,rfl,(tr rfl (congrArg _ (Z7 O ac))),trivial⟩),B⟩ h
 ·clear B h;rintro G e_ av ag ⟨I,U,B⟩ h;rw [ue U];refine ZMu (sr (Za (v:=vI (a0.length:Int)) rfl (Za (v:=u0_0) rfl (Zw B 0 rfl ZP6 rfl (Zn rfl rfl (dn (Z2 rfl (decide_eq_false (by omega)) ?_)))))))
  refine ZM9 (Zk (Zk (Zy ?_)))
  refine Zd (sr (Za (v:=I) rfl (Zc (v:=I) rfl (dn (ZM3 ?_)))))
  exact Zi rfl (Ze rfl) ⟨G,I,(ZNu (ZFo I)),rfl,h,(Xx (B.getM 0 rfl)),(Yt B 0 rfl),B.below⟩ (.inl rfl)
 ·skip;exact⟨v5,(slq rfl),B⟩
def Zd5 (A:ZMw) (K:ZMw→Prop):Prop :=
 Zh7 A.terms (λh=>K (⟨h⟩:ZMw))
theorem Zkf (O:ZMw)  {K:ZMw→Prop} (h:Zd5 O K) (w0:World) (q0:ZNg.rep O [u0_0] fp0 w0) :
  Calls ZMx 30 #[.agg #[u0_0]] w0 λe w'=>∃ (r0:ZMw) (z0_0:Value) (I:List Nat),
   e=.returned (.agg #[z0_0])∧K r0∧(ZM8 (Y0 162) r0 [z0_0] I).holds w'∧(∀ b,b∈I→w0.heap.size≤b)∧Bel w0 w':=by
 unfold Zd5 at h
 refine cof Tryz.func30 rfl 9 Tryz.ntmps30 ?_
 have A:=ZNf (X:=Nox) w0 [ZMt TForm O [u0_0] fp0] (al1 q0);have ad:=(A.getP 0 rfl);replace A:=A.derive 0 rfl (ZMt ZMv.ty.sl O.terms [u0_0] fp0) (λ_=>(Y9 ad)) (λ_ ae=>ae)
 refine sr (Ya (v:=.agg #[u0_0]) A [u0_0] rfl rfl λb4 w6 L A=>Yl A [.slice none 0 0] z55 rfl λb7 w9 L A=>dn (sr (Yl A [.slice none 0 0] z55 rfl λah ai L A=>dn (sr (Zu 0 ZQf rfl sc48.size rfl rfl (Z5 A 2 (u0_0) rfl sc48 rfl rfl (Zf [u0_0] _ Tryz.func74 rfl rfl rfl (Zw3 O.terms h _ (A.getP 0 rfl)) ?_)))))))
 rintro _ aj ⟨G,B,ag,rfl,h,U,V,aa⟩;refine rt ?_
 replace A:=A.push aa (ZM8 (Tr.sl 162 ZMv.tr) G [B] ag) U V;obtain ⟨ab,ac⟩:=Y4 (A.getM 0 rfl).1;subst ac;replace A:=A.recast (c:=own 162 9 B G.length (ZMv.encs G)) (λ_ h_=>h_) (λ_=>ab)
 refine Zu 0 ZM1 rfl sc53.size rfl rfl (Zz (v:=B) A 1 [B] [B] rfl sc53.size rfl rfl (Zcg (A.getM 0 rfl)) rfl (Xr (X4 (A.getM 0 rfl)) rfl) (ZM2 rfl) rfl λak A=>dn (sr (Yb A 1 [B] rfl ag55 rfl rfl rfl (Zz (v:=.agg #[B]) A 2 [B] [B] rfl ag55.size rfl rfl rfl rfl (Xr (X4 (A.getM 0 rfl)) rfl) (ZM2 rfl) rfl λal A=>dn (ZM3 ?_)))))
 exact Zi rfl (Zag A 2 rfl ag55 rfl rfl) ⟨(⟨G⟩:ZMw),B,(ZNu (ZFo B)),rfl,h,(Zc5 (Xx (A.getM 0 rfl))),(Yt A 0 rfl),A.below⟩ (.inl rfl)
def Zh8 (A:Term) (B:Term) (K:Bool→Prop):Prop :=
 Zh4 A.mono B.mono (λh=>(if¬ (h=true) then K false else(if A.factor≠B.factor then K false else K true)))
theorem Zw4 (I:Term) (L:Term)  {K:Bool→Prop} (h:Zh8 I L K) (w0:World)  :
  Calls ZMx 144 #[.agg (ZHu (ZM5 I)),.agg (ZHu (ZM5 L))] w0 λe w'=>∃ (U:Bool),
   e=.returned (.bool U)∧K U∧Bel w0 w':=by
 unfold Zh8 at h
 refine cof Tryz.func144 rfl 16 Tryz.ntmps144 ?_
 have A:=ZNf (X:=Nox) w0 [] (by simp)
 refine sr (Ya (v:=.agg (ZHu (ZM5 I))) A (ZM5 I) rfl rfl λb1 w3 V A=>Ya (v:=.agg (ZHu (ZM5 L))) A (ZM5 L) rfl rfl λb4 w6 V A=>Zc (v:=.bool false) rfl (dn (ZMu (sr (Zu 0 ZNa rfl ag136.size rfl rfl (Yb A 1 (ZMs .u8 I.mono) rfl ag136 rfl rfl rfl (Zu 0 ZNa rfl ag136.size rfl rfl (Yb A 0 (ZMs .u8 L.mono) rfl ag136 rfl rfl rfl (Zf [.agg (ZHu (ZMs .u8 I.mono)),.agg (ZHu (ZMs .u8 L.mono))] _ Tryz.func188 rfl rfl rfl (Zw0 I.mono L.mono h _) ?_)))))))))
 rintro _ w9 ⟨aa,rfl,h,O⟩;refine rt ?_
 replace A:=A.grow O;refine Xe rfl (dn ?_)
 refine Zp rfl (λB=>?_) (λB=>?_)
 ·replace h:=ift h (Yz (Xi B));refine sr (Zc (v:=.bool false) rfl (dn ?_))
  refine ZM3 (Zl ?_)
  exact Zi rfl (Ze rfl) ⟨false,rfl,h,A.below⟩ (.inl rfl)
 ·replace h:=Zm h (not_not_intro ((Xj B)));refine ZMy (Zd (ZMu (sr (Zu 8 ZNa rfl sc2.size rfl rfl (Z5 A 1 (vI I.factor) rfl sc2 rfl rfl (Zu 8 ZNa rfl sc2.size rfl rfl (Z5 A 0 (vI L.factor) rfl sc2 rfl rfl (Y2 rfl rfl (dn ?_)))))))))
  refine Zp rfl (λG=>?_) (λG=>?_)
  ·replace h:=ift h (ct G);refine sr (Zc (v:=.bool false) rfl (dn ?_))
   refine ZM3 (Zl ?_)
   exact Zi rfl (Ze rfl) ⟨false,rfl,h,A.below⟩ (.inl rfl)
  ·replace h:=Zm h (cf G);refine ZMy (Zd (sr (Zc (v:=.bool true) rfl (dn (ZM3 ?_)))))
   exact Zi rfl (Ze rfl) ⟨true,rfl,h,A.below⟩ (.inl rfl)
def Zkg (I:List Term) (L:List Term) (K:Bool→Prop):Prop :=
 (if(I.length:Int)≠(L.length:Int) then K false else Z9 (λh (B:Unit) A=>((0≤(h:Int)∧(h:Int) < (L.length:Int))∧Zh8 (I.getD h ZEu) (L.getD h ZEu) (λG=>(if¬ (G=true) then K false else A ())))) (λ(B:Unit)=>K true) I.length 0 ())
theorem Zw5 (a0:List Term) (a1:List Term)  {K:Bool→Prop} (h:Zkg a0 a1 K) (w0:World) (q0:ZMv.ty.sl.rep a0 [u0_0] fp0 w0) (q1:ZMv.ty.sl.rep a1 [u1_0] fp1 w0) :
  Calls ZMx 87 #[u0_0,u1_0] w0 λe w'=>∃ (r0:Bool),
   e=.returned (.bool r0)∧K r0∧Bel w0 w':=by
 unfold Zkg at h
 refine cof Tryz.func87 rfl 27 Tryz.ntmps87 ?_
 have B:=ZNf (X:=Nox) w0 [ZMt ZMv.ty.sl a0 [u0_0] fp0,ZMt ZMv.ty.sl a1 [u1_0] fp1] (alc q0 (al1 q1));refine sr (Zc (v:=.bool false) rfl (dn (ZMu (sr (Za (v:=u0_0) rfl (Zw B 0 rfl ZM4 rfl (Za (v:=u1_0) rfl (Zw B 1 rfl ZM4 rfl (Y2 rfl rfl (dn ?_))))))))))
 refine Zp rfl (λV=>?_) (λV=>?_)
 ·replace h:=ift h (ct V);refine sr (Zc (v:=.bool false) rfl (dn ?_))
  refine ZM3 (Zl ?_)
  exact Zi rfl (Ze rfl) ⟨false,rfl,h,B.below⟩ (.inl rfl)
 ·replace h:=Zm h (cf V);refine ZMy (Zd (ZMu (sr (Zc (v:=vI 0) rfl (dn (ZM0 ?_))))))
  have ae:a0.length≤9223372036854775807:=Y5 (B.getP 0 rfl);refine Yp (S:=Unit) _ _ (λA ad e_ w_=>Zt e_ [(0,u0_0),(1,u1_0),(5,vI (A:Int))]∧Ctx Nox w0 w_ [] [ZMt ZMv.ty.sl a0 [u0_0] fp0,ZMt ZMv.ty.sl a1 [u1_0] fp1]) a0.length ?_ ?_ (s0:=()) ?_ h
  ·clear B h;rintro A ad e_ ao an ak I ⟨aa,B⟩ h ag;rw [ue aa];refine ZMu (sr (Za (v:=vI (A:Int)) rfl (Za (v:=u0_0) rfl (Zw B 0 rfl ZM4 rfl (Zn rfl rfl (dn (Z3 rfl (decide_eq_true (by omega)) (ZMy (Zd (ZMu (ZM0 (ZMu ?_))))))))))))
   refine cwd 8 Yh [0,0,3,7,0,0,48,112,255,511] [2,3,6,7] [0,1,4,5] (λL O ap G=>?_)
   replace B:=B.grow G;refine bM 0 (u0_0) rfl O (Zb 10 1) (bM 1 (vI (A:Int)) rfl O (Zb 10 3) ?_)
   obtain ⟨ah,aq,ab⟩:=Zx (B.getP 0 rfl) A I;refine bL 2 (.pointer (some (ah.add (A * 9)))) rfl rfl L (λ_ G=>by exact Y1 (len:=a0.length) ZM4 ag162.size (by exact tr rfl ab) rfl (ZNb _) (ZNt.2 I)) (Zb 10 7) (bL 3 (.agg (ZHu (ZM5 (a0.getD A ZEu)))) rfl rfl L (λ_ G=>by exact Jr (ZM5 (a0.getD A ZEu)) (Ye ((B.grow G).getP 0 rfl) ab A I) ag162 rfl rfl) (Zb 10 15) (bM 4 (u1_0) rfl O (Zb 10 31) (bM 5 (vI (A:Int)) rfl O (Zb 10 63) ?_)))
   obtain ⟨⟨al,am⟩,h⟩:=h;obtain ⟨ai,ar,ac⟩:=Zx (B.getP 1 rfl) A (show A < a1.length by omega)
   refine bL 6 (.pointer (some (ai.add (A * 9)))) rfl rfl L (λ_ G=>by exact Y1 (len:=a1.length) ZM4 ag162.size (by exact tr rfl ac) rfl al am) (Zb 10 127) (bL 7 (.agg (ZHu (ZM5 (a1.getD A ZEu)))) rfl rfl L (λ_ G=>by exact Jr (ZM5 (a1.getD A ZEu)) (Ye ((B.grow G).getP 1 rfl) ac A (show A < a1.length by omega)) ag162 rfl rfl) (Zb 10 255) (Z0 8 (by decide) (by decide) (by kernel_rfl) (by kernel_rfl) rfl (Zf [.agg (ZHu (ZM5 (a0.getD A ZEu))),.agg (ZHu (ZM5 (a1.getD A ZEu)))] _ Tryz.func144 rfl rfl rfl (Zw4 (a0.getD A ZEu) (a1.getD A ZEu) h _) ?_)))
   rintro _ au ⟨av,rfl,h,aj⟩;refine rt ?_
   replace B:=B.grow aj;refine Xe rfl (done (Z1 (Zd ?_)))
   refine Zp rfl (λU=>?_) (λU=>?_)
   ·replace h:=ift h (Yz (Xi U));refine sr (Zc (v:=.bool false) rfl (dn ?_))
    refine ZM3 (Z8 (Zl (Zl (Z8 (Zl ?_)))))
    exact Zi rfl (Ze rfl) ⟨false,rfl,h,B.below⟩ (.inl rfl)
   ·replace h:=Zm h (not_not_intro ((Xj U)));refine ZMy (Zq (Zd (Zj (Za (v:=vI (A:Int)) rfl (Zo rfl rfl (Zc (v:=vI (ZHf.wrap ((A:Int)+1))) rfl (done ?_)))))))
    exact ag () _ _ ⟨(sl ⟨rfl,rfl,(tr rfl (congrArg _ (Z7 I ae))),trivial⟩),B⟩ h
  ·clear B h;rintro ad e_ aw ak ⟨aa,B⟩ h;rw [ue aa];refine ZMu (sr (Za (v:=vI (a0.length:Int)) rfl (Za (v:=u0_0) rfl (Zw B 0 rfl ZM4 rfl (Zn rfl rfl (dn (Z2 rfl (decide_eq_false (by omega)) ?_)))))))
   refine ZM9 (Zk (Zk (Zy ?_)))
   refine Zd (sr (Zc (v:=.bool true) rfl (dn (ZM3 ?_))))
   exact Zi rfl (Ze rfl) ⟨true,rfl,h,B.below⟩ (.inl rfl)
  ·skip;exact⟨(slq rfl),B⟩
def Zev (A:ZMw) (B:ZMw) (K:Bool→Prop):Prop :=
 Zkg A.terms B.terms (λh=>(if¬ (h=true) then K false else K true))
theorem Zqo (I:ZMw) (L:ZMw)  {K:Bool→Prop} (h:Zev I L K) (w0:World) (q0:ZNg.rep I [u0_0] fp0 w0) (q1:ZNg.rep L [u1_0] fp1 w0) :
  Calls ZMx 32 #[.agg #[u0_0],.agg #[u1_0]] w0 λe w'=>∃ (U:Bool),
   e=.returned (.bool U)∧K U∧Bel w0 w':=by
 unfold Zev at h
 refine cof Tryz.func32 rfl 11 Tryz.ntmps32 ?_
 have A:=ZNf (X:=Nox) w0 [ZMt TForm I [u0_0] fp0,ZMt TForm L [u1_0] fp1] (alc q0 (al1 q1));have V:=(A.getP 0 rfl);replace A:=A.derive 0 rfl (ZMt ZMv.ty.sl I.terms [u0_0] fp0) (λ_=>(Y9 V)) (λ_ G=>G)
 have aa:=(A.getP 2 rfl);replace A:=A.derive 2 rfl (ZMt ZMv.ty.sl L.terms [u1_0] fp1) (λ_=>(Y9 aa)) (λ_ G=>G)
 refine sr (Ya (v:=.agg #[u0_0]) A [u0_0] rfl rfl λb7 w9 ab A=>Ya (v:=.agg #[u1_0]) A [u1_0] rfl rfl λac ad ab A=>Zc (v:=.bool false) rfl (dn (ZMu (sr (Zu 0 ZM1 rfl sc53.size rfl rfl (Z5 A 1 (u0_0) rfl sc53 rfl rfl (Zu 0 ZM1 rfl sc53.size rfl rfl (Z5 A 0 (u1_0) rfl sc53 rfl rfl (Zf [u0_0,u1_0] _ Tryz.func87 rfl rfl rfl (Zw5 I.terms L.terms h _ (A.getP 1 rfl) (A.getP 0 rfl)) ?_)))))))))
 rintro _ ae ⟨ag,rfl,h,O⟩;refine rt ?_
 replace A:=A.grow O;refine Xe rfl (dn ?_)
 refine Zp rfl (λB=>?_) (λB=>?_)
 ·replace h:=ift h (Yz (Xi B));refine sr (Zc (v:=.bool false) rfl (dn ?_))
  refine ZM3 (Zl ?_)
  exact Zi rfl (Ze rfl) ⟨false,rfl,h,A.below⟩ (.inl rfl)
 ·replace h:=Zm h (not_not_intro ((Xj B)));refine ZMy (Zd (sr (Zc (v:=.bool true) rfl (dn (ZM3 ?_)))))
  exact Zi rfl (Ze rfl) ⟨true,rfl,h,A.below⟩ (.inl rfl)
def Zkh (I:List ZMw) (L:List ZMw) (K:Bool→Prop):Prop :=
 (if(I.length:Int)≠(L.length:Int) then K false else Z9 (λh (B:Unit) A=>((0≤(h:Int)∧(h:Int) < (L.length:Int))∧Zev (I.getD h ZEu) (L.getD h ZEu) (λG=>(if¬ (G=true) then K false else A ())))) (λ(B:Unit)=>K true) I.length 0 ())
theorem Zw6 (a0:List ZMw) (a1:List ZMw)  {K:Bool→Prop} (h:Zkh a0 a1 K) (w0:World) (q0:ZNg.sl.rep a0 [u0_0] fp0 w0) (q1:ZNg.sl.rep a1 [u1_0] fp1 w0) :
  Calls ZMx 51 #[u0_0,u1_0] w0 λe w'=>∃ (r0:Bool),
   e=.returned (.bool r0)∧K r0∧Bel w0 w':=by
 unfold Zkh at h
 refine cof Tryz.func51 rfl 27 Tryz.ntmps51 ?_
 have B:=ZNf (X:=Nox) w0 [ZMt ZNg.sl a0 [u0_0] fp0,ZMt ZNg.sl a1 [u1_0] fp1] (alc q0 (al1 q1));refine sr (Zc (v:=.bool false) rfl (dn (ZMu (sr (Za (v:=u0_0) rfl (Zw B 0 rfl ZNi rfl (Za (v:=u1_0) rfl (Zw B 1 rfl ZNi rfl (Y2 rfl rfl (dn ?_))))))))))
 refine Zp rfl (λab=>?_) (λab=>?_)
 ·replace h:=ift h (ct ab);refine sr (Zc (v:=.bool false) rfl (dn ?_))
  refine ZM3 (Zl ?_)
  exact Zi rfl (Ze rfl) ⟨false,rfl,h,B.below⟩ (.inl rfl)
 ·replace h:=Zm h (cf ab);refine ZMy (Zd (ZMu (sr (Zc (v:=vI 0) rfl (dn (ZM0 ?_))))))
  have am:a0.length≤9223372036854775807:=Y5 (B.getP 0 rfl);refine Yp (S:=Unit) _ _ (λA al e_ w_=>Zt e_ [(0,u0_0),(1,u1_0),(5,vI (A:Int))]∧Ctx Nox w0 w_ [] [ZMt ZNg.sl a0 [u0_0] fp0,ZMt ZNg.sl a1 [u1_0] fp1]) a0.length ?_ ?_ (s0:=()) ?_ h
  ·clear B h;rintro A al e_ a4 a3 ax G ⟨ac,B⟩ h an;rw [ue ac];refine ZMu (sr (Za (v:=vI (A:Int)) rfl (Za (v:=u0_0) rfl (Zw B 0 rfl ZNi rfl (Zn rfl rfl (dn (Z3 rfl (decide_eq_true (by omega)) (ZMy (Zd (ZMu (ZM0 (ZMu ?_))))))))))))
   refine cwd 8 Yh [0,0,3,7,0,0,48,112,255,511] [2,3,6,7] [0,1,4,5] (λL O a5 I=>?_)
   replace B:=B.grow I;refine bM 0 (u0_0) rfl O (Zb 10 1) (bM 1 (vI (A:Int)) rfl O (Zb 10 3) ?_)
   obtain ⟨ao,a6,ad⟩:=Zx (B.getP 0 rfl) A G;refine bL 2 (.pointer (some (ao.add (A * 1)))) rfl rfl L (λ_ I=>by exact Y1 (len:=a0.length) ZNi ag55.size (by exact tr rfl ad) rfl (ZNb _) (ZNt.2 G)) (Zb 10 7) ?_
   obtain ⟨ay,ae,ap,ag⟩:=Xp (B.getP 0 rfl) ad A G;obtain ⟨V,rfl⟩:=ZJj.1 ae;clear ae;rw [Xm _ _ G] at ag
   have aq:=ag;replace B:=B.derive 0 rfl (ZMt ZMv.ty.sl ((a0.getD A ZEu).terms) [V] fp0) (λ_=>(Y9 aq)) (λ_ ah=>ah)
   refine bL 3 (.agg #[V]) rfl rfl L (λ_ I=>by exact Jr [V] (Zaw I ap) ag55 rfl rfl) (Zb 10 15) (bM 4 (u1_0) rfl O (Zb 10 31) (bM 5 (vI (A:Int)) rfl O (Zb 10 63) ?_))
   obtain ⟨⟨az,a2⟩,h⟩:=h;obtain ⟨ar,a7,ai⟩:=Zx (B.getP 2 rfl) A (show A < a1.length by omega)
   refine bL 6 (.pointer (some (ar.add (A * 1)))) rfl rfl L (λ_ I=>by exact Y1 (len:=a1.length) ZNi ag55.size (by exact tr rfl ai) rfl az a2) (Zb 10 127) ?_
   obtain ⟨ay,aj,au,ak⟩:=Xp (B.getP 2 rfl) ai A (show A < a1.length by omega)
   obtain ⟨aa,rfl⟩:=ZJj.1 aj;clear aj;rw [Xm _ _ (show A < a1.length by omega)] at ak
   have av:=ak;replace B:=B.derive 2 rfl (ZMt ZMv.ty.sl ((a1.getD A ZEu).terms) [aa] fp1) (λ_=>(Y9 av)) (λ_ ah=>ah)
   refine bL 7 (.agg #[aa]) rfl rfl L (λ_ I=>by exact Jr [aa] (Zaw I au) ag55 rfl rfl) (Zb 10 255) (Z0 8 (by decide) (by decide) (by kernel_rfl) (by kernel_rfl) rfl (Zf [.agg #[V],.agg #[aa]] _ Tryz.func32 rfl rfl rfl (Zqo (a0.getD A ZEu) (a1.getD A ZEu) h _ (Yi (B.getP 1 rfl)) (Yi (B.getP 0 rfl))) ?_))
   rintro _ a8 ⟨a9,rfl,h,aw⟩;refine rt ?_
   replace B:=B.grow aw;refine Xe rfl (done (Z1 (Zd ?_)))
   refine Zp rfl (λU=>?_) (λU=>?_)
   ·replace h:=ift h (Yz (Xi U));refine sr (Zc (v:=.bool false) rfl (dn ?_))
    refine ZM3 (Z8 (Zl (Zl (Z8 (Zl ?_)))))
    exact Zi rfl (Ze rfl) ⟨false,rfl,h,B.below⟩ (.inl rfl)
   ·replace h:=Zm h (not_not_intro ((Xj U)));refine ZMy (Zq (Zd (Zj (Za (v:=vI (A:Int)) rfl (Zo rfl rfl (Zc (v:=vI (ZHf.wrap ((A:Int)+1))) rfl (done ?_)))))))
    exact an () _ _ ⟨(sl ⟨rfl,rfl,(tr rfl (congrArg _ (Z7 G am))),trivial⟩),(B.sP [2,3] rfl)⟩ h
  ·clear B h;rintro al e_ ba ax ⟨ac,B⟩ h;rw [ue ac];refine ZMu (sr (Za (v:=vI (a0.length:Int)) rfl (Za (v:=u0_0) rfl (Zw B 0 rfl ZNi rfl (Zn rfl rfl (dn (Z2 rfl (decide_eq_false (by omega)) ?_)))))))
   refine ZM9 (Zk (Zk (Zy ?_)))
   refine Zd (sr (Zc (v:=.bool true) rfl (dn (ZM3 ?_))))
   exact Zi rfl (Ze rfl) ⟨true,rfl,h,B.below⟩ (.inl rfl)
  ·skip;exact⟨(slq rfl),B⟩
def Zc9 (h:Bool) (A:Int) (K:Int→Prop):Prop :=
 (if h=true then K A else K 0)
theorem Zh9 (G:Bool) (A:Int)  {K:Int→Prop} (h:Zc9 G A K) (w0:World)  :
  Calls ZMx 45 #[.bool G,vI A] w0 λe w'=>∃ (I:Int),
   e=.returned (vI I)∧K I∧Bel w0 w':=by
 unfold Zc9 at h
 refine cof Tryz.func45 rfl 7 Tryz.ntmps45 ?_
 have L:=ZNf (X:=Nox) w0 [] (by simp)
 refine sr (Zc (v:=vI 0) rfl (dn (ZMu (sr (Za (v:=.bool G) rfl (dn ?_))))))
 refine Zp rfl (λB=>?_) (λB=>?_)
 ·replace h:=ift h (B);refine sr (Za (v:=vI A) rfl (Zc (v:=vI A) rfl (dn ?_)))
  refine ZM3 (Zl ?_)
  exact Zi rfl (Ze rfl) ⟨A,rfl,h,L.below⟩ (.inl rfl)
 ·replace h:=Zm h (Yz B);refine ZMy (Zd (sr (Zc (v:=vI 0) rfl (dn (ZM3 ?_)))))
  exact Zi rfl (Ze rfl) ⟨0,rfl,h,L.below⟩ (.inl rfl)
end Go.Proofs.YtaagfepgbofmlaaGreat
namespace Go.Proofs.YtaagfepgbofmlaaGreat
open Go Vc
theorem Zmz {a b c:Int} {K:Bool→Prop} (h:K (decide (b≤a∧a≤c))):Zes a b c K:=by
 unfold Zes;split
 ·rename_i A; simpa [show b≤a from A] using h
 ·rename_i A; simpa [show ¬ b≤a from A] using h
theorem Zw7 {ds:List Int} {K:Bool→Prop} (h:K (decide (OkDeg ds))):Zhr ds K:=by
 unfold Zhr;refine Yu (λi _=>∀ j,j < i→1≤ds.getD j ZEu∧ds.getD j ZEu≤12) ds.length ?_ ?_ _ _ _ (by omega) (by intro j hj; omega)
 ·intro i s next hi A hn;refine Zmz ?_
  split
  ·rename_i B;have:¬ OkDeg ds:=λhd=>B (by simpa using hd.2 i hi)
   simpa [this] using h
  ·rename_i B;refine hn _ λj hj=>?_
   by_cases hji:j=i
   ·subst hji; simpa using B
   ·exact A j (by omega)
 ·intro s A
  have:(decide ((ds.length:Int)≤8))=decide (OkDeg ds):=by
   rw [decide_eq_decide]; unfold OkDeg;constructor
   ·intro G; exact⟨by omega,A⟩
   ·intro G; have:=G.1; omega
  rw [this]; exact h
theorem Zw8 {ds:List Int} {a:A8} {K:Bool→Prop} (ha:∀ i,i < 8→0≤a.get i) (hl:ds.length≤8) (h:K (decide (OkMono ds a))):Zhs ds a K:=by
 unfold Zhs;refine Yu (λi _=>∀ j,j < i→(j < ds.length→a.get j≤20∧(ZFl (ds.getD j ZEu) 2≠0→a.get j≤1))∧(ds.length≤j→a.get j=0)) 8 ?_ ?_ _ _ _ (by omega) (by intro j hj; omega)
 ·intro i s next hi A hn
  have no:¬ ((i < ds.length→a.get i≤20∧(ZFl (ds.getD i ZEu) 2≠0→a.get i≤1))∧(ds.length≤i→a.get i=0))→K false:=by
   intro hno;have:¬ OkMono ds a:=λhm=>hno (hm i hi)
   simpa [this] using h
  have yes:((i < ds.length→a.get i≤20∧(ZFl (ds.getD i ZEu) 2≠0→a.get i≤1))∧(ds.length≤i→a.get i=0))→next ():=by
   intro hy;refine hn _ λj hj=>?_
   by_cases hji:j=i
   ·subst hji; exact hy
   ·exact A j (by omega)
  split
  ·split
   ·exact no (by intro q; have:=q.2 (by omega); contradiction)
   ·rename_i q;exact yes ⟨by omega,by intro _; simpa using q⟩
  ·split
   ·exact no (by intro q; have:=(q.1 (by omega)).1; omega)
   ·refine⟨by omega,?_⟩
    split
    ·split
     ·exact no (by intro q; rename_i B G; have:=(q.1 (by omega)).2 B; omega)
     ·exact yes ⟨λ_=>⟨by omega,λ_=>by omega⟩,by omega⟩
    ·rename_i B;exact yes ⟨λ_=>⟨by omega,λG=>absurd G B⟩,by omega⟩
 ·intro s A;have:OkMono ds a:=λi hi=>A i hi
  simpa [this] using h
theorem Zw9 {ds:List Int} {a:A8} {K:Bool→Prop} (hd:OkDeg ds) (ha:∀ i,i < 8→0≤a.get i) (h:K (decide (OkMono ds a))):Zhy ds a K:=by
 unfold Zhy;refine Yu (λi _=>∀ j,j < i→(j < ds.length→a.get j≤20∧(ZFl (ds.getD j ZEu) 2≠0→a.get j≤1))∧(ds.length≤j→a.get j=0)) 8 ?_ ?_ _ _ _ (by omega) (by intro j hj; omega)
 ·intro i s next hi A hn;have hai:=ha i hi
  have no:¬ ((i < ds.length→a.get i≤20∧(ZFl (ds.getD i ZEu) 2≠0→a.get i≤1))∧(ds.length≤i→a.get i=0))→K false:=by
   intro hno;have:¬ OkMono ds a:=λhm=>hno (hm i hi)
   simpa [this] using h
  have yes:((i < ds.length→a.get i≤20∧(ZFl (ds.getD i ZEu) 2≠0→a.get i≤1))∧(ds.length≤i→a.get i=0))→next ():=by
   intro hy;refine hn _ λj hj=>?_
   by_cases hji:j=i
   ·subst hji; exact hy
   ·exact A j (by omega)
  split
  ·refine⟨by omega,?_⟩
   rename_i hl;have hod:=hd.odd (show i < ds.length by omega)
   split
   ·rename_i B;split
    ·exact no (by intro q; have:=(q.1 (by omega)).2 (by omega); omega)
    ·exact yes ⟨λ_=>⟨by omega,λ_=>by omega⟩,by omega⟩
   ·rename_i B;split
    ·exact no (by intro q; have:=(q.1 (by omega)).1; omega)
    ·exact yes ⟨λ_=>⟨by omega,λq=>by omega⟩,by omega⟩
  ·split
   ·exact no (by intro q; have:=q.2 (by omega); omega)
   ·exact yes ⟨by omega,λ_=>by omega⟩
 ·intro s A;have:OkMono ds a:=λi hi=>A i hi
  simpa [this] using h
theorem Zqp {a b c:Int} {K:Bool→Prop} (h:K (decide (b≤a∧a≤c))):Zf2 a b c K:=by
 unfold Zf2;split
 ·rename_i A; simpa [show b≤a from A] using h
 ·rename_i A; simpa [show ¬ b≤a from A] using h
theorem Zxa {ds:List Int} {K:Bool→Prop} (h:K (decide (OkDeg ds))):Zhx ds K:=by
 unfold Zhx;split
 ·rename_i G;unfold Zf3 Zd3;refine Yu (λi _=>∀ j,j < i→1≤ds.getD j ZEu∧ds.getD j ZEu≤12) ds.length ?_ ?_ _ _ _ (by omega) (by intro j hj; omega)
  ·intro i s next hi B hn;unfold Zhw;refine Zqp ?_
   dsimp only;split
   ·rename_i A;have:¬ OkDeg ds:=λhd=>by have:=hd.2 i hi; simp only [Bool.not_eq_true',decide_eq_false_iff_not] at A; exact A this
    simpa [this,show (i:Int)≥0 by omega] using h
   ·rename_i A;refine hn _ λj hj=>?_
    by_cases hji:j=i
    ·subst hji; simp only [Bool.not_eq_true',decide_eq_false_iff_not,ZH3] at A; exact A
    ·exact B j (by omega)
  ·intro s B;have:OkDeg ds:=⟨by omega,B⟩
   simpa [this] using h
 ·have:¬ OkDeg ds:=λhd=>by have:=hd.1; omega
  simpa [this] using h
theorem Zki {a:A8} {K:A8→Prop} (ha:Zas .u8 a) (h:K a):Zd2 a K:=by
 unfold Zd2;refine Yu (λi (s:A8)=>∀ j,j < 8→s.get j=if j < i then a.get j else 0) 8 ?_ ?_ _ _ _ (by omega) (by intro j hj; simp [A8.get_zero])
 ·intro i s next hi B hn;have:=Zmg (Zmh ha hi);rw [i64_in _ (by omega)]
  refine hn _ λj hj=>?_
  rw [ZP7 hi];by_cases hji:j=i
  ·subst hji; simp
  ·rw [if_neg hji,B j hj];by_cases A:j < i
   ·rw [if_pos A,if_pos (by omega)]
   ·rw [if_neg A,if_neg (by omega)]
 ·intro s B;have:s=a:=ZP8 λi hi=>by rw [B i hi,if_pos hi]
  rw [this]; exact h
theorem Zxb {a:A8} {K:A8→Prop} (h:K a):Zh2 a K:=by
 unfold Zh2;refine Yu (λi (s:A8)=>∀ j,j < 8→s.get j=if j < i then a.get j else 0) 8 ?_ ?_ _ _ _ (by omega) (by intro j hj; simp [A8.get_zero])
 ·intro i s next hi B hn;refine hn _ λj hj=>?_
  rw [ZP7 hi];by_cases hji:j=i
  ·subst hji; simp
  ·rw [if_neg hji,B j hj];by_cases A:j < i
   ·rw [if_pos A,if_pos (by omega)]
   ·rw [if_neg A,if_neg (by omega)]
 ·intro s B;have:s=a:=ZP8 λi hi=>by rw [B i hi,if_pos hi]
  rw [this]; exact h
theorem Zxc {ds:List Int} {K:List Int→Prop} (hl:ds.length≤1048576) (h:K ds):Zh3 ds K:=by
 unfold Zh3;refine⟨by omega,?_⟩
 refine Yu (λi (s:List Int)=>s.length=ds.length∧∀ j,j < i→s.getD j ZEu=ds.getD j ZEu) ds.length ?_ ?_ _ _ _ (by omega) (by simp)
 ·intro i s next hi A hn;refine⟨by omega,hn _ ⟨by simpa using A.1,λj hj=>?_⟩⟩
  by_cases hji:j=i
  ·subst hji; simp [ZE0,A.1,hi]
  ·rw [← A.2 j (by omega)]; simp [ZE0,List.getElem?_set_ne (λe=>hji e.symm)]
 ·intro s A
  have:s=ds:=by
   apply List.ext_getElem A.1;intro i G B;have:=A.2 i B;simpa [ZE0,G,B] using this
  rw [this]; exact h
theorem Zxd {a b:A8} {K:Bool→Prop} (h:K (decide (a=b))):Zh4 a b K:=by
 unfold Zh4;refine Yu (λi _=>∀ j,j < i→a.get j=b.get j) 8 ?_ ?_ _ _ _ (by omega) (by intro j hj; omega)
 ·intro i s next hi A hn;split
  ·rename_i B;have:¬ a=b:=λe=>B (by rw [e])
   simpa [this] using h
  ·rename_i B;refine hn _ λj hj=>?_
   by_cases hji:j=i
   ·subst hji; simpa using B
   ·exact A j (by omega)
 ·intro s A;have:a=b:=ZP8 A;simpa [this] using h
theorem Zxe {a b:List Int} {K:Bool→Prop} (h:K (decide (a=b))):Zh5 a b K:=by
 unfold Zh5;split
 ·rename_i A;have:¬ a=b:=λe=>A (by rw [e])
  simpa [this] using h
 ·rename_i A;have hl:a.length=b.length:=by omega
  refine Yu (λi _=>∀ j,j < i→a.getD j ZEu=b.getD j ZEu) a.length ?_ ?_ _ _ _ (by omega) (by intro j hj; omega)
  ·intro i s next hi B hn;refine⟨by omega,?_⟩
   split
   ·rename_i A;have:¬ a=b:=λe=>A (by rw [e])
    simpa [this] using h
   ·rename_i A;refine hn _ λj hj=>?_
    by_cases hji:j=i
    ·subst hji; simpa using A
    ·exact B j (by omega)
  ·intro s B
   have:a=b:=by
    apply List.ext_getElem hl;intro i A G;have:=B i A;simpa [ZE0,A,G] using this
   simpa [this] using h
end Go.Proofs.YtaagfepgbofmlaaGreat
namespace Go.Proofs.YtaagfepgbofmlaaGreat
open Go Vc
theorem Zkj {ds:List Int} {a:A8} (h:Jh ds a) (hl:ds.length≤8) {i:Nat} (hi:i < ds.length) (ho:ZFl (ds.getD i ZEu) 2≠0):a.get i≤1:=((h i (by omega)).1 hi).2 ho
theorem Zxf {ds:List Int} {a b s:A8} (ha:Jh ds a) (hb:Jh ds b) (hl:ds.length≤8) (h:∀ j,j < 8→s.get j=if j < ds.length then a.get j+b.get j else 0):s=a.add b:=by
 refine ZP8 λi hi=>?_
 rw [h i hi,A8.get_add];split
 ·rfl
 ·rw [(ha i hi).2 (by omega),(hb i hi).2 (by omega)]; rfl
theorem Zxg {ds:List Int} {a b:A8} {K:A8→Int→Prop} (hd:OkDeg ds) (ha:Jh ds a) (hb:Jh ds b) (pa:∀ i,i < 8→0≤a.get i) (pb:∀ i,i < 8→0≤b.get i)
  (h:K (Xk ds a b).1 (Xk ds a b).2):Zht ds a b K:=by
 have V:=hd.1;unfold Zht;refine Yu (λi (s:A8×Int)=>(∀ j,j < i→j < ds.length→ZFl (ds.getD j ZEu) 2≠0→¬ (0 < a.get j∧0 < b.get j))∧(∀ j,j < 8→s.1.get j=if j < i then a.get j+b.get j else 0)∧(s.2=1∨s.2=-1)∧s.2 * sg (Zci ds a b (ds.length - i) i)=sg (Zci ds a b ds.length 0)) ds.length ?_ ?_ _ _ _ (by omega) ⟨by intro j hj; omega,by intro j hj; simp [A8.get_zero],by simp,by simp⟩
 ·rintro i ⟨s1,s2⟩ next hi ⟨L,h2,h3,B⟩ hn;have I:i < 8:=by omega
  have pai:=pa i I;have pbi:=pb i I;have ad:=((ha i I).1 hi).1;have ae:=((hb i I).1 hi).1;have hr:ds.length - i=(ds.length - (i+1))+1:=by omega
  rw [hr] at B
  simp only [Zci] at B
  dsimp only at L h2 h3 B ⊢
  have hw:IntKind.u8.wrap (a.get i+b.get i)=a.get i+b.get i:=Zmi _ (by omega)
  rw [hw]
  have hset:∀ j,j < 8→(s1.set i (a.get i+b.get i)).get j=if j < i+1 then a.get j+b.get j else 0:=by
   intro j hj;rw [ZP7 I];by_cases hji:j=i
   ·subst hji; simp
   ·rw [if_neg hji,h2 j hj];by_cases aa:j < i
    ·rw [if_pos aa,if_pos (by omega)]
    ·rw [if_neg aa,if_neg (by omega)]
  refine⟨by omega,by omega,by omega,?_⟩
  split
  ·rename_i he;rw [if_pos (.inl he),ZF7] at B
   refine hn _ ⟨λj hj hjl ho=>?_,hset,h3,B⟩
   by_cases hji:j=i
   ·subst hji; exact absurd he ho
   ·exact L j (by omega) hjl ho
  ·rename_i he;have a1:=Zkj ha V hi he;have b1:=Zkj hb V hi he;refine⟨by omega,?_⟩
   rw [ZP7 I,if_pos rfl];split
   ·rename_i hc;have:Clash ds a b:=⟨i,hi,he,by omega,by omega⟩
    simpa [Xk,this] using h
   ·rename_i hc
    have hnc:∀ j,j < i+1→j < ds.length→ZFl (ds.getD j ZEu) 2≠0→¬ (0 < a.get j∧0 < b.get j):=by
     intro j hj hjl ho;by_cases hji:j=i
     ·subst hji; omega
     ·exact L j (by omega) hjl ho
    rw [i64_in _ (by omega)]
    refine Jg (λ(t:Int×Int)=>((i:Int)+1≤t.1∧t.1≤ds.length)∧(t.2=1∨t.2=-1)∧(b.get i=1→t.2 * sg (Zch ds a (ds.length - t.1.toNat) t.1.toNat)=s2 * sg (Zch ds a (ds.length - (i+1)) (i+1)))∧(b.get i≠1→t.2=s2)) (λt=>ds.length - t.1.toNat) ?_ ⟨by omega,h3,λ_=>by rw [show ((i:Int)+1).toNat=i+1 by omega],λ_=>rfl⟩
    rintro ⟨j,c⟩ next' ⟨⟨q1,q2⟩,O,A,q5⟩ hn';dsimp only at q1 q2 O A q5 ⊢
    split
    ·rename_i hj;refine⟨by omega,?_⟩
     split
     ·rename_i G;have hjn:j.toNat < ds.length:=by omega
      refine⟨by omega,?_⟩
      have A:=A G;have ab:ds.length - j.toNat=(ds.length - (j.toNat+1))+1:=by omega
      rw [ab] at A
      simp only [Zch] at A
      have U:(j+1).toNat=j.toNat+1:=by omega
      rw [i64_in (j+1) (by omega)]
      have pj:=pa j.toNat (by omega)
      split
      ·rename_i ho;have aj:=Zkj ha V hjn ho;have od:=hd.odd hjn;have ac:ZFl (ds.getD j.toNat ZEu) 2=1:=by omega
       rw [ac,Int.one_mul] at A
       refine⟨by omega,?_⟩
       split
       ·rename_i haj;rw [haj,Int.add_comm,Zvu] at A
        rw [i64_in (0 - c) (by omega)]
        refine hn' _ ⟨⟨by dsimp only; omega,by dsimp only; omega⟩,by dsimp only; omega,λ_=>?_,λhne=>absurd G hne⟩ (by dsimp only; omega)
        dsimp only;rw [U,Int.zero_sub,Int.neg_mul,← Int.mul_neg]; exact A
       ·rename_i haj;rw [show a.get j.toNat=0 by omega,ZF7] at A
        refine hn' _ ⟨⟨by dsimp only; omega,by dsimp only; omega⟩,O,λ_=>?_,λhne=>absurd G hne⟩ (by dsimp only; omega)
        dsimp only;rw [U]; exact A
      ·rename_i ho;rw [show ZFl (ds.getD j.toNat ZEu) 2=0 by simpa using ho,Int.zero_mul,ZF7] at A
       refine hn' _ ⟨⟨by dsimp only; omega,by dsimp only; omega⟩,O,λ_=>?_,λhne=>absurd G hne⟩ (by dsimp only; omega)
       dsimp only;rw [U]; exact A
     ·rename_i G;refine hn _ ⟨hnc,hset,O,?_⟩
      rw [if_pos (.inr (by omega)),ZF7] at B
      dsimp only;rw [q5 G]; exact B
    ·rename_i hj;refine hn _ ⟨hnc,hset,O,?_⟩
     dsimp only;by_cases G:b.get i=1
     ·have A:=A G;rw [show ds.length - j.toNat=0 by omega] at A
      simp only [Zch] at A
      rw [show sg 0=1 from rfl,Int.mul_one] at A
      rw [if_neg (by omega),Zj7,← Int.mul_assoc] at B
      rw [A]; exact B
     ·rw [if_pos (.inr (by omega)),ZF7] at B
      rw [q5 G]; exact B
 ·rintro ⟨s1,s2⟩ ⟨L,h2,h3,B⟩;have hnc:¬ Clash ds a b:=λ⟨i,hi,ho,hp⟩=>L i hi hi ho hp
  rw [Nat.sub_self] at B
  simp only [Zci] at B
  rw [show sg 0=1 from rfl,Int.mul_one] at B
  have hs:s1=a.add b:=Zxf ha hb V h2;dsimp only at B ⊢
  rw [hs,B];simpa [Xk,hnc] using h
theorem Zxh {ds:List Int} {a b:A8} {K:A8→Int→Prop} (hd:OkDeg ds) (ha:Jh ds a) (hb:Jh ds b) (pa:∀ i,i < 8→0≤a.get i) (pb:∀ i,i < 8→0≤b.get i)
  (h:K (Xk ds a b).1 (Xk ds a b).2):Zhv a ds b K:=by
 have h8:=hd.1
 have bnd:∀ (x:A8),Jh ds x→∀ i,i < 8→x.get i≤100:=by
  intro x hx i hi;by_cases hl:i < ds.length
  ·exact((hx i hi).1 hl).1
  ·rw [(hx i hi).2 (by omega)]; omega
 unfold Zhv;refine Yu (λi (c:Int)=>(∀ j,j < i→j < ds.length→ZFl (ds.getD j ZEu) 2≠0→¬ (0 < a.get j∧0 < b.get j))∧(0≤c∧c≤8 * i)∧c+Zci ds a b (ds.length - i) i=Zci ds a b ds.length 0) ds.length ?_ ?_ _ _ _ (by omega) ⟨by intro j hj; omega,by omega,by simp⟩
 ·rintro i c next hi ⟨G,h2,A⟩ hn;have L:i < 8:=by omega
  have pai:=pa i L;have pbi:=pb i L;have hr:ds.length - i=(ds.length - (i+1))+1:=by omega
  rw [hr] at A
  simp only [Zci] at A
  split
  ·rename_i he;rw [if_pos (.inl he),ZF7] at A
   refine hn _ ⟨λj hj hjl ho=>?_,by omega,A⟩
   by_cases hji:j=i
   ·subst hji; exact absurd he ho
   ·exact G j (by omega) hjl ho
  ·rename_i he;refine⟨by omega,?_⟩
   have hnc:¬ (0 < a.get i∧0 < b.get i)→∀ j,j < i+1→j < ds.length→ZFl (ds.getD j ZEu) 2≠0→¬ (0 < a.get j∧0 < b.get j):=by
    intro hno j hj hjl ho;by_cases hji:j=i
    ·subst hji; exact hno
    ·exact G j (by omega) hjl ho
   split
   ·rename_i hap;refine⟨by omega,?_⟩
    split
    ·rename_i hbp;have:Clash ds a b:=⟨i,hi,he,by omega,by omega⟩
     simpa [Xk,this] using h
    ·rename_i hbp;rw [if_pos (.inr (by omega)),ZF7] at A
     exact⟨by omega,hn _ ⟨hnc (by omega),by omega,A⟩⟩
   ·rename_i hap;refine⟨by omega,?_⟩
    split
    ·rename_i hbp;have U:¬ (ZFl (ds.getD i ZEu) 2=0∨b.get i≤0):=by rintro (q | q); exact he q; omega
     rw [if_neg U] at A
     rw [i64_in _ (by omega)]
     refine Jg (λ(t:Int×Int)=>((i:Int)+1≤t.1∧t.1≤ds.length)∧(0≤t.2∧t.2≤8 * i+(t.1 - (i+1)))∧t.2+Zch ds a (ds.length - t.1.toNat) t.1.toNat=c+Zch ds a (ds.length - (i+1)) (i+1)) (λt=>ds.length - t.1.toNat) ?_ ⟨by omega,by omega,by rw [show ((i:Int)+1).toNat=i+1 by omega]⟩
     rintro ⟨j,d⟩ next' ⟨⟨q1,q2⟩,q3,B⟩ hn';dsimp only at q1 q2 q3 B ⊢
     split
     ·rename_i hj;have hjn:j.toNat < ds.length:=by omega
      refine⟨by omega,by omega,?_⟩
      have V:ds.length - j.toNat=(ds.length - (j.toNat+1))+1:=by omega
      rw [V] at B
      simp only [Zch] at B
      have aa:(j+1).toNat=j.toNat+1:=by omega
      have pj:=pa j.toNat (by omega)
      have hm:0≤ZFl (ds.getD j.toNat ZEu) 2 * a.get j.toNat∧ZFl (ds.getD j.toNat ZEu) 2 * a.get j.toNat≤1:=by
       rcases hd.odd hjn with od | od
       ·rw [od]; omega
       ·have:=Zkj ha h8 hjn (by omega)
        rw [od]; omega
      rw [i64_in (ZFl (ds.getD j.toNat ZEu) 2 * a.get j.toNat) (by omega),i64_in (d+ZFl (ds.getD j.toNat ZEu) 2 * a.get j.toNat) (by omega),i64_in (j+1) (by omega)]
      refine hn' _ ⟨⟨by dsimp only; omega,by dsimp only; omega⟩,by dsimp only; omega,?_⟩ (by dsimp only; omega)
      dsimp only;rw [aa]; omega
     ·rename_i hj;rw [show ds.length - j.toNat=0 by omega] at B
      simp only [Zch] at B
      refine hn _ ⟨hnc (by omega),by omega,by omega⟩
    ·rename_i hbp;rw [if_pos (.inr (by omega)),ZF7] at A
     exact hn _ ⟨hnc (by omega),by omega,A⟩
 ·rintro c ⟨G,h2,A⟩;have hnc:¬ Clash ds a b:=λ⟨i,hi,ho,hp⟩=>G i hi hi ho hp
  rw [Nat.sub_self] at A
  simp only [Zci,Int.add_zero] at A
  refine Yu (λi (s:A8)=>∀ j,j < 8→s.get j=if j < i then a.get j+b.get j else a.get j) 8 ?_ ?_ _ _ _ (by omega) (by intro j hj; simp)
  ·intro i s next hi I hn;have e1:=I i hi;rw [if_neg (by omega)] at e1
   have:=bnd a ha i hi;have:=bnd b hb i hi;have:=pa i hi;have:=pb i hi;rw [e1,i64_in _ (by omega)]
   refine hn _ λj hj=>?_
   rw [ZP7 hi];by_cases hji:j=i
   ·subst hji; simp
   ·rw [if_neg hji,I j hj];by_cases O:j < i
    ·rw [if_pos O,if_pos (by omega)]
    ·rw [if_neg O,if_neg (by omega)]
  ·intro s I;have hs:s=a.add b:=ZP8 λi hi=>by rw [I i hi,if_pos hi,A8.get_add]
   have hj:Xk ds a b=(a.add b,sg c):=by simp [Xk,hnc,A]
   rw [hj] at h
   rw [hs];split
   ·rename_i ho;have:sg c=-1:=by unfold sg; rw [ZP9 (by omega)] at ho; rw [if_neg (by omega)]
    rw [this] at h; exact h
   ·rename_i ho;have:sg c=1:=by unfold sg; rw [ZP9 (by omega)] at ho; rw [if_pos (by omega)]
    rw [this] at h; exact h
end Go.Proofs.YtaagfepgbofmlaaGreat
namespace Go.Proofs.YtaagfepgbofmlaaGreat
open Go Vc
end Go.Proofs.YtaagfepgbofmlaaGreat
namespace Vc
open Go
theorem Zqq:∀ (xs ys:List Int),xs.length=ys.length→Ju xs ys=0→xs=ys
 | [],[],_,_=>rfl
 | x :: xs, y :: ys, h, A => by
  simp only [Ju] at A
  split at A
  ·omega
  ·rename_i he;have he:x=y:=ZH3.1 he;rw [he,Zqq xs ys (by simpa using h) A]
 | [],_::_,h,_=>by simp at h
 | _::_,[],h,_=>by simp at h
theorem Zqr:∀ (xs ys:List Int),Ju xs ys=- Ju ys xs
 | [],[]=>rfl
 | x :: xs, y :: ys => by
  simp only [Ju];have:=Zqr xs ys;split <;> split <;> omega
 | [],_::_=>rfl
 | _::_,[]=>rfl
theorem A8.list_inj {a b:A8} (h:a.list=b.list):a=b:=by
 cases a; cases b;simpa [A8.list] using h
theorem Zxi (a:A8):pcmp a a=0:=Zvk _
theorem Zqs (a b:A8):pcmp a b=- pcmp b a:=Zqr _ _
theorem Zb7 {a b c:A8} (h:pcmp a b < 0) (A:pcmp b c < 0):pcmp a c < 0:=Zpv a.list b.list c.list rfl rfl h A
theorem Zkk {a b:A8} (h:¬ pcmp a b < 0) (A:¬ pcmp b a < 0):a=b :=
 A8.list_inj (Zqq _ _ rfl (by have:=Zqs a b; unfold pcmp at *; omega))
theorem Zbq {a b:A8} (h:pcmp a b < 0):a≠b:=by rintro rfl; rw [Zxi] at h; omega
theorem Zia {a b:A8} (h:pcmp a b < 0):b≠a:=λe=>Zbq h e.symm
theorem Zm0 {a b:A8} (h:pcmp a b < 0):¬ pcmp b a < 0:=by have:=Zqs a b; omega
def tot {α:Type} (f:α→Int):List α→Int
 | []=>0
 | a::l=>f a+tot f l
theorem Zkl {α:Type} (f:α→Int) (l k:List α):tot f (l++k)=tot f l+tot f k:=by
 induction l with
 | nil=>simp [tot]
 | cons a l ih=>simp only [List.cons_append,tot,ih]; omega
theorem Zf6 {α:Type} (f:α→Int) {l k:List α} (h:l.Perm k):tot f l=tot f k:=by
 induction h with
 | nil=>rfl
 | cons x _ ih=>simp only [tot,ih]
 | swap x y l=>simp only [tot]; omega
 | trans _ _ B A=>exact B.trans A
theorem Zew {α β:Type} (f:β→Int) (g:α→β) (l:List α):tot f (l.map g)=tot (λa=>f (g a)) l:=by
 induction l with
 | nil=>rfl
 | cons a l ih=>simp only [ZFw,tot,ih]
theorem Zib {α:Type} {f g:α→Int} {l:List α} (h:∀ a,a∈l→f a=g a):tot f l=tot g l:=by
 induction l with
 | nil=>rfl
 | cons a l ih=>simp only [tot]; rw [h a (by simp),ih λb hb=>h b (by simp [hb])]
theorem Zxj {α:Type} (f g:α→Int) (l:List α):tot (λa=>f a+g a) l=tot f l+tot g l:=by
 induction l with
 | nil=>simp [tot]
 | cons a l ih=>simp only [tot,ih]; omega
theorem Zkm {α:Type} {f:α→Int} {l:List α} (h:∀ a,a∈l→f a=0):tot f l=0:=by
 induction l with
 | nil=>rfl
 | cons a l ih=>simp only [tot]; rw [h a (by simp),ih λb hb=>h b (by simp [hb])]; rfl
theorem Zxk {α:Type} {f g:α→Int} {l:List α} (h:∀ a,a∈l→f a % 10007=g a % 10007):tot f l % 10007=tot g l % 10007:=by
 induction l with
 | nil=>rfl
 | cons a l ih =>
  have A:=h a (by simp)
  have B:=ih λb hb=>h b (by simp [hb])
  simp only [tot]; omega
def co (l:List (A8×Int)) (m:A8):Int:=tot (λp=>if p.1=m then p.2 else 0) l
def coT (l:List Term) (m:A8):Int:=tot (λt=>if t.mono=m then t.factor else 0) l
theorem Za5 (p:A8×Int) (l:List (A8×Int)) (m:A8):co (p::l) m=(if p.1=m then p.2 else 0)+co l m:=rfl
theorem Zcl (t:Term) (l:List Term) (m:A8):coT (t::l) m=(if t.mono=m then t.factor else 0)+coT l m:=rfl
theorem Zex (m:A8):coT [] m=0:=rfl
theorem Zf7 (m:A8):co [] m=0:=rfl
theorem Zda (l:List Term) (t:Term) (m:A8):coT (l++[t]) m=coT l m+(if t.mono=m then t.factor else 0):=by
 rw [coT,Zkl]; simp [tot,coT]
theorem Zd6 {l:List Term} {m:A8} (h:∀ t,t∈l→t.mono≠m):coT l m=0:=Zkm λt ht=>if_neg (h t ht)
theorem Zd7 {l:List (A8×Int)} {m:A8} (h:∀ t,t∈l→t.1≠m):co l m=0:=Zkm λt ht=>if_neg (h t ht)
def Canon (l:List Term):Prop:=l.Pairwise (λa b=>pcmp a.mono b.mono < 0)∧∀ t,t∈l→1≤t.factor∧t.factor≤10006
theorem Canon.nil:Canon []:=⟨ZRh,by simp⟩
theorem Canon.tail {t:Term} {l:List Term} (h:Canon (t::l)):Canon l:=⟨(ZEx.1 h.1).2,λs hs=>h.2 s (by simp [hs])⟩
theorem Canon.head {t:Term} {l:List Term} (h:Canon (t::l)):∀ s,s∈l→pcmp t.mono s.mono < 0:=(ZEx.1 h.1).1
theorem Canon.snoc {l:List Term} {t:Term} (h:Canon l) (hl:∀ s,s∈l→pcmp s.mono t.mono < 0) (hf:1≤t.factor∧t.factor≤10006):Canon (l++[t]):=by
 refine⟨ZG6.2 ⟨h.1,by simp,λa ha b hb=>?_⟩,λs hs=>?_⟩
 ·obtain rfl:b=t:=by simpa using hb
  exact hl a ha
 ·rcases ZEt.1 hs with q | q
  ·exact h.2 s q
  ·obtain rfl:s=t:=by simpa using q
   exact hf
theorem Canon.at_head {t:Term} {l:List Term} (h:Canon (t::l)):coT (t::l) t.mono=t.factor:=by
 rw [Zcl,if_pos rfl,Zd6 λs hs=>Zia (h.head s hs),Int.add_zero]
theorem Canon.range {l:List Term} (h:Canon l) (m:A8):0≤coT l m∧coT l m≤10006:=by
 induction l with
 | nil=>simp [Zex]
 | cons t l ih =>
  by_cases hm:t.mono=m
  ·subst hm;rw [h.at_head];have:=h.2 t (by simp)
   omega
  ·rw [Zcl,if_neg hm,ZF7];exact ih h.tail
theorem Zqt:∀ (A B:List Term),Canon A→Canon B→(∀ m,coT A m=coT B m)→A=B
 | [],[],_,_,_=>rfl
 | [], b :: B, _, G, h => by
  have:=h b.mono;rw [G.at_head,Zex] at this
  have:=G.2 b (by simp)
  omega
 | a :: A, [], I, _, h => by
  have:=h a.mono;rw [I.at_head,Zex] at this
  have:=I.2 a (by simp)
  omega
 | a :: A, b :: B, I, G, h => by
  have ha:=I.2 a (by simp)
  have hb:=G.2 b (by simp)
  by_cases L:pcmp a.mono b.mono < 0
  ·exfalso;have:=h a.mono;rw [I.at_head,Zd6 (l:=b::B)] at this
   ·omega
   ·intro t ht;rcases ZEn.1 ht with rfl | ht
    ·exact Zia L
    ·exact Zia (Zb7 L (G.head t ht))
  ·by_cases O:pcmp b.mono a.mono < 0
   ·exfalso;have:=h b.mono;rw [G.at_head,Zd6 (l:=a::A)] at this
    ·omega
    ·intro t ht;rcases ZEn.1 ht with rfl | ht
     ·exact Zia O
     ·exact Zia (Zb7 O (I.head t ht))
   ·have hm:a.mono=b.mono:=Zkk L O
    have hf:a.factor=b.factor:=by
     have:=h a.mono;rw [I.at_head,hm,G.at_head] at this; exact this
    have hab:a=b:=by cases a; cases b; simp only at hm hf; rw [hm,hf]
    subst hab;rw [Zqt A B I.tail G.tail λm=>?_]
    have:=h m;rw [Zcl,Zcl] at this
    omega
theorem Zxl {A B:List Term} (G:Canon A) (I:Canon B) (h:∀ m,coT A m % 10007=coT B m % 10007):A=B :=
 Zqt A B G I λm=>by have:=h m; have:=G.range m; have:=I.range m; omega
theorem Zic (x:Int):-10007 < ZFl x 10007∧ZFl x 10007 < 10007:=by
 rcases Int.le_total 0 x with h | h
 ·rw [ZP9 h]; omega
 ·have e:ZFl x 10007=- ZFl (-x) 10007:=by rw [Int.neg_tmod]; omega
  rw [e,ZP9 (by omega)]; omega
theorem Zqu (x:Int):ZFl (ZFl x 10007+10007) 10007=x % 10007:=by
 have h:=Zic x;rw [ZP9 (by omega)]
 have A:x=10007 * Int.tdiv x 10007+ZFl x 10007:=(ZRj x 10007).symm;omega
theorem Zqv (x:Int):ZFl x 10007 % 10007=x % 10007:=by
 have h:x=10007 * Int.tdiv x 10007+ZFl x 10007:=(ZRj x 10007).symm;omega
theorem Zxm {d e:Nat} (h:d * e=10007):d=1∨e=1:=by
 have key:∀ k,k < 101→k ∣ 10007→k≤1:=by decide
 by_cases hd:d < 101
 ·left
  have:=key d hd ⟨e,h.symm⟩;rcases Nat.eq_zero_or_pos d with rfl | q
  ·simp at h
  ·omega
 ·by_cases he:e < 101
  ·right
   have:=key e he ⟨d,by rw [Nat.mul_comm]; exact h.symm⟩
   rcases Nat.eq_zero_or_pos e with rfl | q
   ·simp at h
   ·omega
  ·exfalso;have:101 * 101≤d * e:=Nat.mul_le_mul (by omega) (by omega)
   omega
theorem Zxn {a:Nat} (h:1≤a) (A:a≤10006):Nat.Coprime 10007 a:=by
 obtain ⟨e,he⟩:=Nat.gcd_dvd_left 10007 a;rcases Zxm he.symm with q | q
 ·exact q
 ·exfalso;rw [q,Nat.mul_one] at he
  have:=Nat.le_of_dvd (by omega) (Nat.gcd_dvd_right 10007 a)
  omega
theorem Zxo {a b:Int} (ha:1≤a∧a≤10006) (hb:1≤b∧b≤10006):(a * b) % 10007≠0:=by
 obtain ⟨x,rfl⟩:=ZRm (show 0≤a by omega)
 obtain ⟨y,rfl⟩:=ZRm (show 0≤b by omega)
 intro h
 have h:(x * y) % 10007=0:=by
  have e:((x:Int) * (y:Int))=((x * y:Nat):Int):=(Int.natCast_mul x y).symm;rw [e] at h; omega
 have:=(Zxn (a:=x) (by omega) (by omega)).dvd_of_dvd_mul_left (Nat.dvd_of_mod_eq_zero h)
 have:=Nat.le_of_dvd (by omega) this
 omega
theorem Zxp {s a b:Int} (hs:s=1∨s=-1) (ha:1≤a∧a≤10006) (hb:1≤b∧b≤10006):1≤(s * (a * b)) % 10007∧(s * (a * b)) % 10007≤10006:=by
 have:=Zxo ha hb;rcases hs with rfl | rfl <;> omega
theorem Zqw:∀ (a x y:List Int),a.length=x.length→x.length=y.length→Ju (List.zipWith (·+·) a x) (List.zipWith (·+·) a y)=Ju x y
 | [],[],[],_,_=>rfl
 | a :: ar, x :: xs, y :: ys, A, B => by
  simp only [List.zipWith_cons_cons,Ju];have:=Zqw ar xs ys (by simpa using A) (by simpa using B)
  by_cases h:x=y
  ·subst h; simpa using this
  ·rw [if_pos (by omega),if_pos h]; omega
 | [],_::_,_,h,_=>by simp at h
 | _::_,[],_,h,_=>by simp at h
 | _::_,_::_,[],_,h=>by simp at h
 | [],[],_::_,_,h=>by simp at h
theorem Zxq (a x y:A8):pcmp (a.add x) (a.add y)=pcmp x y:=Zqw a.list x.list y.list rfl rfl
theorem Xu {α:Type} [Inhabited α] {l:List α} {i:Nat} (h:i < l.length):l.take (i+1)=l.take i++[l.getD i ZEu]:=by
 rw [List.take_add_one]; simp [ZE0,h]
theorem Canon.at_lt {l:List Term} (h:Canon l) {i j:Nat} (hij:i < j) (hj:j < l.length):pcmp (l.getD i ZEu).mono (l.getD j ZEu).mono < 0:=by
 have:=(List.pairwise_iff_getElem.1 h.1) i j (by omega) hj hij
 simpa [ZE0,hj,show i < l.length by omega] using this
theorem Canon.at_range {l:List Term} (h:Canon l) {i:Nat} (hi:i < l.length):1≤(l.getD i ZEu).factor∧(l.getD i ZEu).factor≤10006:=h.2 _ (by simp [ZE0,hi])
theorem Yx {α:Type} [Inhabited α] {l:List α} {i:Nat} (h:i < l.length):l.getD i ZEu∈l:=by simp [ZE0,h]
structure AddI (f g:List Term) (k:Int) (out:List Term) (i j:Nat):Prop where
 hi:i≤f.length
 hj:j≤g.length
 can:Canon out
 cf:∀ m,coT out m % 10007=(coT (f.take i) m+k * coT (g.take j) m) % 10007
 bf:∀ x,x∈out→i < f.length→pcmp x.mono (f.getD i ZEu).mono < 0
 bg:∀ x,x∈out→j < g.length→pcmp x.mono (g.getD j ZEu).mono < 0
 mo:∀ x,x∈out→∃ y,(y∈f∨y∈g)∧y.mono=x.mono
 ln:out.length≤i+j
theorem AddI.zero (f g:List Term) (k:Int):AddI f g k [] 0 0 :=
 ⟨by omega,by omega,Canon.nil,by intro m; simp [Zex],by simp,by simp,by simp,by simp⟩
theorem Zcm {α:Type} {l:List α} {t x:α} (h:x∈l++[t]):x∈l∨x=t:=by simpa using h
theorem AddI.stepF {f g:List Term} {k:Int} {out:List Term} {i j:Nat} (h:AddI f g k out i j) (cf:Canon f) (cg:Canon g) (hi:i < f.length) (hb:j < g.length→pcmp (f.getD i ZEu).mono (g.getD j ZEu).mono < 0) :
  AddI f g k (out++[f.getD i ZEu]) (i+1) j where
 hi:=hi
 hj:=h.hj
 can:=h.can.snoc (λs hs=>h.bf s hs hi) (cf.at_range hi)
 cf m:=by
  have:=h.cf m;rw [Zda,Xu hi,Zda];omega
 bf x hx hl:=by
  rcases Zcm hx with q | rfl
  ·exact Zb7 (h.bf x q hi) (cf.at_lt (by omega) hl)
  ·exact cf.at_lt (by omega) hl
 bg x hx hl:=by
  rcases Zcm hx with q | rfl
  ·exact h.bg x q hl
  ·exact hb hl
 mo x hx:=by
  rcases Zcm hx with q | rfl
  ·exact h.mo x q
  ·exact⟨_,.inl (Yx hi),rfl⟩
 ln:=by have:=h.ln; simp; omega
theorem AddI.cfG {f g:List Term} {k:Int} {out:List Term} {i j:Nat} (h:AddI f g k out i j) (hj:j < g.length) (m:A8) :
  k * coT (g.take (j+1)) m=k * coT (g.take j) m+(if(g.getD j ZEu).mono=m then k * (g.getD j ZEu).factor else 0):=by
 rw [Xu hj,Zda,Int.mul_add];split <;> simp
theorem AddI.stepG0 {f g:List Term} {k:Int} {out:List Term} {i j:Nat} (h:AddI f g k out i j) (cf:Canon f) (cg:Canon g) (hj:j < g.length)
  (hz:(k * (g.getD j ZEu).factor) % 10007=0):AddI f g k out i (j+1) where
 hi:=h.hi
 hj:=hj
 can:=h.can
 cf m:=by
  have:=h.cf m;rw [h.cfG hj m];split <;> omega
 bf:=h.bf
 bg x hx hl:=Zb7 (h.bg x hx hj) (cg.at_lt (by omega) hl)
 mo:=h.mo
 ln:=by have:=h.ln; omega
theorem AddI.stepG1 {f g:List Term} {k:Int} {out:List Term} {i j:Nat} (h:AddI f g k out i j) (cf:Canon f) (cg:Canon g) (hj:j < g.length) (hb:i < f.length→pcmp (g.getD j ZEu).mono (f.getD i ZEu).mono < 0)
  {v:Int} (hv:v=(k * (g.getD j ZEu).factor) % 10007) (hz:v≠0):AddI f g k (out++[⟨(g.getD j ZEu).mono,v⟩]) i (j+1) where
 hi:=h.hi
 hj:=hj
 can:=h.can.snoc (λs hs=>h.bg s hs hj) (by dsimp only; omega)
 cf m:=by
  have:=h.cf m;rw [h.cfG hj m,Zda];dsimp only;split <;> omega
 bf x hx hl:=by
  rcases Zcm hx with q | rfl
  ·exact h.bf x q hl
  ·exact hb hl
 bg x hx hl:=by
  rcases Zcm hx with q | rfl
  ·exact Zb7 (h.bg x q hj) (cg.at_lt (by omega) hl)
  ·exact cg.at_lt (by omega) hl
 mo x hx:=by
  rcases Zcm hx with q | rfl
  ·exact h.mo x q
  ·exact⟨_,.inr (Yx hj),rfl⟩
 ln:=by have:=h.ln; simp; omega
theorem AddI.stepB0 {f g:List Term} {k:Int} {out:List Term} {i j:Nat} (h:AddI f g k out i j) (cf:Canon f) (cg:Canon g) (hi:i < f.length) (hj:j < g.length) (he:(f.getD i ZEu).mono=(g.getD j ZEu).mono)
  (hz:((f.getD i ZEu).factor+k * (g.getD j ZEu).factor) % 10007=0):AddI f g k out (i+1) (j+1) where
 hi:=hi
 hj:=hj
 can:=h.can
 cf m:=by
  have:=h.cf m;rw [h.cfG hj m,Xu hi,Zda,he];split <;> omega
 bf x hx hl:=Zb7 (h.bf x hx hi) (cf.at_lt (by omega) hl)
 bg x hx hl:=Zb7 (h.bg x hx hj) (cg.at_lt (by omega) hl)
 mo:=h.mo
 ln:=by have:=h.ln; omega
theorem AddI.stepB1 {f g:List Term} {k:Int} {out:List Term} {i j:Nat} (h:AddI f g k out i j) (cf:Canon f) (cg:Canon g) (hi:i < f.length) (hj:j < g.length) (he:(f.getD i ZEu).mono=(g.getD j ZEu).mono)
  {v:Int} (hv:v=((f.getD i ZEu).factor+k * (g.getD j ZEu).factor) % 10007) (hz:v≠0):AddI f g k (out++[⟨(f.getD i ZEu).mono,v⟩]) (i+1) (j+1) where
 hi:=hi
 hj:=hj
 can:=h.can.snoc (λs hs=>h.bf s hs hi) (by dsimp only; omega)
 cf m:=by
  have:=h.cf m;rw [h.cfG hj m,Xu hi,Zda,Zda,he];dsimp only;split <;> omega
 bf x hx hl:=by
  rcases Zcm hx with q | rfl
  ·exact Zb7 (h.bf x q hi) (cf.at_lt (by omega) hl)
  ·exact cf.at_lt (by omega) hl
 bg x hx hl:=by
  rcases Zcm hx with q | rfl
  ·exact Zb7 (h.bg x q hj) (cg.at_lt (by omega) hl)
  ·dsimp only; rw [he]; exact cg.at_lt (by omega) hl
 mo x hx:=by
  rcases Zcm hx with q | rfl
  ·exact h.mo x q
  ·exact⟨_,.inl (Yx hi),rfl⟩
 ln:=by have:=h.ln; simp; omega
structure IsAdd (f g:List Term) (k:Int) (out:List Term):Prop where
 can:Canon out
 cf:∀ m,coT out m % 10007=(coT f m+k * coT g m) % 10007
 mo:∀ x,x∈out→∃ y,(y∈f∨y∈g)∧y.mono=x.mono
 ln:out.length≤f.length+g.length
theorem AddI.done {f g:List Term} {k:Int} {out:List Term} {i j:Nat} (h:AddI f g k out i j) (hi:¬ i < f.length) (hj:¬ j < g.length):IsAdd f g k out where
 can:=h.can
 cf m:=by have:=h.cf m; rwa [ZF0 (by omega),ZF0 (by omega)] at this
 mo:=h.mo
 ln:=by have:=h.ln; have:=h.hi; have:=h.hj; omega
def pr1 (ds:List Int) (a:A8) (n:Int) (b:A8) (m':Int) (m:A8):Int:=if(Xk ds a b).1=m then(Xk ds a b).2 * (n * m') else 0
def shC (ds:List Int) (t:Term) (g:List Term) (m:A8):Int:=tot (λu=>pr1 ds t.mono t.factor u.mono u.factor m) g
def prC (ds:List Int) (f g:List Term) (m:A8):Int:=tot (λt=>shC ds t g m) f
structure IsShift (ds:List Int) (t:Term) (g out:List Term):Prop where
 can:Canon out
 cf:∀ m,coT out m % 10007=shC ds t g m % 10007
 mo:∀ x,x∈out→∃ u,u∈g∧x.mono=t.mono.add u.mono∧¬ Clash ds t.mono u.mono
 ln:out.length≤g.length
theorem IsShift.nil (ds:List Int) (t:Term):IsShift ds t [] []:=⟨Canon.nil,by intro m; rfl,by simp,by simp⟩
theorem Zqx (ds:List Int) (t:Term) (g:List Term) (u:Term) (m:A8):shC ds t (g++[u]) m=shC ds t g m+pr1 ds t.mono t.factor u.mono u.factor m:=by
 rw [shC,Zkl]; simp [tot,shC]
theorem Canon.init {l:List Term} {u:Term} (h:Canon (l++[u])):Canon l∧∀ s,s∈l→pcmp s.mono u.mono < 0:=by
 have:=ZG6.1 h.1;exact⟨⟨this.1,λs hs=>h.2 s (by simp [hs])⟩,λs hs=>this.2.2 s hs u (by simp)⟩
theorem IsShift.skip {ds:List Int} {t:Term} {g out:List Term} {u:Term} (h:IsShift ds t g out) (hs:(Xk ds t.mono u.mono).2=0):IsShift ds t (g++[u]) out where
 can:=h.can
 cf m:=by
  have:=h.cf m;rw [Zqx,pr1,hs];split <;> simp [this]
 mo x hx:=by
  obtain ⟨u',hu,he⟩:=h.mo x hx;exact⟨u',by simp [hu],he⟩
 ln:=by have:=h.ln; simp; omega
theorem Zid {ds:List Int} {a b:A8} (h:(Xk ds a b).2≠0):¬ Clash ds a b∧(Xk ds a b).1=a.add b∧((Xk ds a b).2=1∨(Xk ds a b).2=-1):=by
 have hc:¬ Clash ds a b:=λq=>h (by simp [Xk,q])
 refine⟨hc,by simp [Xk,hc],?_⟩
 simp only [Xk,hc,if_false];exact Zp0 _
theorem IsShift.put {ds:List Int} {t:Term} {g out:List Term} {u:Term} (h:IsShift ds t g out) (cg:Canon (g++[u])) (ht:1≤t.factor∧t.factor≤10006) (hs:(Xk ds t.mono u.mono).2≠0) {v:Int} (hv:v=((Xk ds t.mono u.mono).2 * (t.factor * u.factor)) % 10007) :
  IsShift ds t (g++[u]) (out++[⟨(Xk ds t.mono u.mono).1,v⟩]):=by
 obtain ⟨hc,he,hsg⟩:=Zid hs;have hu:=cg.2 u (by simp)
 have hnz:=Zxp hsg ht hu;refine⟨h.can.snoc (λs hs'=>?_) (by dsimp only; omega),λm=>?_,λx hx=>?_,by have:=h.ln; simp; omega⟩
 ·obtain ⟨u',hu',he',_⟩:=h.mo s hs';dsimp only;rw [he,he',Zxq];exact cg.init.2 u' hu'
 ·have:=h.cf m;rw [Zda,Zqx,pr1];dsimp only;split <;> omega
 ·rcases Zcm hx with q | rfl
  ·obtain ⟨u',hu',he'⟩:=h.mo x q;exact⟨u',by simp [hu'],he'⟩
  ·exact⟨u,by simp,he,hc⟩
structure IsProd (ds:List Int) (f g out:List Term):Prop where
 can:Canon out
 cf:∀ m,coT out m % 10007=prC ds f g m % 10007
 mo:∀ x,x∈out→∃ t u,t∈f∧u∈g∧x.mono=t.mono.add u.mono∧¬ Clash ds t.mono u.mono
 ln:out.length≤f.length * g.length
theorem IsProd.nil (ds:List Int) (g:List Term):IsProd ds [] g []:=⟨Canon.nil,by intro m; rfl,by simp,by simp⟩
theorem IsProd.step {ds:List Int} {f g out sh out':List Term} {t:Term} (h:IsProd ds f g out) (hs:IsShift ds t g sh) (ha:IsAdd out sh 1 out'):IsProd ds (f++[t]) g out' where
 can:=ha.can
 cf m:=by
  have G:=h.cf m;have A:=hs.cf m;have B:=ha.cf m;rw [prC,Zkl];simp only [tot];unfold prC at G
  omega
 mo x hx:=by
  obtain ⟨y,hy | hy,he⟩:=ha.mo x hx
  ·obtain ⟨a,u,G,A,B,I⟩:=h.mo y hy;exact⟨a,u,by simp [G],A,he ▸ B,I⟩
  ·obtain ⟨u,A,B,I⟩:=hs.mo y hy;exact⟨t,u,by simp,A,he ▸ B,I⟩
 ln:=by
  have G:=h.ln;have A:=hs.ln;have B:=ha.ln;have:(f++[t]).length * g.length=f.length * g.length+g.length:=by simp [Nat.add_mul]
  omega
def MapOk (l:List (A8×Int)):Prop:=(l.map ZFx).Nodup∧∀ p,p∈l→1≤p.2∧p.2≤10006
theorem MapOk.nil:MapOk []:=⟨by simp,by simp⟩
theorem Zcn {l:List (A8×Int)} (h:(l.map ZFx).Nodup) (m:A8):(Y8 l m).getD 0=co l m:=by
 induction l with
 | nil=>rfl
 | cons p l ih =>
  simp only [ZFw,ZP3] at h
  simp only [Y8,Za5];by_cases hm:m=p.1
  ·subst hm;rw [if_pos rfl,if_pos rfl,Zd7]
   ·simp
   ·intro t ht e;exact h.1 (ZE1.2 ⟨t,ht,e⟩)
  ·rw [if_neg hm,if_neg (λe=>hm e.symm),ih h.2,ZF7]
theorem Zm1 {l:List (A8×Int)} (h:(l.map ZFx).Nodup) (x:A8) (v:Int) (m:A8):co (Yo l x v) m=if m=x then v else co l m:=by
  induction l with
  | nil => simp only [Yo, Za5, Zf7]; by_cases hm : m = x
           · subst hm; simp
           · rw [if_neg (fun e=>hm e.symm),if_neg hm]; rfl
  | cons p l ih =>
    simp only [ZFw,ZP3] at h
    simp only [Yo]
    split
    · rename_i hx
      rw [Za5,Za5]
      dsimp only
      by_cases hm:m=x
      · subst hm
        rw [if_pos rfl,if_pos rfl,Zd7]
        · simp
        · intro t ht e
          exact h.1 (ZE1.2 ⟨t,ht,by rw [e,hx]⟩)
      · rw [if_neg (fun e=>hm e.symm),if_neg hm,if_neg (fun e=>hm (by rw [hx,e]))]
    · rename_i hx
      rw [Za5,Za5,ih h.2]
      by_cases hm:m=x
      · subst hm; rw [if_pos rfl,if_pos rfl,if_neg (fun e=>hx e.symm)]; simp
      · rw [if_neg hm,if_neg hm]
theorem Zxr {l:List (A8×Int)} (h:(l.map ZFx).Nodup) (x:A8) (m:A8):co (Jn l x) m=if m=x then 0 else co l m:=by
 induction l with
 | nil=>simp [Jn,Zf7]
 | cons p l ih =>
  simp only [ZFw,ZP3] at h
  simp only [Jn];split
  ·rename_i hx;rw [Za5];by_cases hm:m=x
   ·subst hm;rw [if_pos rfl,Zd7];intro t ht e;exact h.1 (ZE1.2 ⟨t,ht,by rw [e,hx]⟩)
   ·rw [if_neg hm,if_neg (λe=>hm (by rw [hx,e]))]; simp
  ·rename_i hx;rw [Za5,Za5,ih h.2];by_cases hm:m=x
   ·subst hm; rw [if_pos rfl,if_pos rfl,if_neg (λe=>hx e.symm)]; rfl
   ·rw [if_neg hm,if_neg hm]
theorem Zm2 {l:List (A8×Int)} {x:A8} {p:A8×Int} (h:p∈Jn l x):p∈l:=by
 induction l with
 | nil=>simp [Jn] at h
 | cons q l ih =>
  simp only [Jn] at h
  split at h
  ·simp [h]
  ·rcases ZEn.1 h with rfl | h
   ·simp
   ·simp [ih h]
theorem Zxs {l:List (A8×Int)} (x:A8) (h:(l.map ZFx).Nodup):((Jn l x).map ZFx).Nodup:=by
 induction l with
 | nil=>simp [Jn]
 | cons q l ih =>
  simp only [ZFw,ZP3] at h
  simp only [Jn];split
  ·exact h.2
  ·simp only [ZFw,ZP3];refine⟨λhq=>h.1 ?_,ih h.2⟩
   obtain ⟨p,hp,he⟩:=ZE1.1 hq;exact ZE1.2 ⟨p,Zm2 hp,he⟩
theorem Zm3 {l:List (A8×Int)} {x:A8} {v:Int} {p:A8×Int} (h:p∈Yo l x v):p=(x,v)∨p∈l:=by
 induction l with
 | nil=>left; simpa [Yo] using h
 | cons q l ih =>
  simp only [Yo] at h
  split at h
  ·rcases ZEn.1 h with rfl | h
   ·exact .inl rfl
   ·exact .inr (by simp [h])
  ·rcases ZEn.1 h with rfl | h
   ·exact .inr (by simp)
   ·rcases ih h with e | e
    ·exact .inl e
    ·exact .inr (by simp [e])
theorem Zxt (l:List (A8×Int)) (x:A8) (v:Int):(Yo l x v).length≤l.length+1:=by
 induction l with
 | nil=>simp [Yo]
 | cons q l ih=>simp only [Yo]; split <;> simp; omega
theorem Zxu (l:List (A8×Int)) (x:A8):(Jn l x).length≤l.length:=by
 induction l with
 | nil=>simp [Jn]
 | cons q l ih=>simp only [Jn]; split <;> simp; omega
theorem MapOk.put {l:List (A8×Int)} (h:MapOk l) {x:A8} {v:Int} (hv:1≤v∧v≤10006):MapOk (Yo l x v) :=
 ⟨Zj3 h.1,λp hp=>by rcases Zm3 hp with rfl | q; exact hv; exact h.2 p q⟩
theorem MapOk.del {l:List (A8×Int)} (h:MapOk l) (x:A8):MapOk (Jn l x):=⟨Zxs x h.1,λp hp=>h.2 p (Zm2 hp)⟩
theorem MapOk.range {l:List (A8×Int)} (h:MapOk l) (m:A8):0≤co l m∧co l m≤10006:=by
 rw [← Zcn h.1]
 cases hg:Y8 l m with
 | none=>simp
 | some v =>
  have:(m,v)∈l:=by
   clear h
   induction l with
   | nil=>simp [Y8] at hg
   | cons p l ih =>
    simp only [Y8] at hg
    split at hg
    ·rename_i e; injection hg with A; subst A; subst e; simp
    ·simp [ih hg]
  have:=h.2 _ this;simp only [Option.getD_some];dsimp only at this
  omega
structure IsPut (l:List (A8×Int)) (x:A8) (c:Int) (l':List (A8×Int)):Prop where
 ok:MapOk l'
 cf:∀ m,co l' m % 10007=(co l m+if x=m then c else 0) % 10007
 ks:∀ p,p∈l'→p.1=x∨∃ q,q∈l∧q.1=p.1
 ln:l'.length≤l.length+1
theorem IsPut.put {l:List (A8×Int)} (h:MapOk l) {x:A8} {c v:Int} (hv:v=(co l x+c) % 10007) (hz:v≠0):IsPut l x c (Yo l x v) where
 ok:=h.put (by omega)
 cf m:=by
  rw [Zm1 h.1];by_cases hm:m=x
  ·subst hm; rw [if_pos rfl,if_pos rfl]; omega
  ·rw [if_neg hm,if_neg (λe=>hm e.symm)]; simp
 ks p hp:=by
  rcases Zm3 hp with rfl | q
  ·exact .inl rfl
  ·exact .inr ⟨p,q,rfl⟩
 ln:=Zxt _ _ _
theorem IsPut.del {l:List (A8×Int)} (h:MapOk l) {x:A8} {c:Int} (hz:(co l x+c) % 10007=0):IsPut l x c (Jn l x) where
 ok:=h.del x
 cf m:=by
  rw [Zxr h.1];by_cases hm:m=x
  ·subst hm; rw [if_pos rfl,if_pos rfl]; omega
  ·rw [if_neg hm,if_neg (λe=>hm e.symm)]; simp
 ks p hp:=.inr ⟨p,Zm2 hp,rfl⟩
 ln:=by have:=Zxu l x; omega
theorem Zxv {l:List (A8×Int)} (h:MapOk l) {xs:List A8} (hp:xs.Perm (l.map ZFx)) (hw:xs.Pairwise (λa b=>¬ pcmp b a < 0)):Canon (xs.map λx=>⟨x,(Y8 l x).getD 0⟩)∧∀ m,coT (xs.map λx=>⟨x,(Y8 l x).getD 0⟩) m=co l m:=by
 have hnd:xs.Nodup:=hp.nodup_iff.2 h.1
 have hmem:∀ x,x∈xs→∃ v,(x,v)∈l∧(Y8 l x).getD 0=v:=by
  intro x hx;obtain ⟨p,hpl,rfl⟩:=ZE1.1 (hp.mem_iff.1 hx);refine⟨p.2,hpl,?_⟩
  rw [Zcn h.1];have A:=h.1;clear hp hx h
  induction l with
  | nil=>simp at hpl
  | cons q l ih =>
   simp only [ZFw,ZP3] at A
   rw [Za5];rcases ZEn.1 hpl with rfl | hpl
   ·rw [if_pos rfl,Zd7]
    ·simp
    ·intro t ht e; exact A.1 (ZE1.2 ⟨t,ht,e⟩)
   ·rw [if_neg (λe=>A.1 (ZE1.2 ⟨p,hpl,e.symm⟩)),ih hpl A.2,ZF7]
 refine⟨⟨?_,λt ht=>?_⟩,λm=>?_⟩
 ·rw [List.pairwise_map];have:xs.Pairwise (λa b=>a≠b):=hnd
  refine(hw.and this).imp λ{a b} hab=>?_
  by_cases q:pcmp a b < 0
  ·exact q
  ·exact absurd (Zkk q hab.1) hab.2
 ·obtain ⟨x,hx,rfl⟩:=ZE1.1 ht;obtain ⟨v,hv,he⟩:=hmem x hx;dsimp only;rw [he];exact h.2 _ hv
 ·rw [coT,Zew];dsimp only;rw [Zf6 _ hp,Zew];refine Zib λp hpl=>?_
  obtain ⟨v,hv,he⟩:=hmem p.1 (hp.mem_iff.2 (ZE1.2 ⟨p,hpl,rfl⟩))
  have:v=p.2:=by
   rw [← he,Zcn h.1]
   have A:=h.1;clear hp h hmem he hv
   induction l with
   | nil=>simp at hpl
   | cons q l ih =>
    simp only [ZFw,ZP3] at A
    rw [Za5];rcases ZEn.1 hpl with rfl | hpl
    ·rw [if_pos rfl,Zd7]
     ·simp
     ·intro t ht e; exact A.1 (ZE1.2 ⟨t,ht,e⟩)
    ·rw [if_neg (λe=>A.1 (ZE1.2 ⟨p,hpl,e.symm⟩)),ih hpl A.2,ZF7]
  rw [he,this]
def Zey (a:A8):List A8→List A8
 | []=>[a]
 | b::l=>if pcmp a b < 0 then a::b::l else b::Zey a l
theorem Zqy (a:A8) (l:List A8):(Zey a l).Perm (a::l):=by
 induction l with
 | nil=>exact ZQi _
 | cons b l ih =>
  simp only [Zey];split
  ·exact ZQi _
  ·exact(ih.cons b).trans (List.Perm.swap _ _ _)
theorem Zxw {a b c:A8} (B:¬ pcmp b a < 0) (A:¬ pcmp c b < 0):¬ pcmp c a < 0:=λh=>by
 by_cases q:pcmp a b < 0
 ·exact A (Zb7 h q)
 ·have:=Zkk q B;subst this;exact A h
theorem Zxx {a:A8} {l:List A8} (h:l.Pairwise (λa b=>¬ pcmp b a < 0)):(Zey a l).Pairwise (λa b=>¬ pcmp b a < 0):=by
 induction l with
 | nil=>simp [Zey]
 | cons b l ih =>
  simp only [Zey];have hb:=ZEx.1 h;split
  ·rename_i q;refine ZEx.2 ⟨λx hx=>?_,h⟩
   rcases ZEn.1 hx with rfl | hx
   ·exact Zm0 q
   ·exact Zxw (Zm0 q) (hb.1 x hx)
  ·rename_i q;refine ZEx.2 ⟨λx hx=>?_,ih hb.2⟩
   rcases ZEn.1 ((Zqy a l).mem_iff.1 hx) with rfl | hx
   ·exact q
   ·exact hb.1 x hx
theorem Zqz:∀ l:List A8,∃ xs:List A8,xs.Perm l∧xs.Pairwise (λa b=>¬ pcmp b a < 0)
 | []=>⟨[],ZQi _,ZRh⟩
 | a :: l => by
  obtain ⟨xs,A,h⟩:=Zqz l;exact⟨Zey a xs,(Zqy a xs).trans (A.cons a),Zxx h⟩
end Vc
namespace Vc
open Go Go.RowKit Go.ChangeShapes Go.WideShapes Go.ChangeAt
theorem Za6 {α:Type} {t:Ty α} {x:α} {cs:List Value} {fp:List Nat} {w:World} (h:t.rep x cs fp w):t.all [x] cs fp w:=by
 have hl:=t.len h;refine⟨t.low h,by rw [hl]; simp,t.one h,λi hi=>?_⟩
 obtain rfl:i=0:=by simpa using hi
 rw [Nat.zero_mul,List.drop_zero,ZF0 (by omega)]
 exact h
section
variable {H:Type} {enc:TypeId×Value→H} {P:Program} {W:World}
end
end Vc
set_option maxRecDepth 4000
set_option maxHeartbeats 4000000
namespace Go.Proofs.YtaagfepgbofmlaaGreat
open Go Go.RowKit Vc
variable {b0 bp0 b1 bp1 b2 bp2 b3 bp3 b4 bp4 b5 bp5 b6 bp6 b7 bp7 mb0:Nat} {u0_0 u0_1 u0_2 u0_3 u0_4 u0_5 u1_0 u1_1 u1_2 u1_3 u1_4 u1_5 u2_0 u2_1 u2_2 u2_3 u2_4 u2_5 u3_0 u3_1 u3_2 u3_3 u3_4 u3_5 u4_0 u4_1 u4_2 u4_3 u4_4 u4_5 u5_0 u5_1 u5_2 u5_3 u5_4 u5_5 u6_0 u6_1 u6_2 u6_3 u6_4 u6_5 u7_0 u7_1 u7_2 u7_3 u7_4 u7_5:Value} {fp0 fp1 fp2 fp3 fp4 fp5 fp6 fp7 fp0_0 fp0_1 fp0_2 fp0_3 fp0_4 fp0_5 fp1_0 fp1_1 fp1_2 fp1_3 fp1_4 fp1_5 F0:List Nat}
theorem sc66:ScaT ZMx 66:=⟨⟨_,Tryz.underlying66,rfl⟩,by kernel_rfl⟩
theorem ag50:AggT ZMx 50 1:=⟨⟨_,ZQf,rfl⟩,by kernel_rfl⟩
theorem sc23:ScaT ZMx 23:=⟨⟨_,ZP2,rfl⟩,by kernel_rfl⟩
theorem Zxy:Zah ZMx 55 (.agg #[.slice none 0 0]) 1 24:=by unfold Zah; kernel_rfl
theorem z32:X2 ZMx 32 (.agg #[.slice none 0 0,.slice none 0 0]):=by unfold X2; kernel_rfl
def Zie (B:ZMw) (G:Alg) (K:Bool→Prop):Prop :=
 Zbp B (λh=>Zd4 G h (λA=>K (decide ((A.length:Int) > 0))))
theorem Zxz (I:ZMw) (L:Alg)  {K:Bool→Prop} (h:Zie I L K) (w0:World) (q0:ZNg.rep I [u0_0] fp0 w0) (q1:TAlg.rep L [u1_0,u1_1] fp1 w0) (ag:(blk b1 32 [u1_0,u1_1]).holds w0) :
  Calls ZMx 153 #[.agg #[u0_0],vQ b1] w0 λe w'=>∃ (r0:Bool),
   e=.returned (.bool r0)∧K r0∧Bel w0 w':=by
 unfold Zie at h
 refine cof Tryz.func153 rfl 9 Tryz.ntmps153 ?_
 have A:=ZNf (X:=Nox) w0 [ZMt TForm I [u0_0] fp0,ZMt TAlg L [u1_0,u1_1] fp1,blk b1 32 [u1_0,u1_1]] (alc q0 (alc q1 (al1 ag)));have ah:=(A.getP 0 rfl);replace A:=A.derive 0 rfl (ZMt ZMv.ty.sl I.terms [u0_0] fp0) (λ_=>(Y9 ah)) (λ_ B=>B)
 replace A:=A.dAlg 2 rfl;refine sr (Ya (v:=.agg #[u0_0]) A [u0_0] rfl rfl λb8 aj ak A=>Zc (v:=.bool false) rfl (dn (sr (Yb A 0 [u0_0] rfl ag55 rfl rfl rfl (Zf [.agg #[u0_0]] _ Tryz.func78 rfl rfl rfl (Zf1 I h _ (Yi (A.getP 2 rfl))) ?_)))))
 rintro _ al ⟨O,U,rfl,h,V,aa,ab⟩;refine rt ?_
 replace A:=A.push ab (mapS U O) V (λb_ B=>by obtain rfl:=ZFn.1 B; exact aa)
 refine Zf [vQ b1,.map (some U)] _ Tryz.func154 rfl rfl rfl (Zmy L O h _ (Y3 (A.getP 1 rfl) (A.getP 0 rfl)) (A.getP 5 rfl) (A.getM 0 rfl)) ?_
 rintro _ am ⟨G,ai,rfl,h,ac,ad,ae⟩;refine rt ?_
 replace A:=A.push ae (mapS ai G) ac (λb_ B=>by obtain rfl:=ZFn.1 B; exact ad)
 refine Zpt (A.getM 0 rfl) ZNs rfl rfl (Ja rfl rfl (Zc (v:=.bool (decide ((G.length:Int) > 0))) rfl (dn (ZM3 ?_))))
 exact Zi rfl (Ze rfl) ⟨decide ((G.length:Int) > 0),rfl,h,A.below⟩ (.inl rfl)
def Zkn (L:List ZMw) (I:ZMw→(Bool→Prop)→Prop) (K:Int→Prop):Prop :=
 Z9 (λh (B:Unit) A=>I (L.getD h ZEu) (λG=>(if G=true then K (h:Int) else A ()))) (λ(B:Unit)=>K (-1)) L.length 0 ()
theorem Zx0 (a0:List ZMw) (p1:ZMw→(Bool→Prop)→Prop)  {K:Int→Prop} (h:Zkn a0 p1 K) (w0:World) (q0:ZNg.sl.rep a0 [u0_0] fp0 w0) {g1:Nat} {cp1:List Value} {fn1:Func} (hf1:ZMx.funcs[g1]? = some fn1) (hb1:fn1.body.isNone=false) (hn1:(fn1.name == "runtime.NumGoroutine")=false) (hp1:∀ (y0:ZMw) (yu0_0:Value) (yf0:List Nat) (K_:Bool→Prop) (w_:World),Bel w0 w_→ZNg.rep y0 [yu0_0] yf0 w_→p1 y0 K_→Calls ZMx g1 (ZHu ([.agg #[yu0_0]]++cp1)) w_ λe w'=>∃ (z0:Bool),e=.returned (.bool z0)∧K_ z0∧Bel w_ w') :
  Calls ZMx 155 #[u0_0,.func (.func g1) #[] (ZHu cp1)] w0 λe w'=>∃ (r0:Int),
   e=.returned (vI r0)∧K r0∧Bel w0 w':=by
 unfold Zkn at h
 refine cof Tryz.func155 rfl 19 Tryz.ntmps155 ?_
 have hC:=ZNf (X:=Nox) w0 [ZMt ZNg.sl a0 [u0_0] fp0] (al1 q0);refine sr (Zc (v:=vI 0) rfl (dn (ZMu (sr (Za (v:=u0_0) rfl (Zw hC 0 rfl ZNi rfl (Za (v:=vI 0) rfl (dn (ZM0 ?_)))))))))
 have hN10:a0.length≤9223372036854775807:=Y5 (hC.getP 0 rfl);refine Yp (S:=Unit) _ _ (λi10 s10 e_ w_=>Zt e_ [(0,u0_0),(1,.func (.func g1) #[] (ZHu cp1)),(7,vI (a0.length:Int)),(8,vI (i10:Int))]∧Ctx Nox w0 w_ [] [ZMt ZNg.sl a0 [u0_0] fp0]) a0.length ?_ ?_ (s0:=()) ?_ h
 ·clear hC h;rintro i10 s10 e_ w10 nx10 K10 hi10 ⟨hS_,hC⟩ h hK10;rw [ue hS_];refine sr (Zn rfl rfl (dn (ZMu (Z3 rfl (decide_eq_true (by omega)) (ZMy (Zd (ZMu (ZM0 (sr (Za (v:=vI (i10:Int)) rfl (Zc (v:=vI (i10:Int)) rfl (dn (sr (Za (v:=.func (.func g1) #[] (ZHu cp1)) rfl (Za (v:=u0_0) rfl (Za (v:=vI (i10:Int)) rfl ?_))))))))))))))))
  obtain ⟨Ad10,c10,hv10⟩:=Zx (hC.getP 0 rfl) i10 hi10;refine Ys (len:=a0.length) ZNi ag55.size (tr rfl hv10) rfl (ZNb _) (ZNt.2 hi10) ?_
  obtain ⟨cs_,hl10,hc10,hr10⟩:=Xp (hC.getP 0 rfl) hv10 i10 hi10;obtain ⟨u10,rfl⟩:=ZJj.1 hl10;clear hl10;rw [Xm _ _ hi10] at hr10
  have hp10:=hr10;replace hC:=hC.derive 0 rfl (ZMt ZMv.ty.sl ((a0.getD i10 ZEu).terms) [u10] fp0) (λ_=>(Y9 hp10)) (λ_ hb_=>hb_)
  refine Je [u10] hc10 ag55 rfl rfl ?_
  refine Zl7 [.agg #[u10]] _ rfl hf1 hb1 hn1 rfl (hp1 _ _ _ _ _ hC.below (Yi (hC.getP 0 rfl)) h) (λret10 w11 hR10=>?_)
  obtain ⟨r10,rfl,h,hB10⟩:=hR10;refine⟨_,rfl,?_⟩
  replace hC:=hC.grow hB10;refine dn ?_
  refine Zp rfl (λhb10=>?_) (λhb10=>?_)
  ·replace h:=ift h (hb10);refine sr (Za (v:=vI (i10:Int)) rfl (Zc (v:=vI (i10:Int)) rfl (dn ?_)))
   refine ZM3 (Z8 (Zl (Zl (Z8 (Zl ?_)))))
   exact Zi rfl (Ze rfl) ⟨(i10:Int),rfl,h,hC.below⟩ (.inl rfl)
  ·replace h:=Zm h (Yz hb10);refine ZMy (Zq (Zd (Zj (Zo rfl rfl (Za (v:=vI (ZHf.wrap ((i10:Int)+1))) rfl (done ?_))))))
   exact hK10 () _ _ ⟨(sl ⟨rfl,rfl,rfl,(tr rfl (congrArg _ (Z7 hi10 hN10))),trivial⟩),(hC.sP [1] rfl)⟩ h
 ·clear hC h;rintro s10 e_ w12 K10 ⟨hS_,hC⟩ h;rw [ue hS_];refine sr (Zn rfl rfl (dn (ZMu (Z2 rfl (decide_eq_false (by omega)) ?_))))
  refine ZM9 (Zk (Zk (Zy ?_)))
  refine Zd (sr (Zc (v:=vI (-1)) rfl (dn (ZM3 ?_))))
  exact Zi rfl (Ze rfl) ⟨(-1),rfl,h,hC.below⟩ (.inl rfl)
 ·skip;exact⟨(slq rfl),hC⟩
def Zf8 (h:List ZMw) (A:ZMw→(Bool→Prop)→Prop) (K:Bool→Prop):Prop :=
 Zkn h A (λB=>K (decide (B≥0)))
theorem Zq0 (a0:List ZMw) (p1:ZMw→(Bool→Prop)→Prop)  {K:Bool→Prop} (h:Zf8 a0 p1 K) (w0:World) (q0:ZNg.sl.rep a0 [u0_0] fp0 w0) {g1:Nat} {cp1:List Value} {fn1:Func} (hf1:ZMx.funcs[g1]? = some fn1) (hb1:fn1.body.isNone=false) (hn1:(fn1.name == "runtime.NumGoroutine")=false) (hp1:∀ (y0:ZMw) (yu0_0:Value) (yf0:List Nat) (K_:Bool→Prop) (w_:World),Bel w0 w_→ZNg.rep y0 [yu0_0] yf0 w_→p1 y0 K_→Calls ZMx g1 (ZHu ([.agg #[yu0_0]]++cp1)) w_ λe w'=>∃ (z0:Bool),e=.returned (.bool z0)∧K_ z0∧Bel w_ w') :
  Calls ZMx 97 #[u0_0,.func (.func g1) #[] (ZHu cp1)] w0 λe w'=>∃ (r0:Bool),
   e=.returned (.bool r0)∧K r0∧Bel w0 w':=by
 unfold Zf8 at h
 refine cof Tryz.func97 rfl 9 Tryz.ntmps97 ?_
 have hC:=ZNf (X:=Nox) w0 [ZMt ZNg.sl a0 [u0_0] fp0] (al1 q0);refine sr (Zc (v:=.bool false) rfl (dn (sr (Za (v:=u0_0) rfl (Za (v:=.func (.func g1) #[] (ZHu cp1)) rfl (Zf [u0_0,.func (.func g1) #[] (ZHu cp1)] _ Tryz.func155 rfl rfl rfl (Zx0 a0 p1 h _ (hC.getP 0 rfl) hf1 hb1 hn1 (λx0_ x1_ x2_ K_ w_ hb_=>hp1 x0_ x1_ x2_ K_ w_ (Zma hC.below hb_))) ?_))))))
 rintro _ w4 ⟨r5,rfl,h,hB6⟩;refine rt ?_
 replace hC:=hC.grow hB6;refine Zae rfl rfl (Zc (v:=.bool (decide (r5≥0))) rfl (dn (ZM3 ?_)))
 exact Zi rfl (Ze rfl) ⟨decide (r5≥0),rfl,h,hC.below⟩ (.inl rfl)
def Zif (V:Alg) (K:Bool→Prop):Prop :=
 Zhx V.degrees (λB=>(if¬ (B=true) then K false else(if(V.images.length:Int)≠(V.degrees.length:Int) then K false else Z9 (λh (G:Unit) A=>Zf4 V.degrees (V.images.getD h ZEu) (λI=>(if¬ (I=true) then K false else((0≤(h:Int)∧(h:Int) < (V.degrees.length:Int))∧Zh0 V.degrees (V.images.getD h ZEu) (ZHf.wrap ((V.degrees.getD h ZEu)+1)) (λL=>(if¬ (L=true) then K false else A ())))))) (λ(G:Unit)=>Zf8 V.images (λO K_=>Zie O V K_) (λU=>K (!U))) V.images.length 0 ())))
theorem Zx1 (a0:Alg)  {K:Bool→Prop} (h:Zif a0 K) (w0:World) (q0:TAlg.rep a0 [u0_0,u0_1] fp0 w0) :
  Calls ZMx 96 #[.agg #[u0_0,u0_1]] w0 λe w'=>∃ (r0:Bool),
   e=.returned (.bool r0)∧K r0∧Bel w0 w':=by
 unfold Zif at h
 refine cof Tryz.func96 rfl 50 Tryz.ntmps96 ?_
 have A:=ZNf (X:=Nox) w0 [ZMt TAlg a0 [u0_0,u0_1] fp0] (al1 q0);replace A:=A.dAlg 0 rfl;refine sr (Ya (v:=.agg #[u0_0,u0_1]) A [u0_0,u0_1] rfl rfl λb4 w6 O A=>Zc (v:=.bool false) rfl (dn (ZMu (sr (Zu 0 ZNe rfl sc22.size rfl rfl (Z5 A 0 (u0_0) rfl sc22 rfl rfl (Zf [u0_0] _ Tryz.func151 rfl rfl rfl (Zws a0.degrees h _ (A.getP 1 rfl)) ?_)))))))
 rintro _ w9 ⟨am,rfl,h,ap⟩;refine rt ?_
 replace A:=A.grow ap;refine Xe rfl (Za (v:=.bool (!am)) rfl ?_)
 refine Y6 (!am) (λG=>?_) (λG=>?_)
 ·replace h:=ift h (Yz (Xi G));refine Zg (b:=true) 4 9 rfl (tr rfl (congrArg _ G)) (by decide) (Zg (b:=true) 4 9 rfl (tr rfl (congrArg _ G)) (by decide) (Zg (b:=true) 4 9 rfl (tr rfl (congrArg _ G)) (by decide) (Zg (b:=true) 4 9 rfl (tr rfl (congrArg _ G)) (by decide) (Zg (b:=true) 4 9 rfl (tr rfl (congrArg _ G)) (by decide) (Zg (b:=true) 4 9 rfl (tr rfl (congrArg _ G)) (by decide) (Zg (b:=true) 4 9 rfl (tr rfl (congrArg _ G)) (by decide) (Zs (v:=.bool true) (b:=true) (tr rfl (congrArg _ G)) rfl (dn (Z3 rfl rfl (sr (Zc (v:=.bool false) rfl (dn ?_))))))))))))
  refine ZM3 (Zl ?_)
  exact Zi rfl (Ze rfl) ⟨false,rfl,h,A.below⟩ (.inl rfl)
 ·replace h:=Zm h (not_not_intro ((Xj G)));refine Zh 4 9 rfl rfl G (Zu 1 ZNe rfl sc30.size rfl rfl (Zh 4 9 rfl rfl G (Z5 A 0 (u0_1) rfl sc30 rfl rfl (Zh 4 9 rfl rfl G (Zw A 0 rfl ZNi rfl (Zh 4 9 rfl rfl G (Zu 0 ZNe rfl sc22.size rfl rfl (Zh 4 9 rfl rfl G (Z5 A 0 (u0_0) rfl sc22 rfl rfl (Zh 4 9 rfl rfl G (Zw A 1 rfl ZNd rfl (Zh 4 9 rfl rfl G (Y2 rfl rfl (Zs (v:=.bool (decide ((a0.images.length:Int)≠(a0.degrees.length:Int)))) (b:=false) (tr rfl (congrArg _ G)) rfl (dn ?_)))))))))))))))
  refine Zp rfl (λac=>?_) (λac=>?_)
  ·replace h:=ift h (ct ac);refine sr (Zc (v:=.bool false) rfl (dn ?_))
   refine ZM3 (Zl ?_)
   exact Zi rfl (Ze rfl) ⟨false,rfl,h,A.below⟩ (.inl rfl)
  ·replace h:=Zm h (cf ac);refine ZMy (Zd (ZMu (sr (Zu 1 ZNe rfl sc30.size rfl rfl (Z5 A 0 (u0_1) rfl sc30 rfl rfl (Zw A 0 rfl ZNi rfl (Za (v:=vI 0) rfl (dn (ZM0 ?_)))))))))
   have aq:a0.images.length≤9223372036854775807:=Y5 (A.getP 0 rfl);refine Yp (S:=Unit) _ _ (λI an e_ w_=>Zt e_ [(1,vQ b4),(19,u0_1),(20,vI (a0.images.length:Int)),(21,vI (I:Int))]∧Ctx Nox w0 w_ [blk b4 32 [u0_0,u0_1]] [ZMt ZNg.sl a0.images [u0_1] fp0,ZMt TInts a0.degrees [u0_0] fp0,ZMt TAlg a0 [u0_0,u0_1] fp0]) a0.images.length ?_ ?_ (s0:=()) ?_ h
   ·clear A h;rintro I an e_ ba a7 a2 aa ⟨ae,A⟩ h ar;rw [ue ae];refine sr (Zn rfl rfl (dn (ZMu (Z3 rfl (decide_eq_true (by omega)) (ZMy (Zd (ZMu (ZM0 (sr (Za (v:=vI (I:Int)) rfl ?_))))))))))
    obtain ⟨a8,bb,ag⟩:=Zx (A.getP 0 rfl) I aa;refine Ys (len:=a0.images.length) ZNi ag55.size (tr rfl ag) rfl (ZNb _) (ZNt.2 aa) ?_
    obtain ⟨bc,ah,au,ai⟩:=Xp (A.getP 0 rfl) ag I aa;obtain ⟨U,rfl⟩:=ZJj.1 ah;clear ah;rw [Xm _ _ aa] at ai
    have av:=ai;replace A:=A.derive 0 rfl (ZMt ZMv.ty.sl ((a0.images.getD I ZEu).terms) [U] fp0) (λ_=>(Y9 av)) (λ_ ab=>ab)
    refine Je [U] au ag55 rfl rfl (Yl A [.slice none 0 0] z55 rfl λbd be O A=>Zc (v:=vI (I:Int)) rfl (Zz (v:=.agg #[U]) A 0 [U] [U] rfl ag55.size rfl rfl rfl rfl (Xr (Zdt (A.getP 0 rfl)) rfl) (ZM2 rfl) rfl λbh A=>dn (ZMu ?_)))
    refine cwd 15 Yh [0,1,0,7,15,31,63,127,63,63,575,63,3647,7743,15935,32767,65535,131071] [1,2,7,8,10,12,13] [0,4,5,6,7,8,9,10,11,12,13,14] (λV L bi O=>?_)
    replace A:=A.grow O;refine bF 0 (vQ b4) rfl rfl L (λ_=>by exact Yk 0 ZNe rfl sc22.size rfl rfl) (Zb 18 1) (bL 1 (u0_0) rfl rfl V (λ_ O=>by exact Yc (A.grow O) 1 (u0_0) rfl sc22 rfl rfl) (Zb 18 3) (bL 2 (.agg #[U]) rfl rfl V (λ_ O=>by exact Xa (A.grow O) 0 [U] rfl ag55 rfl rfl rfl) (Zb 18 7) (aO 3 rfl (Zf [u0_0,.agg #[U]] _ Tryz.func99 rfl rfl rfl (Zqm a0.degrees (a0.images.getD I ZEu) h _ (A.getP 2 rfl) (Yi (A.getP 0 rfl))) ?_))))
    rintro _ bj ⟨aj,rfl,h,aw⟩;refine rt ?_
    replace A:=A.grow aw;refine done (aK (by assumption) (Zb 18 15) (bF 4 (.bool (!aj)) rfl rfl L (λ_=>by exact Zlv rfl) (Zb 18 31) (bM 5 (.bool (!aj)) rfl L (Zb 18 63) ?_)))
    refine Y6 (!aj) (λB=>?_) (λB=>?_)
    ·replace h:=ift h (Yz (Xi B));refine Zr Zv 6 undef rfl rfl (by kernel_rfl) (L 6 rfl) (λw_=>.inr ⟨Yd (b:=true) 5 31 rfl (tr rfl (congrArg _ B)) (by decide),rfl⟩) (l9:=(Zb 18 127)) (by kernel_rfl) (Zr Zv 7 undef rfl rfl (by kernel_rfl) (L 7 rfl) (λw_=>.inr ⟨Yd (b:=true) 5 31 rfl (tr rfl (congrArg _ B)) (by decide),rfl⟩) (l9:=(Zb 18 255)) (by kernel_rfl) (Zr Zv 8 undef rfl rfl (by kernel_rfl) (L 8 rfl) (λw_=>.inr ⟨Yd (b:=true) 5 31 rfl (tr rfl (congrArg _ B)) (by decide),rfl⟩) (l9:=(Zb 18 511)) (by kernel_rfl) (Zr Zv 9 undef rfl rfl (by kernel_rfl) (L 9 rfl) (λw_=>.inr ⟨Yd (b:=true) 5 31 rfl (tr rfl (congrArg _ B)) (by decide),rfl⟩) (l9:=(Zb 18 1023)) (by kernel_rfl) (Zr Zv 10 undef rfl rfl (by kernel_rfl) (L 10 rfl) (λw_=>.inr ⟨Yd (b:=true) 5 31 rfl (tr rfl (congrArg _ B)) (by decide),rfl⟩) (l9:=(Zb 18 2047)) (by kernel_rfl) (Zr Zv 11 undef rfl rfl (by kernel_rfl) (L 11 rfl) (λw_=>.inr ⟨Yd (b:=true) 5 31 rfl (tr rfl (congrArg _ B)) (by decide),rfl⟩) (l9:=(Zb 18 4095)) (by kernel_rfl) (Zr Zv 12 undef rfl rfl (by kernel_rfl) (L 12 rfl) (λw_=>.inr ⟨Yd (b:=true) 5 31 rfl (tr rfl (congrArg _ B)) (by decide),rfl⟩) (l9:=(Zb 18 8191)) (by kernel_rfl) (Zr Zv 13 undef rfl rfl (by kernel_rfl) (L 13 rfl) (λw_=>.inr ⟨Yd (b:=true) 5 31 rfl (tr rfl (congrArg _ B)) (by decide),rfl⟩) (l9:=(Zb 18 16383)) (by kernel_rfl) (Zr Zv 14 undef rfl rfl (by kernel_rfl) (L 14 rfl) (λw_=>.inr ⟨Yd (b:=true) 5 31 rfl (tr rfl (congrArg _ B)) (by decide),rfl⟩) (l9:=(Zb 18 32767)) (by kernel_rfl) (Z0 15 (by decide) (by decide) (by kernel_rfl) (by kernel_rfl) rfl (Zg (b:=true) 5 31 rfl (tr rfl (congrArg _ B)) (by decide) (Zg (b:=true) 5 31 rfl (tr rfl (congrArg _ B)) (by decide) (Zs (v:=.bool true) (b:=true) (tr rfl (congrArg _ B)) rfl (done (Z1 (Zd (Z3 rfl rfl (sr (Zc (v:=.bool false) rfl (dn ?_)))))))))))))))))))
     refine ZM3 (Z8 (Zl (Zl (Z8 (Zl ?_)))))
     exact Zi rfl (Ze rfl) ⟨false,rfl,h,A.below⟩ (.inl rfl)
    ·replace h:=Zm h (not_not_intro ((Xj B)));refine aF 6 (vQ b4) rfl rfl (L 6 rfl) (Yg 5 31 rfl rfl B) (λ_=>by exact Yk 0 ZNe rfl sc22.size rfl rfl) (Zb 18 127) (aL 7 (u0_0) rfl rfl (V 7 rfl) (Yg 5 31 rfl rfl B) (λ_ O=>by exact Yc (A.grow O) 1 (u0_0) rfl sc22 rfl rfl) (Zb 18 255) (aL 8 (.agg #[U]) rfl rfl (V 8 rfl) (Yg 5 31 rfl rfl B) (λ_ O=>by exact Xa (A.grow O) 0 [U] rfl ag55 rfl rfl rfl) (Zb 18 511) (aF 9 (vQ b4) rfl rfl (L 9 rfl) (Yg 5 31 rfl rfl B) (λ_=>by exact Yk 0 ZNe rfl sc22.size rfl rfl) (Zb 18 1023) (aL 10 (u0_0) rfl rfl (V 10 rfl) (Yg 5 31 rfl rfl B) (λ_ O=>by exact Yc (A.grow O) 1 (u0_0) rfl sc22 rfl rfl) (Zb 18 2047) (aF 11 (vI (I:Int)) rfl rfl (L 11 rfl) (Yg 5 31 rfl rfl B) (λ_=>by exact Zau (v:=vI (I:Int)) rfl) (Zb 18 4095) ?_)))))
     obtain ⟨⟨a3,a4⟩,h⟩:=h;obtain ⟨ax,bk,ak⟩:=Zx (A.getP 2 rfl) I (show I < a0.degrees.length by omega)
     refine aL 12 (.pointer (some (ax.add (I * 1)))) rfl rfl (V 12 rfl) (Yg 5 31 rfl rfl B) (λ_ O=>by exact Y1 (len:=a0.degrees.length) ZNd sc2.size (by exact tr rfl ak) rfl a3 a4) (Zb 18 8191) (aL 13 (vI (a0.degrees.getD I ZEu)) rfl rfl (V 13 rfl) (Yg 5 31 rfl rfl B) (λ_ O=>by exact Xh (vI (a0.degrees.getD I ZEu)) (Ye ((A.grow O).getP 2 rfl) ak I (show I < a0.degrees.length by omega)) sc2 rfl) (Zb 18 16383) (aF 14 (vI (ZHf.wrap ((a0.degrees.getD I ZEu)+1))) rfl rfl (L 14 rfl) (Yg 5 31 rfl rfl B) (λ_=>by exact Zdm rfl rfl) (Zb 18 32767) (Z0 15 (by decide) (by decide) (by kernel_rfl) (by kernel_rfl) rfl (Zh 5 31 rfl rfl B (Zf [u0_0,.agg #[U],vI (ZHf.wrap ((a0.degrees.getD I ZEu)+1))] _ Tryz.func152 rfl rfl rfl (Zww a0.degrees (a0.images.getD I ZEu) (ZHf.wrap ((a0.degrees.getD I ZEu)+1)) h _ (A.getP 2 rfl) (Yi (A.getP 0 rfl))) ?_)))))
     rintro _ bl ⟨a5,rfl,h,ay⟩;refine rt ?_
     replace A:=A.grow ay;refine Zh 5 31 rfl rfl B (Xe rfl (Zs (v:=.bool (!a5)) (b:=false) (tr rfl (congrArg _ B)) rfl (done (Z1 (Zd ?_)))))
     refine Zp rfl (λad=>?_) (λad=>?_)
     ·replace h:=ift h (Yz (Xi ad));refine sr (Zc (v:=.bool false) rfl (dn ?_))
      refine ZM3 (Z8 (Zl (Zl (Z8 (Zl ?_)))))
      exact Zi rfl (Ze rfl) ⟨false,rfl,h,A.below⟩ (.inl rfl)
     ·replace h:=Zm h (not_not_intro ((Xj ad)));refine ZMy (Zq (Zd (Zj (Zo rfl rfl (Za (v:=vI (ZHf.wrap ((I:Int)+1))) rfl (done ?_))))))
      exact ar () _ _ ⟨(sl ⟨rfl,rfl,rfl,(tr rfl (congrArg _ (Z7 aa aq))),trivial⟩),((A.xM [1] rfl).sP [1,2,3] rfl)⟩ h
   ·clear A h;rintro an e_ bm a2 ⟨ae,A⟩ h;rw [ue ae];refine sr (Zn rfl rfl (dn (ZMu (Z2 rfl (decide_eq_false (by omega)) ?_))))
    refine ZM9 (Zk (Zk (Zy ?_)))
    refine Zd (sr (Zu 1 ZNe rfl sc30.size rfl rfl (Z5 A 0 (u0_1) rfl sc30 rfl rfl (Zl9 (g:=153) [vQ b4] (Zl8 rfl rfl) (Zf [u0_1,.func (.func 153) #[] (ZHu [vQ b4])] _ Tryz.func97 rfl rfl rfl (Zq0 a0.images (λal K_=>Zie al a0 K_) h _ (A.getP 0 rfl) Tryz.func153 rfl rfl (λal yu0_0_ a9 K_ w_ ab az a6=>Zxz al a0 a6 w_ az (Y3 ((A.grow ab).getP 1 rfl) ((A.grow ab).getP 0 rfl)) ((A.grow ab).getM 0 rfl))) ?_)))))
    rintro _ bn ⟨ao,rfl,h,a1⟩;refine rt ?_
    replace A:=A.grow a1;refine Xe rfl (Zc (v:=.bool (!ao)) rfl (dn (ZM3 ?_)))
    exact Zi rfl (Ze rfl) ⟨!ao,rfl,h,A.below⟩ (.inl rfl)
   ·skip;exact⟨(slq rfl),A⟩
def Zig (A:ZMw) (B:Alg) (K:Bool→Prop):Prop :=
 Zf4 B.degrees A (λh=>K (!h))
theorem Zx2 (L:ZMw) (U:Alg)  {K:Bool→Prop} (h:Zig L U K) (w0:World) (q0:ZNg.rep L [u0_0] fp0 w0) (q1:TAlg.rep U [u1_0,u1_1] fp1 w0) (ab:(blk b1 32 [u1_0,u1_1]).holds w0) (V:(blk bp1 66 [vQ b1]).holds w0) :
  Calls ZMx 98 #[.agg #[u0_0],vQ bp1] w0 λe w'=>∃ (r0:Bool),
   e=.returned (.bool r0)∧K r0∧Bel w0 w':=by
 unfold Zig at h
 refine cof Tryz.func98 rfl 11 Tryz.ntmps98 ?_
 have A:=ZNf (X:=Nox) w0 [ZMt TForm L [u0_0] fp0,ZMt TAlg U [u1_0,u1_1] fp1,blk b1 32 [u1_0,u1_1],blk bp1 66 [vQ b1]] (alc q0 (alc q1 (alc ab (al1 V))));have ac:=(A.getP 0 rfl);replace A:=A.derive 0 rfl (ZMt ZMv.ty.sl L.terms [u0_0] fp0) (λ_=>(Y9 ac)) (λ_ ad=>ad)
 replace A:=A.dAlg 2 rfl;refine sr (Ya (v:=.agg #[u0_0]) A [u0_0] rfl rfl λb9 ae B A=>Zc (v:=.bool false) rfl (dn (ZMu ?_)))
 refine cwd 5 Yh [0,1,3,7,0,31,63,127] [0,3,4] [1,2] (λG I ag B=>?_)
 replace A:=A.grow B;refine bL 0 (vQ b1) rfl rfl G (λ_ B=>by exact Zds (vQ b1) ((A.grow B).getP 6 rfl) sc66 rfl rfl) (Zb 8 1) (bF 1 (vQ b1) rfl rfl I (λ_=>by exact J7 rfl) (Zb 8 3) (bF 2 (vQ b1) rfl rfl I (λ_=>by exact Yk 0 ZNe rfl sc22.size rfl rfl) (Zb 8 7) (bL 3 (u1_0) rfl rfl G (λ_ B=>by exact Zds (u1_0) ((A.grow B).getP 5 rfl) sc22 rfl rfl) (Zb 8 15) (bL 4 (.agg #[u0_0]) rfl rfl G (λ_ B=>by exact Xa (A.grow B) 0 [u0_0] rfl ag55 rfl rfl rfl) (Zb 8 31) (Z0 5 (by decide) (by decide) (by kernel_rfl) (by kernel_rfl) rfl (Zf [u1_0,.agg #[u0_0]] _ Tryz.func99 rfl rfl rfl (Zqm U.degrees L h _ (A.getP 1 rfl) (Yi (A.getP 2 rfl))) ?_))))))
 rintro _ ah ⟨O,rfl,h,aa⟩;refine rt ?_
 replace A:=A.grow aa;refine Xe rfl (Zc (v:=.bool (!O)) rfl (done (Z1 (Zd (ZM3 ?_)))))
 exact Zi rfl (Ze rfl) ⟨!O,rfl,h,A.below⟩ (.inl rfl)
def Zdb (h:Alg) (O:List ZMw) (K:Int→Prop):Prop :=
 Zif h (λA=>(if¬ (A=true) then Zc9 true 1 (λB=>K B) else Zf8 O (λG K_=>Zig G h K_) (λI=>Zc9 I 1 (λL=>K L))))
theorem Zm4 (L:Alg) (U:List ZMw)  {K:Int→Prop} (h:Zdb L U K) (w0:World) (q0:TAlg.rep L [u0_0,u0_1] fp0 w0) (ai:(blk b0 32 [u0_0,u0_1]).holds w0) (q1:ZNg.sl.rep U [u1_0] fp1 w0) :
  Calls ZMx 44 #[vQ b0,u1_0] w0 λe w'=>∃ (r0:Int),
   e=.returned (vI r0)∧K r0∧Bel w0 w':=by
 unfold Zdb at h
 refine cof Tryz.func44 rfl 18 Tryz.ntmps44 ?_
 have A:=ZNf (X:=Nox) w0 [ZMt TAlg L [u0_0,u0_1] fp0,ZMt ZNg.sl U [u1_0] fp1,blk b0 32 [u0_0,u0_1]] (alc q0 (alc q1 (al1 ai)));replace A:=A.dAlg 0 rfl;refine sr (Ya (v:=vQ b0) A [vQ b0] rfl rfl λb6 w8 al A=>Zc (v:=vI 0) rfl (dn (sr (Z5 A 0 (vQ b0) rfl sc66 rfl rfl (Xf rfl (Zva [u0_0,u0_1] (A.getP 4 rfl) ag32 rfl rfl rfl (Zf [.agg #[u0_0,u0_1]] _ Tryz.func96 rfl rfl rfl (Zx1 L h _ (Y3 (A.getP 1 rfl) (A.getP 0 rfl))) ?_)))))))
 rintro _ am ⟨V,rfl,h,ac⟩;refine rt ?_
 replace A:=A.grow ac;refine Xe rfl (Za (v:=.bool (!V)) rfl ?_)
 refine Y6 (!V) (λB=>?_) (λB=>?_)
 ·replace h:=ift h (Yz (Xi B));refine Zg (b:=true) 5 11 rfl (tr rfl (congrArg _ B)) (by decide) (Zg (b:=true) 5 11 rfl (tr rfl (congrArg _ B)) (by decide) (Zg (b:=true) 5 11 rfl (tr rfl (congrArg _ B)) (by decide) (Zs (v:=.bool true) (b:=true) (tr rfl (congrArg _ B)) rfl (Zc (v:=.bool true) rfl (dn (sr (Za (v:=.bool true) rfl (Zf [.bool true,vI 1] _ Tryz.func45 rfl rfl rfl (Zh9 true 1 h _) ?_))))))))
  rintro _ an ⟨aa,rfl,h,ad⟩;refine rt ?_
  replace A:=A.grow ad;refine Zc (v:=vI aa) rfl (dn (ZM3 ?_))
  exact Zi rfl (Ze rfl) ⟨aa,rfl,h,A.below⟩ (.inl rfl)
 ·replace h:=Zm h (not_not_intro ((Xj B)));refine Zh 5 11 rfl rfl B (Za (v:=u1_0) rfl (Zh 5 11 rfl rfl B (Zl9 (g:=98) [vQ b6] (Zl8 rfl rfl) (Zh 5 11 rfl rfl B (Zf [u1_0,.func (.func 98) #[] (ZHu [vQ b6])] _ Tryz.func97 rfl rfl rfl (Zq0 U (λO K_=>Zig O L K_) h _ (A.getP 3 rfl) Tryz.func98 rfl rfl (λO yu0_0_ ak K_ w_ I ae aj=>Zx2 O L aj w_ ae (Y3 ((A.grow I).getP 1 rfl) ((A.grow I).getP 0 rfl)) ((A.grow I).getP 4 rfl) ((A.grow I).getM 0 rfl))) ?_)))))
  rintro _ ao ⟨G,rfl,h,ag⟩;refine rt ?_
  replace A:=A.grow ag;refine Zs (v:=.bool G) (b:=false) (tr rfl (congrArg _ B)) rfl (Zc (v:=.bool G) rfl (dn (sr (Za (v:=.bool G) rfl (Zf [.bool G,vI 1] _ Tryz.func45 rfl rfl rfl (Zh9 G 1 h _) ?_)))))
  rintro _ ap ⟨ab,rfl,h,ah⟩;refine rt ?_
  replace A:=A.grow ah;refine Zc (v:=vI ab) rfl (dn (ZM3 ?_))
  exact Zi rfl (Ze rfl) ⟨ab,rfl,h,A.below⟩ (.inl rfl)
def Zko (A:List Term) (h:Int) (K:Int→Prop):Prop :=
 (if ZHf.wrap (h - (A.length:Int)) < 0 then K (-1) else K (ZHf.wrap (h - (A.length:Int))))
theorem Zx3 (G:List Term) (A:Int)  {K:Int→Prop} (h:Zko G A K) (w0:World) (O:ZMv.ty.sl.rep G [u0_0] fp0 w0) :
  Calls ZMx 67 #[u0_0,vI A] w0 λe w'=>∃ (L:Int),
   e=.returned (vI L)∧K L∧Bel w0 w':=by
 unfold Zko at h
 refine cof Tryz.func67 rfl 12 Tryz.ntmps67 ?_
 have I:=ZNf (X:=Nox) w0 [ZMt ZMv.ty.sl G [u0_0] fp0] (al1 O);refine sr (Zc (v:=vI 0) rfl (dn (sr (Za (v:=vI A) rfl (Za (v:=u0_0) rfl (Zw I 0 rfl ZP6 rfl (J4 rfl rfl (Zc (v:=vI (ZHf.wrap (A - (G.length:Int)))) rfl (dn (ZMu (sr (Za (v:=vI (ZHf.wrap (A - (G.length:Int)))) rfl (Zn rfl rfl (dn ?_))))))))))))))
 refine Zp rfl (λB=>?_) (λB=>?_)
 ·replace h:=ift h (ct B);refine sr (Zc (v:=vI (-1)) rfl (dn ?_))
  refine ZM3 (Zl ?_)
  exact Zi rfl (Ze rfl) ⟨(-1),rfl,h,I.below⟩ (.inl rfl)
 ·replace h:=Zm h (cf B);refine ZMy (Zd (sr (Za (v:=vI (ZHf.wrap (A - (G.length:Int)))) rfl (Zc (v:=vI (ZHf.wrap (A - (G.length:Int)))) rfl (dn (ZM3 ?_))))))
  exact Zi rfl (Ze rfl) ⟨ZHf.wrap (A - (G.length:Int)),rfl,h,I.below⟩ (.inl rfl)
def Zez (B:ZMw) (A:Int) (K:Int→Prop):Prop :=
 Zko B.terms A (λh=>(if h < 0 then K (-1) else K h))
theorem Zq1 (L:ZMw) (I:Int)  {K:Int→Prop} (h:Zez L I K) (w0:World) (q0:ZNg.rep L [u0_0] fp0 w0) :
  Calls ZMx 28 #[.agg #[u0_0],vI I] w0 λe w'=>∃ (U:Int),
   e=.returned (vI U)∧K U∧Bel w0 w':=by
 unfold Zez at h
 refine cof Tryz.func28 rfl 12 Tryz.ntmps28 ?_
 have A:=ZNf (X:=Nox) w0 [ZMt TForm L [u0_0] fp0] (al1 q0);have V:=(A.getP 0 rfl);replace A:=A.derive 0 rfl (ZMt ZMv.ty.sl L.terms [u0_0] fp0) (λ_=>(Y9 V)) (λ_ aa=>aa)
 refine sr (Ya (v:=.agg #[u0_0]) A [u0_0] rfl rfl λb4 w6 ab A=>Zc (v:=vI 0) rfl (dn (sr (Zu 0 ZQf rfl sc48.size rfl rfl (Z5 A 0 (u0_0) rfl sc48 rfl rfl (Za (v:=vI I) rfl (Zf [u0_0,vI I] _ Tryz.func67 rfl rfl rfl (Zx3 L.terms I h _ (A.getP 0 rfl)) ?_)))))))
 rintro _ w9 ⟨B,rfl,h,O⟩;refine rt ?_
 replace A:=A.grow O;refine Zc (v:=vI B) rfl (dn (ZMu (sr (Za (v:=vI B) rfl (Zn rfl rfl (dn ?_))))))
 refine Zp rfl (λG=>?_) (λG=>?_)
 ·replace h:=ift h (ct G);refine sr (Zc (v:=vI (-1)) rfl (dn ?_))
  refine ZM3 (Zl ?_)
  exact Zi rfl (Ze rfl) ⟨(-1),rfl,h,A.below⟩ (.inl rfl)
 ·replace h:=Zm h (cf G);refine ZMy (Zd (sr (Za (v:=vI B) rfl (Zc (v:=vI B) rfl (dn (ZM3 ?_))))))
  exact Zi rfl (Ze rfl) ⟨B,rfl,h,A.below⟩ (.inl rfl)
def Zih (L:List ZMw) (G:Int) (K:Int→Prop):Prop :=
 (if ZHf.wrap (G - (L.length:Int)) < 0 then K (-1) else Z9 (λI (h:Int) B=>Zez (L.getD I ZEu) h (λA=>(if A < 0 then K (-1) else B A))) (λ(h:Int)=>K h) L.length 0 (ZHf.wrap (G - (L.length:Int))))
theorem Zx4 (a0:List ZMw) (O:Int)  {K:Int→Prop} (h:Zih a0 O K) (w0:World) (q0:ZNg.sl.rep a0 [u0_0] fp0 w0) :
  Calls ZMx 38 #[u0_0,vI O] w0 λe w'=>∃ (r0:Int),
   e=.returned (vI r0)∧K r0∧Bel w0 w':=by
 unfold Zih at h
 refine cof Tryz.func38 rfl 27 Tryz.ntmps38 ?_
 have A:=ZNf (X:=Nox) w0 [ZMt ZNg.sl a0 [u0_0] fp0] (al1 q0);refine sr (Zc (v:=vI 0) rfl (dn (sr (Za (v:=vI O) rfl (Za (v:=u0_0) rfl (Zw A 0 rfl ZP2 rfl (J4 rfl rfl (Zc (v:=vI (ZHf.wrap (O - (a0.length:Int)))) rfl (dn (ZMu (sr (Za (v:=vI (ZHf.wrap (O - (a0.length:Int)))) rfl (Zn rfl rfl (dn ?_))))))))))))))
 refine Zp rfl (λU=>?_) (λU=>?_)
 ·replace h:=ift h (ct U);refine sr (Zc (v:=vI (-1)) rfl (dn ?_))
  refine ZM3 (Zl ?_)
  exact Zi rfl (Ze rfl) ⟨(-1),rfl,h,A.below⟩ (.inl rfl)
 ·replace h:=Zm h (cf U);refine ZMy (Zd (ZMu (sr (Zc (v:=vI 0) rfl (dn (ZM0 ?_))))))
  have ag:a0.length≤9223372036854775807:=Y5 (A.getP 0 rfl);refine Yp (S:=Int) _ _ (λB G e_ w_=>Zt e_ [(0,u0_0),(1,vI G),(5,vI (B:Int))]∧Ctx Nox w0 w_ [] [ZMt ZNg.sl a0 [u0_0] fp0]) a0.length ?_ ?_ (s0:=(ZHf.wrap (O - (a0.length:Int)))) ?_ h
  ·clear A h;rintro B G e_ ap an al I ⟨V,A⟩ h ah;rw [ue V];refine ZMu (sr (Za (v:=vI (B:Int)) rfl (Za (v:=u0_0) rfl (Zw A 0 rfl ZP2 rfl (Zn rfl rfl (dn (Z3 rfl (decide_eq_true (by omega)) (ZMy (Zd (ZMu (ZM0 (sr (Za (v:=u0_0) rfl (Za (v:=vI (B:Int)) rfl ?_))))))))))))))
   obtain ⟨ao,aq,aa⟩:=Zx (A.getP 0 rfl) B I;refine Ys (len:=a0.length) ZP2 ag50.size (tr rfl aa) rfl (ZNb _) (ZNt.2 I) ?_
   obtain ⟨ar,ab,ai,ac⟩:=Xp (A.getP 0 rfl) aa B I;obtain ⟨ad,rfl⟩:=ZJj.1 ab;clear ab;rw [Xm _ _ I] at ac
   have aj:=ac;replace A:=A.derive 0 rfl (ZMt ZMv.ty.sl ((a0.getD B ZEu).terms) [ad] fp0) (λ_=>(Y9 aj)) (λ_ am=>am)
   refine Je [ad] ai ag50 rfl rfl (Za (v:=vI G) rfl (Zf [.agg #[ad],vI G] _ Tryz.func28 rfl rfl rfl (Zq1 (a0.getD B ZEu) G h _ (Yi (A.getP 0 rfl))) ?_))
   rintro _ au ⟨ae,rfl,h,ak⟩;refine rt ?_
   replace A:=A.grow ak;refine Zc (v:=vI ae) rfl (dn (sr (Za (v:=vI ae) rfl (Zn rfl rfl (dn ?_)))))
   refine Zp rfl (λL=>?_) (λL=>?_)
   ·replace h:=ift h (ct L);refine sr (Zc (v:=vI (-1)) rfl (dn ?_))
    refine ZM3 (Z8 (Zl (Zl (Z8 (Zl ?_)))))
    exact Zi rfl (Ze rfl) ⟨(-1),rfl,h,A.below⟩ (.inl rfl)
   ·replace h:=Zm h (cf L);refine ZMy (Zq (Zd (Zj (Za (v:=vI (B:Int)) rfl (Zo rfl rfl (Zc (v:=vI (ZHf.wrap ((B:Int)+1))) rfl (done ?_)))))))
    exact ah ae _ _ ⟨(sl ⟨rfl,rfl,(tr rfl (congrArg _ (Z7 I ag))),trivial⟩),(A.sP [1] rfl)⟩ h
  ·clear A h;rintro G e_ av al ⟨V,A⟩ h;rw [ue V];refine ZMu (sr (Za (v:=vI (a0.length:Int)) rfl (Za (v:=u0_0) rfl (Zw A 0 rfl ZP2 rfl (Zn rfl rfl (dn (Z2 rfl (decide_eq_false (by omega)) ?_)))))))
   refine ZM9 (Zk (Zk (Zy ?_)))
   refine Zd (sr (Za (v:=vI G) rfl (Zc (v:=vI G) rfl (dn (ZM3 ?_)))))
   exact Zi rfl (Ze rfl) ⟨G,rfl,h,A.below⟩ (.inl rfl)
  ·skip;exact⟨(slq rfl),A⟩
def Zkp (A:List Int) (h:Int) (K:Int→Prop):Prop :=
 (if ZHf.wrap (h - (A.length:Int)) < 0 then K (-1) else K (ZHf.wrap (h - (A.length:Int))))
theorem Zx5 (G:List Int) (A:Int)  {K:Int→Prop} (h:Zkp G A K) (w0:World) (O:ZPz.rep G [u0_0] fp0 w0) :
  Calls ZMx 37 #[u0_0,vI A] w0 λe w'=>∃ (L:Int),
   e=.returned (vI L)∧K L∧Bel w0 w':=by
 unfold Zkp at h
 refine cof Tryz.func37 rfl 12 Tryz.ntmps37 ?_
 have I:=ZNf (X:=Nox) w0 [ZMt TInts G [u0_0] fp0] (al1 O);refine sr (Zc (v:=vI 0) rfl (dn (sr (Za (v:=vI A) rfl (Za (v:=u0_0) rfl (Zw I 0 rfl ZNd rfl (J4 rfl rfl (Zc (v:=vI (ZHf.wrap (A - (G.length:Int)))) rfl (dn (ZMu (sr (Za (v:=vI (ZHf.wrap (A - (G.length:Int)))) rfl (Zn rfl rfl (dn ?_))))))))))))))
 refine Zp rfl (λB=>?_) (λB=>?_)
 ·replace h:=ift h (ct B);refine sr (Zc (v:=vI (-1)) rfl (dn ?_))
  refine ZM3 (Zl ?_)
  exact Zi rfl (Ze rfl) ⟨(-1),rfl,h,I.below⟩ (.inl rfl)
 ·replace h:=Zm h (cf B);refine ZMy (Zd (sr (Za (v:=vI (ZHf.wrap (A - (G.length:Int)))) rfl (Zc (v:=vI (ZHf.wrap (A - (G.length:Int)))) rfl (dn (ZM3 ?_))))))
  exact Zi rfl (Ze rfl) ⟨ZHf.wrap (A - (G.length:Int)),rfl,h,I.below⟩ (.inl rfl)
def Zii (G:Alg) (B:Int) (K:Int→Prop):Prop :=
 Zkp G.degrees B (λh=>(if h < 0 then K (-1) else Zih G.images h (λA=>(if A < 0 then K (-1) else K A))))
theorem Zx6 (U:Alg) (O:Int)  {K:Int→Prop} (h:Zii U O K) (w0:World) (q0:TAlg.rep U [u0_0,u0_1] fp0 w0) :
  Calls ZMx 10 #[.agg #[u0_0,u0_1],vI O] w0 λe w'=>∃ (r0:Int),
   e=.returned (vI r0)∧K r0∧Bel w0 w':=by
 unfold Zii at h
 refine cof Tryz.func10 rfl 18 Tryz.ntmps10 ?_
 have A:=ZNf (X:=Nox) w0 [ZMt TAlg U [u0_0,u0_1] fp0] (al1 q0);replace A:=A.dAlg 0 rfl;refine sr (Ya (v:=.agg #[u0_0,u0_1]) A [u0_0,u0_1] rfl rfl λb4 w6 ab A=>Zc (v:=vI 0) rfl (dn (sr (Zu 0 ZQa rfl sc22.size rfl rfl (Z5 A 0 (u0_0) rfl sc22 rfl rfl (Za (v:=vI O) rfl (Zf [u0_0,vI O] _ Tryz.func37 rfl rfl rfl (Zx5 U.degrees O h _ (A.getP 1 rfl)) ?_)))))))
 rintro _ w9 ⟨B,rfl,h,V⟩;refine rt ?_
 replace A:=A.grow V;refine Zc (v:=vI B) rfl (dn (ZMu (sr (Za (v:=vI B) rfl (Zn rfl rfl (dn ?_))))))
 refine Zp rfl (λI=>?_) (λI=>?_)
 ·replace h:=ift h (ct I);refine sr (Zc (v:=vI (-1)) rfl (dn ?_))
  refine ZM3 (Zl ?_)
  exact Zi rfl (Ze rfl) ⟨(-1),rfl,h,A.below⟩ (.inl rfl)
 ·replace h:=Zm h (cf I);refine ZMy (Zd (sr (Zu 1 ZQa rfl sc23.size rfl rfl (Z5 A 0 (u0_1) rfl sc23 rfl rfl (Za (v:=vI B) rfl (Zf [u0_1,vI B] _ Tryz.func38 rfl rfl rfl (Zx4 U.images B h _ (A.getP 0 rfl)) ?_))))))
  rintro _ ac ⟨G,rfl,h,aa⟩;refine rt ?_
  replace A:=A.grow aa;refine Zc (v:=vI G) rfl (dn (ZMu (sr (Za (v:=vI G) rfl (Zn rfl rfl (dn ?_))))))
  refine Zp rfl (λL=>?_) (λL=>?_)
  ·replace h:=ift h (ct L);refine sr (Zc (v:=vI (-1)) rfl (dn ?_))
   refine ZM3 (Zl ?_)
   exact Zi rfl (Ze rfl) ⟨(-1),rfl,h,A.below⟩ (.inl rfl)
  ·replace h:=Zm h (cf L);refine ZMy (Zd (sr (Za (v:=vI G) rfl (Zc (v:=vI G) rfl (dn (ZM3 ?_))))))
   exact Zi rfl (Ze rfl) ⟨G,rfl,h,A.below⟩ (.inl rfl)
def Zij (I:List ZMw) (K:List ZMw→Prop):Prop :=
 ((0≤(I.length:Int)∧(I.length:Int) * 24≤281474976710656)∧Z9 (λh (A:(List ZMw)) B=>Zd5 (I.getD h ZEu) (λG=>((0≤(h:Int)∧(h:Int) < (A.length:Int))∧B (A.set h G)))) (λ(A:(List ZMw))=>K A) I.length 0 (ZEp ((I.length:Int).toNat) ((⟨[]⟩:ZMw):ZMw)))
theorem Zx7 (a0:List ZMw)  {K:List ZMw→Prop} (h:Zij a0 K) (w0:World) (q0:ZNg.sl.rep a0 [u0_0] fp0 w0) :
  Calls ZMx 42 #[u0_0] w0 λe w'=>∃ (r0:List ZMw) (z0_0:Value) (ai:List Nat),
   e=.returned (z0_0)∧K r0∧(ZM8 (Tr.sl 55 (Y0 162)) r0 [z0_0] ai).holds w'∧(∀ b,b∈ai→w0.heap.size≤b)∧Bel w0 w':=by
 unfold Zij at h
 refine cof Tryz.func42 rfl 23 Tryz.ntmps42 ?_
 have A:=ZNf (X:=Nox) w0 [ZMt ZNg.sl a0 [u0_0] fp0] (al1 q0);refine sr (Zc (v:=.slice none 0 0) rfl (dn (sr (Za (v:=u0_0) rfl (Zw A 0 rfl ZP2 rfl ?_)))))
 obtain ⟨a8,h⟩:=h;refine Zcf (sz:=1) A (ZEp ((a0.length:Int).toNat) (.slice none 0 0)) ZNi Zxy (tr rfl (congrArg (ZP4 .i64) (ZP5 a8.1).symm)) (tr rfl (congrArg (ZP4 .i64) (ZP5 a8.1).symm)) (by omega) (by omega) (Zvz _) λv5 w6 a9 A=>?_
 replace A:=A.pushM0 (Yf (Y0 162) (ZEp ((a0.length:Int).toNat) ((⟨[]⟩:ZMw):ZMw)) (ZEp ((a0.length:Int).toNat) (.slice none 0 0)) (ZEp ((a0.length:Int).toNat) [])) (Zv1 (Zc5 (Zhl _ _ _)) rfl _) (Zv0 _);replace A:=A.gather (c:=ZM8 (Tr.sl 55 (Y0 162)) (ZEp ((a0.length:Int).toNat) ((⟨[]⟩:ZMw):ZMw)) [v5] ((ZNu (ZFo v5))++(ZEp ((a0.length:Int).toNat) ([]:List Nat)).flatten)) (λx_ av=>(ZEt.1 av).symm) (λaw ax ay=>J0 (by rw [List.length_replicate]; exact ax) aw (λb_ aa aj=>ay b_ aj aa))
 refine Zc (v:=v5) rfl (dn (ZMu (sr (Zc (v:=vI 0) rfl (dn (ZM0 ?_))))))
 have ak:a0.length≤9223372036854775807:=Y5 (A.getP 0 rfl);refine Yp (S:=(List ZMw)) _ _ (λB I e_ w_=>∃ (G:Value),∃ (V:List Nat),Zt e_ [(0,u0_0),(3,G),(4,vI (B:Int))]∧Ctx Nox w0 w_ [ZM8 (Tr.sl 55 (Y0 162)) I [G] V] [ZMt ZNg.sl a0 [u0_0] fp0]) a0.length ?_ ?_ (s0:=(ZEp ((a0.length:Int).toNat) ((⟨[]⟩:ZMw):ZMw))) ?_ h
 ·clear A h;rintro B I e_ ba a6 az L ⟨G,V,ab,A⟩ h al;rw [ue ab];refine ZMu (sr (Za (v:=vI (B:Int)) rfl (Za (v:=u0_0) rfl (Zw A 0 rfl ZP2 rfl (Zn rfl rfl (dn (Z3 rfl (decide_eq_true (by omega)) (ZMy (Zd (ZMu (ZM0 (Zj (Za (v:=G) rfl (Za (v:=vI (B:Int)) rfl (Za (v:=u0_0) rfl (Za (v:=vI (B:Int)) rfl ?_))))))))))))))))
  obtain ⟨a7,bb,ac⟩:=Zx (A.getP 0 rfl) B L;refine Ys (len:=a0.length) ZP2 ag50.size (tr rfl ac) rfl (ZNb _) (ZNt.2 L) ?_
  obtain ⟨bc,ad,am,ae⟩:=Xp (A.getP 0 rfl) ac B L;obtain ⟨ag,rfl⟩:=ZJj.1 ad;clear ad;rw [Xm _ _ L] at ae
  have an:=ae;replace A:=A.derive 0 rfl (ZMt ZMv.ty.sl ((a0.getD B ZEu).terms) [ag] fp0) (λ_=>(Y9 an)) (λ_ aa=>aa)
  refine Je [ag] am ag50 rfl rfl (Zf [.agg #[ag]] _ Tryz.func30 rfl rfl rfl (Zkf (a0.getD B ZEu) h _ (Yi (A.getP 0 rfl))) ?_)
  rintro _ bd ⟨U,O,a1,rfl,h,ao,ap,aq⟩;refine rt ?_
  replace A:=A.push aq (ZM8 (Y0 162) U [O] a1) ao ap;obtain ⟨ar,au⟩:=X7 (A.getM 0 rfl);subst au;replace A:=A.recast (c:=own 162 9 O U.terms.length (ZMv.encs U.terms)) (λ_ h_=>h_) (λ_=>ar)
  obtain ⟨⟨a2,a3⟩,h⟩:=h;obtain ⟨be,a5,ah⟩:=Zwe (A.getM 1 rfl) (ZQe (Nat.zero_le _) (show B < I.length by omega))
  refine Js (B * 1) ZNi ag55.size (tr rfl ah) rfl a2 a3 rfl ?_
  replace A:=A.recast (c:=ZM8 (Y0 162) U [O] (ZNu (ZFo O))) (λ_ h_=>h_) (λh_=>Zc5 (Xx h_))
  replace A:=A.sM [1,0] (M':=[ZM8 (Tr.sl 55 (Y0 162)) I [G] V,ZM8 (Y0 162) U [O] (ZNu (ZFo O))]) (by decide) rfl
  refine Zwf (u:=.agg #[O]) A (show B < I.length by omega) ah ag55.size rfl rfl rfl rfl λa4 bh A=>done (Zq (Zd (Zj (Za (v:=vI (B:Int)) rfl (Zo rfl rfl (Zc (v:=vI (ZHf.wrap ((B:Int)+1))) rfl (done ?_)))))))
  exact al (I.set B U) _ _ ⟨G,a4,(sl ⟨rfl,rfl,(tr rfl (congrArg _ (Z7 L ak))),trivial⟩),(A.sP [1] rfl)⟩ h
 ·clear A h;rintro I e_ bi az ⟨G,V,ab,A⟩ h;rw [ue ab];refine ZMu (sr (Za (v:=vI (a0.length:Int)) rfl (Za (v:=u0_0) rfl (Zw A 0 rfl ZP2 rfl (Zn rfl rfl (dn (Z2 rfl (decide_eq_false (by omega)) ?_)))))))
  refine ZM9 (Zk (Zk (Zy ?_)))
  refine Zd (sr (Za (v:=G) rfl (Zc (v:=G) rfl (dn (ZM3 ?_)))))
  exact Zi rfl (Ze rfl) ⟨I,G,V,rfl,h,(A.getM 0 rfl),(Zb6 A 0 rfl),A.below⟩ (.inl rfl)
 ·skip;exact⟨v5,((ZNu (ZFo v5))++(ZEp ((a0.length:Int).toNat) ([]:List Nat)).flatten),(slq rfl),A⟩
def Ze0 (B:Alg) (K:Alg→Prop):Prop :=
 Zh3 B.degrees (λh=>Zij B.images (λA=>K (⟨h,A⟩:Alg)))
theorem Zm5 (a0:Alg)  {K:Alg→Prop} (h:Ze0 a0 K) (w0:World) (q0:TAlg.rep a0 [u0_0,u0_1] fp0 w0) :
  Calls ZMx 12 #[.agg #[u0_0,u0_1]] w0 λe w'=>∃ (r0:Alg) (z0_0:Value) (z0_1:Value) (L:List Nat),
   e=.returned (.agg #[z0_0,z0_1])∧K r0∧(ZM8 (Zfv 2 162 55) r0 [z0_0,z0_1] L).holds w'∧(∀ b,b∈L→w0.heap.size≤b)∧Bel w0 w':=by
 unfold Ze0 at h
 refine cof Tryz.func12 rfl 13 Tryz.ntmps12 ?_
 have A:=ZNf (X:=Nox) w0 [ZMt TAlg a0 [u0_0,u0_1] fp0] (al1 q0);replace A:=A.dAlg 0 rfl;refine sr (Ya (v:=.agg #[u0_0,u0_1]) A [u0_0,u0_1] rfl rfl λb4 w6 O A=>Yl A [.slice none 0 0,.slice none 0 0] z32 rfl λb7 w9 O A=>dn (sr (Yl A [.slice none 0 0,.slice none 0 0] z32 rfl λak al O A=>dn (sr (Zu 0 ZQa rfl sc22.size rfl rfl (Z5 A 2 (u0_0) rfl sc22 rfl rfl (Zf [u0_0] _ Tryz.func41 rfl rfl rfl (Zwz a0.degrees h _ (A.getP 1 rfl)) ?_)))))))
 rintro _ am ⟨I,B,aj,rfl,h,aa,ab,ac⟩;refine rt ?_
 replace A:=A.push ac (ZM8 (Tr.sl 2 (eI.tr)) I [B] aj) aa ab;obtain ⟨ad,ae⟩:=Y4 (A.getM 0 rfl).1;subst ae;replace A:=A.recast (c:=own 2 1 B I.length (eI.encs I)) (λ_ h_=>h_) (λ_=>ad)
 refine Zu 0 ZNe rfl sc22.size rfl rfl (Zz (v:=B) A 1 [B] [B,.slice none 0 0] rfl sc22.size rfl rfl (Zcg (A.getM 0 rfl)) rfl (Xr (X4 (A.getM 0 rfl)) rfl) (ZM2 rfl) rfl λan A=>dn (sr (Zu 1 ZQa rfl sc23.size rfl rfl (Z5 A 3 (u0_1) rfl sc23 rfl rfl (Zf [u0_1] _ Tryz.func42 rfl rfl rfl (Zx7 a0.images h _ (A.getP 0 rfl)) ?_)))))
 rintro _ ao ⟨U,G,V,rfl,h,ag,ah,ai⟩;refine rt ?_
 replace A:=A.push ai (ZM8 (Tr.sl 55 (Y0 162)) U [G] V) ag ah;refine Zu 1 ZNe rfl sc30.size rfl rfl (Zz (v:=G) A 2 [G] [B,G] rfl sc30.size rfl rfl (Zmc (Tr.trep _ (A.getM 0 rfl).1)) rfl (Xr (Zdt (Tr.trep _ (A.getM 0 rfl).1)) rfl) (ZM2 rfl) rfl λap A=>dn (sr (Yb A 2 [B,G] rfl ag32 rfl rfl rfl (Zz (v:=.agg #[B,G]) A 3 [B,G] [B,G] rfl ag32.size rfl rfl rfl rfl (Xr (X4 (A.getM 1 rfl)) (Xr (Zdt (Tr.trep _ (A.getM 0 rfl).1)) rfl)) (ZM2 rfl) rfl λaq A=>dn (ZM3 ?_)))))
 exact Zi rfl (Zag A 3 rfl ag32 rfl rfl) ⟨(⟨I,U⟩:Alg),B,G,((ZNu (ZFo B))++V),rfl,h,(Zvy (Xx (A.getM 1 rfl)) (A.getM 0 rfl) (λx hx hx'=>A.mm 1 0 rfl rfl (by decide) x hx hx')),(λb hb=>(ZEt.1 hb).elim (λhb=>(Yt A 1 rfl) b hb) (λhb=>(Zb6 A 0 rfl) b hb)),A.below⟩ (.inl rfl)
def Zf9 (B:Alg) (G:Alg) (K:Bool→Prop):Prop :=
 Zh5 B.degrees G.degrees (λh=>(if¬ (h=true) then K false else Zkh B.images G.images (λA=>(if¬ (A=true) then K false else K true))))
theorem Zx8 (I:Alg) (L:Alg)  {K:Bool→Prop} (h:Zf9 I L K) (w0:World) (q0:TAlg.rep I [u0_0,u0_1] fp0 w0) (q1:TAlg.rep L [u1_0,u1_1] fp1 w0) :
  Calls ZMx 15 #[.agg #[u0_0,u0_1],.agg #[u1_0,u1_1]] w0 λe w'=>∃ (V:Bool),
   e=.returned (.bool V)∧K V∧Bel w0 w':=by
 unfold Zf9 at h
 refine cof Tryz.func15 rfl 17 Tryz.ntmps15 ?_
 have A:=ZNf (X:=Nox) w0 [ZMt TAlg I [u0_0,u0_1] fp0,ZMt TAlg L [u1_0,u1_1] fp1] (alc q0 (al1 q1));replace A:=A.dAlg 0 rfl;replace A:=A.dAlg 3 rfl;refine sr (Ya (v:=.agg #[u0_0,u0_1]) A [u0_0,u0_1] rfl rfl λb7 w9 aa A=>Ya (v:=.agg #[u1_0,u1_1]) A [u1_0,u1_1] rfl rfl λab ac aa A=>Zc (v:=.bool false) rfl (dn (ZMu (sr (Zu 0 ZNe rfl sc22.size rfl rfl (Z5 A 1 (u0_0) rfl sc22 rfl rfl (Zu 0 ZNe rfl sc22.size rfl rfl (Z5 A 0 (u1_0) rfl sc22 rfl rfl (Zf [u0_0,u1_0] _ Tryz.func25 rfl rfl rfl (Zw1 I.degrees L.degrees h _ (A.getP 3 rfl) (A.getP 1 rfl)) ?_)))))))))
 rintro _ ad ⟨ae,rfl,h,O⟩;refine rt ?_
 replace A:=A.grow O;refine Xe rfl (dn ?_)
 refine Zp rfl (λB=>?_) (λB=>?_)
 ·replace h:=ift h (Yz (Xi B));refine sr (Zc (v:=.bool false) rfl (dn ?_))
  refine ZM3 (Zl ?_)
  exact Zi rfl (Ze rfl) ⟨false,rfl,h,A.below⟩ (.inl rfl)
 ·replace h:=Zm h (not_not_intro ((Xj B)));refine ZMy (Zd (ZMu (sr (Zu 1 ZNe rfl sc30.size rfl rfl (Z5 A 1 (u0_1) rfl sc30 rfl rfl (Zu 1 ZNe rfl sc30.size rfl rfl (Z5 A 0 (u1_1) rfl sc30 rfl rfl (Zf [u0_1,u1_1] _ Tryz.func51 rfl rfl rfl (Zw6 I.images L.images h _ (A.getP 2 rfl) (A.getP 0 rfl)) ?_))))))))
  rintro _ ag ⟨ah,rfl,h,U⟩;refine rt ?_
  replace A:=A.grow U;refine Xe rfl (dn ?_)
  refine Zp rfl (λG=>?_) (λG=>?_)
  ·replace h:=ift h (Yz (Xi G));refine sr (Zc (v:=.bool false) rfl (dn ?_))
   refine ZM3 (Zl ?_)
   exact Zi rfl (Ze rfl) ⟨false,rfl,h,A.below⟩ (.inl rfl)
  ·replace h:=Zm h (not_not_intro ((Xj G)));refine ZMy (Zd (sr (Zc (v:=.bool true) rfl (dn (ZM3 ?_)))))
   exact Zi rfl (Ze rfl) ⟨true,rfl,h,A.below⟩ (.inl rfl)
def Zd8 (G:List Int) (K:Int→Prop):Prop :=
 Z9 (λh (B:Unit) A=>(if G.getD h ZEu≠0 then K (G.getD h ZEu) else A ())) (λ(B:Unit)=>K 0) G.length 0 ()
theorem Zkq (U:List Int)  {K:Int→Prop} (h:Zd8 U K) (w0:World) (q0:ZPz.rep U [u0_0] fp0 w0) :
  Calls ZMx 43 #[u0_0] w0 λe w'=>∃ (r0:Int),
   e=.returned (vI r0)∧K r0∧Bel w0 w':=by
 unfold Zd8 at h
 refine cof Tryz.func43 rfl 15 Tryz.ntmps43 ?_
 have B:=ZNf (X:=Nox) w0 [ZMt TInts U [u0_0] fp0] (al1 q0);refine sr (Zc (v:=vI 0) rfl (dn (ZMu (sr (Za (v:=u0_0) rfl (Zw B 0 rfl ZNd rfl (Za (v:=vI 0) rfl (dn (ZM0 ?_)))))))))
 have aa:U.length≤9223372036854775807:=Y5 (B.getP 0 rfl);refine Yp (S:=Unit) _ _ (λA V e_ w_=>Zt e_ [(5,u0_0),(6,vI (U.length:Int)),(7,vI (A:Int))]∧Ctx Nox w0 w_ [] [ZMt TInts U [u0_0] fp0]) U.length ?_ ?_ (s0:=()) ?_ h
 ·clear B h;rintro A V e_ ag ad ac G ⟨L,B⟩ h ab;rw [ue L];refine sr (Zn rfl rfl (dn (ZMu (Z3 rfl (decide_eq_true (by omega)) (ZMy (Zd (ZMu (ZM0 (sr ?_)))))))))
  obtain ⟨ae,ah,O⟩:=Zx (B.getP 0 rfl) A G;refine Ys (len:=U.length) ZNd sc2.size (tr rfl O) rfl (ZNb _) (ZNt.2 G) (Yr (vI (U.getD A ZEu)) (Ye (B.getP 0 rfl) O A G) sc2 rfl (Zc (v:=vI (U.getD A ZEu)) rfl (dn (sr (Za (v:=vI (U.getD A ZEu)) rfl (Y2 rfl rfl (dn ?_)))))))
  refine Zp rfl (λI=>?_) (λI=>?_)
  ·replace h:=ift h (ct I);refine sr (Za (v:=vI (U.getD A ZEu)) rfl (Zc (v:=vI (U.getD A ZEu)) rfl (dn ?_)))
   refine ZM3 (Z8 (Zl (Zl (Z8 (Zl ?_)))))
   exact Zi rfl (Ze rfl) ⟨U.getD A ZEu,rfl,h,B.below⟩ (.inl rfl)
  ·replace h:=Zm h (cf I);refine ZMy (Zq (Zd (Zj (Zo rfl rfl (Za (v:=vI (ZHf.wrap ((A:Int)+1))) rfl (done ?_))))))
   exact ab () _ _ ⟨(sl ⟨rfl,rfl,(tr rfl (congrArg _ (Z7 G aa))),trivial⟩),B⟩ h
 ·clear B h;rintro V e_ ai ac ⟨L,B⟩ h;rw [ue L];refine sr (Zn rfl rfl (dn (ZMu (Z2 rfl (decide_eq_false (by omega)) ?_))))
  refine ZM9 (Zk (Zk (Zy ?_)))
  refine Zd (sr (Zc (v:=vI 0) rfl (dn (ZM3 ?_))))
  exact Zi rfl (Ze rfl) ⟨0,rfl,h,B.below⟩ (.inl rfl)
 ·skip;exact⟨(slq rfl),B⟩
end Go.Proofs.YtaagfepgbofmlaaGreat
