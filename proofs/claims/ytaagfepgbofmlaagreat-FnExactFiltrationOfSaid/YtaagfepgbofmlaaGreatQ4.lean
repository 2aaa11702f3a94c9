import Derived.Test.YtaagfepgbofmlaaGreatQ3
set_option linter.unusedSectionVars false
set_option linter.unusedSimpArgs false
set_option linter.unusedVariables false
open Go renaming wp_seq→ZMu,wp_block→ZM0,wp_skip→ZMy,wp_ret→ZM3,wp_exit→ZM9
open Go.IntKind renaming i64→ZHf
open Go.Proofs.Tryz renaming underlying85→ZUw,underlying22→ZNd,prog→ZMx,underlying125→ZUa,func86→ZXn,func138→ZXo,func139→ZXp,func140→ZXq
open Go.Value renaming ownBlock→ZFo
open Inhabited renaming default→ZEu
open Int renaming tmod→ZFl,natCast_nonneg→ZNb,ofNat_lt→ZNt,tdiv→ZT1,toNat_of_nonneg→ZP5
open List renaming mem_append→ZEt,replicate→ZEp,length_eq_one_iff→ZJj,toArray→ZHu,mem_singleton_self→ZT7,mem_cons→ZEn,not_mem_nil→ZGz,pairwise_singleton→ZVj
open Nat renaming lt_of_le_of_lt→ZQe,zero_le→ZFz,le_of_ble_eq_true→ZM2
open Option renaming toList→ZNu
open Vc renaming TInts→ZPz
open Vc.Ctx renaming start→ZNf
open Vc.Enc renaming encs_append→ZNm
open Vc.Tr renaming sl→ZT0,item→ZM8
open Vc.Ty renaming item→ZMt,allItem→ZXm
set_option maxRecDepth 4000
set_option maxHeartbeats 4000000
namespace Go.Proofs.YtaagfepgbofmlaaGreat
open Go Go.RowKit Vc
variable {b0 bp0 b1 bp1 b2 bp2 b3 bp3 b4 bp4 b5 bp5 b6 bp6 b7 bp7 mb0:Nat} {u0_0 u0_1 u0_2 u0_3 u0_4 u0_5 u1_0 u1_1 u1_2 u1_3 u1_4 u1_5 u2_0 u2_1 u2_2 u2_3 u2_4 u2_5 u3_0 u3_1 u3_2 u3_3 u3_4 u3_5 u4_0 u4_1 u4_2 u4_3 u4_4 u4_5 u5_0 u5_1 u5_2 u5_3 u5_4 u5_5 u6_0 u6_1 u6_2 u6_3 u6_4 u6_5 u7_0 u7_1 u7_2 u7_3 u7_4 u7_5:Value} {fp0 fp1 fp2 fp3 fp4 fp5 fp6 fp7 fp0_0 fp0_1 fp0_2 fp0_3 fp0_4 fp0_5 fp1_0 fp1_1 fp1_2 fp1_3 fp1_4 fp1_5 F0:List Nat} {D0:List Lev}
theorem Znm  (w:World):(Instr.buildSlice 22 0 #[]).run ZMx w=.ok (.slice (some ⟨w.heap.size,0,none⟩) 0 0) (w.alloc (.cells (ZHu ((EI .i64).encs [])) 2)):=by kernel_rfl
theorem Zz0 (x0:Value) (x1:Value) (h:Zdv x0) (A:Zdv x1) (w:World):(Instr.buildSlice 85 2 #[(0,x0),(1,x1)]).run ZMx w=.ok (.slice (some ⟨w.heap.size,0,none⟩) 2 2) (w.alloc (.cells (ZHu [x0,x1]) 22)):=by obtain ⟨_,_,_,rfl⟩:=h; obtain ⟨_,_,_,rfl⟩:=A; kernel_rfl
def Zea (A:List Int) (h:Int) (K:Bool→Prop):Prop :=
 ((0≤h∧h < (A.length:Int))∧K (decide (A.getD h.toNat ZEu≠0)))
theorem Zz1 (I:List Int) (A:Int)  {K:Bool→Prop} (h:Zea I A K) (w0:World) (U:ZPz.rep I [u0_0] fp0 w0) (L:(blk b1 3 [vI A]).holds w0) :
  Calls ZMx 142 #[u0_0,vQ b1] w0 λe w'=>∃ (O:Bool),
   e=.returned (.bool O)∧K O∧Bel w0 w':=by
 unfold Zea at h
 refine cof Tryz.func142 rfl 9 Tryz.ntmps142 ?_
 have B:=ZNf (X:=Nox) w0 [ZMt TInts I [u0_0] fp0,blk b1 3 [vI A]] (alc U (al1 L));refine sr (Zc (v:=.bool false) rfl (dn (sr (Za (v:=u0_0) rfl (Zc2 (vI A) (B.getP 1 rfl) sc3 rfl rfl ?_)))))
 obtain ⟨⟨h0_3,h1_4⟩,h⟩:=h;obtain ⟨Ad5,V,G⟩:=Zx (B.getP 0 rfl) A.toNat (show A.toNat < I.length by omega)
 refine Ys (len:=I.length) ZNd sc2.size (tr rfl G) rfl h0_3 h1_4 (Yr (vI (I.getD A.toNat ZEu)) (Ye (B.getP 0 rfl) G A.toNat (show A.toNat < I.length by omega)) sc2 rfl (Y2 rfl rfl (Zc (v:=.bool (decide (I.getD A.toNat ZEu≠0))) rfl (dn (ZM3 ?_)))))
 exact Zi rfl (Ze rfl) ⟨decide (I.getD A.toNat ZEu≠0),rfl,h,B.below⟩ (.inl rfl)
def Zeb (h:Int) (K:Bool→Prop):Prop :=
 K (decide (h≠0))
theorem Zz2 (A:Int)  {K:Bool→Prop} (h:Zeb A K) (w0:World)  :
  Calls ZMx 186 #[vI A] w0 λe w'=>∃ (B:Bool),
   e=.returned (.bool B)∧K B∧Bel w0 w':=by
 unfold Zeb at h
 refine cof Tryz.func186 rfl 5 Tryz.ntmps186 ?_
 have G:=ZNf (X:=Nox) w0 [] (by simp)
 refine sr (Zc (v:=.bool false) rfl (dn (sr (Za (v:=vI A) rfl (Y2 rfl rfl (Zc (v:=.bool (decide (A≠0))) rfl (dn (ZM3 ?_))))))))
 exact Zi rfl (Ze rfl) ⟨decide (A≠0),rfl,h,G.below⟩ (.inl rfl)
def Ze5 (h:List Int) (K:Int→Prop):Prop :=
 Zd3 h Zeb (λA=>K A)
theorem Zr0 (A:List Int)  {K:Int→Prop} (h:Ze5 A K) (w0:World) (U:ZPz.rep A [u0_0] fp0 w0) :
  Calls ZMx 138 #[u0_0] w0 λe w'=>∃ (G:Int),
   e=.returned (vI G)∧K G∧Bel w0 w':=by
 unfold Ze5 at h
 refine cof ZXo rfl 5 Tryz.ntmps138 ?_
 have B:=ZNf (X:=Nox) w0 [ZMt TInts A [u0_0] fp0] (al1 U);refine sr (Zc (v:=vI 0) rfl (dn (sr (Za (v:=u0_0) rfl (Zf [u0_0,.func (.func 186) #[] (ZHu [])] _ Tryz.func185 rfl rfl rfl (Zqk A Zeb h _ (B.getP 0 rfl) Tryz.func186 rfl rfl (λI K_ V _ L=>Zz2 I L V)) ?_)))))
 rintro _ w4 ⟨O,rfl,h,hB6⟩;refine rt ?_
 replace B:=B.grow hB6;refine Zc (v:=vI O) rfl (dn (ZM3 ?_))
 exact Zi rfl (Ze rfl) ⟨O,rfl,h,B.below⟩ (.inl rfl)
def Zip (h:List Int) (K:List Int→Prop):Prop :=
 ((h=[]→K [])∧(Z4 (0+h.length) 8∧K h))
theorem Zr1 (B:List Int)  {K:List Int→Prop} (h:Zip B K) (w0:World) (q0:ZPz.rep B [u0_0] fp0 w0) :
  Calls ZMx 139 #[u0_0] w0 λe w'=>∃ (U:List Int) (z0_0:Value) (L:List Nat),
   e=.returned (z0_0)∧K U∧(ZM8 (ZT0 2 (eI.tr)) U [z0_0] L).holds w'∧(∀ b,b∈L→w0.heap.size≤b)∧Bel w0 w':=by
 unfold Zip at h
 refine cof ZXp rfl 8 Tryz.ntmps139 ?_
 have A:=ZNf (X:=Nox) w0 [ZMt TInts B [u0_0] fp0] (al1 q0);refine sr (Zc (v:=.slice none 0 0) rfl (dn (ZMu (sr (Za (v:=u0_0) rfl ?_)))))
 rcases Zyf (A.getP 0 rfl) with ⟨z4,z5,G,V⟩ | ⟨z6,z7,z8,G⟩
 ·replace h:=h.1 V;refine Zku true ZNd (tr rfl G) rfl rfl (dn (Z3 rfl rfl (sr (Zc (v:=.slice none 0 0) rfl (dn ?_)))))
  refine ZM3 (Zl ?_)
  exact Zi rfl (Ze rfl) ⟨[],.slice none 0 0,[],rfl,h,(Zhl _ _ _),(λb hb=>absurd hb (by simp)),A.below⟩ (.inl rfl)
 ·replace h:=h.2;refine Zku false ZNd (tr rfl G) rfl rfl (dn (Z2 rfl rfl (ZMy (Zd (sr (Yn (sz:=1) A [] (eI.encs []) rfl (λ_=>Znm  _) rfl (by decide) λb9 aa ab A=>Za (v:=u0_0) rfl ?_))))))
  obtain ⟨O,h⟩:=h;refine X1 A 0 ZNd el2 rfl (by decide) (by decide) rfl (Zpn (A.getP 0 rfl)) (λq hq=>Enc.encs_one' (E:=eI) _ q hq) rfl rfl O λI ac A=>?_
  replace A:=Y7 A 0 (B.length) (eI.encs B) rfl (by simp) (by first | (simp [ZNm]; done) | simp [ZNm,Enc.encs])
  refine Zc (v:=I) rfl (dn (ZM3 ?_))
  exact Zi rfl (Ze rfl) ⟨B,I,(ZNu (ZFo I)),rfl,h,(Xx (A.getM 0 rfl)),(Yt A 0 rfl),A.below⟩ (.inl rfl)
def Zgg (I:List Int) (O:List Int) (L:Int) (K:List Int→Prop):Prop :=
 Z9 (λh (A:(List Int)) B=>((0≤(h:Int)∧(h:Int) < (A.length:Int))∧Zc8 (ZHf.wrap ((A.getD h ZEu) - (ZFl (ZHf.wrap (L * (O.getD h ZEu))) 10007))) (λG=>((0≤(h:Int)∧(h:Int) < (A.length:Int))∧B (A.set h G))))) (λ(A:(List Int))=>K A) O.length 0 I
theorem Zr2 (a0:List Int) (a1:List Int) (O:Int)  {K:List Int→Prop} (h:Zgg a0 a1 O K) (w0:World) (ag:(own 2 1 u0_0 a0.length (eI.encs a0)).holds w0) (q1:ZPz.rep a1 [u1_0] fp1 w0) (ah:∀ b,b∈fp1→b∉(ZNu (ZFo u0_0))) :
  Calls ZMx 140 #[u0_0,u1_0,vI O] w0 λe w'=>∃ (mw:List Int),
   e=.returned (.tuple #[])∧K mw∧(own 2 1 u0_0 mw.length (eI.encs mw)).holds w'∧BelO ((ZNu (ZFo u0_0))) w0 w':=by
 unfold Zgg at h
 refine cof ZXq rfl 29 Tryz.ntmps140 ?_
 have G:=Ctx.startL w0 ((ZNu (ZFo u0_0))) [own 2 1 u0_0 a0.length (eI.encs a0)] [ZMt TInts a1 [u1_0] fp1] (by simp only [ZEn,ZGz,or_false,forall_eq_or_imp,forall_eq]; exact ag) (by simp only [ZEn,ZGz,or_false,forall_eq_or_imp,forall_eq]; exact q1) (by simp only [ZEn,ZGz,or_false,forall_eq_or_imp,forall_eq]; exact λb hb=>hb) (ZVj _ _) (by simp only [ZEn,ZGz,or_false,forall_eq_or_imp,forall_eq]; exact ah)
 refine sr (Za (v:=u1_0) rfl (Zw G 0 rfl ZNd rfl (Za (v:=vI 0) rfl (dn (ZM0 ?_)))))
 have ac:a1.length≤9223372036854775807:=Y5 (G.getP 0 rfl);refine Yp (S:=(List Int)) _ _ (λA B e_ w_=>Zt e_ [(0,u0_0),(2,vI O),(8,u1_0),(9,vI (a1.length:Int)),(10,vI (A:Int))]∧Ctx (λc_=>c_∈(ZNu (ZFo u0_0))) w0 w_ [own 2 1 u0_0 B.length (eI.encs B)] [ZMt TInts a1 [u1_0] fp1]) a1.length ?_ ?_ (s0:=a0) ?_ h
 ·clear G h;rintro A B e_ ar an ai L ⟨U,G⟩ h ad;rw [ue U];refine sr (Zn rfl rfl (dn (ZMu (Z3 rfl (decide_eq_true (by omega)) (ZMy (Zd (ZMu (ZM0 (sr (Za (v:=vI (A:Int)) rfl ?_))))))))))
  obtain ⟨ao,au,V⟩:=Zx (G.getP 0 rfl) A L;refine Ys (len:=a1.length) ZNd sc2.size (tr rfl V) rfl (ZNb _) (ZNt.2 L) (Yr (vI (a1.getD A ZEu)) (Ye (G.getP 0 rfl) V A L) sc2 rfl (Zc (v:=vI (A:Int)) rfl (Zc (v:=vI (a1.getD A ZEu)) rfl (dn (Zj (Za (v:=u0_0) rfl (Za (v:=vI (A:Int)) rfl (Za (v:=u0_0) rfl (Za (v:=vI (A:Int)) rfl ?_)))))))))
  obtain ⟨⟨aj,ak⟩,h⟩:=h;obtain ⟨ap,av,aa⟩:=Jf (G.getM 0 rfl) (ZQe (ZFz _) (show A < B.length by omega))
  refine Js (A * 1) ZNd sc2.size (tr rfl aa) rfl aj ak rfl (Yr (vI (B.getD A ZEu)) (Za2 (G.getM 0 rfl) aa A (show A < B.length by omega)) sc2 rfl (Za (v:=vI O) rfl (Za (v:=vI (a1.getD A ZEu)) rfl (Zal rfl rfl (X3 rfl rfl (by decide) (J4 rfl rfl (Zf [vI (ZHf.wrap ((B.getD A ZEu) - (ZFl (ZHf.wrap (O * (a1.getD A ZEu))) 10007)))] _ Tryz.func187 rfl rfl rfl (Zmx (ZHf.wrap ((B.getD A ZEu) - (ZFl (ZHf.wrap (O * (a1.getD A ZEu))) 10007))) h _) ?_)))))))
  rintro _ aw ⟨I,rfl,h,ae⟩;refine rt ?_
  replace G:=G.grow ae;obtain ⟨⟨al,am⟩,h⟩:=h;obtain ⟨aq,ax,ab⟩:=Jf (G.getM 0 rfl) (ZQe (ZFz _) (show A < B.length by omega))
  refine Js (A * 1) ZNd sc2.size (tr rfl ab) rfl al am rfl (Zdo (v:=vI I) G 0 [vI I] (eI.encs (B.set A I)) rfl ab sc2.size rfl rfl rfl rfl rfl (by rw [Enc.encs_len]; exact Za3 (sz:=1) (show A < B.length by omega)) (Zdp _ _ _ (show A < B.length by omega)) λay G=>?_)
  replace G:=Y7 G 0 ((B.set A I).length) (eI.encs (B.set A I)) rfl (by simp) rfl
  refine done (Zq (Zd (Zj (Zo rfl rfl (Za (v:=vI (ZHf.wrap ((A:Int)+1))) rfl (done ?_))))))
  exact ad (B.set A I) _ _ ⟨(sl ⟨rfl,rfl,rfl,rfl,(tr rfl (congrArg _ (Z7 L ac))),trivial⟩),G⟩ h
 ·clear G h;rintro B e_ az ai ⟨U,G⟩ h;rw [ue U];refine sr (Zn rfl rfl (dn (ZMu (Z2 rfl (decide_eq_false (by omega)) ?_))))
  refine ZM9 (Zk (Zk (Zy ?_)))
  exact Zc0 rfl  ⟨B,rfl,h,(G.getM 0 rfl),G.belO⟩ (.inr rfl)
 ·skip;exact⟨(slq rfl),G⟩
def Zbs (L:List Int) (U:List (List Int)) (K:List Int→Prop):Prop :=
 Zip L (λO=>Z9 (λB (h:(List Int)) G=>Ze5 (U.getD B ZEu) (λA=>((0≤A∧A < (h.length:Int))∧Zgg h (U.getD B ZEu) (h.getD A.toNat ZEu) (λI=>G I)))) (λ(h:(List Int))=>K h) U.length 0 O)
theorem Zk0 (V:List Int) (a1:List (List Int))  {K:List Int→Prop} (h:Zbs V a1 K) (w0:World) (q0:ZPz.rep V [u0_0] fp0 w0) (q1:(ZPz.sl).rep a1 [u1_0] fp1 w0) :
  Calls ZMx 84 #[u0_0,u1_0] w0 λe w'=>∃ (r0:List Int) (z0_0:Value) (ai:List Nat),
   e=.returned (z0_0)∧K r0∧(ZM8 (ZT0 2 (eI.tr)) r0 [z0_0] ai).holds w'∧(∀ b,b∈ai→w0.heap.size≤b)∧Bel w0 w':=by
 unfold Zbs at h
 refine cof Tryz.func84 rfl 25 Tryz.ntmps84 ?_
 have A:=ZNf (X:=Nox) w0 [ZMt TInts V [u0_0] fp0,ZMt (ZPz.sl) a1 [u1_0] fp1] (alc q0 (al1 q1));refine sr (Zc (v:=.slice none 0 0) rfl (dn (sr (Za (v:=u0_0) rfl (Zf [u0_0] _ ZXp rfl rfl rfl (Zr1 V h _ (A.getP 0 rfl)) ?_)))))
 rintro _ w5 ⟨r6,u7,f8,rfl,h,aw,aj,ak⟩;refine rt ?_
 replace A:=A.push ak (ZM8 (ZT0 2 (eI.tr)) r6 [u7] f8) aw aj;obtain ⟨al,am⟩:=Y4 (A.getM 0 rfl).1;subst am;replace A:=A.recast (c:=own 2 1 u7 r6.length (eI.encs r6)) (λ_ h_=>h_) (λ_=>al)
 refine Zc (v:=u7) rfl (dn (ZMu (sr (Za (v:=u1_0) rfl (Zw A 1 rfl ZUw rfl (Za (v:=vI 0) rfl (dn (ZM0 ?_))))))))
 have an:a1.length≤9223372036854775807:=Y5 (A.getP 1 rfl);refine Yp (S:=(List Int)) _ _ (λI G e_ w_=>∃ (B:Value),Zt e_ [(0,B),(9,u1_0),(10,vI (a1.length:Int)),(11,vI (I:Int))]∧Ctx Nox w0 w_ [own 2 1 B G.length (eI.encs G)] [ZMt TInts V [u0_0] fp0,ZMt (ZPz.sl) a1 [u1_0] fp1]) a1.length ?_ ?_ (s0:=r6) ?_ h
 ·clear A h;rintro I G e_ a6 a3 ax L ⟨B,aa,A⟩ h ao;rw [ue aa];refine sr (Zn rfl rfl (dn (ZMu (Z3 rfl (decide_eq_true (by omega)) (ZMy (Zd (ZMu (ZM0 (sr ?_)))))))))
  obtain ⟨a4,a7,ab⟩:=Zx (A.getP 1 rfl) I L;refine Ys (len:=a1.length) ZUw sc22.size (tr rfl ab) rfl (ZNb _) (ZNt.2 L) ?_
  obtain ⟨a8,ac,ap,ad⟩:=Xp (A.getP 1 rfl) ab I L;obtain ⟨O,rfl⟩:=ZJj.1 ac;clear ac;rw [Xm _ _ L] at ad
  replace A:=A.derive 1 rfl (ZMt TInts (a1.getD I ZEu) [O] fp1) (λ_=>ad) (λ_ ae=>ae)
  refine Yr (O) ap sc22 rfl (Zc (v:=O) rfl (dn (Zj (Za (v:=B) rfl (Za (v:=O) rfl (Za (v:=B) rfl (Za (v:=O) rfl (Zf [O] _ ZXo rfl rfl rfl (Zr0 (a1.getD I ZEu) h _ (A.getP 0 rfl)) ?_))))))))
  rintro _ a9 ⟨U,rfl,h,aq⟩;refine rt ?_
  replace A:=A.grow aq;obtain ⟨⟨ay,az⟩,h⟩:=h;obtain ⟨a5,ba,ag⟩:=Jf (A.getM 0 rfl) (ZQe (ZFz _) (show U.toNat < G.length by omega))
  refine Js (U.toNat * 1) ZNd sc2.size (tr rfl ag) rfl ay az rfl (Yr (vI (G.getD U.toNat ZEu)) (Za2 (A.getM 0 rfl) ag U.toNat (show U.toNat < G.length by omega)) sc2 rfl (Zf [B,O,vI (G.getD U.toNat ZEu)] _ ZXq rfl rfl rfl (Zr2 G (a1.getD I ZEu) (G.getD U.toNat ZEu) h _ (A.getM 0 rfl) (A.getP 0 rfl) (λb_ ae ar=>A.pdk 0 0 rfl rfl b_ ae ar)) ?_))
  rintro _ bb ⟨ah,rfl,h,au,av⟩;refine rt ?_
  replace A:=A.turnL av (M':=[own 2 1 B ah.length (eI.encs ah)]) rfl (λx_ a2=>⟨_,mg 0 rfl,a2⟩) (by simp only [ZEn,ZGz,or_false,forall_eq_or_imp,forall_eq]; exact au)
  refine done (Zq (Zd (Zj (Zo rfl rfl (Za (v:=vI (ZHf.wrap ((I:Int)+1))) rfl (done ?_))))))
  exact ao ah _ _ ⟨B,(sl ⟨rfl,rfl,rfl,(tr rfl (congrArg _ (Z7 L an))),trivial⟩),(A.sP [1,2] rfl)⟩ h
 ·clear A h;rintro G e_ bc ax ⟨B,aa,A⟩ h;rw [ue aa];refine sr (Zn rfl rfl (dn (ZMu (Z2 rfl (decide_eq_false (by omega)) ?_))))
  refine ZM9 (Zk (Zk (Zy ?_)))
  refine Zd (sr (Za (v:=B) rfl (Zc (v:=B) rfl (dn (ZM3 ?_)))))
  exact Zi rfl (Ze rfl) ⟨G,B,(ZNu (ZFo B)),rfl,h,(Xx (A.getM 0 rfl)),(Yt A 0 rfl),A.below⟩ (.inl rfl)
 ·skip;exact⟨u7,(slq rfl),A⟩
def Ze6 (L:List (List Int)) (I:(List Int)→(Bool→Prop)→Prop) (K:Int→Prop):Prop :=
 Z9 (λh (B:Unit) A=>I (L.getD h ZEu) (λG=>(if G=true then K (h:Int) else A ()))) (λ(B:Unit)=>K (-1)) L.length 0 ()
theorem Zr3 (a0:List (List Int)) (p1:(List Int)→(Bool→Prop)→Prop)  {K:Int→Prop} (h:Ze6 a0 p1 K) (w0:World) (q0:(ZPz.sl).rep a0 [u0_0] fp0 w0) {g1:Nat} {cp1:List Value} {fn1:Func} (hf1:ZMx.funcs[g1]? = some fn1) (hb1:fn1.body.isNone=false) (hn1:(fn1.name == "runtime.NumGoroutine")=false) (hp1:∀ (y0:List Int) (yu0_0:Value) (yf0:List Nat) (K_:Bool→Prop) (w_:World),Bel w0 w_→ZPz.rep y0 [yu0_0] yf0 w_→p1 y0 K_→Calls ZMx g1 (ZHu ([yu0_0]++cp1)) w_ λe w'=>∃ (z0:Bool),e=.returned (.bool z0)∧K_ z0∧Bel w_ w') :
  Calls ZMx 141 #[u0_0,.func (.func g1) #[] (ZHu cp1)] w0 λe w'=>∃ (r0:Int),
   e=.returned (vI r0)∧K r0∧Bel w0 w':=by
 unfold Ze6 at h
 refine cof Tryz.func141 rfl 19 Tryz.ntmps141 ?_
 have hC:=ZNf (X:=Nox) w0 [ZMt (ZPz.sl) a0 [u0_0] fp0] (al1 q0);refine sr (Zc (v:=vI 0) rfl (dn (ZMu (sr (Za (v:=u0_0) rfl (Zw hC 0 rfl ZUw rfl (Za (v:=vI 0) rfl (dn (ZM0 ?_)))))))))
 have hN10:a0.length≤9223372036854775807:=Y5 (hC.getP 0 rfl);refine Yp (S:=Unit) _ _ (λi10 s10 e_ w_=>Zt e_ [(0,u0_0),(1,.func (.func g1) #[] (ZHu cp1)),(7,vI (a0.length:Int)),(8,vI (i10:Int))]∧Ctx Nox w0 w_ [] [ZMt (ZPz.sl) a0 [u0_0] fp0]) a0.length ?_ ?_ (s0:=()) ?_ h
 ·clear hC h;rintro i10 s10 e_ w10 nx10 K10 hi10 ⟨hS_,hC⟩ h hK10;rw [ue hS_];refine sr (Zn rfl rfl (dn (ZMu (Z3 rfl (decide_eq_true (by omega)) (ZMy (Zd (ZMu (ZM0 (sr (Za (v:=vI (i10:Int)) rfl (Zc (v:=vI (i10:Int)) rfl (dn (sr (Za (v:=.func (.func g1) #[] (ZHu cp1)) rfl (Za (v:=u0_0) rfl (Za (v:=vI (i10:Int)) rfl ?_))))))))))))))))
  obtain ⟨Ad10,c10,hv10⟩:=Zx (hC.getP 0 rfl) i10 hi10;refine Ys (len:=a0.length) ZUw sc22.size (tr rfl hv10) rfl (ZNb _) (ZNt.2 hi10) ?_
  obtain ⟨cs_,hl10,hc10,hr10⟩:=Xp (hC.getP 0 rfl) hv10 i10 hi10;obtain ⟨u10,rfl⟩:=ZJj.1 hl10;clear hl10;rw [Xm _ _ hi10] at hr10
  replace hC:=hC.derive 0 rfl (ZMt TInts (a0.getD i10 ZEu) [u10] fp0) (λ_=>hr10) (λ_ hb_=>hb_)
  refine Yr (u10) hc10 sc22 rfl ?_
  refine Zl7 [u10] _ rfl hf1 hb1 hn1 rfl (hp1 _ _ _ _ _ hC.below (hC.getP 0 rfl) h) (λret10 w11 hR10=>?_)
  obtain ⟨r10,rfl,h,hB10⟩:=hR10;refine⟨_,rfl,?_⟩
  replace hC:=hC.grow hB10;refine dn ?_
  refine Zp rfl (λhb10=>?_) (λhb10=>?_)
  ·replace h:=ift h (hb10);refine sr (Za (v:=vI (i10:Int)) rfl (Zc (v:=vI (i10:Int)) rfl (dn ?_)))
   refine ZM3 (Z8 (Zl (Zl (Z8 (Zl ?_)))))
   exact Zi rfl (Ze rfl) ⟨(i10:Int),rfl,h,hC.below⟩ (.inl rfl)
  ·replace h:=Zm h (Yz hb10);refine ZMy (Zq (Zd (Zj (Zo rfl rfl (Za (v:=vI (ZHf.wrap ((i10:Int)+1))) rfl (done ?_))))))
   exact hK10 () _ _ ⟨(sl ⟨rfl,rfl,rfl,(tr rfl (congrArg _ (Z7 hi10 hN10))),trivial⟩),(hC.sP [1] rfl)⟩ h
 ·clear hC h;rintro s10 e_ w12 K10 ⟨hS_,hC⟩ h;rw [ue hS_];refine sr (Zn rfl rfl (dn (ZMu (Z2 rfl (decide_eq_false (by omega)) ?_))))
  refine ZM9 (Zk (Zk (Zy ?_)))
  refine Zd (sr (Zc (v:=vI (-1)) rfl (dn (ZM3 ?_))))
  exact Zi rfl (Ze rfl) ⟨(-1),rfl,h,hC.below⟩ (.inl rfl)
 ·skip;exact⟨(slq rfl),hC⟩
def Ziq (h:Int) (K:Int→Prop):Prop :=
 Xt (λ(A:Int×Int×Int) next7=>(if A.2.2 > 0 then(if ZFl A.2.2 2=1 then next7 (ZFl (ZHf.wrap (A.1 * A.1)) 10007,ZFl (ZHf.wrap (A.2.1 * A.1)) 10007,ZHf.wrap (ZT1 A.2.2 2)) else next7 (ZFl (ZHf.wrap (A.1 * A.1)) 10007,A.2.1,ZHf.wrap (ZT1 A.2.2 2))) else K A.2.1)) (h,1,10005)
theorem Zz3 (I:Int)  {K:Int→Prop} (h:Ziq I K) (w0:World)  :
  Calls ZMx 143 #[vI I] w0 λe w'=>∃ (L:Int),
   e=.returned (vI L)∧K L∧Bel w0 w':=by
 unfold Ziq at h
 refine cof Tryz.func143 rfl 21 Tryz.ntmps143 ?_
 have G:=ZNf (X:=Nox) w0 [] (by simp)
 refine sr (Zc (v:=vI 0) rfl (dn (sr (Zc (v:=vI 1) rfl (dn (ZMu (sr (Zc (v:=vI 10005) rfl (dn (ZM0 ?_))))))))))
 refine X6 (S:=Int×Int×Int) _ (λV O w_=>Zt O [(0,vI V.1),(3,vI V.2.1),(4,vI V.2.2)]∧Ctx Nox w0 w_ [] []) ?_ (s0:=(I,1,10005)) ?_ h
 ·clear G h;rintro V O aa next7 K8 ⟨U,G⟩ h hK9;rw [ue U];refine ZMu (sr (Za (v:=vI V.2.2) rfl (Ja rfl rfl (dn ?_))))
  refine Zp rfl (λA=>?_) (λA=>?_)
  ·replace h:=ift h (ct A);refine ZMy (Zd (ZMu (ZM0 (ZMu (sr (Za (v:=vI V.2.2) rfl (X3 rfl rfl (by decide) (Xg rfl rfl (dn ?_)))))))))
   refine Zp rfl (λB=>?_) (λB=>?_)
   ·replace h:=ift h (ct B);refine Zj (Za (v:=vI V.2.1) rfl (Za (v:=vI V.1) rfl (Zal rfl rfl (X3 rfl rfl (by decide) (Zc (v:=vI (ZFl (ZHf.wrap (V.2.1 * V.1)) 10007)) rfl (dn (Zj (Za (v:=vI V.1) rfl (Za (v:=vI V.1) rfl (Zal rfl rfl (X3 rfl rfl (by decide) (Zc (v:=vI (ZFl (ZHf.wrap (V.1 * V.1)) 10007)) rfl (done (Zq (Zd (Zj (Za (v:=vI V.2.2) rfl (Zfn rfl rfl (by decide) (Zc (v:=vI (ZHf.wrap (ZT1 V.2.2 2))) rfl (done ?_))))))))))))))))))))
    exact hK9 (ZFl (ZHf.wrap (V.1 * V.1)) 10007,ZFl (ZHf.wrap (V.2.1 * V.1)) 10007,ZHf.wrap (ZT1 V.2.2 2)) _ _ ⟨(slq rfl),G⟩ h
   ·replace h:=Zm h (cf B);refine ZMy (Zd (Zj (Za (v:=vI V.1) rfl (Za (v:=vI V.1) rfl (Zal rfl rfl (X3 rfl rfl (by decide) (Zc (v:=vI (ZFl (ZHf.wrap (V.1 * V.1)) 10007)) rfl (done (Zq (Zd (Zj (Za (v:=vI V.2.2) rfl (Zfn rfl rfl (by decide) (Zc (v:=vI (ZHf.wrap (ZT1 V.2.2 2))) rfl (done ?_)))))))))))))))
    exact hK9 (ZFl (ZHf.wrap (V.1 * V.1)) 10007,V.2.1,ZHf.wrap (ZT1 V.2.2 2)) _ _ ⟨(slq rfl),G⟩ h
  ·replace h:=Zm h (cf A);refine ZM9 (Zk (Zk (Zy ?_)))
   refine Zd (sr (Za (v:=vI V.2.1) rfl (Zc (v:=vI V.2.1) rfl (dn (ZM3 ?_)))))
   exact Zi rfl (Ze rfl) ⟨V.2.1,rfl,h,G.below⟩ (.inl rfl)
 ·skip;exact⟨(slq rfl),G⟩
def Za8 (a0:List (List Int)) (K:List (List Int)→Prop):Prop :=
 Z9 (λaa (L:(List (List Int))) U=>Zip (a0.getD aa ZEu) (λab=>(Z4 (L.length+1) 24∧U (L++[ab])))) (λ(L:(List (List Int)))=>Xt (λ(h:(List (List Int))×Int×Int) O=>(if h.2.1 < (h.1.length:Int) then((0≤(0:Int)∧(0:Int) < (h.1.length:Int))∧(if h.2.2 < ((h.1.getD 0 ZEu).length:Int) then((0≤h.2.1∧h.2.1≤(h.1.length:Int))∧Ze6 (h.1.drop h.2.1.toNat) (λac K_=>Zea ac h.2.2 K_) (λG=>(if G < 0 then O (h.1,h.2.1,ZHf.wrap (h.2.2+1)) else((0≤ZHf.wrap (h.2.1+G)∧ZHf.wrap (h.2.1+G) < (h.1.length:Int))∧((0≤h.2.1∧h.2.1 < (h.1.length:Int))∧((0≤h.2.1∧h.2.1 < (h.1.length:Int))∧((0≤ZHf.wrap (h.2.1+G)∧ZHf.wrap (h.2.1+G) < (h.1.length:Int))∧((0≤h.2.1∧h.2.1 < ((Xl ZEu h.1 h.2.1.toNat ((ZHf.wrap (h.2.1+G)).toNat)).length:Int))∧((0≤h.2.2∧h.2.2 < (((Xl ZEu h.1 h.2.1.toNat ((ZHf.wrap (h.2.1+G)).toNat)).getD h.2.1.toNat ZEu).length:Int))∧Ziq (((Xl ZEu h.1 h.2.1.toNat ((ZHf.wrap (h.2.1+G)).toNat)).getD h.2.1.toNat ZEu).getD h.2.2.toNat ZEu) (λad=>((0≤h.2.1∧h.2.1 < ((Xl ZEu h.1 h.2.1.toNat ((ZHf.wrap (h.2.1+G)).toNat)).length:Int))∧Xt (λ(B:(List (List Int))×Int) V=>(if B.2 < (((Xl ZEu h.1 h.2.1.toNat ((ZHf.wrap (h.2.1+G)).toNat)).getD h.2.1.toNat ZEu).length:Int) then((0≤h.2.1∧h.2.1 < (B.1.length:Int))∧((0≤h.2.1∧h.2.1 < (B.1.length:Int))∧((0≤B.2∧B.2 < ((B.1.getD h.2.1.toNat ZEu).length:Int))∧((0≤B.2∧B.2 < ((B.1.getD h.2.1.toNat ZEu).length:Int))∧V (B.1.set h.2.1.toNat ((B.1.getD h.2.1.toNat ZEu).set B.2.toNat (ZFl (ZHf.wrap (((B.1.getD h.2.1.toNat ZEu).getD B.2.toNat ZEu) * ad)) 10007)),ZHf.wrap (B.2+1)))))) else Xt (λ(A:(List (List Int))×Int) I=>(if A.2 < (B.1.length:Int) then((0≤A.2∧A.2 < (A.1.length:Int))∧(if A.2≠h.2.1 then((0≤h.2.2∧h.2.2 < ((A.1.getD A.2.toNat ZEu).length:Int))∧(if(A.1.getD A.2.toNat ZEu).getD h.2.2.toNat ZEu≠0 then((0≤h.2.1∧h.2.1 < (A.1.length:Int))∧((0≤h.2.2∧h.2.2 < ((A.1.getD A.2.toNat ZEu).length:Int))∧((h.2.1.toNat≠A.2.toNat)∧Zgg (A.1.getD A.2.toNat ZEu) (A.1.getD h.2.1.toNat ZEu) ((A.1.getD A.2.toNat ZEu).getD h.2.2.toNat ZEu) (λae=>I (A.1.set A.2.toNat ae,ZHf.wrap (A.2+1)))))) else I (A.1,ZHf.wrap (A.2+1)))) else I (A.1,ZHf.wrap (A.2+1)))) else O (A.1,ZHf.wrap (h.2.1+1),ZHf.wrap (h.2.2+1)))) (B.1,0))) (Xl ZEu h.1 h.2.1.toNat ((ZHf.wrap (h.2.1+G)).toNat),0)))))))))))) else((0≤h.2.1∧h.2.1≤(h.1.length:Int))∧K (h.1.take h.2.1.toNat)))) else((0≤h.2.1∧h.2.1≤(h.1.length:Int))∧K (h.1.take h.2.1.toNat)))) (L,0,0)) a0.length 0 []
theorem Zgh (a0:List (List Int))  {K:List (List Int)→Prop} (h:Za8 a0 K) (w0:World) (q0:(ZPz.sl).rep a0 [u0_0] fp0 w0) :
  Calls ZMx 86 #[u0_0] w0 λe w'=>∃ (r0:List (List Int)) (z0_0:Value) (cu:List Nat),
   e=.returned (z0_0)∧K r0∧(ZM8 (ZT0 22 (ZT0 2 (eI.tr))) r0 [z0_0] cu).holds w'∧(∀ b,b∈cu→w0.heap.size≤b)∧Bel w0 w':=by
 unfold Za8 at h
 refine cof ZXn rfl 132 Tryz.ntmps86 ?_
 have B:=ZNf (X:=Nox) w0 [ZMt (ZPz.sl) a0 [u0_0] fp0] (al1 q0);refine sr (Zc (v:=.slice none 0 0) rfl (dn (sr (Yn (sz:=1) B [] [] rfl (λ_=>Zao _) rfl (by decide) λb2 w3 L B=>?_))))
 replace B:=B.pushM0 (Yf (ZT0 2 (eI.tr)) ([]:List (List Int)) [] []) (Zaa _ _) rfl;replace B:=B.gather (c:=ZM8 (ZT0 22 (ZT0 2 (eI.tr))) [] [.slice (some ⟨b2,0,none⟩) 0 0] ((ZNu (ZFo (.slice (some ⟨b2,0,none⟩) 0 0)))++([]:List (List Nat)).flatten)) (λx_ U=>(ZEt.1 U).symm) (λa6 a7 a8=>J0 a7 a6 (λb_ a9 c6=>a8 b_ c6 a9))
 refine Zc (v:=.slice (some ⟨b2,0,none⟩) 0 0) rfl (dn (ZMu (sr (Za (v:=u0_0) rfl (Zw B 0 rfl ZUw rfl (Za (v:=vI 0) rfl (dn (ZM0 ?_))))))))
 have c7:a0.length≤9223372036854775807:=Y5 (B.getP 0 rfl);refine Yp (S:=(List (List Int))) _ _ (λav ar e_ w_=>∃ (an:Value),∃ (aw:List Nat),Zt e_ [(3,an),(14,u0_0),(15,vI (a0.length:Int)),(16,vI (av:Int))]∧Ctx Nox w0 w_ [ZM8 (ZT0 22 (ZT0 2 (eI.tr))) ar [an] aw] [ZMt (ZPz.sl) a0 [u0_0] fp0]) a0.length ?_ ?_ (s0:=[]) ?_ h
 ·clear B h;rintro av ar e_ f8 f0 d0 ax ⟨an,aw,ao,B⟩ h c8;rw [ue ao];refine sr (Zn rfl rfl (dn (ZMu (Z3 rfl (decide_eq_true (by omega)) (ZMy (Zd (ZMu (ZM0 (sr ?_)))))))))
  obtain ⟨f1,f9,bp⟩:=Zx (B.getP 0 rfl) av ax;refine Ys (len:=a0.length) ZUw sc22.size (tr rfl bp) rfl (ZNb _) (ZNt.2 ax) ?_
  obtain ⟨ga,bq,c9,br⟩:=Xp (B.getP 0 rfl) bp av ax;obtain ⟨ba,rfl⟩:=ZJj.1 bq;clear bq;rw [Xm _ _ ax] at br
  replace B:=B.derive 0 rfl (ZMt TInts (a0.getD av ZEu) [ba] fp0) (λ_=>br) (λ_ a9=>a9)
  refine Yr (ba) c9 sc22 rfl (Zc (v:=ba) rfl (dn (Zj (Za (v:=an) rfl (Za (v:=ba) rfl (Zf [ba] _ ZXp rfl rfl rfl (Zr1 (a0.getD av ZEu) h _ (B.getP 0 rfl)) ?_))))))
  rintro _ gb ⟨am,ah,d1,rfl,h,da,db,dc⟩;refine rt ?_
  replace B:=B.push dc (ZM8 (ZT0 2 (eI.tr)) am [ah] d1) da db;obtain ⟨dd,de⟩:=Y4 (B.getM 0 rfl).1;subst de;replace B:=B.recast (c:=own 2 1 ah am.length (eI.encs am)) (λ_ h_=>h_) (λ_=>dd)
  refine Yn (sz:=1) B [(0,ah)] [ah] rfl (λ_=>Zaj ah (Zdw (B.getM 0 rfl)) _) rfl (by decide) λa2 gc L B=>?_
  replace B:=B.pushM0 (Yf (ZT0 2 (eI.tr)) [] [] []) (Zaa _ _) rfl;replace B:=B.sM [2,0,1,3] (M':=[own 2 1 ah am.length (eI.encs am),Yf (ZT0 2 (eI.tr)) [] [] [],own 22 1 (.slice (some ⟨a2,0,none⟩) 1 1) 1 [ah],ZM8 (ZT0 22 (ZT0 2 (eI.tr))) ar [an] aw]) (by decide) rfl
  replace B:=B.gather (c:=Yf (ZT0 2 (eI.tr)) [am] [ah] [(ZNu (ZFo ah))]) (λx_ U=>Zer U) (λa6 a7 a8=>Zdu (c:=[ah]) (id (Xx a6)) a7 a8)
  replace B:=B.sM [1,0,2] (M':=[own 22 1 (.slice (some ⟨a2,0,none⟩) 1 1) 1 [ah],Yf (ZT0 2 (eI.tr)) [am] [ah] [(ZNu (ZFo ah))],ZM8 (ZT0 22 (ZT0 2 (eI.tr))) ar [an] aw]) (by decide) rfl
  replace B:=B.gather (c:=ZM8 (ZT0 22 (ZT0 2 (eI.tr))) [am] [.slice (some ⟨a2,0,none⟩) 1 1] ((ZNu (ZFo (.slice (some ⟨a2,0,none⟩) 1 1)))++([(ZNu (ZFo ah))]:List (List Nat)).flatten)) (λx_ U=>ZEt.1 U) (λa6 a7 a8=>J0 a6 a7 a8)
  replace B:=B.sM [1,0] (M':=[ZM8 (ZT0 22 (ZT0 2 (eI.tr))) ar [an] aw,ZM8 (ZT0 22 (ZT0 2 (eI.tr))) [am] [.slice (some ⟨a2,0,none⟩) 1 1] ((ZNu (ZFo (.slice (some ⟨a2,0,none⟩) 1 1)))++([(ZNu (ZFo ah))]:List (List Nat)).flatten)]) (by decide) rfl
  obtain ⟨dh,h⟩:=h;refine Zeq B ZUw Jw rfl (by decide) (by decide) rfl rfl dh λcv d2 gf B=>Zc (v:=cv) rfl (done (Zq (Zd (Zj (Zo rfl rfl (Za (v:=vI (ZHf.wrap ((av:Int)+1))) rfl (done ?_)))))))
  exact c8 (ar++[am]) _ _ ⟨cv,d2,(sl ⟨rfl,rfl,rfl,(tr rfl (congrArg _ (Z7 ax c7))),trivial⟩),(B.sP [1] rfl)⟩ h
 ·clear B h;rintro ar e_ gg d0 ⟨an,aw,ao,B⟩ h;rw [ue ao];refine sr (Zn rfl rfl (dn (ZMu (Z2 rfl (decide_eq_false (by omega)) ?_))))
  refine ZM9 (Zk (Zk (Zy ?_)))
  refine Zd (sr (Zc (v:=vI 0) rfl (dn (ZMu (sr (Yl B [vI 0] z3 rfl λd3 gh L B=>Zz (v:=vI 0) B 0 [vI 0] [vI 0] rfl sc3.size rfl rfl rfl rfl rfl (ZM2 rfl) rfl λgi B=>dn (ZM0 ?_)))))))
  refine X6 (S:=(List (List Int))×Int×Int) _ (λA e_ w_=>∃ (V:Value),∃ (bb:List Nat),∃ (ak:Nat),Zt e_ [(3,V),(6,vI A.2.1),(7,vQ ak)]∧Ctx Nox w0 w_ [blk ak 3 [vI A.2.2],ZM8 (ZT0 22 (ZT0 2 (eI.tr))) A.1 [V] bb] [ZMt (ZPz.sl) a0 [u0_0] fp0]) ?_ (s0:=(ar,0,0)) ?_ h
  ·clear B h;rintro A e_ gj f2 gk ⟨V,bb,ak,ao,B⟩ h bs;rw [ue ao];refine ZMu (ZMu ?_)
   refine cwd 10 Yh [0,0,2,7,15,31,31,95,223,479,1023,2047] [2,5,7,8,9] [0,1,3,4,5,6,7,8,9] (λay ai gl L=>?_)
   replace B:=B.grow L;refine bM 0 (vI A.2.1) rfl ai (Zb 12 1) (bM 1 (V) rfl ai (Zb 12 3) (bL 2 (vI (A.1.length:Int)) rfl rfl ay (λ_ L=>by exact Zwg (B.grow L) 1 rfl ZUw rfl) (Zb 12 7) (bF 3 (.bool (decide (A.2.1 < (A.1.length:Int)))) rfl rfl ai (λ_=>by exact Zo8 rfl rfl) (Zb 12 15) (bM 4 (.bool (decide (A.2.1 < (A.1.length:Int)))) rfl ai (Zb 12 31) ?_))))
   refine Y6 (decide (A.2.1 < (A.1.length:Int))) (λaa=>?_) (λaa=>?_)
   ·replace h:=ift h (ct aa);refine aL 5 (vI A.2.2) rfl rfl (ay 5 rfl) (Yg 4 30 rfl rfl aa) (λ_ L=>by exact Yc (B.grow L) 0 (vI A.2.2) rfl sc3 rfl rfl) (Zb 12 63) (aF 6 (V) rfl rfl (ai 6 rfl) (Yg 4 30 rfl rfl aa) (λ_=>by exact Zau (v:=V) rfl) (Zb 12 127) ?_)
    replace B:=B.sM [1,0] (M':=[ZM8 (ZT0 22 (ZT0 2 (eI.tr))) A.1 [V] bb,blk ak 3 [vI A.2.2]]) (by decide) rfl
    obtain ⟨ab,di,bt⟩:=Zkw (B.getM 0 rfl);replace B:=B.recast (c:=mat eI 22 2 V ab A.1) (λx_ U=>by have e_:=bt; exact e_ ▸ U) (λ_=>di)
    obtain ⟨⟨d4,d5⟩,h⟩:=h;obtain ⟨d6,fi,bu⟩:=Zco (B.getM 0 rfl) (ZQe (ZFz _) (show 0 < A.1.length by omega))
    refine aL 7 (.pointer (some ⟨d6,0 * 1,none⟩)) rfl rfl (ay 7 rfl) (Yg 4 30 rfl rfl aa) (λ_ L=>by exact Zbm (0 * 1) ZUw sc22.size (by exact tr rfl bu) rfl d4 d5 rfl) (Zb 12 255) (aL 8 ((hd ab 0)) rfl rfl (ay 8 rfl) (Yg 4 30 rfl rfl aa) (λ_ L=>by exact Xh (hd ab 0) (Zde ((B.grow L).getM 0 rfl) bu (show 0 < A.1.length by omega)) sc22 rfl) (Zb 12 511) ?_)
    obtain ⟨f3,gm,dj⟩:=Zbj (Zan (B.getM 0 rfl) (show 0 < A.1.length by omega))
    refine aL 9 (vI ((A.1.getD 0 ZEu).length:Int)) rfl rfl (ay 9 rfl) (Yg 4 30 rfl rfl aa) (λ_ L=>by exact Zek ZNd (by exact tr rfl dj)) (Zb 12 1023) (Z0 10 (by decide) (by decide) (by kernel_rfl) (by kernel_rfl) rfl (Zh 4 30 rfl rfl aa (Zn rfl rfl (Zs (v:=.bool (decide (A.2.2 < ((A.1.getD 0 ZEu).length:Int)))) (b:=true) (tr rfl (congrArg _ aa)) rfl (done (Z1 (Zd ?_)))))))
    refine Zp rfl (λbe=>?_) (λbe=>?_)
    ·replace h:=ift h (ct be);refine ZMy (Zd (ZMu (ZM0 (sr (Za (v:=V) rfl (Za (v:=vI A.2.1) rfl ?_))))))
     obtain ⟨cw,h⟩:=h;obtain ⟨dk,d7,bv,bw⟩:=Zyy (B.getM 0 rfl);refine Zrk ZUw sc22.size (tr rfl bv) rfl cw.1 cw.2 (Zl9 (g:=142) [vQ ak] (Zl8 rfl rfl) (Zf [sliced dk A.2.1.toNat A.1.length d7 1,.func (.func 142) #[] (ZHu [vQ ak])] _ Tryz.func141 rfl rfl rfl (Zr3 (A.1.drop A.2.1.toNat) (λbx K_=>Zea bx A.2.2 K_) h _ (Zri (Zyq (B.getM 0 rfl)) bv (show _≤_ by omega) bw) Tryz.func142 rfl rfl (λbx yu0_0_ f4 K_ w_ a9 dm d8=>Zz1 bx A.2.2 d8 w_ dm ((B.grow a9).getM 1 rfl))) ?_))
     rintro _ gn ⟨O,rfl,h,dp⟩;refine rt ?_
     replace B:=B.grow dp;refine Zc (v:=vI O) rfl (dn (ZMu (sr (Za (v:=vI O) rfl (Zn rfl rfl (dn ?_))))))
     refine Zp rfl (λbh=>?_) (λbh=>?_)
     ·replace h:=ift h (ct bh);refine ZM9 (Zk (Zy ?_))
      refine Zd (ZMu (sr (Z5 B 1 (vI A.2.2) rfl sc3 rfl rfl (dn (Zj (Yl B [vI 0] z3 rfl λcx go L B=>Zz (v:=vI A.2.2) B 0 [vI A.2.2] [vI A.2.2] rfl sc3.size rfl rfl rfl rfl rfl (ZM2 rfl) rfl λgp B=>dn (Zj (Z5 B 0 (vI A.2.2) rfl sc3 rfl rfl (Zo rfl rfl (Zz (v:=vI (ZHf.wrap (A.2.2+1))) B 0 [vI (ZHf.wrap (A.2.2+1))] [vI (ZHf.wrap (A.2.2+1))] rfl sc3.size rfl rfl rfl rfl rfl (ZM2 rfl) rfl λgq B=>done ?_))))))))))
      replace B:=B.sM [1,0,2] (M':=[mat eI 22 2 V ab A.1,blk cx 3 [vI (ZHf.wrap (A.2.2+1))],blk ak 3 [vI A.2.2]]) (by decide) rfl
      replace B:=B.recast (c:=ZM8 (ZT0 22 (ZT0 2 (eI.tr))) A.1 [V] (Jv V ab)) (λx_ U=>U) (λh_=>Zdd h_)
      rw [← bt] at B
      exact bs (A.1,A.2.1,ZHf.wrap (A.2.2+1)) _ _ ⟨V,bb,cx,(slq rfl),(B.xM [1,0] rfl)⟩ h
     ·replace h:=Zm h (cf bh);refine ZMy (Zd (ZMu ?_))
      refine cwd 17 Yh [0,0,0,0,0,24,0,0,0,384,960,1984,0,0,12288,28672,65475,131011,262143,524287] [10,11,14,15,16] [0,1,2,3,4,5,6,7,8,9,12,13] (λaz ae gr L=>?_)
      replace B:=B.grow L;refine bM 0 (V) rfl ae (Zb 20 1) (bM 1 (vI A.2.1) rfl ae (Zb 20 3) (bM 2 (V) rfl ae (Zb 20 7) (bM 3 (vI A.2.1) rfl ae (Zb 20 15) (bM 4 (vI O) rfl ae (Zb 20 31) (bF 5 (vI (ZHf.wrap (A.2.1+O))) rfl rfl ae (λ_=>by exact Zdm rfl rfl) (Zb 20 63) (bM 6 (V) rfl ae (Zb 20 127) (bM 7 (vI A.2.1) rfl ae (Zb 20 255) (bM 8 (vI O) rfl ae (Zb 20 511) (bF 9 (vI (ZHf.wrap (A.2.1+O))) rfl rfl ae (λ_=>by exact Zdm rfl rfl) (Zb 20 1023) ?_)))))))))
      obtain ⟨⟨d9,ea⟩,h⟩:=h;obtain ⟨eb,fj,bz⟩:=Zco (B.getM 0 rfl) (ZQe (ZFz _) (show (ZHf.wrap (A.2.1+O)).toNat < A.1.length by omega))
      refine bL 10 (.pointer (some ⟨eb,(ZHf.wrap (A.2.1+O)).toNat * 1,none⟩)) rfl rfl az (λ_ L=>by exact Zbm ((ZHf.wrap (A.2.1+O)).toNat * 1) ZUw sc22.size (by exact tr rfl bz) rfl d9 ea rfl) (Zb 20 2047) (bL 11 ((hd ab ((ZHf.wrap (A.2.1+O)).toNat))) rfl rfl az (λ_ L=>by exact Xh (hd ab ((ZHf.wrap (A.2.1+O)).toNat)) (Zde ((B.grow L).getM 0 rfl) bz (show (ZHf.wrap (A.2.1+O)).toNat < A.1.length by omega)) sc22 rfl) (Zb 20 4095) (bM 12 (V) rfl ae (Zb 20 8191) (bM 13 (vI A.2.1) rfl ae (Zb 20 16383) ?_)))
      obtain ⟨⟨ec,ed⟩,h⟩:=h;obtain ⟨ee,fk,b8⟩:=Zco (B.getM 0 rfl) (ZQe (ZFz _) (show A.2.1.toNat < A.1.length by omega))
      refine bL 14 (.pointer (some ⟨ee,A.2.1.toNat * 1,none⟩)) rfl rfl az (λ_ L=>by exact Zbm (A.2.1.toNat * 1) ZUw sc22.size (by exact tr rfl b8) rfl ec ed rfl) (Zb 20 32767) (bL 15 ((hd ab A.2.1.toNat)) rfl rfl az (λ_ L=>by exact Xh (hd ab A.2.1.toNat) (Zde ((B.grow L).getM 0 rfl) b8 (show A.2.1.toNat < A.1.length by omega)) sc22 rfl) (Zb 20 65535) ?_)
      obtain ⟨⟨ef,eg⟩,h⟩:=h;obtain ⟨eh,fl,b9⟩:=Zco (B.getM 0 rfl) (ZQe (ZFz _) (show A.2.1.toNat < A.1.length by omega))
      refine bL 16 (.pointer (some ⟨eh,A.2.1.toNat * 1,none⟩)) rfl rfl az (λ_ L=>by exact Zbm (A.2.1.toNat * 1) ZUw sc22.size (by exact tr rfl b9) rfl ef eg rfl) (Zb 20 131071) (aO 17 rfl (Zyv B 0 rfl (show A.2.1.toNat < A.1.length by omega) (show (ZHf.wrap (A.2.1+O)).toNat < A.1.length by omega) b9 sc22.size rfl rfl λgs B=>done (Jc (by decide) (l9:=(Zb 20 262143)) (by kernel_rfl) (Z0 18 (by decide) (by decide) (by kernel_rfl) (by kernel_rfl) rfl ?_))))
      obtain ⟨⟨ei,ej⟩,h⟩:=h;obtain ⟨gu,fm,ca⟩:=Zyu (B.getM 0 rfl) (ZQe (ZFz _) (show (ZHf.wrap (A.2.1+O)).toNat < A.1.length by omega))
      refine Js ((ZHf.wrap (A.2.1+O)).toNat * 1) ZUw sc22.size (tr rfl ca) rfl ei ej rfl (Zyw B 0 rfl (show A.2.1.toNat < A.1.length by omega) (show (ZHf.wrap (A.2.1+O)).toNat < A.1.length by omega) ca sc22.size rfl rfl λgv B=>done (Z1 (Zd (ZMu ?_))))
      refine cwd 5 Yh [0,0,3,7,0,31,63,127,255] [2,3,4] [0,1] (λbi cb gw L=>?_)
      replace B:=B.grow L;refine bM 0 (V) rfl cb (Zb 9 1) (bM 1 (vI A.2.1) rfl cb (Zb 9 3) ?_)
      obtain ⟨⟨ek,en⟩,h⟩:=h;obtain ⟨eo,fo,cc⟩:=Zco (B.getM 0 rfl) (ZQe (ZFz _) (show A.2.1.toNat < (Xl ZEu A.1 A.2.1.toNat ((ZHf.wrap (A.2.1+O)).toNat)).length by omega))
      refine bL 2 (.pointer (some ⟨eo,A.2.1.toNat * 1,none⟩)) rfl rfl bi (λ_ L=>by exact Zbm (A.2.1.toNat * 1) ZUw sc22.size (by exact tr rfl cc) rfl ek en rfl) (Zb 9 7) (bL 3 ((hd (Xl undef ab A.2.1.toNat ((ZHf.wrap (A.2.1+O)).toNat)) A.2.1.toNat)) rfl rfl bi (λ_ L=>by exact Xh (hd (Xl undef ab A.2.1.toNat ((ZHf.wrap (A.2.1+O)).toNat)) A.2.1.toNat) (Zde ((B.grow L).getM 0 rfl) cc (show A.2.1.toNat < (Xl ZEu A.1 A.2.1.toNat ((ZHf.wrap (A.2.1+O)).toNat)).length by omega)) sc22 rfl) (Zb 9 15) (bL 4 (vI A.2.2) rfl rfl bi (λ_ L=>by exact Yc (B.grow L) 1 (vI A.2.2) rfl sc3 rfl rfl) (Zb 9 31) (Z0 5 (by decide) (by decide) (by kernel_rfl) (by kernel_rfl) rfl ?_)))
      obtain ⟨⟨ep,er⟩,h⟩:=h;obtain ⟨gx,fq,ce⟩:=Jf (Zan (B.getM 0 rfl) (show A.2.1.toNat < (Xl ZEu A.1 A.2.1.toNat ((ZHf.wrap (A.2.1+O)).toNat)).length by omega)) (ZQe (ZFz _) (show A.2.2.toNat < ((Xl ZEu A.1 A.2.1.toNat ((ZHf.wrap (A.2.1+O)).toNat)).getD A.2.1.toNat ZEu).length by omega))
      refine Js (A.2.2.toNat * 1) ZNd sc2.size (tr rfl ce) rfl ep er rfl (Yr (vI (((Xl ZEu A.1 A.2.1.toNat ((ZHf.wrap (A.2.1+O)).toNat)).getD A.2.1.toNat ZEu).getD A.2.2.toNat ZEu)) (Za2 (Zan (B.getM 0 rfl) (show A.2.1.toNat < (Xl ZEu A.1 A.2.1.toNat ((ZHf.wrap (A.2.1+O)).toNat)).length by omega)) ce A.2.2.toNat (show A.2.2.toNat < ((Xl ZEu A.1 A.2.1.toNat ((ZHf.wrap (A.2.1+O)).toNat)).getD A.2.1.toNat ZEu).length by omega)) sc2 rfl (Zf [vI (((Xl ZEu A.1 A.2.1.toNat ((ZHf.wrap (A.2.1+O)).toNat)).getD A.2.1.toNat ZEu).getD A.2.2.toNat ZEu)] _ Tryz.func143 rfl rfl rfl (Zz3 (((Xl ZEu A.1 A.2.1.toNat ((ZHf.wrap (A.2.1+O)).toNat)).getD A.2.1.toNat ZEu).getD A.2.2.toNat ZEu) h _) ?_))
      rintro _ gy ⟨au,rfl,h,dq⟩;refine rt ?_
      replace B:=B.grow dq;refine Zc (v:=vI au) rfl (done (Z1 (Zd (ZMu (sr (Za (v:=V) rfl (Za (v:=vI A.2.1) rfl ?_)))))))
      obtain ⟨⟨es,et⟩,h⟩:=h;obtain ⟨gz,fr,cg⟩:=Zco (B.getM 0 rfl) (ZQe (ZFz _) (show A.2.1.toNat < (Xl ZEu A.1 A.2.1.toNat ((ZHf.wrap (A.2.1+O)).toNat)).length by omega))
      refine Js (A.2.1.toNat * 1) ZUw sc22.size (tr rfl cg) rfl es et rfl (Yr (hd (Xl undef ab A.2.1.toNat ((ZHf.wrap (A.2.1+O)).toNat)) A.2.1.toNat) (Zde (B.getM 0 rfl) cg (show A.2.1.toNat < (Xl ZEu A.1 A.2.1.toNat ((ZHf.wrap (A.2.1+O)).toNat)).length by omega)) sc22 rfl ?_)
      obtain ⟨f5,g0,dr⟩:=Zbj (Zan (B.getM 0 rfl) (show A.2.1.toNat < (Xl ZEu A.1 A.2.1.toNat ((ZHf.wrap (A.2.1+O)).toNat)).length by omega))
      refine Zel ZNd (tr rfl dr) (Za (v:=vI 0) rfl (dn (ZM0 ?_)))
      replace B:=B.recast (c:=ZM8 (ZT0 22 (ZT0 2 (eI.tr))) (Xl ZEu A.1 A.2.1.toNat ((ZHf.wrap (A.2.1+O)).toNat)) [V] (Jv V (Xl undef ab A.2.1.toNat ((ZHf.wrap (A.2.1+O)).toNat)))) (λx_ U=>U) (λh_=>Zdd h_)
      refine X6 (S:=(List (List Int))×Int) _ (λI e_ w_=>∃ (al:Value),∃ (bo:List Nat),Zt e_ [(3,al),(6,vI A.2.1),(7,vQ ak),(9,vI au),(77,vI (((Xl ZEu A.1 A.2.1.toNat ((ZHf.wrap (A.2.1+O)).toNat)).getD A.2.1.toNat ZEu).length:Int)),(78,vI I.2)]∧Ctx Nox w0 w_ [ZM8 (ZT0 22 (ZT0 2 (eI.tr))) I.1 [al] bo,blk ak 3 [vI A.2.2]] [ZMt (ZPz.sl) a0 [u0_0] fp0]) ?_ (s0:=(Xl ZEu A.1 A.2.1.toNat ((ZHf.wrap (A.2.1+O)).toNat),0)) ?_ h
      ·clear B h;rintro I e_ g1 f6 g2 ⟨al,bo,ao,B⟩ h dt;rw [ue ao];refine sr (Zn rfl rfl (dn (ZMu ?_)))
       refine Zp rfl (λbj=>?_) (λbj=>?_)
       ·replace h:=ift h (ct bj);refine ZMy (Zd (ZMu (ZM0 (sr (Za (v:=vI I.2) rfl (Zc (v:=vI I.2) rfl (dn ?_)))))))
        refine cwd 15 Yh [0,0,3,7,0,0,0,96,224,0,992,2016,0,8160,16352,32767,65535] [2,3,7,8,10,11] [0,1,4,5,6,9,12,13,14] (λap aj g3 L=>?_)
        replace B:=B.grow L;refine bM 0 (al) rfl aj (Zb 17 1) (bM 1 (vI A.2.1) rfl aj (Zb 17 3) ?_)
        obtain ⟨aq,du,ch⟩:=Zkw (B.getM 0 rfl);replace B:=B.recast (c:=mat eI 22 2 al aq I.1) (λx_ U=>by have e_:=ch; exact e_ ▸ U) (λ_=>du)
        obtain ⟨⟨eu,ew⟩,h⟩:=h;obtain ⟨ex,fs,ci⟩:=Zco (B.getM 0 rfl) (ZQe (ZFz _) (show A.2.1.toNat < I.1.length by omega))
        refine bL 2 (.pointer (some ⟨ex,A.2.1.toNat * 1,none⟩)) rfl rfl ap (λ_ L=>by exact Zbm (A.2.1.toNat * 1) ZUw sc22.size (by exact tr rfl ci) rfl eu ew rfl) (Zb 17 7) (bL 3 ((hd aq A.2.1.toNat)) rfl rfl ap (λ_ L=>by exact Xh (hd aq A.2.1.toNat) (Zde ((B.grow L).getM 0 rfl) ci (show A.2.1.toNat < I.1.length by omega)) sc22 rfl) (Zb 17 15) (bM 4 (vI I.2) rfl aj (Zb 17 31) (bM 5 (al) rfl aj (Zb 17 63) (bM 6 (vI A.2.1) rfl aj (Zb 17 127) ?_))))
        obtain ⟨⟨ey,ez⟩,h⟩:=h;obtain ⟨e1,ft,cj⟩:=Zco (B.getM 0 rfl) (ZQe (ZFz _) (show A.2.1.toNat < I.1.length by omega))
        refine bL 7 (.pointer (some ⟨e1,A.2.1.toNat * 1,none⟩)) rfl rfl ap (λ_ L=>by exact Zbm (A.2.1.toNat * 1) ZUw sc22.size (by exact tr rfl cj) rfl ey ez rfl) (Zb 17 255) (bL 8 ((hd aq A.2.1.toNat)) rfl rfl ap (λ_ L=>by exact Xh (hd aq A.2.1.toNat) (Zde ((B.grow L).getM 0 rfl) cj (show A.2.1.toNat < I.1.length by omega)) sc22 rfl) (Zb 17 511) (bM 9 (vI I.2) rfl aj (Zb 17 1023) ?_))
        obtain ⟨⟨e2,e3⟩,h⟩:=h;obtain ⟨e4,fu,ck⟩:=Jf (Zan (B.getM 0 rfl) (show A.2.1.toNat < I.1.length by omega)) (ZQe (ZFz _) (show I.2.toNat < (I.1.getD A.2.1.toNat ZEu).length by omega))
        refine bL 10 (.pointer (some ⟨e4,I.2.toNat * 1,none⟩)) rfl rfl ap (λ_ L=>by exact Zbm (I.2.toNat * 1) ZNd sc2.size (by exact tr rfl ck) rfl e2 e3 rfl) (Zb 17 2047) (bL 11 (vI ((I.1.getD A.2.1.toNat ZEu).getD I.2.toNat ZEu)) rfl rfl ap (λ_ L=>by exact Xh (vI ((I.1.getD A.2.1.toNat ZEu).getD I.2.toNat ZEu)) (Za2 (Zan ((B.grow L).getM 0 rfl) (show A.2.1.toNat < I.1.length by omega)) ck I.2.toNat (show I.2.toNat < (I.1.getD A.2.1.toNat ZEu).length by omega)) sc2 rfl) (Zb 17 4095) (bM 12 (vI au) rfl aj (Zb 17 8191) (bF 13 (vI (ZHf.wrap (((I.1.getD A.2.1.toNat ZEu).getD I.2.toNat ZEu) * au))) rfl rfl aj (λ_=>by exact Zcy rfl rfl) (Zb 17 16383) (bF 14 (vI (ZFl (ZHf.wrap (((I.1.getD A.2.1.toNat ZEu).getD I.2.toNat ZEu) * au)) 10007)) rfl rfl aj (λ_=>by exact Zo6 rfl rfl (by decide)) (Zb 17 32767) (Z0 15 (by decide) (by decide) (by kernel_rfl) (by kernel_rfl) rfl ?_)))))
        obtain ⟨⟨e5,e6⟩,h⟩:=h;obtain ⟨g4,fv,cl⟩:=Jf (Zan (B.getM 0 rfl) (show A.2.1.toNat < I.1.length by omega)) (ZQe (ZFz _) (show I.2.toNat < (I.1.getD A.2.1.toNat ZEu).length by omega))
        refine Js (I.2.toNat * 1) ZNd sc2.size (tr rfl cl) rfl e5 e6 rfl (Zys B 0 (ZFl (ZHf.wrap (((I.1.getD A.2.1.toNat ZEu).getD I.2.toNat ZEu) * au)) 10007) rfl (show A.2.1.toNat < I.1.length by omega) cl (show I.2.toNat < (I.1.getD A.2.1.toNat ZEu).length by omega) sc2.size rfl rfl rfl λg5 B=>done (Z1 (Zq (Zd (Zj (Zo rfl rfl (Za (v:=vI (ZHf.wrap (I.2+1))) rfl (done ?_))))))))
        replace B:=B.recast (c:=ZM8 (ZT0 22 (ZT0 2 (eI.tr))) (I.1.set A.2.1.toNat ((I.1.getD A.2.1.toNat ZEu).set I.2.toNat (ZFl (ZHf.wrap (((I.1.getD A.2.1.toNat ZEu).getD I.2.toNat ZEu) * au)) 10007))) [al] (Jv al aq)) (λx_ U=>U) (λh_=>Zdd h_)
        rw [← ch] at B
        exact dt (I.1.set A.2.1.toNat ((I.1.getD A.2.1.toNat ZEu).set I.2.toNat (ZFl (ZHf.wrap (((I.1.getD A.2.1.toNat ZEu).getD I.2.toNat ZEu) * au)) 10007)),ZHf.wrap (I.2+1)) _ _ ⟨al,bo,(slq rfl),B⟩ h
       ·replace h:=Zm h (cf bj);refine ZM9 (Zk (Zk (Zy ?_)))
        refine Zd (ZMu (sr (Za (v:=al) rfl (Zqd B 0 rfl ZUw rfl (Za (v:=vI 0) rfl (dn (ZM0 ?_)))))))
        refine X6 (S:=(List (List Int))×Int) _ (λG e_ w_=>∃ (ag:Value),∃ (a3:List Nat),Zt e_ [(3,ag),(6,vI A.2.1),(7,vQ ak),(98,ag),(99,vI (I.1.length:Int)),(100,vI G.2)]∧Ctx Nox w0 w_ [ZM8 (ZT0 22 (ZT0 2 (eI.tr))) G.1 [ag] a3,blk ak 3 [vI A.2.2]] [ZMt (ZPz.sl) a0 [u0_0] fp0]) ?_ (s0:=(I.1,0)) ?_ h
        ·clear B h;rintro G e_ g6 f7 g7 ⟨ag,a3,ao,B⟩ h bk;rw [ue ao];refine sr (Zn rfl rfl (dn (ZMu ?_)))
         refine Zp rfl (λbl=>?_) (λbl=>?_)
         ·replace h:=ift h (ct bl);refine ZMy (Zd (ZMu (ZM0 (sr (Za (v:=vI G.2) rfl ?_)))))
          obtain ⟨ad,dv,a4⟩:=Zkw (B.getM 0 rfl);replace B:=B.recast (c:=mat eI 22 2 ag ad G.1) (λx_ U=>by have e_:=a4; exact e_ ▸ U) (λ_=>dv)
          obtain ⟨⟨e7,e8⟩,h⟩:=h;obtain ⟨g8,fw,cm⟩:=Zco (B.getM 0 rfl) (ZQe (ZFz _) (show G.2.toNat < G.1.length by omega))
          refine Js (G.2.toNat * 1) ZUw sc22.size (tr rfl cm) rfl e7 e8 rfl (Yr (hd ad G.2.toNat) (Zde (B.getM 0 rfl) cm (show G.2.toNat < G.1.length by omega)) sc22 rfl (Zc (v:=vI G.2) rfl (Zc (v:=(hd ad G.2.toNat)) rfl (dn (sr (Za (v:=vI G.2) rfl (Za (v:=vI A.2.1) rfl (Y2 rfl rfl (Za (v:=.bool (decide (G.2≠A.2.1))) rfl ?_)))))))))
          refine Y6 (decide (G.2≠A.2.1)) (λac=>?_) (λac=>?_)
          ·replace h:=ift h (ct ac);refine Zh 3 108 rfl rfl ac (Za (v:=(hd ad G.2.toNat)) rfl (Zh 3 108 rfl rfl ac (Z5 B 1 (vI A.2.2) rfl sc3 rfl rfl (Zh 3 108 rfl rfl ac ?_))))
           obtain ⟨⟨e9,fa⟩,h⟩:=h;obtain ⟨g9,fx,cn⟩:=Jf (Zan (B.getM 0 rfl) (show G.2.toNat < G.1.length by omega)) (ZQe (ZFz _) (show A.2.2.toNat < (G.1.getD G.2.toNat ZEu).length by omega))
           refine Js (A.2.2.toNat * 1) ZNd sc2.size (tr rfl cn) rfl e9 fa rfl (Zh 3 108 rfl rfl ac (Yr (vI ((G.1.getD G.2.toNat ZEu).getD A.2.2.toNat ZEu)) (Za2 (Zan (B.getM 0 rfl) (show G.2.toNat < G.1.length by omega)) cn A.2.2.toNat (show A.2.2.toNat < (G.1.getD G.2.toNat ZEu).length by omega)) sc2 rfl (Zh 3 108 rfl rfl ac (Y2 rfl rfl (Zs (v:=.bool (decide ((G.1.getD G.2.toNat ZEu).getD A.2.2.toNat ZEu≠0))) (b:=true) (tr rfl (congrArg _ ac)) rfl (dn ?_))))))
           refine Zp rfl (λbm=>?_) (λbm=>?_)
           ·replace h:=ift h (ct bm);refine cwd 9 Yh [0,0,0,6,14,0,0,96,224,511] [3,4,6,7,8] [0,1,2,5] (λa1 a5 ha L=>?_)
            replace B:=B.grow L;refine bM 0 ((hd ad G.2.toNat)) rfl a5 (Zb 10 1) (bM 1 (ag) rfl a5 (Zb 10 3) (bM 2 (vI A.2.1) rfl a5 (Zb 10 7) ?_))
            obtain ⟨⟨fb,fc⟩,h⟩:=h;obtain ⟨fd,fy,cp⟩:=Zco (B.getM 0 rfl) (ZQe (ZFz _) (show A.2.1.toNat < G.1.length by omega))
            refine bL 3 (.pointer (some ⟨fd,A.2.1.toNat * 1,none⟩)) rfl rfl a1 (λ_ L=>by exact Zbm (A.2.1.toNat * 1) ZUw sc22.size (by exact tr rfl cp) rfl fb fc rfl) (Zb 10 15) (bL 4 ((hd ad A.2.1.toNat)) rfl rfl a1 (λ_ L=>by exact Xh (hd ad A.2.1.toNat) (Zde ((B.grow L).getM 0 rfl) cp (show A.2.1.toNat < G.1.length by omega)) sc22 rfl) (Zb 10 31) (bM 5 ((hd ad G.2.toNat)) rfl a5 (Zb 10 63) (bL 6 (vI A.2.2) rfl rfl a1 (λ_ L=>by exact Yc (B.grow L) 1 (vI A.2.2) rfl sc3 rfl rfl) (Zb 10 127) ?_)))
            obtain ⟨⟨fe,ff⟩,h⟩:=h;obtain ⟨fg,fz,cq⟩:=Jf (Zan (B.getM 0 rfl) (show G.2.toNat < G.1.length by omega)) (ZQe (ZFz _) (show A.2.2.toNat < (G.1.getD G.2.toNat ZEu).length by omega))
            refine bL 7 (.pointer (some ⟨fg,A.2.2.toNat * 1,none⟩)) rfl rfl a1 (λ_ L=>by exact Zbm (A.2.2.toNat * 1) ZNd sc2.size (by exact tr rfl cq) rfl fe ff rfl) (Zb 10 255) (bL 8 (vI ((G.1.getD G.2.toNat ZEu).getD A.2.2.toNat ZEu)) rfl rfl a1 (λ_ L=>by exact Xh (vI ((G.1.getD G.2.toNat ZEu).getD A.2.2.toNat ZEu)) (Za2 (Zan ((B.grow L).getM 0 rfl) (show G.2.toNat < G.1.length by omega)) cq A.2.2.toNat (show A.2.2.toNat < (G.1.getD G.2.toNat ZEu).length by omega)) sc2 rfl) (Zb 10 511) (Z0 9 (by decide) (by decide) (by kernel_rfl) (by kernel_rfl) rfl ?_))
            obtain ⟨cr,h⟩:=h;refine Zf [(hd ad G.2.toNat),(hd ad A.2.1.toNat),vI ((G.1.getD G.2.toNat ZEu).getD A.2.2.toNat ZEu)] _ ZXq rfl rfl rfl (Zr2 (G.1.getD G.2.toNat ZEu) (G.1.getD A.2.1.toNat ZEu) ((G.1.getD G.2.toNat ZEu).getD A.2.2.toNat ZEu) h _ (Zan (B.getM 0 rfl) (show G.2.toNat < G.1.length by omega)) (Ym (Zan (B.getM 0 rfl) (show A.2.1.toNat < G.1.length by omega))) (Zra (B.getM 0 rfl).2.2 (Zrh (B.getM 0 rfl) (show A.2.1.toNat < G.1.length by omega)) (Zrh (B.getM 0 rfl) (show G.2.toNat < G.1.length by omega)) cr)) ?_
            rintro _ hb ⟨cy,rfl,h,dw,dx⟩;refine rt ?_
            replace B:=B.turnRow 0 rfl (show G.2.toNat < G.1.length by omega) dx dw
            refine done (Z1 (Zq (Zd (Zj (Zo rfl rfl (Za (v:=vI (ZHf.wrap (G.2+1))) rfl (done ?_)))))))
            replace B:=B.recast (c:=ZM8 (ZT0 22 (ZT0 2 (eI.tr))) (G.1.set G.2.toNat cy) [ag] (Jv ag ad)) (λx_ U=>U) (λh_=>Zdd h_)
            rw [← a4] at B
            exact bk (G.1.set G.2.toNat cy,ZHf.wrap (G.2+1)) _ _ ⟨ag,a3,(slq rfl),B⟩ h
           ·replace h:=Zm h (cf bm);refine ZMy (Zq (Zd (Zj (Zo rfl rfl (Za (v:=vI (ZHf.wrap (G.2+1))) rfl (done ?_))))))
            replace B:=B.recast (c:=ZM8 (ZT0 22 (ZT0 2 (eI.tr))) G.1 [ag] (Jv ag ad)) (λx_ U=>U) (λh_=>Zdd h_)
            rw [← a4] at B
            exact bk (G.1,ZHf.wrap (G.2+1)) _ _ ⟨ag,a3,(slq rfl),B⟩ h
          ·replace h:=Zm h (cf ac);refine Zg (b:=false) 3 108 rfl (tr rfl (congrArg _ ac)) (by decide) (Zg (b:=false) 3 108 rfl (tr rfl (congrArg _ ac)) (by decide) (Zg (b:=false) 3 108 rfl (tr rfl (congrArg _ ac)) (by decide) (Zg (b:=false) 3 108 rfl (tr rfl (congrArg _ ac)) (by decide) (Zg (b:=false) 3 108 rfl (tr rfl (congrArg _ ac)) (by decide) (Zs (v:=.bool false) (b:=false) (tr rfl (congrArg _ ac)) rfl (dn (Z2 rfl rfl (ZMy (Zq (Zd (Zj (Zo rfl rfl (Za (v:=vI (ZHf.wrap (G.2+1))) rfl (done ?_))))))))))))))
           replace B:=B.recast (c:=ZM8 (ZT0 22 (ZT0 2 (eI.tr))) G.1 [ag] (Jv ag ad)) (λx_ U=>U) (λh_=>Zdd h_)
           rw [← a4] at B
           exact bk (G.1,ZHf.wrap (G.2+1)) _ _ ⟨ag,a3,(slq rfl),B⟩ h
         ·replace h:=Zm h (cf bl);refine ZM9 (Zk (Zk (Zy ?_)))
          refine Zd (Zj (Za (v:=vI A.2.1) rfl (Zo rfl rfl (Zc (v:=vI (ZHf.wrap (A.2.1+1))) rfl (done (Zq (Zd (ZMu (sr (Z5 B 1 (vI A.2.2) rfl sc3 rfl rfl (dn (Zj (Yl B [vI 0] z3 rfl λfh hc L B=>Zz (v:=vI A.2.2) B 0 [vI A.2.2] [vI A.2.2] rfl sc3.size rfl rfl rfl rfl rfl (ZM2 rfl) rfl λhe B=>dn (Zj (Z5 B 0 (vI A.2.2) rfl sc3 rfl rfl (Zo rfl rfl (Zz (v:=vI (ZHf.wrap (A.2.2+1))) B 0 [vI (ZHf.wrap (A.2.2+1))] [vI (ZHf.wrap (A.2.2+1))] rfl sc3.size rfl rfl rfl rfl rfl (ZM2 rfl) rfl λhf B=>done ?_)))))))))))))))))
          exact bs (G.1,ZHf.wrap (A.2.1+1),ZHf.wrap (A.2.2+1)) _ _ ⟨ag,a3,fh,(slq rfl),(B.xM [0,1] rfl)⟩ h
        ·skip;exact⟨al,bo,(slq rfl),B⟩
      ·skip;exact⟨V,(Jv V (Xl undef ab A.2.1.toNat ((ZHf.wrap (A.2.1+O)).toNat))),(slq rfl),B⟩
    ·replace h:=Zm h (cf be);refine ZM9 (Zk (Zk (Zy ?_)))
     refine Zd (sr (Za (v:=V) rfl (Za (v:=vI A.2.1) rfl ?_)))
     obtain ⟨cz,h⟩:=h;refine Zrg B 0 rfl ZUw sc22.size rfl rfl cz.1 cz.2 λbc B=>Zc (v:=bc) rfl (dn (ZM3 ?_))
     replace B:=B.recast (c:=ZM8 (ZT0 22 (ZT0 2 (eI.tr))) (A.1.take A.2.1.toNat) [bc] (Jv bc (ab.take A.2.1.toNat))) (λx_ U=>U) (λh_=>Zdd h_)
     exact Zi rfl (Ze rfl) ⟨A.1.take A.2.1.toNat,bc,(Jv bc (ab.take A.2.1.toNat)),rfl,h,(B.getM 0 rfl),(Zb6 B 0 rfl),B.below⟩ (.inl rfl)
   ·replace h:=Zm h (cf aa);refine Zr Zv 5 undef rfl rfl (by kernel_rfl) (ai 5 rfl) (λw_=>.inr ⟨Yd (b:=false) 4 30 rfl (tr rfl (congrArg _ aa)) (by decide),rfl⟩) (l9:=(Zb 12 63)) (by kernel_rfl) (Zr Zv 6 undef rfl rfl (by kernel_rfl) (ai 6 rfl) (λw_=>.inr ⟨Yd (b:=false) 4 30 rfl (tr rfl (congrArg _ aa)) (by decide),rfl⟩) (l9:=(Zb 12 127)) (by kernel_rfl) (Zr Zv 7 undef rfl rfl (by kernel_rfl) (ai 7 rfl) (λw_=>.inr ⟨Yd (b:=false) 4 30 rfl (tr rfl (congrArg _ aa)) (by decide),rfl⟩) (l9:=(Zb 12 255)) (by kernel_rfl) (Zr Zv 8 undef rfl rfl (by kernel_rfl) (ai 8 rfl) (λw_=>.inr ⟨Yd (b:=false) 4 30 rfl (tr rfl (congrArg _ aa)) (by decide),rfl⟩) (l9:=(Zb 12 511)) (by kernel_rfl) (Zr Zv 9 undef rfl rfl (by kernel_rfl) (ai 9 rfl) (λw_=>.inr ⟨Yd (b:=false) 4 30 rfl (tr rfl (congrArg _ aa)) (by decide),rfl⟩) (l9:=(Zb 12 1023)) (by kernel_rfl) (Z0 10 (by decide) (by decide) (by kernel_rfl) (by kernel_rfl) rfl (Zg (b:=false) 4 30 rfl (tr rfl (congrArg _ aa)) (by decide) (Zs (v:=.bool false) (b:=false) (tr rfl (congrArg _ aa)) rfl (done (Z1 (Zd (Z2 rfl rfl ?_)))))))))))
    refine ZM9 (Zk (Zk (Zy ?_)))
    refine Zd (sr (Za (v:=V) rfl (Za (v:=vI A.2.1) rfl ?_)))
    replace B:=B.sM [1,0] (M':=[ZM8 (ZT0 22 (ZT0 2 (eI.tr))) A.1 [V] bb,blk ak 3 [vI A.2.2]]) (by decide) rfl
    obtain ⟨bn,dy,dz⟩:=Zkw (B.getM 0 rfl);replace B:=B.recast (c:=mat eI 22 2 V bn A.1) (λx_ U=>by have e_:=dz; exact e_ ▸ U) (λ_=>dy)
    obtain ⟨c0,h⟩:=h;refine Zrg B 0 rfl ZUw sc22.size rfl rfl c0.1 c0.2 λbd B=>Zc (v:=bd) rfl (dn (ZM3 ?_))
    replace B:=B.recast (c:=ZM8 (ZT0 22 (ZT0 2 (eI.tr))) (A.1.take A.2.1.toNat) [bd] (Jv bd (bn.take A.2.1.toNat))) (λx_ U=>U) (λh_=>Zdd h_)
    exact Zi rfl (Ze rfl) ⟨A.1.take A.2.1.toNat,bd,(Jv bd (bn.take A.2.1.toNat)),rfl,h,(B.getM 0 rfl),(Zb6 B 0 rfl),B.below⟩ (.inl rfl)
  ·skip;exact⟨an,aw,d3,(slq rfl),B⟩
 ·skip;exact⟨.slice (some ⟨b2,0,none⟩) 0 0,((ZNu (ZFo (.slice (some ⟨b2,0,none⟩) 0 0)))++([]:List (List Nat)).flatten),(slq rfl),B⟩
def Zcr (h:List Int) (K:Bool→Prop):Prop :=
 Ze5 h (λA=>K (decide (A < 0)))
theorem Znn (A:List Int)  {K:Bool→Prop} (h:Zcr A K) (w0:World) (L:ZPz.rep A [u0_0] fp0 w0) :
  Calls ZMx 83 #[u0_0] w0 λe w'=>∃ (G:Bool),
   e=.returned (.bool G)∧K G∧Bel w0 w':=by
 unfold Zcr at h
 refine cof Tryz.func83 rfl 6 Tryz.ntmps83 ?_
 have B:=ZNf (X:=Nox) w0 [ZMt TInts A [u0_0] fp0] (al1 L);refine sr (Zc (v:=.bool false) rfl (dn (sr (Za (v:=u0_0) rfl (Zf [u0_0] _ ZXo rfl rfl rfl (Zr0 A h _ (B.getP 0 rfl)) ?_)))))
 rintro _ O ⟨I,rfl,h,hB6⟩;refine rt ?_
 replace B:=B.grow hB6;refine Zn rfl rfl (Zc (v:=.bool (decide (I < 0))) rfl (dn (ZM3 ?_)))
 exact Zi rfl (Ze rfl) ⟨decide (I < 0),rfl,h,B.below⟩ (.inl rfl)
def Zir (h:Int) (K:List Int→Prop):Prop :=
 (¬ (h < 0)∧(if ZHf.wrap (h - (ZHf.wrap (0 - 0))) > 0 then((0≤ZHf.wrap (h - (ZHf.wrap (0 - 0)))∧Z4 (0+((ZHf.wrap (h - (ZHf.wrap (0 - 0)))).toNat)) 8)∧(((0:Int)≤0∧0≤((ZEp ((ZHf.wrap (h - (ZHf.wrap (0 - 0)))).toNat) (0:Int)).length:Int))∧K ((ZEp ((ZHf.wrap (h - (ZHf.wrap (0 - 0)))).toNat) (0:Int)).take 0))) else K []))
theorem Zz4 (B:Int)  {K:List Int→Prop} (h:Zir B K) (w0:World)  :
  Calls ZMx 198 #[.slice none 0 0,vI B] w0 λe w'=>∃ (O:List Int) (z0_0:Value) (L:List Nat),
   e=.returned (z0_0)∧K O∧(ZM8 (ZT0 2 (eI.tr)) O [z0_0] L).holds w'∧(∀ b,b∈L→w0.heap.size≤b)∧Bel w0 w':=by
 unfold Zir at h
 refine cof Tryz.func198 rfl 27 Tryz.ntmps198 ?_
 have A:=ZNf (X:=Nox) w0 [] (by simp)
 refine sr (Zc (v:=.slice none 0 0) rfl (dn (ZMu (sr (Za (v:=vI B) rfl (Zn rfl rfl (dn ?_)))))))
 obtain ⟨U,h⟩:=h;refine Z2 rfl (decide_eq_false U) (ZMy (Zd (ZMu (sr (Za (v:=vI B) rfl (Za (v:=.slice none 0 0) rfl (Zq8 ZNd rfl (Za (v:=.slice none 0 0) rfl (Zel ZNd rfl (J4 rfl rfl (J4 rfl rfl (Zc (v:=vI (ZHf.wrap (B - (ZHf.wrap (0 - 0))))) rfl (dn (sr (Za (v:=vI (ZHf.wrap (B - (ZHf.wrap (0 - 0))))) rfl (Ja rfl rfl (dn ?_)))))))))))))))))
 refine Zp rfl (λG=>?_) (λG=>?_)
 ·replace h:=ift h (ct G);refine Zj (Za (v:=.slice none 0 0) rfl (Za (v:=.slice none 0 0) rfl (Zq8 ZNd rfl (Zyj ZNd sc2.size rfl rfl (Za (v:=vI (ZHf.wrap (B - (ZHf.wrap (0 - 0))))) rfl ?_)))))
  replace A:=A.pushNil 2 1;obtain ⟨V,h⟩:=h;refine Zyc A 0 ZNd Tryz.underlying3 el2 rfl rfl (by decide) rfl rfl (tr rfl (congrArg (Value.int .i64) (ZP5 V.1).symm)) V.2 λv4 w5 A=>?_
  replace A:=Y7 A 0 ((ZEp ((ZHf.wrap (B - (ZHf.wrap (0 - 0)))).toNat) (0:Int)).length) (eI.encs (ZEp ((ZHf.wrap (B - (ZHf.wrap (0 - 0)))).toNat) (0:Int))) rfl (by simp) (Zym _ [] _)
  refine Za (v:=.slice none 0 0) rfl (Zel ZNd rfl ?_)
  obtain ⟨h0_7,h⟩:=h;refine Zyi A 0 rfl ZNd sc2.size rfl rfl h0_7.1 h0_7.2 λI A=>?_
  replace A:=Y7 A 0 (((ZEp ((ZHf.wrap (B - (ZHf.wrap (0 - 0)))).toNat) (0:Int)).take 0).length) (eI.encs ((ZEp ((ZHf.wrap (B - (ZHf.wrap (0 - 0)))).toNat) (0:Int)).take 0)) rfl (List.length_take_of_le (by omega)).symm (Enc.encs_take eI _ _)
  refine Zc (v:=I) rfl (dn (sr (Za (v:=I) rfl (Zc (v:=I) rfl (dn (ZM3 ?_))))))
  exact Zi rfl (Ze rfl) ⟨(ZEp ((ZHf.wrap (B - (ZHf.wrap (0 - 0)))).toNat) (0:Int)).take 0,I,(ZNu (ZFo I)),rfl,h,(Xx (A.getM 0 rfl)),(Yt A 0 rfl),A.below⟩ (.inl rfl)
 ·replace h:=Zm h (cf G);refine ZMy (Zd (sr (Za (v:=.slice none 0 0) rfl (Zc (v:=.slice none 0 0) rfl (dn (ZM3 ?_))))))
  exact Zi rfl (Ze rfl) ⟨[],.slice none 0 0,[],rfl,h,(Zhl _ _ _),(λb hb=>absurd hb (by simp)),A.below⟩ (.inl rfl)
def Zis (U:List (List Int)) (K:List Int→Prop):Prop :=
 Z9 (λB (h:Int) I=>(¬ (ZHf.wrap (h+((U.getD B ZEu).length:Int)) < 0)∧I (ZHf.wrap (h+((U.getD B ZEu).length:Int))))) (λ(h:Int)=>Zir h (λO=>Z9 (λG (A:(List Int)) L=>(Z4 (A.length+(U.getD G ZEu).length) 8∧L (A++(U.getD G ZEu)))) (λ(A:(List Int))=>K A) U.length 0 O)) U.length 0 0
theorem Zz5 (a0:List (List Int))  {K:List Int→Prop} (h:Zis a0 K) (w0:World) (q0:(ZPz.sl).rep a0 [u0_0] fp0 w0) :
  Calls ZMx 184 #[u0_0] w0 λe w'=>∃ (r0:List Int) (z0_0:Value) (an:List Nat),
   e=.returned (z0_0)∧K r0∧(ZM8 (ZT0 2 (eI.tr)) r0 [z0_0] an).holds w'∧(∀ b,b∈an→w0.heap.size≤b)∧Bel w0 w':=by
 unfold Zis at h
 refine cof Tryz.func184 rfl 36 Tryz.ntmps184 ?_
 have A:=ZNf (X:=Nox) w0 [ZMt (ZPz.sl) a0 [u0_0] fp0] (al1 q0);refine sr (Zc (v:=.slice none 0 0) rfl (dn (sr (Zc (v:=vI 0) rfl (dn (ZMu (sr (Za (v:=u0_0) rfl (Zw A 0 rfl ZUw rfl (Za (v:=vI 0) rfl (dn (ZM0 ?_))))))))))))
 have ap:a0.length≤9223372036854775807:=Y5 (A.getP 0 rfl);refine Yp (S:=Int) _ _ (λG B e_ w_=>Zt e_ [(0,u0_0),(3,vI B),(9,u0_0),(10,vI (a0.length:Int)),(11,vI (G:Int))]∧Ctx Nox w0 w_ [] [ZMt (ZPz.sl) a0 [u0_0] fp0]) a0.length ?_ ?_ (s0:=0) ?_ h
 ·clear A h;rintro G B e_ bd a9 a5 U ⟨V,A⟩ h aq;rw [ue V];refine sr (Zn rfl rfl (dn (ZMu (Z3 rfl (decide_eq_true (by omega)) (ZMy (Zd (ZMu (ZM0 (sr ?_)))))))))
  obtain ⟨ba,be,ag⟩:=Zx (A.getP 0 rfl) G U;refine Ys (len:=a0.length) ZUw sc22.size (tr rfl ag) rfl (ZNb _) (ZNt.2 U) ?_
  obtain ⟨a6,ah,ar,ai⟩:=Xp (A.getP 0 rfl) ag G U;obtain ⟨ab,rfl⟩:=ZJj.1 ah;clear ah;rw [Xm _ _ U] at ai
  replace A:=A.derive 0 rfl (ZMt TInts (a0.getD G ZEu) [ab] fp0) (λ_=>ai) (λ_ aj=>aj)
  refine Yr (ab) ar sc22 rfl (Zc (v:=ab) rfl (dn (sr (Za (v:=vI B) rfl (Za (v:=ab) rfl (Zw A 0 rfl ZNd rfl (Zo rfl rfl (Zc (v:=vI (ZHf.wrap (B+((a0.getD G ZEu).length:Int)))) rfl (dn (sr (Za (v:=vI (ZHf.wrap (B+((a0.getD G ZEu).length:Int)))) rfl (Zn rfl rfl (dn ?_)))))))))))))
  obtain ⟨au,h⟩:=h;refine Z2 rfl (decide_eq_false au) (ZMy (Zq (Zd (Zj (Zo rfl rfl (Za (v:=vI (ZHf.wrap ((G:Int)+1))) rfl (done ?_)))))))
  exact aq (ZHf.wrap (B+((a0.getD G ZEu).length:Int))) _ _ ⟨(sl ⟨rfl,rfl,rfl,rfl,(tr rfl (congrArg _ (Z7 U ap))),trivial⟩),(A.sP [1] rfl)⟩ h
 ·clear A h;rintro B e_ bh a5 ⟨V,A⟩ h;rw [ue V];refine sr (Zn rfl rfl (dn (ZMu (Z2 rfl (decide_eq_false (by omega)) ?_))))
  refine ZM9 (Zk (Zk (Zy ?_)))
  refine Zd (sr (Za (v:=vI B) rfl (Zf [.slice none 0 0,vI B] _ Tryz.func198 rfl rfl rfl (Zz4 B h _) ?_)))
  rintro _ bi ⟨ac,ad,a7,rfl,h,av,aw,ax⟩;refine rt ?_
  replace A:=A.push ax (ZM8 (ZT0 2 (eI.tr)) ac [ad] a7) av aw;obtain ⟨ay,az⟩:=Y4 (A.getM 0 rfl).1;subst az;replace A:=A.recast (c:=own 2 1 ad ac.length (eI.encs ac)) (λ_ h_=>h_) (λ_=>ay)
  refine Zc (v:=ad) rfl (dn (ZMu (sr (Za (v:=u0_0) rfl (Zw A 0 rfl ZUw rfl (Za (v:=vI 0) rfl (dn (ZM0 ?_))))))))
  have a1:a0.length≤9223372036854775807:=Y5 (A.getP 0 rfl);refine Yp (S:=(List Int)) _ _ (λI O e_ w_=>∃ (L:Value),Zt e_ [(6,L),(25,u0_0),(26,vI (a0.length:Int)),(27,vI (I:Int))]∧Ctx Nox w0 w_ [own 2 1 L O.length (eI.encs O)] [ZMt (ZPz.sl) a0 [u0_0] fp0]) a0.length ?_ ?_ (s0:=ac) ?_ h
  ·clear A h;rintro I O e_ bj bb a8 aa ⟨L,V,A⟩ h a2;rw [ue V];refine sr (Zn rfl rfl (dn (ZMu (Z3 rfl (decide_eq_true (by omega)) (ZMy (Zd (ZMu (ZM0 (sr ?_)))))))))
   obtain ⟨bc,bk,ak⟩:=Zx (A.getP 0 rfl) I aa;refine Ys (len:=a0.length) ZUw sc22.size (tr rfl ak) rfl (ZNb _) (ZNt.2 aa) ?_
   obtain ⟨a6,al,a3,am⟩:=Xp (A.getP 0 rfl) ak I aa;obtain ⟨ae,rfl⟩:=ZJj.1 al;clear al;rw [Xm _ _ aa] at am
   replace A:=A.derive 0 rfl (ZMt TInts (a0.getD I ZEu) [ae] fp0) (λ_=>am) (λ_ aj=>aj)
   refine Yr (ae) a3 sc22 rfl (Zc (v:=ae) rfl (dn (Zj (Za (v:=L) rfl (Za (v:=ae) rfl ?_)))))
   obtain ⟨a4,h⟩:=h;refine X1 A 0 ZNd el2 rfl (by decide) (by decide) rfl (Zpn (A.getP 0 rfl)) (λq hq=>Enc.encs_one' (E:=eI) _ q hq) rfl rfl a4 λao bl A=>?_
   replace A:=Y7 A 0 ((O++(a0.getD I ZEu)).length) (eI.encs (O++(a0.getD I ZEu))) rfl (by simp) (by first | (simp [ZNm]; done) | simp [ZNm,Enc.encs])
   refine Zc (v:=ao) rfl (done (Zq (Zd (Zj (Zo rfl rfl (Za (v:=vI (ZHf.wrap ((I:Int)+1))) rfl (done ?_)))))))
   exact a2 (O++(a0.getD I ZEu)) _ _ ⟨ao,(sl ⟨rfl,rfl,rfl,(tr rfl (congrArg _ (Z7 aa a1))),trivial⟩),(A.sP [1] rfl)⟩ h
  ·clear A h;rintro O e_ bm a8 ⟨L,V,A⟩ h;rw [ue V];refine sr (Zn rfl rfl (dn (ZMu (Z2 rfl (decide_eq_false (by omega)) ?_))))
   refine ZM9 (Zk (Zk (Zy ?_)))
   refine Zd (sr (Za (v:=L) rfl (Zc (v:=L) rfl (dn (ZM3 ?_)))))
   exact Zi rfl (Ze rfl) ⟨O,L,(ZNu (ZFo L)),rfl,h,(Xx (A.getM 0 rfl)),(Yt A 0 rfl),A.below⟩ (.inl rfl)
  ·skip;exact⟨ad,(slq rfl),A⟩
 ·skip;exact⟨(slq rfl),A⟩
def Zit (a0:List (List Int)) (O:Int) (K:List (List Int)→Prop):Prop :=
 Z9 (λB (G:(List (List Int))) U=>((0≤(a0.length:Int)∧(a0.length:Int) * 8≤281474976710656)∧((0≤(B:Int)∧(B:Int) < ((ZEp ((a0.length:Int).toNat) (0:Int)).length:Int))∧Zis [(a0.getD B ZEu),(ZEp ((a0.length:Int).toNat) (0:Int)).set B 1] (λV=>(Z4 (G.length+1) 24∧U (G++[V])))))) (λ(G:(List (List Int)))=>Za8 G (λh=>Z9 (λI (A:(List (List Int))) L=>((0≤O∧O≤((h.getD I ZEu).length:Int))∧Zcr ((h.getD I ZEu).take O.toNat) (λaa=>(if aa=true then((0≤O∧O≤((h.getD I ZEu).length:Int))∧(Z4 (A.length+1) 24∧L (A++[(h.getD I ZEu).drop O.toNat]))) else L A)))) (λ(A:(List (List Int)))=>Za8 A (λab=>K ab)) h.length 0 [])) a0.length 0 []
theorem Zz6 (a0:List (List Int)) (a1:Int)  {K:List (List Int)→Prop} (h:Zit a0 a1 K) (w0:World) (q0:(ZPz.sl).rep a0 [u0_0] fp0 w0) :
  Calls ZMx 136 #[u0_0,vI a1] w0 λe w'=>∃ (r0:List (List Int)) (z0_0:Value) (br:List Nat),
   e=.returned (z0_0)∧K r0∧(ZM8 (ZT0 22 (ZT0 2 (eI.tr))) r0 [z0_0] br).holds w'∧(∀ b,b∈br→w0.heap.size≤b)∧Bel w0 w':=by
 unfold Zit at h
 refine cof Tryz.func136 rfl 57 Tryz.ntmps136 ?_
 have A:=ZNf (X:=Nox) w0 [ZMt (ZPz.sl) a0 [u0_0] fp0] (al1 q0);refine sr (Zc (v:=.slice none 0 0) rfl (dn (sr (Za (v:=u0_0) rfl (Zw A 0 rfl ZUw rfl (Yn (sz:=1) A [] [] rfl (λ_=>Zao _) rfl (by decide) λb5 w6 ax A=>?_))))))
 replace A:=A.pushE (ZXm TInts [] [] []) (Zgb _ _) rfl;refine Zc (v:=vI (a0.length:Int)) rfl (Zc (v:=.slice (some ⟨b5,0,none⟩) 0 0) rfl (dn (ZMu (sr (Za (v:=u0_0) rfl (Zw A 1 rfl ZUw rfl (Za (v:=vI 0) rfl (dn (ZM0 ?_)))))))))
 have b9:a0.length≤9223372036854775807:=Y5 (A.getP 1 rfl);refine Yp (S:=(List (List Int))) _ _ (λB ak e_ w_=>∃ (an:Value),∃ (ag:List Value),∃ (ao:List Nat),Zt e_ [(1,vI a1),(5,vI (a0.length:Int)),(6,an),(16,u0_0),(17,vI (a0.length:Int)),(18,vI (B:Int))]∧(∀ b,b∈ao→w0.heap.size≤b)∧Ctx Nox w0 w_ [own 22 1 an ak.length ag] [ZXm TInts ak ag ao,ZMt (ZPz.sl) a0 [u0_0] fp0]) a0.length ?_ ?_ (s0:=[]) ?_ h
 ·clear A h;rintro B ak e_ dx dp de ap ⟨an,ag,ao,aq,a6,A⟩ h ca;rw [ue aq];refine sr (Zn rfl rfl (dn (ZMu (Z3 rfl (decide_eq_true (by omega)) (ZMy (Zd (ZMu (ZM0 (sr (Za (v:=vI (B:Int)) rfl ?_))))))))))
  obtain ⟨dq,dy,a7⟩:=Zx (A.getP 1 rfl) B ap;refine Ys (len:=a0.length) ZUw sc22.size (tr rfl a7) rfl (ZNb _) (ZNt.2 ap) ?_
  obtain ⟨dh,a8,cb,a9⟩:=Xp (A.getP 1 rfl) a7 B ap;obtain ⟨ah,rfl⟩:=ZJj.1 a8;clear a8;rw [Xm _ _ ap] at a9
  replace A:=A.derive 1 rfl (ZMt TInts (a0.getD B ZEu) [ah] fp0) (λ_=>a9) (λ_ L=>L)
  refine Yr (ah) cb sc22 rfl (Zc (v:=vI (B:Int)) rfl (Zc (v:=ah) rfl (dn (sr (Za (v:=vI (a0.length:Int)) rfl ?_)))))
  obtain ⟨ba,h⟩:=h;refine Zcf (sz:=1) A (eI.encs (ZEp ((a0.length:Int).toNat) (0:Int))) ZNd el2 (tr rfl (congrArg (Value.int .i64) (ZP5 ba.1).symm)) (tr rfl (congrArg (Value.int .i64) (ZP5 ba.1).symm)) (by omega) (by omega) (Zb4 (E:=eI) _ _) λU dz ax A=>?_
  replace A:=Y7 A 0 ((ZEp ((a0.length:Int).toNat) (0:Int)).length) (eI.encs (ZEp ((a0.length:Int).toNat) (0:Int))) rfl (by simp) rfl
  refine Zc (v:=U) rfl (dn (sr (Za (v:=U) rfl (Za (v:=vI (B:Int)) rfl ?_))))
  obtain ⟨⟨di,dj⟩,h⟩:=h;obtain ⟨dr,d0,bb⟩:=Jf (A.getM 0 rfl) (ZQe (ZFz _) (show B < (ZEp ((a0.length:Int).toNat) (0:Int)).length by omega))
  refine Js (B * 1) ZNd sc2.size (tr rfl bb) rfl di dj rfl (Zdo (v:=vI 1) A 0 [vI 1] (eI.encs ((ZEp ((a0.length:Int).toNat) (0:Int)).set B 1)) rfl bb sc2.size rfl rfl rfl rfl rfl (by rw [Enc.encs_len]; exact Za3 (sz:=1) (show B < (ZEp ((a0.length:Int).toNat) (0:Int)).length by omega)) (Zdp _ _ _ (show B < (ZEp ((a0.length:Int).toNat) (0:Int)).length by omega)) λd1 A=>?_)
  replace A:=Y7 A 0 (((ZEp ((a0.length:Int).toNat) (0:Int)).set B 1).length) (eI.encs ((ZEp ((a0.length:Int).toNat) (0:Int)).set B 1)) rfl (by simp) rfl
  refine dn (Zj (Za (v:=an) rfl (Za (v:=ah) rfl (Za (v:=U) rfl ?_))))
  have cc:=Yt A 0 rfl;replace A:=A.thaw 0 rfl (ZMt TInts ((ZEp ((a0.length:Int).toNat) (0:Int)).set B 1) [U] (ZNu (ZFo U))) Ym (λ_ L=>L)
  refine Yn (sz:=1) A [(0,ah),(1,U)] [ah,U] rfl (λ_=>Zz0 ah U (Zat (A.getP 1 rfl)) (Zat (A.getP 0 rfl)) _) rfl (by decide) λay d2 ax A=>?_
  have ce:=Yt A 0 rfl;replace A:=A.joinP 1 0 rfl rfl (ZXm TInts [(a0.getD B ZEu),(ZEp ((a0.length:Int).toNat) (0:Int)).set B 1] [ah,U] (fp0++(ZNu (ZFo U)))) (λa_ b_=>Zyh a_ b_) (λc_ V=>ZEt.1 V)
  replace A:=A.thaw 0 rfl (own 22 1 (.slice (some ⟨ay,0,none⟩) 2 2) 2 [ah,U]) id (λ_ L=>L)
  replace A:=A.joinP 0 1 rfl rfl (ZMt (ZPz.sl) [(a0.getD B ZEu),(ZEp ((a0.length:Int).toNat) (0:Int)).set B 1] [.slice (some ⟨ay,0,none⟩) 2 2] ((ZNu (ZFo (.slice (some ⟨ay,0,none⟩) 2 2)))++(fp0++(ZNu (ZFo U))))) (λa_ b_=>Jl a_ b_) (λc_ V=>ZEt.1 V)
  have dt:∀ b,b∈((ZNu (ZFo (.slice (some ⟨ay,0,none⟩) 2 2)))++(fp0++(ZNu (ZFo U))))→w0.heap.size≤b∨b∈(fp0):=(λb hb=>(ZEt.1 hb).elim (λhb=>.inl (ce b hb)) (λhb=>(ZEt.1 hb).elim (λhb=>.inr hb) (λhb=>.inl (cc b hb))))
  refine Zf [.slice (some ⟨ay,0,none⟩) 2 2] _ Tryz.func184 rfl rfl rfl (Zz5 [(a0.getD B ZEu),(ZEp ((a0.length:Int).toNat) (0:Int)).set B 1] h _ (A.getP 0 rfl)) ?_
  rintro _ d3 ⟨ai,O,dk,rfl,h,cg,ch,ci⟩;refine rt ?_
  replace A:=A.push ci (ZM8 (ZT0 2 (eI.tr)) ai [O] dk) cg ch;obtain ⟨cj,ck⟩:=Y4 (A.getM 0 rfl).1;subst ck;replace A:=A.recast (c:=own 2 1 O ai.length (eI.encs ai)) (λ_ h_=>h_) (λ_=>cj)
  have cl:=Yt A 0 rfl;replace A:=A.thaw 0 rfl (ZMt TInts ai [O] (ZNu (ZFo O))) Ym (λ_ L=>L)
  refine Yn (sz:=1) A [(0,O)] [O] rfl (λ_=>Zaj O (Zat (A.getP 0 rfl)) _) rfl (by decide) λal d4 ax A=>?_
  have cm:=Yt A 0 rfl;replace A:=A.thaw 0 rfl (own 22 1 (.slice (some ⟨al,0,none⟩) 1 1) 1 [O]) id (λ_ L=>L)
  replace A:=A.joinP 0 1 rfl rfl (ZMt (ZPz.sl) [ai] [.slice (some ⟨al,0,none⟩) 1 1] ((ZNu (ZFo (.slice (some ⟨al,0,none⟩) 1 1)))++(ZNu (ZFo O)))) (λa_ b_=>Jl a_ (Za6 b_)) (λc_ V=>ZEt.1 V)
  have cn:∀ b,b∈((ZNu (ZFo (.slice (some ⟨al,0,none⟩) 1 1)))++(ZNu (ZFo O)))→w0.heap.size≤b:=(λb hb=>(ZEt.1 hb).elim (λhb=>cm b hb) (λhb=>cl b hb))
  obtain ⟨au,cp,bc⟩:=Zax (A.getP 0 rfl);replace A:=A.derive 0 rfl (ZXm TInts [ai] au ((ZNu (ZFo (.slice (some ⟨al,0,none⟩) 1 1)))++(ZNu (ZFo O)))) (λ_=>bc) (λ_ h_=>h_)
  obtain ⟨cq,h⟩:=h;refine X1 A 0 ZUw Jw rfl (by decide) (by decide) rfl cp (λq_ bd=>bc.2.2.1 q_ bd) rfl rfl cq λbs d5 A=>?_
  replace A:=Y7 A 0 ((ak++[ai]).length) (ag++au) rfl (by simp) (by simp)
  have cr:∀ b,b∈(ao++((ZNu (ZFo (.slice (some ⟨al,0,none⟩) 1 1)))++(ZNu (ZFo O))))→w0.heap.size≤b:=(λb hb=>(ZEt.1 hb).elim (λhb=>a6 b hb) (λhb=>cn b hb))
  replace A:=A.joinP 9 0 rfl rfl (ZXm TInts (ak++[ai]) (ag++au) (ao++((ZNu (ZFo (.slice (some ⟨al,0,none⟩) 1 1)))++(ZNu (ZFo O))))) (λa_ b_=>Zay a_ b_) (λc_ V=>ZEt.1 V)
  refine Zc (v:=bs) rfl (done (Zq (Zd (Zj (Zo rfl rfl (Za (v:=vI (ZHf.wrap ((B:Int)+1))) rfl (done ?_)))))))
  exact ca (ak++[ai]) _ _ ⟨bs,ag++au,(ao++((ZNu (ZFo (.slice (some ⟨al,0,none⟩) 1 1)))++(ZNu (ZFo O)))),(sl ⟨rfl,rfl,rfl,rfl,rfl,(tr rfl (congrArg _ (Z7 ap b9))),trivial⟩),cr,(A.sP [0,11] rfl)⟩ h
 ·clear A h;rintro ak e_ d6 de ⟨an,ag,ao,aq,a6,A⟩ h;rw [ue aq];refine sr (Zn rfl rfl (dn (ZMu (Z2 rfl (decide_eq_false (by omega)) ?_))))
  refine ZM9 (Zk (Zk (Zy ?_)))
  refine Zd (sr (Yn (sz:=1) A [] [] rfl (λ_=>Zao _) rfl (by decide) λbt d7 ax A=>?_))
  replace A:=A.pushE (ZXm TInts [] [] []) (Zgb _ _) rfl;refine Zc (v:=.slice (some ⟨bt,0,none⟩) 0 0) rfl (dn (ZMu (sr (Za (v:=an) rfl (Zf [an] _ ZXn rfl rfl rfl (Zgh ak h _ (Jl (A.getM 1 rfl) (A.getP 1 rfl))) ?_)))))
  rintro _ d8 ⟨G,a5,ab,rfl,h,cu,cv,cw⟩;refine rt ?_
  replace A:=A.push cw (ZM8 (ZT0 22 (ZT0 2 (eI.tr))) G [a5] ab) cu cv;refine Zqd A 0 rfl ZUw rfl (Za (v:=vI 0) rfl (dn (ZM0 ?_)))
  have cx:=Zb6 A 0 rfl;replace A:=A.thaw 0 rfl (ZMt (ZPz.sl) G [a5] ab) (λh_=>Tr.trep _ h_.1) (λ_ L=>L)
  have be:G.length≤9223372036854775807:=Y5 (A.getP 0 rfl);refine Yp (S:=(List (List Int))) _ _ (λI ad e_ w_=>∃ (ac:Value),∃ (aa:List Value),∃ (ae:List Nat),Zt e_ [(1,vI a1),(10,ac),(38,a5),(39,vI (G.length:Int)),(40,vI (I:Int))]∧(∀ b,b∈ae→w0.heap.size≤b)∧Ctx Nox w0 w_ [own 22 1 ac ad.length aa] [ZXm TInts ad aa ae,ZMt (ZPz.sl) G [a5] ab,ZMt (ZPz.sl) a0 [u0_0] fp0]) G.length ?_ ?_ (s0:=[]) ?_ h
  ·clear A h;rintro I ad e_ d9 du dm aj ⟨ac,aa,ae,aq,av,A⟩ h bh;rw [ue aq];refine sr (Zn rfl rfl (dn (ZMu (Z3 rfl (decide_eq_true (by omega)) (ZMy (Zd (ZMu (ZM0 (sr ?_)))))))))
   obtain ⟨dv,ea,bi⟩:=Zx (A.getP 1 rfl) I aj;refine Ys (len:=G.length) ZUw sc22.size (tr rfl bi) rfl (ZNb _) (ZNt.2 aj) ?_
   obtain ⟨dh,bj,cy,bk⟩:=Xp (A.getP 1 rfl) bi I aj;obtain ⟨az,rfl⟩:=ZJj.1 bj;clear bj;rw [Xm _ _ aj] at bk
   replace A:=A.derive 1 rfl (ZMt TInts (G.getD I ZEu) [az] ab) (λ_=>bk) (λ_ L=>L)
   refine Yr (az) cy sc22 rfl (Zc (v:=az) rfl (dn (sr (Za (v:=az) rfl (Za (v:=vI a1) rfl ?_)))))
   obtain ⟨bu,h⟩:=h;obtain ⟨bl,bv,bm,a2⟩:=Zrj (A.getP 0 rfl);refine Zyz ZNd sc2.size (tr rfl bm) rfl bu.1 bu.2 a2 ?_
   replace A:=A.derive 0 rfl (ZMt TInts ((G.getD I ZEu).take a1.toNat) [(sliced bl 0 a1.toNat bv 1)] ab) (λh_=>Zyx h_ bm (show _≤_ by omega) a2) (λ_ h_=>h_)
   refine Zf [(sliced bl 0 a1.toNat bv 1)] _ Tryz.func83 rfl rfl rfl (Znn ((G.getD I ZEu).take a1.toNat) h _ (A.getP 0 rfl)) ?_
   rintro _ eb ⟨ec,rfl,h,cz⟩;refine rt ?_
   replace A:=A.grow cz;refine dn ?_
   refine Zp rfl (λa4=>?_) (λa4=>?_)
   ·replace h:=ift h (a4);refine Zj (Za (v:=ac) rfl (Za (v:=az) rfl (Za (v:=vI a1) rfl ?_)))
    obtain ⟨bw,h⟩:=h;obtain ⟨ar,a3,bn,bo⟩:=Zrj (A.getP 1 rfl);refine Zrk ZNd sc2.size (tr rfl bn) rfl bw.1 bw.2 ?_
    replace A:=A.derive 1 rfl (ZMt TInts ((G.getD I ZEu).drop a1.toNat) [(sliced ar a1.toNat ((G.getD I ZEu).length) a3 1)] ab) (λh_=>Zri h_ bn (show _≤_ by omega) bo) (λ_ h_=>h_)
    refine Yn (sz:=1) A [(0,(sliced ar a1.toNat ((G.getD I ZEu).length) a3 1))] [(sliced ar a1.toNat ((G.getD I ZEu).length) a3 1)] rfl (λ_=>Zaj (sliced ar a1.toNat ((G.getD I ZEu).length) a3 1) (Zat (A.getP 0 rfl)) _) rfl (by decide) λam ed ax A=>?_
    have c0:=Yt A 0 rfl;replace A:=A.thaw 0 rfl (own 22 1 (.slice (some ⟨am,0,none⟩) 1 1) 1 [(sliced ar a1.toNat ((G.getD I ZEu).length) a3 1)]) id (λ_ L=>L)
    replace A:=A.joinP 0 1 rfl rfl (ZMt (ZPz.sl) [(G.getD I ZEu).drop a1.toNat] [.slice (some ⟨am,0,none⟩) 1 1] ((ZNu (ZFo (.slice (some ⟨am,0,none⟩) 1 1)))++ab)) (λa_ b_=>Jl a_ (Za6 b_)) (λc_ V=>ZEt.1 V)
    have c6:∀ b,b∈((ZNu (ZFo (.slice (some ⟨am,0,none⟩) 1 1)))++ab)→w0.heap.size≤b:=(λb hb=>(ZEt.1 hb).elim (λhb=>c0 b hb) (λhb=>cx b hb))
    obtain ⟨aw,c7,bp⟩:=Zax (A.getP 0 rfl);replace A:=A.derive 0 rfl (ZXm TInts [(G.getD I ZEu).drop a1.toNat] aw ((ZNu (ZFo (.slice (some ⟨am,0,none⟩) 1 1)))++ab)) (λ_=>bp) (λ_ h_=>h_)
    obtain ⟨c8,h⟩:=h;refine X1 A 0 ZUw Jw rfl (by decide) (by decide) rfl c7 (λq_ bd=>bp.2.2.1 q_ bd) rfl rfl c8 λbx ee A=>?_
    replace A:=Y7 A 0 ((ad++[(G.getD I ZEu).drop a1.toNat]).length) (aa++aw) rfl (by simp) (by simp)
    have c9:∀ b,b∈(ae++((ZNu (ZFo (.slice (some ⟨am,0,none⟩) 1 1)))++ab))→w0.heap.size≤b:=(λb hb=>(ZEt.1 hb).elim (λhb=>av b hb) (λhb=>c6 b hb))
    replace A:=A.joinP 6 0 rfl rfl (ZXm TInts (ad++[(G.getD I ZEu).drop a1.toNat]) (aa++aw) (ae++((ZNu (ZFo (.slice (some ⟨am,0,none⟩) 1 1)))++ab))) (λa_ b_=>Zay a_ b_) (λc_ V=>ZEt.1 V)
    refine Zc (v:=bx) rfl (done (Zq (Zd (Zj (Zo rfl rfl (Za (v:=vI (ZHf.wrap ((I:Int)+1))) rfl (done ?_)))))))
    exact bh (ad++[(G.getD I ZEu).drop a1.toNat]) _ _ ⟨bx,aa++aw,(ae++((ZNu (ZFo (.slice (some ⟨am,0,none⟩) 1 1)))++ab)),(sl ⟨rfl,rfl,rfl,rfl,(tr rfl (congrArg _ (Z7 aj be))),trivial⟩),c9,(A.sP [0,8,9] rfl)⟩ h
   ·replace h:=Zm h (Yz a4);refine ZMy (Zq (Zd (Zj (Zo rfl rfl (Za (v:=vI (ZHf.wrap ((I:Int)+1))) rfl (done ?_))))))
    exact bh ad _ _ ⟨ac,aa,ae,(sl ⟨rfl,rfl,rfl,rfl,(tr rfl (congrArg _ (Z7 aj be))),trivial⟩),av,(A.sP [2,3,4] rfl)⟩ h
  ·clear A h;rintro ad e_ ef dm ⟨ac,aa,ae,aq,av,A⟩ h;rw [ue aq];refine sr (Zn rfl rfl (dn (ZMu (Z2 rfl (decide_eq_false (by omega)) ?_))))
   refine ZM9 (Zk (Zk (Zy ?_)))
   refine Zd (sr (Za (v:=ac) rfl (Zf [ac] _ ZXn rfl rfl rfl (Zgh ad h _ (Jl (A.getM 0 rfl) (A.getP 0 rfl))) ?_)))
   rintro _ eg ⟨bz,bq,b8,rfl,h,da,db,dc⟩;refine rt ?_
   replace A:=A.push dc (ZM8 (ZT0 22 (ZT0 2 (eI.tr))) bz [bq] b8) da db;refine Zc (v:=bq) rfl (dn (ZM3 ?_))
   have dd:=Yt A 1 rfl;replace A:=A.thaw 1 rfl (own 22 1 ac ad.length aa) id (λ_ L=>L)
   replace A:=A.joinP 0 1 rfl rfl (ZMt (ZPz.sl) ad [ac] ((ZNu (ZFo ac))++ae)) (λa_ b_=>Jl a_ b_) (λc_ V=>ZEt.1 V)
   have dw:∀ b,b∈((ZNu (ZFo ac))++ae)→w0.heap.size≤b:=(λb hb=>(ZEt.1 hb).elim (λhb=>dd b hb) (λhb=>av b hb))
   exact Zi rfl (Ze rfl) ⟨bz,bq,b8,rfl,h,(A.getM 0 rfl),(Zb6 A 0 rfl),A.below⟩ (.inl rfl)
  ·skip;exact⟨.slice (some ⟨bt,0,none⟩) 0 0,[],[],(slq rfl),(λb hb=>absurd hb (by simp)),((A.xM [0] rfl).sP [1,0,3] rfl)⟩
 ·skip;exact⟨.slice (some ⟨b5,0,none⟩) 0 0,[],[],(slq rfl),(λb hb=>absurd hb (by simp)),A⟩
def Zk1 (C:Cx) (L:Alg) (h:Int) (K:Prop):Prop :=
 (Zin C L h∧((Zd9 C L.degrees (ZHf.wrap (h+1))∧Zit (C.MX h) ((C.LV (ZHf.wrap (h+1))).length:Int) (λO=>(O=C.CL h∧(if h > 0 then(Zin C L (ZHf.wrap (h - 1))∧Za8 (C.MX (ZHf.wrap (h - 1))) (λU=>(U=C.BD h∧Z9 (λV (A:(List (List Int))) G=>Zbs ((C.CL h).getD V ZEu) (C.BD h) (λaa=>(Z4 (A.length+1) 24∧G (A++[aa])))) (λ(A:(List (List Int)))=>Za8 A (λab=>(ab=C.KL h∧K))) ((C.CL h).length) 0 []))) else(C.BD h=[]∧Z9 (λac (B:(List (List Int))) I=>Zbs ((C.CL h).getD ac ZEu) (C.BD h) (λad=>(Z4 (B.length+1) 24∧I (B++[ad])))) (λ(B:(List (List Int)))=>Za8 B (λae=>(ae=C.KL h∧K))) ((C.CL h).length) 0 [])))))∧K))
theorem Zz7 (C:Cx) (a0:Alg) (B:Int)  {K:Prop} (h:Zk1 C a0 B K) (w0:World) (q0:TAlg.rep a0 [u0_0,u0_1] fp0 w0) (fd:(blk b0 32 [u0_0,u0_1]).holds w0) (cy:(blk bp0 198 [vQ b0,.map (some mb0)]).holds w0) (fe:(cpx C 125 mb0 D0 F0).holds w0) (ff:∀ b,b∈fp0→b∉(cpx C 125 mb0 D0 F0).fp) (fg:b0∉(cpx C 125 mb0 D0 F0).fp) (cz:bp0∉(cpx C 125 mb0 D0 F0).fp) (fh:Ze3 D0) :
  Calls ZMx 79 #[vQ bp0,vI B] w0 λe w'=>∃ (cn:Nat) (Dz:List Lev) (Fz:List Nat),
   e=.returned (vvP cn)∧K∧LvAt Dz B cn true true∧CpLe D0 Dz F0 Fz∧(cpx C 125 mb0 Dz Fz).holds w'∧(∀ x,x∈(cpx C 125 mb0 Dz Fz).fp→x∈(cpx C 125 mb0 D0 F0).fp∨w0.heap.size≤x)∧BelO ((cpx C 125 mb0 D0 F0).fp) w0 w':=by
 unfold Zk1 at h
 refine cof Tryz.func79 rfl 73 Tryz.ntmps79 ?_
 have A:=Ctx.startL w0 ((cpx C 125 mb0 D0 F0).fp) [cpx C 125 mb0 D0 F0] [ZMt TAlg a0 [u0_0,u0_1] fp0,blk b0 32 [u0_0,u0_1],blk bp0 198 [vQ b0,.map (some mb0)]] (al1 fe) (alc q0 (alc fd (al1 cy))) (al1 (λb_ U=>U)) (ZVj _ _) (alc (λb_ U=>ff b_ U) (alc (Zdy fg) (al1 (Zdy cz))))
 replace A:=A.dAlg 0 rfl;refine sr (Zc (v:=.pointer none) rfl (dn (sr (Za (v:=vQ bp0) rfl (Za (v:=vI B) rfl ?_)))))
 obtain ⟨c0,h⟩:=h;refine Zf [vQ bp0,vI B] _ Tryz.func135 rfl rfl rfl (Zru C a0 B c0 _ (Y3 (A.getP 1 rfl) (A.getP 0 rfl)) (A.getP 3 rfl) (A.getP 4 rfl) (A.getM 0 rfl) (λb_ hb O=>(ZEt.1 hb).elim (λhb=>A.pdk 1 0 rfl rfl b_ hb O) (λhb=>A.pdk 0 0 rfl rfl b_ hb O)) (λG=>A.pdk 3 0 rfl rfl _ (ZT7 _) G) (λG=>A.pdk 4 0 rfl rfl _ (ZT7 _) G)) ?_
 rintro _ w9 ⟨I,fi,fj,rfl,av,aw,c6,c7,c8⟩;refine rt ?_
 replace A:=A.turnI 0 rfl c8 c6 c7;refine Zc (v:=vvP I) rfl (dn (ZMu (sr (Za (v:=vvP I) rfl (Xf rfl (Zu 3 ZUa rfl sc85.size rfl rfl ?_))))))
 obtain ⟨gq,gr,gs,fk,gu,gv,c9,da,gw,gx,bs,cj⟩:=Zzt (A.getM 0 rfl) av (aw.rest fh);refine Yr (fk) (Jq (off:=3) (sz:=1) c9 rfl) sc85 rfl ?_
 rcases da with _ | fz
 ·replace h:=h.1;refine Zrz false ZUw (tr rfl bs) rfl rfl (dn (Z2 rfl rfl (ZMy (Zd (ZMu ?_)))))
  refine Zzf mb0 14 Yh [0,0,2,6,14,0,0,64,224,480,992,2016,4064,8190,16383,32767,65535] [4,11,12] [0,1,2,3,5,6,7,9,10] (by kernel_rfl) (by kernel_rfl) (by kernel_rfl) (λbh ad gy am=>?_)
  replace A:=A.grow am;refine bMR (Zbr mb0) 0 (vvP I) rfl ad (Zb 17 1) (bMR (Zbr mb0) 1 (vvP I) rfl ad (Zb 17 3) (Zr (Zbr mb0) 2 (vvP I) rfl rfl (by kernel_rfl) (ad 2 rfl) (λw_=>.inl ⟨rfl,by exact J7 rfl⟩) (l9:=(Zb 17 7)) (by kernel_rfl) (Zr (Zbr mb0) 3 (.pointer (some ⟨I,2,none⟩)) rfl rfl (by kernel_rfl) (ad 3 rfl) (λw_=>.inl ⟨rfl,by exact Yk 2 ZUa rfl sc85.size rfl rfl⟩) (l9:=(Zb 17 15)) (by kernel_rfl) ?_)))
  obtain ⟨gz,g0,bt,g1,g2,g3,db,f0,dc,f1,f2⟩:=Zio (A.getM 0 rfl) av.inn;have dd:=dc;have bu:=Zzu (A.getM 0 rfl) av.inn;refine Zar (Zbr mb0) 4 (bt) rfl rfl (by kernel_rfl) (bh 4 rfl) (λw_ am=>.inl ⟨rfl,by exact Xh (bt) (Jq (off:=2) (sz:=1) (Zrw am db bu) rfl) sc85 rfl⟩) (l9:=(Zb 17 31)) (by kernel_rfl) (bMR (Zbr mb0) 5 (vQ bp0) rfl ad (Zb 17 63) (bMR (Zbr mb0) 6 (vI B) rfl ad (Zb 17 127) (Zr (Zbr mb0) 7 (vI (ZHf.wrap (B+1))) rfl rfl (by kernel_rfl) (ad 7 rfl) (λw_=>.inl ⟨rfl,by exact Zdm rfl rfl⟩) (l9:=(Zb 17 255)) (by kernel_rfl) (aO 8 rfl ?_))))
  have ck:=(A.getM 0 rfl).2.2.2.2.1;obtain ⟨de,h⟩:=h;refine Zf [vQ bp0,vI (ZHf.wrap (B+1))] _ Tryz.func115 rfl rfl rfl (Znl C a0 (ZHf.wrap (B+1)) de _ (Y3 (A.getP 1 rfl) (A.getP 0 rfl)) (A.getP 3 rfl) (A.getP 4 rfl) (A.getM 0 rfl) (λb_ hb O=>(ZEt.1 hb).elim (λhb=>A.pdk 1 0 rfl rfl b_ hb O) (λhb=>A.pdk 0 0 rfl rfl b_ hb O)) (λG=>A.pdk 3 0 rfl rfl _ (ZT7 _) G) (λG=>A.pdk 4 0 rfl rfl _ (ZT7 _) G)) ?_
  rintro _ g4 ⟨cp,fl,ae,rfl,bj,a7,dh,di,bv⟩;refine rt ?_
  replace A:=A.turnI 0 rfl (bv.belO Zcq) dh di;have dj:=Zzv dd bv ck;refine done (aK (by first | assumption | exact Zrq (by assumption)) (Zb 17 511) (Zr (Zbr mb0) 9 (vvP cp) rfl rfl (by kernel_rfl) (ad 9 rfl) (λw_=>.inl ⟨rfl,by exact J7 rfl⟩) (l9:=(Zb 17 1023)) (by kernel_rfl) (Zr (Zbr mb0) 10 (vQ cp) rfl rfl (by kernel_rfl) (ad 10 rfl) (λw_=>.inl ⟨rfl,by exact Yk 0 ZUa rfl sc122.size rfl rfl⟩) (l9:=(Zb 17 2047)) (by kernel_rfl) ?_)))
  obtain ⟨cq,g5,g6,g7,g8,g9,dk,dm,f3,f4⟩:=Zim (A.getM 0 rfl) bj;have dp:=dm;have bw:=Zrv (A.getM 0 rfl) bj;refine Zar (Zbr mb0) 11 (cq) rfl rfl (by kernel_rfl) (bh 11 rfl) (λw_ am=>.inl ⟨rfl,by exact Xh (cq) (Jq (off:=0) (sz:=1) (Zrw am dk bw) rfl) sc122 rfl⟩) (l9:=(Zb 17 4095)) (by kernel_rfl) ?_
  obtain ⟨f5,ha,dq⟩:=Zdn dp;refine Zar (Zbr mb0) 12 (vI ((C.LV (ZHf.wrap (B+1))).length:Int)) rfl rfl (by kernel_rfl) (bh 12 rfl) (λw_ am=>.inl ⟨rfl,by exact Zek Tryz.underlying122 (by exact tr rfl dq)⟩) (l9:=(Zb 17 8191)) (by kernel_rfl) (aO 13 rfl (Zf [bt,vI ((C.LV (ZHf.wrap (B+1))).length:Int)] _ Tryz.func136 rfl rfl rfl (Zz6 (C.MX B) ((C.LV (ZHf.wrap (B+1))).length:Int) h _ dj) ?_))
  rintro _ hc ⟨fm,bx,ab,rfl,h,dr,dt,du⟩;refine rt ?_
  replace A:=A.push du (ZM8 (ZT0 22 (ZT0 2 (eI.tr))) fm [bx] ab) dr dt;refine done (aK (by first | assumption | exact Zrq (by assumption)) (Zb 17 16383) (Z0 14 (by decide) (by decide) (by kernel_rfl) (by kernel_rfl) rfl (Xf rfl (Zu 3 ZUa rfl sc85.size rfl rfl ?_))))
  obtain ⟨cl,h⟩:=h;replace A:=A.recast (c:=ZM8 (ZT0 22 (ZT0 2 (eI.tr))) (C.CL B) [bx] ab) (λ_ L=>L) (λL=>cl ▸ L)
  replace A:=A.sM [1,0] (M':=[cpx C 125 mb0 fl ae,ZM8 (ZT0 22 (ZT0 2 (eI.tr))) (C.CL B) [bx] ab]) (by decide) rfl
  refine Zzy A (av.inn.up a7) sc85.size rfl rfl (λfo he bz bk A=>?_)
  refine done (Z1 (Zd (ZMu (sr (Za (v:=vI B) rfl (Ja rfl rfl (dn ?_)))))))
  refine Zp rfl (λbi=>?_) (λbi=>?_)
  ·replace h:=ift h (ct bi);refine Zj (Za (v:=vvP I) rfl (Za (v:=vQ bp0) rfl (Za (v:=vI B) rfl (J4 rfl rfl ?_))))
   obtain ⟨dv,h⟩:=h;refine Zf [vQ bp0,vI (ZHf.wrap (B - 1))] _ Tryz.func135 rfl rfl rfl (Zru C a0 (ZHf.wrap (B - 1)) dv _ (Y3 (A.getP 1 rfl) (A.getP 0 rfl)) (A.getP 3 rfl) (A.getP 4 rfl) (A.getM 0 rfl) (λb_ hb O=>(ZEt.1 hb).elim (λhb=>A.pdk 1 0 rfl rfl b_ hb O) (λhb=>A.pdk 0 0 rfl rfl b_ hb O)) (λG=>A.pdk 3 0 rfl rfl _ (ZT7 _) G) (λG=>A.pdk 4 0 rfl rfl _ (ZT7 _) G)) ?_
   rintro _ hf ⟨hg,fq,ai,rfl,hat104,bl,dw,dx,dy⟩;refine rt ?_
   replace A:=A.turnI 0 rfl dy dw dx;refine Xf rfl (Zu 2 ZUa rfl sc85.size rfl rfl ?_)
   obtain ⟨hh,hk,cr,hl,hm,hn,dz,f6,d0,f7⟩:=Zim (A.getM 0 rfl) hat104;have d1:=d0 rfl;have hnhb111:=Zrv (A.getM 0 rfl) hat104;refine Yr (cr) (Jq (off:=2) (sz:=1) dz rfl) sc85 rfl (Zf [cr] _ ZXn rfl rfl rfl (Zgh (C.MX (ZHf.wrap (B - 1))) h _ d1) ?_)
   rintro _ ho ⟨fr,b8,ac,rfl,h,d2,d3,d4⟩;refine rt ?_
   replace A:=A.push d4 (ZM8 (ZT0 22 (ZT0 2 (eI.tr))) fr [b8] ac) d2 d3;refine Xf rfl (Zu 4 ZUa rfl sc85.size rfl rfl ?_)
   obtain ⟨hmx127,h⟩:=h;replace A:=A.recast (c:=ZM8 (ZT0 22 (ZT0 2 (eI.tr))) (C.BD B) [b8] ac) (λ_ L=>L) (λL=>hmx127 ▸ L)
   replace A:=A.sM [1,0] (M':=[cpx C 125 mb0 fq ai,ZM8 (ZT0 22 (ZT0 2 (eI.tr))) (C.BD B) [b8] ac]) (by decide) rfl
   refine Zzz A (bk.up bl) sc85.size rfl rfl (λD128 hp hx130 a8 A=>?_)
   refine dn (sr (Yn (sz:=1) A [] [] rfl (λ_=>Zao _) rfl (by decide) λba hq am A=>?_))
   replace A:=A.pushM0 (Yf (ZT0 2 (eI.tr)) ([]:List (List Int)) [] []) (Zaa _ _) rfl;replace A:=A.gather (c:=ZM8 (ZT0 22 (ZT0 2 (eI.tr))) [] [.slice (some ⟨ba,0,none⟩) 0 0] ((ZNu (ZFo (.slice (some ⟨ba,0,none⟩) 0 0)))++([]:List (List Nat)).flatten)) (λx_ G=>(ZEt.1 G).symm) (λaj ak al=>J0 ak aj (λb_ U O=>al b_ O U))
   refine Zc (v:=.slice (some ⟨ba,0,none⟩) 0 0) rfl (dn (ZMu (sr (Za (v:=vvP I) rfl (Xf rfl (Zu 3 ZUa rfl sc85.size rfl rfl ?_))))))
   have d5:=A.off 1 rfl;have hz136:=A.anyX 1 rfl;replace A:=A.thaw 1 rfl (cpx C 125 mb0 D128 (ai++ac)) id (λ_ U=>U)
   obtain ⟨hr,hs,ht,bm,hu,hv,d6,f8,f9,d7,ga⟩:=Zio (A.getP 0 rfl) a8;have d8:=d7 rfl;replace A:=A.derive 0 rfl (ZMt (ZPz.sl) (C.CL B) [bm] (ai++ac)) (λ_=>d8) (λ_ L=>Zcp L)
   refine Yr (bm) (Jq (off:=3) (sz:=1) d6 rfl) sc85 rfl (Zw A 0 rfl ZUw rfl (Za (v:=vI 0) rfl (dn (ZM0 ?_))))
   have d9:(C.CL B).length≤9223372036854775807:=Y5 (A.getP 0 rfl);refine Yp (S:=(List (List Int))) _ _ (λax an e_ w_=>∃ (ag:Value),∃ (ar:List Nat),Zt e_ [(5,vvP I),(6,ag),(51,bm),(52,vI ((C.CL B).length:Int)),(53,vI (ax:Int))]∧Ctx (λc_=>c_∈(cpx C 125 mb0 D0 F0).fp) w0 w_ [ZM8 (ZT0 22 (ZT0 2 (eI.tr))) an [ag] ar] [ZMt (ZPz.sl) (C.CL B) [bm] (ai++ac),cpx C 125 mb0 D128 (ai++ac),ZMt TForm.sl a0.images [u0_1] fp0,ZMt TInts a0.degrees [u0_0] fp0,ZMt TAlg a0 [u0_0,u0_1] fp0,blk b0 32 [u0_0,u0_1],blk bp0 198 [vQ b0,.map (some mb0)]]) ((C.CL B).length) ?_ ?_ (s0:=[]) ?_ h
   ·clear A h;rintro ax an e_ hw gb fs ay ⟨ag,ar,az,A⟩ h ea;rw [ue az];refine sr (Zn rfl rfl (dn (ZMu (Z3 rfl (decide_eq_true (by omega)) (ZMy (Zd (ZMu (ZM0 (sr ?_)))))))))
    obtain ⟨gc,hx,b9⟩:=Zx (A.getP 0 rfl) ax ay;refine Ys (len:=(C.CL B).length) ZUw sc22.size (tr rfl b9) rfl (ZNb _) (ZNt.2 ay) ?_
    obtain ⟨ft,ca,eb,cb⟩:=Xp (A.getP 0 rfl) b9 ax ay;obtain ⟨bb,rfl⟩:=ZJj.1 ca;clear ca;rw [Xm _ _ ay] at cb
    replace A:=A.derive 0 rfl (ZMt TInts ((C.CL B).getD ax ZEu) [bb] (ai++ac)) (λ_=>cb) (λ_ U=>U)
    refine Yr (bb) eb sc22 rfl (Zc (v:=bb) rfl (dn (Zj (Za (v:=ag) rfl (Za (v:=bb) rfl (Za (v:=vvP I) rfl (Xf rfl (Zu 4 ZUa rfl sc85.size rfl rfl ?_))))))))
    obtain ⟨hy,hz,h0,h1,cc,h2,ec,gf,gg,gh,ed⟩:=Zio (A.getP 2 rfl) a8;have ee:=ed rfl;replace A:=A.derive 2 rfl (ZMt (ZPz.sl) (C.BD B) [cc] (ai++ac)) (λ_=>ee) (λ_ L=>Zcp L)
    refine Yr (cc) (Jq (off:=4) (sz:=1) ec rfl) sc85 rfl (Zf [bb,cc] _ Tryz.func84 rfl rfl rfl (Zk0 ((C.CL B).getD ax ZEu) (C.BD B) h _ (A.getP 1 rfl) (A.getP 0 rfl)) ?_)
    rintro _ h3 ⟨ao,V,fu,rfl,h,ef,eg,eh⟩;refine rt ?_
    replace A:=A.push eh (ZM8 (ZT0 2 (eI.tr)) ao [V] fu) ef eg;obtain ⟨ei,ej⟩:=Y4 (A.getM 0 rfl).1;subst ej;replace A:=A.recast (c:=own 2 1 V ao.length (eI.encs ao)) (λ_ L=>L) (λ_=>ei)
    refine Yn (sz:=1) A [(0,V)] [V] rfl (λ_=>Zaj V (Zdw (A.getM 0 rfl)) _) rfl (by decide) λa5 h4 am A=>?_
    replace A:=A.pushM0 (Yf (ZT0 2 (eI.tr)) [] [] []) (Zaa _ _) rfl;replace A:=A.sM [2,0,1,3] (M':=[own 2 1 V ao.length (eI.encs ao),Yf (ZT0 2 (eI.tr)) [] [] [],own 22 1 (.slice (some ⟨a5,0,none⟩) 1 1) 1 [V],ZM8 (ZT0 22 (ZT0 2 (eI.tr))) an [ag] ar]) (by decide) rfl
    replace A:=A.gather (c:=Yf (ZT0 2 (eI.tr)) [ao] [V] [(ZNu (ZFo V))]) (λx_ G=>Zer G) (λaj ak al=>Zdu (c:=[V]) (id (Xx aj)) ak al)
    replace A:=A.sM [1,0,2] (M':=[own 22 1 (.slice (some ⟨a5,0,none⟩) 1 1) 1 [V],Yf (ZT0 2 (eI.tr)) [ao] [V] [(ZNu (ZFo V))],ZM8 (ZT0 22 (ZT0 2 (eI.tr))) an [ag] ar]) (by decide) rfl
    replace A:=A.gather (c:=ZM8 (ZT0 22 (ZT0 2 (eI.tr))) [ao] [.slice (some ⟨a5,0,none⟩) 1 1] ((ZNu (ZFo (.slice (some ⟨a5,0,none⟩) 1 1)))++([(ZNu (ZFo V))]:List (List Nat)).flatten)) (λx_ G=>ZEt.1 G) (λaj ak al=>J0 aj ak al)
    replace A:=A.sM [1,0] (M':=[ZM8 (ZT0 22 (ZT0 2 (eI.tr))) an [ag] ar,ZM8 (ZT0 22 (ZT0 2 (eI.tr))) [ao] [.slice (some ⟨a5,0,none⟩) 1 1] ((ZNu (ZFo (.slice (some ⟨a5,0,none⟩) 1 1)))++([(ZNu (ZFo V))]:List (List Nat)).flatten)]) (by decide) rfl
    obtain ⟨ek,h⟩:=h;refine Zeq A ZUw Jw rfl (by decide) (by decide) rfl rfl ek λcu fv h5 A=>Zc (v:=cu) rfl (done (Zq (Zd (Zj (Zo rfl rfl (Za (v:=vI (ZHf.wrap ((ax:Int)+1))) rfl (done ?_)))))))
    exact ea (an++[ao]) _ _ ⟨cu,fv,(sl ⟨rfl,rfl,rfl,rfl,(tr rfl (congrArg _ (Z7 ay d9))),trivial⟩),(A.sP [2,3,4,5,6,7,8] rfl)⟩ h
   ·clear A h;rintro an e_ h6 fs ⟨ag,ar,az,A⟩ h;rw [ue az];refine sr (Zn rfl rfl (dn (ZMu (Z2 rfl (decide_eq_false (by omega)) ?_))))
    refine ZM9 (Zk (Zk (Zy ?_)))
    refine Zd (sr (Za (v:=vvP I) rfl (Za (v:=ag) rfl (Zf [ag] _ ZXn rfl rfl rfl (Zgh an h _ (Tr.trep _ (A.getM 0 rfl).1)) ?_))))
    rintro _ h7 ⟨cv,bn,bc,rfl,h,en,eo,ep⟩;refine rt ?_
    replace A:=A.push ep (ZM8 (ZT0 22 (ZT0 2 (eI.tr))) cv [bn] bc) en eo;refine Xf rfl (Zu 5 ZUa rfl sc85.size rfl rfl ?_)
    replace A:=(A.sP [1,2,3,4,5,6] (Ps':=[cpx C 125 mb0 D128 (ai++ac),ZMt TForm.sl a0.images [u0_1] fp0,ZMt TInts a0.degrees [u0_0] fp0,ZMt TAlg a0 [u0_0,u0_1] fp0,blk b0 32 [u0_0,u0_1],blk bp0 198 [vQ b0,.map (some mb0)]]) rfl).back hz136 d5;obtain ⟨hmx346,h⟩:=h;replace A:=A.sM [1,0,2] (M':=[ZM8 (ZT0 22 (ZT0 2 (eI.tr))) cv [bn] bc,cpx C 125 mb0 D128 (ai++ac),ZM8 (ZT0 22 (ZT0 2 (eI.tr))) an [ag] ar]) (by decide) rfl
    replace A:=A.recast (c:=ZM8 (ZT0 22 (ZT0 2 (eI.tr))) (C.KL B) [bn] bc) (λ_ L=>L) (λL=>hmx346 ▸ L)
    replace A:=A.sM [1,0,2] (M':=[cpx C 125 mb0 D128 (ai++ac),ZM8 (ZT0 22 (ZT0 2 (eI.tr))) (C.KL B) [bn] bc,ZM8 (ZT0 22 (ZT0 2 (eI.tr))) an [ag] ar]) (by decide) rfl
    refine Zry A a8 sc85.size rfl rfl (λD347 h8 hx349 bo A=>?_)
    have hle351:=(aw.trans ((((((a7.some (λ_ q_=>q_.elim)).trans bz).trans (bl.some (λ_ q_=>q_.elim))).trans hx130).trans hx349).done (Zrx (A.getM 0 rfl) bo)))
    refine dn (sr (Za (v:=vvP I) rfl (Zc (v:=vvP I) rfl (dn (ZM3 ?_)))))
    exact Zi rfl (Ze rfl) ⟨I,D347,((ai++ac)++bc),rfl,h,bo,hle351,(A.getM 0 rfl),(λx_ G=>(A.anyX 0 rfl x_ G).symm),A.belO⟩ (.inl rfl)
   ·skip;exact⟨.slice (some ⟨ba,0,none⟩) 0 0,((ZNu (ZFo (.slice (some ⟨ba,0,none⟩) 0 0)))++([]:List (List Nat)).flatten),(slq rfl),A⟩
  ·replace h:=Zm h (cf bi);refine ZMy (Zd (sr (Yn (sz:=1) A [] [] rfl (λ_=>Zao _) rfl (by decide) λa2 h9 am A=>?_)))
   replace A:=A.pushM0 (Yf (ZT0 2 (eI.tr)) ([]:List (List Int)) [] []) (Zaa _ _) rfl;replace A:=A.gather (c:=ZM8 (ZT0 22 (ZT0 2 (eI.tr))) [] [.slice (some ⟨a2,0,none⟩) 0 0] ((ZNu (ZFo (.slice (some ⟨a2,0,none⟩) 0 0)))++([]:List (List Nat)).flatten)) (λx_ G=>(ZEt.1 G).symm) (λaj ak al=>J0 ak aj (λb_ U O=>al b_ O U))
   refine Zc (v:=.slice (some ⟨a2,0,none⟩) 0 0) rfl (dn (ZMu (sr (Za (v:=vvP I) rfl (Xf rfl (Zu 3 ZUa rfl sc85.size rfl rfl ?_))))))
   obtain ⟨er,h⟩:=h;replace A:=A.sM [1,0] (M':=[cpx C 125 mb0 fo (ae++ab),ZM8 (ZT0 22 (ZT0 2 (eI.tr))) [] [.slice (some ⟨a2,0,none⟩) 0 0] ((ZNu (ZFo (.slice (some ⟨a2,0,none⟩) 0 0)))++([]:List (List Nat)).flatten)]) (by decide) rfl
   obtain ⟨D356,hx357,a9,A⟩:=A.noBd bk er;have es:=A.off 0 rfl;have hz360:=A.anyX 0 rfl;replace A:=A.thaw 0 rfl (cpx C 125 mb0 D356 (ae++ab)) id (λ_ U=>U)
   obtain ⟨ia,ib,ic,bp,ie,ig,et,gi,gj,eu,gk⟩:=Zio (A.getP 0 rfl) a9;have ew:=eu rfl;replace A:=A.derive 0 rfl (ZMt (ZPz.sl) (C.CL B) [bp] (ae++ab)) (λ_=>ew) (λ_ L=>Zcp L)
   refine Yr (bp) (Jq (off:=3) (sz:=1) et rfl) sc85 rfl (Zw A 0 rfl ZUw rfl (Za (v:=vI 0) rfl (dn (ZM0 ?_))))
   have ex:(C.CL B).length≤9223372036854775807:=Y5 (A.getP 0 rfl);refine Yp (S:=(List (List Int))) _ _ (λa3 ap e_ w_=>∃ (ah:Value),∃ (au:List Nat),Zt e_ [(5,vvP I),(6,ah),(51,bp),(52,vI ((C.CL B).length:Int)),(53,vI (a3:Int))]∧Ctx (λc_=>c_∈(cpx C 125 mb0 D0 F0).fp) w0 w_ [ZM8 (ZT0 22 (ZT0 2 (eI.tr))) ap [ah] au] [ZMt (ZPz.sl) (C.CL B) [bp] (ae++ab),cpx C 125 mb0 D356 (ae++ab),ZMt TForm.sl a0.images [u0_1] fp0,ZMt TInts a0.degrees [u0_0] fp0,ZMt TAlg a0 [u0_0,u0_1] fp0,blk b0 32 [u0_0,u0_1],blk bp0 198 [vQ b0,.map (some mb0)]]) ((C.CL B).length) ?_ ?_ (s0:=[]) ?_ h
   ·clear A h;rintro a3 ap e_ ih gl fw a4 ⟨ah,au,az,A⟩ h ey;rw [ue az];refine sr (Zn rfl rfl (dn (ZMu (Z3 rfl (decide_eq_true (by omega)) (ZMy (Zd (ZMu (ZM0 (sr ?_)))))))))
    obtain ⟨gm,ii,ce⟩:=Zx (A.getP 0 rfl) a3 a4;refine Ys (len:=(C.CL B).length) ZUw sc22.size (tr rfl ce) rfl (ZNb _) (ZNt.2 a4) ?_
    obtain ⟨ft,cg,ez,ch⟩:=Xp (A.getP 0 rfl) ce a3 a4;obtain ⟨bd,rfl⟩:=ZJj.1 cg;clear cg;rw [Xm _ _ a4] at ch
    replace A:=A.derive 0 rfl (ZMt TInts ((C.CL B).getD a3 ZEu) [bd] (ae++ab)) (λ_=>ch) (λ_ U=>U)
    refine Yr (bd) ez sc22 rfl (Zc (v:=bd) rfl (dn (Zj (Za (v:=ah) rfl (Za (v:=bd) rfl (Za (v:=vvP I) rfl (Xf rfl (Zu 4 ZUa rfl sc85.size rfl rfl ?_))))))))
    obtain ⟨ij,il,im,io,ci,ip,e1,gn,go,gp,e2⟩:=Zio (A.getP 2 rfl) a9;have e3:=e2 rfl;replace A:=A.derive 2 rfl (ZMt (ZPz.sl) (C.BD B) [ci] (ae++ab)) (λ_=>e3) (λ_ L=>Zcp L)
    refine Yr (ci) (Jq (off:=4) (sz:=1) e1 rfl) sc85 rfl (Zf [bd,ci] _ Tryz.func84 rfl rfl rfl (Zk0 ((C.CL B).getD a3 ZEu) (C.BD B) h _ (A.getP 1 rfl) (A.getP 0 rfl)) ?_)
    rintro _ iq ⟨aq,aa,fx,rfl,h,e4,e5,e6⟩;refine rt ?_
    replace A:=A.push e6 (ZM8 (ZT0 2 (eI.tr)) aq [aa] fx) e4 e5;obtain ⟨e7,e8⟩:=Y4 (A.getM 0 rfl).1;subst e8;replace A:=A.recast (c:=own 2 1 aa aq.length (eI.encs aq)) (λ_ L=>L) (λ_=>e7)
    refine Yn (sz:=1) A [(0,aa)] [aa] rfl (λ_=>Zaj aa (Zdw (A.getM 0 rfl)) _) rfl (by decide) λa6 ir am A=>?_
    replace A:=A.pushM0 (Yf (ZT0 2 (eI.tr)) [] [] []) (Zaa _ _) rfl;replace A:=A.sM [2,0,1,3] (M':=[own 2 1 aa aq.length (eI.encs aq),Yf (ZT0 2 (eI.tr)) [] [] [],own 22 1 (.slice (some ⟨a6,0,none⟩) 1 1) 1 [aa],ZM8 (ZT0 22 (ZT0 2 (eI.tr))) ap [ah] au]) (by decide) rfl
    replace A:=A.gather (c:=Yf (ZT0 2 (eI.tr)) [aq] [aa] [(ZNu (ZFo aa))]) (λx_ G=>Zer G) (λaj ak al=>Zdu (c:=[aa]) (id (Xx aj)) ak al)
    replace A:=A.sM [1,0,2] (M':=[own 22 1 (.slice (some ⟨a6,0,none⟩) 1 1) 1 [aa],Yf (ZT0 2 (eI.tr)) [aq] [aa] [(ZNu (ZFo aa))],ZM8 (ZT0 22 (ZT0 2 (eI.tr))) ap [ah] au]) (by decide) rfl
    replace A:=A.gather (c:=ZM8 (ZT0 22 (ZT0 2 (eI.tr))) [aq] [.slice (some ⟨a6,0,none⟩) 1 1] ((ZNu (ZFo (.slice (some ⟨a6,0,none⟩) 1 1)))++([(ZNu (ZFo aa))]:List (List Nat)).flatten)) (λx_ G=>ZEt.1 G) (λaj ak al=>J0 aj ak al)
    replace A:=A.sM [1,0] (M':=[ZM8 (ZT0 22 (ZT0 2 (eI.tr))) ap [ah] au,ZM8 (ZT0 22 (ZT0 2 (eI.tr))) [aq] [.slice (some ⟨a6,0,none⟩) 1 1] ((ZNu (ZFo (.slice (some ⟨a6,0,none⟩) 1 1)))++([(ZNu (ZFo aa))]:List (List Nat)).flatten)]) (by decide) rfl
    obtain ⟨e9,h⟩:=h;refine Zeq A ZUw Jw rfl (by decide) (by decide) rfl rfl e9 λcw fy iu A=>Zc (v:=cw) rfl (done (Zq (Zd (Zj (Zo rfl rfl (Za (v:=vI (ZHf.wrap ((a3:Int)+1))) rfl (done ?_)))))))
    exact ey (ap++[aq]) _ _ ⟨cw,fy,(sl ⟨rfl,rfl,rfl,rfl,(tr rfl (congrArg _ (Z7 a4 ex))),trivial⟩),(A.sP [2,3,4,5,6,7,8] rfl)⟩ h
   ·clear A h;rintro ap e_ iv fw ⟨ah,au,az,A⟩ h;rw [ue az];refine sr (Zn rfl rfl (dn (ZMu (Z2 rfl (decide_eq_false (by omega)) ?_))))
    refine ZM9 (Zk (Zk (Zy ?_)))
    refine Zd (sr (Za (v:=vvP I) rfl (Za (v:=ah) rfl (Zf [ah] _ ZXn rfl rfl rfl (Zgh ap h _ (Tr.trep _ (A.getM 0 rfl).1)) ?_))))
    rintro _ iw ⟨cx,bq,be,rfl,h,fa,fb,fc⟩;refine rt ?_
    replace A:=A.push fc (ZM8 (ZT0 22 (ZT0 2 (eI.tr))) cx [bq] be) fa fb;refine Xf rfl (Zu 5 ZUa rfl sc85.size rfl rfl ?_)
    replace A:=(A.sP [1,2,3,4,5,6] (Ps':=[cpx C 125 mb0 D356 (ae++ab),ZMt TForm.sl a0.images [u0_1] fp0,ZMt TInts a0.degrees [u0_0] fp0,ZMt TAlg a0 [u0_0,u0_1] fp0,blk b0 32 [u0_0,u0_1],blk bp0 198 [vQ b0,.map (some mb0)]]) rfl).back hz360 es;obtain ⟨hmx570,h⟩:=h;replace A:=A.sM [1,0,2] (M':=[ZM8 (ZT0 22 (ZT0 2 (eI.tr))) cx [bq] be,cpx C 125 mb0 D356 (ae++ab),ZM8 (ZT0 22 (ZT0 2 (eI.tr))) ap [ah] au]) (by decide) rfl
    replace A:=A.recast (c:=ZM8 (ZT0 22 (ZT0 2 (eI.tr))) (C.KL B) [bq] be) (λ_ L=>L) (λL=>hmx570 ▸ L)
    replace A:=A.sM [1,0,2] (M':=[cpx C 125 mb0 D356 (ae++ab),ZM8 (ZT0 22 (ZT0 2 (eI.tr))) (C.KL B) [bq] be,ZM8 (ZT0 22 (ZT0 2 (eI.tr))) ap [ah] au]) (by decide) rfl
    refine Zry A a9 sc85.size rfl rfl (λD571 ix hx573 br A=>?_)
    have hle575:=(aw.trans (((((a7.some (λ_ q_=>q_.elim)).trans bz).trans hx357).trans hx573).done (Zrx (A.getM 0 rfl) br)))
    refine dn (sr (Za (v:=vvP I) rfl (Zc (v:=vvP I) rfl (dn (ZM3 ?_)))))
    exact Zi rfl (Ze rfl) ⟨I,D571,((ae++ab)++be),rfl,h,br,hle575,(A.getM 0 rfl),(λx_ G=>(A.anyX 0 rfl x_ G).symm),A.belO⟩ (.inl rfl)
   ·skip;exact⟨.slice (some ⟨a2,0,none⟩) 0 0,((ZNu (ZFo (.slice (some ⟨a2,0,none⟩) 0 0)))++([]:List (List Nat)).flatten),(slq rfl),A⟩
 ·replace h:=h.2;refine Zrz true ZUw (tr rfl bs) rfl rfl ?_
  have cm:=cj _ rfl;refine dn (Z3 rfl rfl (sr (Za (v:=vvP I) rfl (Zc (v:=vvP I) rfl (dn ?_)))))
  refine ZM3 (Zl ?_)
  exact Zi rfl (Ze rfl) ⟨I,fi,fj,rfl,h,cm,aw,(A.getM 0 rfl),(λx_ G=>(A.anyX 0 rfl x_ G).symm),A.belO⟩ (.inl rfl)
end Go.Proofs.YtaagfepgbofmlaaGreat
namespace Go.Proofs.YtaagfepgbofmlaaGreat
open Go Go.RowKit Vc
def Ziu (C:Cx) (a:Alg) (n:Int):Prop:=Zk1 C a n True
theorem Zr4 (C:Cx) (a:Alg) (n:Int) {cb ab mb:Nat} {A B:Value} {fpA:List Nat} {D:List Lev} {F:List Nat} (h:Ziu C a n) (w0:World)
  (G:TAlg.rep a [A,B] fpA w0) (qa:(blk ab 32 [A,B]).holds w0) (qc:(blk cb 198 [.pointer (some ⟨ab,0,none⟩),.map (some mb)]).holds w0) (qx:(cpx C 125 mb D F).holds w0)
  (dq:∀ b,b∈fpA→b∉(cpx C 125 mb D F).fp) (da:ab∉(cpx C 125 mb D F).fp) (dc:cb∉(cpx C 125 mb D F).fp) (hr:Ze3 D) :
  Calls ZMx 79 #[.pointer (some ⟨cb,0,none⟩),.int .i64 n] w0 λe w'=>∃ (b:Nat) (D':List Lev) (F':List Nat),
   e=.returned (vvP b)∧LvAt D' n b true true∧CpLe D D' F F'∧(cpx C 125 mb D' F').holds w'∧(∀ x,x∈(cpx C 125 mb D' F').fp→x∈(cpx C 125 mb D F).fp∨w0.heap.size≤x)∧BelO (cpx C 125 mb D F).fp w0 w':=by
 refine(Zz7 C a n h w0 G qa qc qx dq da dc hr).mono ?_
 rintro e w' ⟨b,D',F',I,_,L⟩;exact⟨b,D',F',I,L⟩
end Go.Proofs.YtaagfepgbofmlaaGreat
