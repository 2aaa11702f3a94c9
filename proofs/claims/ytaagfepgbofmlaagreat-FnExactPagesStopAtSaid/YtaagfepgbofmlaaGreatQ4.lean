import Derived.Test.YtaagfepgbofmlaaGreatQ3
set_option linter.unusedSectionVars false
set_option linter.unusedSimpArgs false
set_option linter.unusedVariables false
open Go renaming wp_seq→ZB9,wp_block→ZCf,wp_skip→ZCd,wp_ret→ZCi,wp_exit→ZCo
open Go.IntKind renaming i64→Zwt
open Go.Proofs.Tryz renaming underlying85→ZKd,underlying22→ZCs,prog→ZCc,underlying125→ZJo,func86→ZM8,func138→ZM9,func139→ZNa,func140→ZNb
open Go.Value renaming ownBlock→Fe
open Inhabited renaming default→Ci
open Int renaming tmod→Fa,natCast_nonneg→ZCq,ofNat_lt→ZC9,tdiv→ZJi,toNat_of_nonneg→ZFl
open List renaming mem_append→Ch,replicate→Cd,length_eq_one_iff→ZC7,toArray→ZB7,mem_singleton_self→ZJp,mem_cons→Cb,not_mem_nil→Zwd,pairwise_singleton→ZK0
open Nat renaming lt_of_le_of_lt→ZFu,zero_le→Fq,le_of_ble_eq_true→ZCh
open Option renaming toList→ZDa
open Vc renaming TInts→ZFf
open Vc.Ctx renaming start→ZCu
open Vc.Enc renaming encs_append→ZC1
open Vc.Tr renaming sl→ZJh,item→ZCn
open Vc.Ty renaming item→ZB8,allItem→ZM7
set_option maxRecDepth 4000
set_option maxHeartbeats 4000000
namespace Go.Proofs.YtaagfepgbofmlaaGreat
open Go Go.RowKit Vc
variable {b0 bp0 b1 bp1 b2 bp2 b3 bp3 b4 bp4 b5 bp5 b6 bp6 b7 bp7 mb0:Nat} {Ia Ic Ij Ip Iq Ir Ie Iu u1_2 u1_3 u1_4 u1_5 Ik u2_1 u2_2 u2_3 u2_4 u2_5 u3_0 u3_1 u3_2 u3_3 u3_4 u3_5 Is u4_1 u4_2 u4_3 u4_4 u4_5 u5_0 u5_1 u5_2 u5_3 u5_4 u5_5 u6_0 u6_1 u6_2 u6_3 u6_4 u6_5 u7_0 u7_1 u7_2 u7_3 u7_4 u7_5:Value} {Ib Ig It fp3 fp4 fp5 fp6 fp7 fp0_0 fp0_1 fp0_2 fp0_3 fp0_4 fp0_5 fp1_0 fp1_1 fp1_2 fp1_3 fp1_4 fp1_5 F0:List Nat} {D0:List Lev}
theorem U1  (w:World):(Instr.buildSlice 22 0 #[]).run ZCc w=.ok (.slice (some ⟨w.heap.size,0,none⟩) 0 0) (w.alloc (.cells (ZB7 ((EI .i64).encs [])) 2)):=by kernel_rfl
theorem Zps (x0:Value) (x1:Value) (h:Qr x0) (A:Qr x1) (w:World):(Instr.buildSlice 85 2 #[(0,x0),(1,x1)]).run ZCc w=.ok (.slice (some ⟨w.heap.size,0,none⟩) 2 2) (w.alloc (.cells (ZB7 [x0,x1]) 22)):=by obtain ⟨_,_,_,rfl⟩:=h; obtain ⟨_,_,_,rfl⟩:=A; kernel_rfl
def Sy (A:List Int) (h:Int) (K:Bool->Prop):Prop :=
 ((0<=h/\h < (A.length:Int))/\K (decide (A.getD h.toNat Ci≠0)))
theorem Zpt (L:List Int) (A:Int)  {K:Bool->Prop} (h:Sy L A K) (w0:World) (V:ZFf.rep L [Ia] Ib w0) (O:(blk b1 3 [vI A]).holds w0) :
  Calls ZCc 142 #[Ia,vQ b1] w0 λe w'=>∃ (U:Bool),
   e=.returned (.bool U)/\K U/\Bel w0 w':=by
 unfold Sy at h
 refine cof Tryz.func142 rfl 9 Tryz.ntmps142 ?_
 have B:=ZCu (X:=Nox) w0 [ZB8 TInts L [Ia] Ib,blk b1 3 [vI A]] (alc V (al1 O));refine sr (Zd (v:=.bool false) rfl (dn (sr (Za (v:=Ia) rfl (U9 (vI A) (B.Iw 1 rfl) sc3 rfl rfl ?_)))))
 obtain ⟨⟨h0_3,h1_4⟩,h⟩:=h;obtain ⟨Ad5,c6,I⟩:=Zx (B.Iw 0 rfl) A.toNat (show A.toNat < L.length by omega)
 refine Yn (len:=L.length) ZCs sc2.size (tr rfl I) rfl h0_3 h1_4 (Ye (vI (L.getD A.toNat Ci)) (Yi (B.Iw 0 rfl) I A.toNat (show A.toNat < L.length by omega)) sc2 rfl (Xl rfl rfl (Zd (v:=.bool (decide (L.getD A.toNat Ci≠0))) rfl (dn (ZCi ?_)))))
 exact Zj rfl (Zg rfl) ⟨decide (L.getD A.toNat Ci≠0),rfl,h,B.below⟩ (.inl rfl)
def Sz (h:Int) (K:Bool->Prop):Prop :=
 K (decide (h≠0))
theorem Zpu (A:Int)  {K:Bool->Prop} (h:Sz A K) (w0:World)  :
  Calls ZCc 186 #[vI A] w0 λe w'=>∃ (B:Bool),
   e=.returned (.bool B)/\K B/\Bel w0 w':=by
 unfold Sz at h
 refine cof Tryz.func186 rfl 5 Tryz.ntmps186 ?_
 have I:=ZCu (X:=Nox) w0 [] (by simp)
 refine sr (Zd (v:=.bool false) rfl (dn (sr (Za (v:=vI A) rfl (Xl rfl rfl (Zd (v:=.bool (decide (A≠0))) rfl (dn (ZCi ?_))))))))
 exact Zj rfl (Zg rfl) ⟨decide (A≠0),rfl,h,I.below⟩ (.inl rfl)
def Nd (h:List Int) (K:Int->Prop):Prop :=
 St h Sz (λA=>K A)
theorem Zgs (A:List Int)  {K:Int->Prop} (h:Nd A K) (w0:World) (V:ZFf.rep A [Ia] Ib w0) :
  Calls ZCc 138 #[Ia] w0 λe w'=>∃ (I:Int),
   e=.returned (vI I)/\K I/\Bel w0 w':=by
 unfold Nd at h
 refine cof ZM9 rfl 5 Tryz.ntmps138 ?_
 have B:=ZCu (X:=Nox) w0 [ZB8 TInts A [Ia] Ib] (al1 V);refine sr (Zd (v:=vI 0) rfl (dn (sr (Za (v:=Ia) rfl (Zf [Ia,.func (.func 186) #[] (ZB7 [])] _ Tryz.func185 rfl rfl rfl (Zfm A Sz h _ (B.Iw 0 rfl) Tryz.func186 rfl rfl (λL K_ w_ _ O=>Zpu L O w_)) ?_)))))
 rintro _ w4 ⟨U,rfl,h,hB6⟩;refine rt ?_
 replace B:=B.Iy hB6;refine Zd (v:=vI U) rfl (dn (ZCi ?_))
 exact Zj rfl (Zg rfl) ⟨U,rfl,h,B.below⟩ (.inl rfl)
def Hl (h:List Int) (K:List Int->Prop):Prop :=
 ((h=[]->K [])/\(Zw (0+h.length) 8/\K h))
theorem Zgt (B:List Int)  {K:List Int->Prop} (h:Hl B K) (w0:World) (q0:ZFf.rep B [Ia] Ib w0) :
  Calls ZCc 139 #[Ia] w0 λe w'=>∃ (V:List Int) (Ih:Value) (O:List Nat),
   e=.returned (Ih)/\K V/\(ZCn (ZJh 2 (eI.tr)) V [Ih] O).holds w'/\(∀ b,b∈O->w0.heap.size<=b)/\Bel w0 w':=by
 unfold Hl at h
 refine cof ZNa rfl 8 Tryz.ntmps139 ?_
 have A:=ZCu (X:=Nox) w0 [ZB8 TInts B [Ia] Ib] (al1 q0);refine sr (Zd (v:=.slice none 0 0) rfl (dn (ZB9 (sr (Za (v:=Ia) rfl ?_)))))
 rcases Zn8 (A.Iw 0 rfl) with ⟨z4,z5,I,aa⟩ | ⟨z6,z7,z8,I⟩
 ·replace h:=h.1 aa;refine E9 true ZCs (tr rfl I) rfl rfl (dn (Z8 rfl rfl (sr (Zd (v:=.slice none 0 0) rfl (dn ?_)))))
  refine ZCi (Zn ?_)
  exact Zj rfl (Zg rfl) ⟨[],.slice none 0 0,[],rfl,h,(Mg _ _ _),(λb hb=>absurd hb (by simp)),A.below⟩ (.inl rfl)
 ·replace h:=h.2;refine E9 false ZCs (tr rfl I) rfl rfl (dn (Z4 rfl rfl (ZCd (Ze (sr (Yd (sz:=1) A [] (eI.encs []) rfl (λ_=>U1  _) rfl (by decide) λb9 ab ac A=>Za (v:=Ia) rfl ?_))))))
  obtain ⟨U,h⟩:=h;refine Jg A 0 ZCs el2 rfl (by decide) (by decide) rfl (Eh (A.Iw 0 rfl)) (λq hq=>Enc.encs_one' (E:=eI) _ q hq) rfl rfl U λL ad A=>?_
  replace A:=Y7 A 0 (B.length) (eI.encs B) rfl (by simp) (by first | (simp [ZC1]; done) | simp [ZC1,Enc.encs])
  refine Zd (v:=L) rfl (dn (ZCi ?_))
  exact Zj rfl (Zg rfl) ⟨B,L,(ZDa (Fe L)),rfl,h,(Xi (A.Ix 0 rfl)),(Xg A 0 rfl),A.below⟩ (.inl rfl)
def M1 (L:List Int) (U:List Int) (O:Int) (K:List Int->Prop):Prop :=
 Z1 (λh (A:(List Int)) B=>((0<=(h:Int)/\(h:Int) < (A.length:Int))/\T3 (Zwt.wrap ((A.getD h Ci) - (Fa (Zwt.wrap (O * (U.getD h Ci))) 10007))) (λI=>((0<=(h:Int)/\(h:Int) < (A.length:Int))/\B (A.set h I))))) (λ(A:(List Int))=>K A) U.length 0 L
theorem Zgu (a0:List Int) (a1:List Int) (U:Int)  {K:List Int->Prop} (h:M1 a0 a1 U K) (w0:World) (ah:(own 2 1 Ia a0.length (eI.encs a0)).holds w0) (q1:ZFf.rep a1 [Ie] Ig w0) (ai:∀ b,b∈Ig->b∉(ZDa (Fe Ia))) :
  Calls ZCc 140 #[Ia,Ie,vI U] w0 λe w'=>∃ (mw:List Int),
   e=.returned (.tuple #[])/\K mw/\(own 2 1 Ia mw.length (eI.encs mw)).holds w'/\BelO ((ZDa (Fe Ia))) w0 w':=by
 unfold M1 at h
 refine cof ZNb rfl 29 Tryz.ntmps140 ?_
 have I:=Ctx.startL w0 ((ZDa (Fe Ia))) [own 2 1 Ia a0.length (eI.encs a0)] [ZB8 TInts a1 [Ie] Ig] (by simp only [Cb,Zwd,or_false,forall_eq_or_imp,forall_eq]; exact ah) (by simp only [Cb,Zwd,or_false,forall_eq_or_imp,forall_eq]; exact q1) (by simp only [Cb,Zwd,or_false,forall_eq_or_imp,forall_eq]; exact λb hb=>hb) (ZK0 _ _) (by simp only [Cb,Zwd,or_false,forall_eq_or_imp,forall_eq]; exact ai)
 refine sr (Za (v:=Ie) rfl (Zu I 0 rfl ZCs rfl (Za (v:=vI 0) rfl (dn (ZCf ?_)))))
 have ad:a1.length<=9223372036854775807:=Yz (I.Iw 0 rfl);refine Yh (S:=(List Int)) _ _ (λA B e_ w_=>Zt e_ [(0,Ia),(2,vI U),(8,Ie),(9,vI (a1.length:Int)),(10,vI (A:Int))]/\Ctx (λc_=>c_∈(ZDa (Fe Ia))) w0 w_ [own 2 1 Ia B.length (eI.encs B)] [ZB8 TInts a1 [Ie] Ig]) a1.length ?_ ?_ (s0:=a0) ?_ h
 ·clear I h;rintro A B e_ au ao aj O ⟨V,I⟩ h ae;rw [ue V];refine sr (Zl rfl rfl (dn (ZB9 (Z8 rfl (decide_eq_true (by omega)) (ZCd (Ze (ZB9 (ZCf (sr (Za (v:=vI (A:Int)) rfl ?_))))))))))
  obtain ⟨ap,av,aa⟩:=Zx (I.Iw 0 rfl) A O;refine Yn (len:=a1.length) ZCs sc2.size (tr rfl aa) rfl (ZCq _) (ZC9.2 O) (Ye (vI (a1.getD A Ci)) (Yi (I.Iw 0 rfl) aa A O) sc2 rfl (Zd (v:=vI (A:Int)) rfl (Zd (v:=vI (a1.getD A Ci)) rfl (dn (Zh (Za (v:=Ia) rfl (Za (v:=vI (A:Int)) rfl (Za (v:=Ia) rfl (Za (v:=vI (A:Int)) rfl ?_)))))))))
  obtain ⟨⟨ak,al⟩,h⟩:=h;obtain ⟨aq,aw,ab⟩:=Xx (I.Ix 0 rfl) (ZFu (Fq _) (show A < B.length by omega))
  refine X4 (A * 1) ZCs sc2.size (tr rfl ab) rfl ak al rfl (Ye (vI (B.getD A Ci)) (J7 (I.Ix 0 rfl) ab A (show A < B.length by omega)) sc2 rfl (Za (v:=vI U) rfl (Za (v:=vI (a1.getD A Ci)) rfl (Wz rfl rfl (Jf rfl rfl (by decide) (X5 rfl rfl (Zf [vI (Zwt.wrap ((B.getD A Ci) - (Fa (Zwt.wrap (U * (a1.getD A Ci))) 10007)))] _ Tryz.func187 rfl rfl rfl (Za7 (Zwt.wrap ((B.getD A Ci) - (Fa (Zwt.wrap (U * (a1.getD A Ci))) 10007))) h _) ?_)))))))
  rintro _ ax ⟨L,rfl,h,ag⟩;refine rt ?_
  replace I:=I.Iy ag;obtain ⟨⟨am,an⟩,h⟩:=h;obtain ⟨ar,ay,ac⟩:=Xx (I.Ix 0 rfl) (ZFu (Fq _) (show A < B.length by omega))
  refine X4 (A * 1) ZCs sc2.size (tr rfl ac) rfl am an rfl (U6 (v:=vI L) I 0 [vI L] (eI.encs (B.set A L)) rfl ac sc2.size rfl rfl rfl rfl rfl (by rw [Enc.encs_len]; exact W8 (sz:=1) (show A < B.length by omega)) (U7 _ _ _ (show A < B.length by omega)) λaz I=>?_)
  replace I:=Y7 I 0 ((B.set A L).length) (eI.encs (B.set A L)) rfl (by simp) rfl
  refine done (Zr (Ze (Zh (Zm rfl rfl (Za (v:=vI (Zwt.wrap ((A:Int)+1))) rfl (done ?_))))))
  exact ae (B.set A L) _ _ ⟨(sl ⟨rfl,rfl,rfl,rfl,(tr rfl (I1 _ (Z2 O ad))),trivial⟩),I⟩ h
 ·clear I h;rintro B e_ a3 aj ⟨V,I⟩ h;rw [ue V];refine sr (Zl rfl rfl (dn (ZB9 (Z4 rfl (decide_eq_false (by omega)) ?_))))
  refine ZCo (Zi (Zi (Zy ?_)))
  exact Tw rfl  ⟨B,rfl,h,(I.Ix 0 rfl),I.belO⟩ (.inr rfl)
 ·skip;exact⟨(slq rfl),I⟩
def S0 (O:List Int) (V:List (List Int)) (K:List Int->Prop):Prop :=
 Hl O (λU=>Z1 (λB (h:(List Int)) I=>Nd (V.getD B Ci) (λA=>((0<=A/\A < (h.length:Int))/\M1 h (V.getD B Ci) (h.getD A.toNat Ci) (λL=>I L)))) (λ(h:(List Int))=>K h) V.length 0 U)
theorem Zgv (a0:List Int) (a1:List (List Int))  {K:List Int->Prop} (h:S0 a0 a1 K) (w0:World) (q0:ZFf.rep a0 [Ia] Ib w0) (q1:(ZFf.sl).rep a1 [Ie] Ig w0) :
  Calls ZCc 84 #[Ia,Ie] w0 λe w'=>∃ (r0:List Int) (Ih:Value) (ai:List Nat),
   e=.returned (Ih)/\K r0/\(ZCn (ZJh 2 (eI.tr)) r0 [Ih] ai).holds w'/\(∀ b,b∈ai->w0.heap.size<=b)/\Bel w0 w':=by
 unfold S0 at h
 refine cof Tryz.func84 rfl 25 Tryz.ntmps84 ?_
 have A:=ZCu (X:=Nox) w0 [ZB8 TInts a0 [Ia] Ib,ZB8 (ZFf.sl) a1 [Ie] Ig] (alc q0 (al1 q1));refine sr (Zd (v:=.slice none 0 0) rfl (dn (sr (Za (v:=Ia) rfl (Zf [Ia] _ ZNa rfl rfl rfl (Zgt a0 h _ (A.Iw 0 rfl)) ?_)))))
 rintro _ w5 ⟨r6,u7,f8,rfl,h,aw,aj,ak⟩;refine rt ?_
 replace A:=A.push ak (ZCn (ZJh 2 (eI.tr)) r6 [u7] f8) aw aj;obtain ⟨al,am⟩:=Yx (A.Ix 0 rfl).1;subst am;replace A:=A.Iz (c:=own 2 1 u7 r6.length (eI.encs r6)) (λ_ h_=>h_) (λ_=>al)
 refine Zd (v:=u7) rfl (dn (ZB9 (sr (Za (v:=Ie) rfl (Zu A 1 rfl ZKd rfl (Za (v:=vI 0) rfl (dn (ZCf ?_))))))))
 have an:a1.length<=9223372036854775807:=Yz (A.Iw 1 rfl);refine Yh (S:=(List Int)) _ _ (λL I e_ w_=>∃ (B:Value),Zt e_ [(0,B),(9,Ie),(10,vI (a1.length:Int)),(11,vI (L:Int))]/\Ctx Nox w0 w_ [own 2 1 B I.length (eI.encs I)] [ZB8 TInts a0 [Ia] Ib,ZB8 (ZFf.sl) a1 [Ie] Ig]) a1.length ?_ ?_ (s0:=r6) ?_ h
 ·clear A h;rintro L I e_ a6 a3 ax O ⟨B,aa,A⟩ h ao;rw [ue aa];refine sr (Zl rfl rfl (dn (ZB9 (Z8 rfl (decide_eq_true (by omega)) (ZCd (Ze (ZB9 (ZCf (sr ?_)))))))))
  obtain ⟨a4,a7,ab⟩:=Zx (A.Iw 1 rfl) L O;refine Yn (len:=a1.length) ZKd If.size (tr rfl ab) rfl (ZCq _) (ZC9.2 O) ?_
  obtain ⟨a8,ac,ap,ad⟩:=Xb (A.Iw 1 rfl) ab L O;obtain ⟨U,rfl⟩:=ZC7.1 ac;clear ac;rw [Y9 _ _ O] at ad
  replace A:=A.I0 1 rfl (ZB8 TInts (a1.getD L Ci) [U] Ig) (λ_=>ad) (λ_ ae=>ae)
  refine Ye (U) ap If rfl (Zd (v:=U) rfl (dn (Zh (Za (v:=B) rfl (Za (v:=U) rfl (Za (v:=B) rfl (Za (v:=U) rfl (Zf [U] _ ZM9 rfl rfl rfl (Zgs (a1.getD L Ci) h _ (A.Iw 0 rfl)) ?_))))))))
  rintro _ a9 ⟨V,rfl,h,aq⟩;refine rt ?_
  replace A:=A.Iy aq;obtain ⟨⟨ay,az⟩,h⟩:=h;obtain ⟨a5,ba,ag⟩:=Xx (A.Ix 0 rfl) (ZFu (Fq _) (show V.toNat < I.length by omega))
  refine X4 (V.toNat * 1) ZCs sc2.size (tr rfl ag) rfl ay az rfl (Ye (vI (I.getD V.toNat Ci)) (J7 (A.Ix 0 rfl) ag V.toNat (show V.toNat < I.length by omega)) sc2 rfl (Zf [B,U,vI (I.getD V.toNat Ci)] _ ZNb rfl rfl rfl (Zgu I (a1.getD L Ci) (I.getD V.toNat Ci) h _ (A.Ix 0 rfl) (A.Iw 0 rfl) (λb_ ae ar=>A.pdk 0 0 rfl rfl b_ ae ar)) ?_))
  rintro _ bb ⟨ah,rfl,h,au,av⟩;refine rt ?_
  replace A:=A.turnL av (M':=[own 2 1 B ah.length (eI.encs ah)]) rfl (λx_ a2=>⟨_,mg 0 rfl,a2⟩) (by simp only [Cb,Zwd,or_false,forall_eq_or_imp,forall_eq]; exact au)
  refine done (Zr (Ze (Zh (Zm rfl rfl (Za (v:=vI (Zwt.wrap ((L:Int)+1))) rfl (done ?_))))))
  exact ao ah _ _ ⟨B,(sl ⟨rfl,rfl,rfl,(tr rfl (I1 _ (Z2 O an))),trivial⟩),(A.sP [1,2] rfl)⟩ h
 ·clear A h;rintro I e_ bc ax ⟨B,aa,A⟩ h;rw [ue aa];refine sr (Zl rfl rfl (dn (ZB9 (Z4 rfl (decide_eq_false (by omega)) ?_))))
  refine ZCo (Zi (Zi (Zy ?_)))
  refine Ze (sr (Za (v:=B) rfl (Zd (v:=B) rfl (dn (ZCi ?_)))))
  exact Zj rfl (Zg rfl) ⟨I,B,(ZDa (Fe B)),rfl,h,(Xi (A.Ix 0 rfl)),(Xg A 0 rfl),A.below⟩ (.inl rfl)
 ·skip;exact⟨u7,(slq rfl),A⟩
def Nf (O:List (List Int)) (L:(List Int)->(Bool->Prop)->Prop) (K:Int->Prop):Prop :=
 Z1 (λh (B:Unit) A=>L (O.getD h Ci) (λI=>(if I=true then K (h:Int) else A ()))) (λ(B:Unit)=>K (-1)) O.length 0 ()
theorem Zgw (a0:List (List Int)) (p1:(List Int)->(Bool->Prop)->Prop)  {K:Int->Prop} (h:Nf a0 p1 K) (w0:World) (q0:(ZFf.sl).rep a0 [Ia] Ib w0) {g1:Nat} {cp1:List Value} {fn1:Func} (hf1:ZCc.funcs[g1]? = some fn1) (hb1:fn1.body.isNone=false) (hn1:(fn1.name == "runtime.NumGoroutine")=false) (hp1:∀ (y0:List Int) (yu0_0:Value) (yf0:List Nat) (K_:Bool->Prop) (w_:World),Bel w0 w_->ZFf.rep y0 [yu0_0] yf0 w_->p1 y0 K_->Calls ZCc g1 (ZB7 ([yu0_0]++cp1)) w_ λe w'=>∃ (z0:Bool),e=.returned (.bool z0)/\K_ z0/\Bel w_ w') :
  Calls ZCc 141 #[Ia,.func (.func g1) #[] (ZB7 cp1)] w0 λe w'=>∃ (r0:Int),
   e=.returned (vI r0)/\K r0/\Bel w0 w':=by
 unfold Nf at h
 refine cof Tryz.func141 rfl 19 Tryz.ntmps141 ?_
 have hC:=ZCu (X:=Nox) w0 [ZB8 (ZFf.sl) a0 [Ia] Ib] (al1 q0);refine sr (Zd (v:=vI 0) rfl (dn (ZB9 (sr (Za (v:=Ia) rfl (Zu hC 0 rfl ZKd rfl (Za (v:=vI 0) rfl (dn (ZCf ?_)))))))))
 have hN10:a0.length<=9223372036854775807:=Yz (hC.Iw 0 rfl);refine Yh (S:=Unit) _ _ (λi10 s10 e_ w_=>Zt e_ [(0,Ia),(1,.func (.func g1) #[] (ZB7 cp1)),(7,vI (a0.length:Int)),(8,vI (i10:Int))]/\Ctx Nox w0 w_ [] [ZB8 (ZFf.sl) a0 [Ia] Ib]) a0.length ?_ ?_ (s0:=()) ?_ h
 ·clear hC h;rintro i10 s10 e_ w10 nx10 K10 hi10 ⟨hS_,hC⟩ h hK10;rw [ue hS_];refine sr (Zl rfl rfl (dn (ZB9 (Z8 rfl (decide_eq_true (by omega)) (ZCd (Ze (ZB9 (ZCf (sr (Za (v:=vI (i10:Int)) rfl (Zd (v:=vI (i10:Int)) rfl (dn (sr (Za (v:=.func (.func g1) #[] (ZB7 cp1)) rfl (Za (v:=Ia) rfl (Za (v:=vI (i10:Int)) rfl ?_))))))))))))))))
  obtain ⟨Ad10,c10,hv10⟩:=Zx (hC.Iw 0 rfl) i10 hi10;refine Yn (len:=a0.length) ZKd If.size (tr rfl hv10) rfl (ZCq _) (ZC9.2 hi10) ?_
  obtain ⟨cs_,hl10,hc10,hr10⟩:=Xb (hC.Iw 0 rfl) hv10 i10 hi10;obtain ⟨u10,rfl⟩:=ZC7.1 hl10;clear hl10;rw [Y9 _ _ hi10] at hr10
  replace hC:=hC.I0 0 rfl (ZB8 TInts (a0.getD i10 Ci) [u10] Ib) (λ_=>hr10) (λ_ hb_=>hb_)
  refine Ye (u10) hc10 If rfl ?_
  refine Zaj [u10] _ rfl hf1 hb1 hn1 rfl (hp1 _ _ _ _ _ hC.below (hC.Iw 0 rfl) h) (λret10 w11 hR10=>?_)
  obtain ⟨r10,rfl,h,hB10⟩:=hR10;refine⟨_,rfl,?_⟩
  replace hC:=hC.Iy hB10;refine dn ?_
  refine Zs rfl (λhb10=>?_) (λhb10=>?_)
  ·replace h:=ift h (hb10);refine sr (Za (v:=vI (i10:Int)) rfl (Zd (v:=vI (i10:Int)) rfl (dn ?_)))
   refine ZCi (Z9 (Zn (Zn (Z9 (Zn ?_)))))
   exact Zj rfl (Zg rfl) ⟨(i10:Int),rfl,h,hC.below⟩ (.inl rfl)
  ·replace h:=Zk h (Xe hb10);refine ZCd (Zr (Ze (Zh (Zm rfl rfl (Za (v:=vI (Zwt.wrap ((i10:Int)+1))) rfl (done ?_))))))
   exact hK10 () _ _ ⟨(sl ⟨rfl,rfl,rfl,(tr rfl (I1 _ (Z2 hi10 hN10))),trivial⟩),(hC.sP [1] rfl)⟩ h
 ·clear hC h;rintro s10 e_ w12 K10 ⟨hS_,hC⟩ h;rw [ue hS_];refine sr (Zl rfl rfl (dn (ZB9 (Z4 rfl (decide_eq_false (by omega)) ?_))))
  refine ZCo (Zi (Zi (Zy ?_)))
  refine Ze (sr (Zd (v:=vI (-1)) rfl (dn (ZCi ?_))))
  exact Zj rfl (Zg rfl) ⟨(-1),rfl,h,hC.below⟩ (.inl rfl)
 ·skip;exact⟨(slq rfl),hC⟩
def Hm (h:Int) (K:Int->Prop):Prop :=
 Xv (λ(A:Int×Int×Int) next7=>(if A.2.2 > 0 then(if Fa A.2.2 2=1 then next7 (Fa (Zwt.wrap (A.1 * A.1)) 10007,Fa (Zwt.wrap (A.2.1 * A.1)) 10007,Zwt.wrap (ZJi A.2.2 2)) else next7 (Fa (Zwt.wrap (A.1 * A.1)) 10007,A.2.1,Zwt.wrap (ZJi A.2.2 2))) else K A.2.1)) (h,1,10005)
theorem Zpv (L:Int)  {K:Int->Prop} (h:Hm L K) (w0:World)  :
  Calls ZCc 143 #[vI L] w0 λe w'=>∃ (O:Int),
   e=.returned (vI O)/\K O/\Bel w0 w':=by
 unfold Hm at h
 refine cof Tryz.func143 rfl 21 Tryz.ntmps143 ?_
 have I:=ZCu (X:=Nox) w0 [] (by simp)
 refine sr (Zd (v:=vI 0) rfl (dn (sr (Zd (v:=vI 1) rfl (dn (ZB9 (sr (Zd (v:=vI 10005) rfl (dn (ZCf ?_))))))))))
 refine Jb (S:=Int×Int×Int) _ (λs6 U w_=>Zt U [(0,vI s6.1),(3,vI s6.2.1),(4,vI s6.2.2)]/\Ctx Nox w0 w_ [] []) ?_ (s0:=(L,1,10005)) ?_ h
 ·clear I h;rintro s6 U aa next7 K8 ⟨V,I⟩ h hK9;rw [ue V];refine ZB9 (sr (Za (v:=vI s6.2.2) rfl (Jn rfl rfl (dn ?_))))
  refine Zs rfl (λA=>?_) (λA=>?_)
  ·replace h:=ift h (ct A);refine ZCd (Ze (ZB9 (ZCf (ZB9 (sr (Za (v:=vI s6.2.2) rfl (Jf rfl rfl (by decide) (X6 rfl rfl (dn ?_)))))))))
   refine Zs rfl (λB=>?_) (λB=>?_)
   ·replace h:=ift h (ct B);refine Zh (Za (v:=vI s6.2.1) rfl (Za (v:=vI s6.1) rfl (Wz rfl rfl (Jf rfl rfl (by decide) (Zd (v:=vI (Fa (Zwt.wrap (s6.2.1 * s6.1)) 10007)) rfl (dn (Zh (Za (v:=vI s6.1) rfl (Za (v:=vI s6.1) rfl (Wz rfl rfl (Jf rfl rfl (by decide) (Zd (v:=vI (Fa (Zwt.wrap (s6.1 * s6.1)) 10007)) rfl (done (Zr (Ze (Zh (Za (v:=vI s6.2.2) rfl (N4 rfl rfl (by decide) (Zd (v:=vI (Zwt.wrap (ZJi s6.2.2 2))) rfl (done ?_))))))))))))))))))))
    exact hK9 (Fa (Zwt.wrap (s6.1 * s6.1)) 10007,Fa (Zwt.wrap (s6.2.1 * s6.1)) 10007,Zwt.wrap (ZJi s6.2.2 2)) _ _ ⟨(slq rfl),I⟩ h
   ·replace h:=Zk h (cf B);refine ZCd (Ze (Zh (Za (v:=vI s6.1) rfl (Za (v:=vI s6.1) rfl (Wz rfl rfl (Jf rfl rfl (by decide) (Zd (v:=vI (Fa (Zwt.wrap (s6.1 * s6.1)) 10007)) rfl (done (Zr (Ze (Zh (Za (v:=vI s6.2.2) rfl (N4 rfl rfl (by decide) (Zd (v:=vI (Zwt.wrap (ZJi s6.2.2 2))) rfl (done ?_)))))))))))))))
    exact hK9 (Fa (Zwt.wrap (s6.1 * s6.1)) 10007,s6.2.1,Zwt.wrap (ZJi s6.2.2 2)) _ _ ⟨(slq rfl),I⟩ h
  ·replace h:=Zk h (cf A);refine ZCo (Zi (Zi (Zy ?_)))
   refine Ze (sr (Za (v:=vI s6.2.1) rfl (Zd (v:=vI s6.2.1) rfl (dn (ZCi ?_)))))
   exact Zj rfl (Zg rfl) ⟨s6.2.1,rfl,h,I.below⟩ (.inl rfl)
 ·skip;exact⟨(slq rfl),I⟩
def Uh (a0:List (List Int)) (K:List (List Int)->Prop):Prop :=
 Z1 (λab (O:(List (List Int))) V=>Hl (a0.getD ab Ci) (λac=>(Zw (O.length+1) 24/\V (O++[ac])))) (λ(O:(List (List Int)))=>Xv (λ(h:(List (List Int))×Int×Int) U=>(if h.2.1 < (h.1.length:Int) then((0<=(0:Int)/\(0:Int) < (h.1.length:Int))/\(if h.2.2 < ((h.1.getD 0 Ci).length:Int) then((0<=h.2.1/\h.2.1<=(h.1.length:Int))/\Nf (h.1.drop h.2.1.toNat) (λad K_=>Sy ad h.2.2 K_) (λI=>(if I < 0 then U (h.1,h.2.1,Zwt.wrap (h.2.2+1)) else((0<=Zwt.wrap (h.2.1+I)/\Zwt.wrap (h.2.1+I) < (h.1.length:Int))/\((0<=h.2.1/\h.2.1 < (h.1.length:Int))/\((0<=h.2.1/\h.2.1 < (h.1.length:Int))/\((0<=Zwt.wrap (h.2.1+I)/\Zwt.wrap (h.2.1+I) < (h.1.length:Int))/\((0<=h.2.1/\h.2.1 < ((Xr Ci h.1 h.2.1.toNat ((Zwt.wrap (h.2.1+I)).toNat)).length:Int))/\((0<=h.2.2/\h.2.2 < (((Xr Ci h.1 h.2.1.toNat ((Zwt.wrap (h.2.1+I)).toNat)).getD h.2.1.toNat Ci).length:Int))/\Hm (((Xr Ci h.1 h.2.1.toNat ((Zwt.wrap (h.2.1+I)).toNat)).getD h.2.1.toNat Ci).getD h.2.2.toNat Ci) (λae=>((0<=h.2.1/\h.2.1 < ((Xr Ci h.1 h.2.1.toNat ((Zwt.wrap (h.2.1+I)).toNat)).length:Int))/\Xv (λ(B:(List (List Int))×Int) aa=>(if B.2 < (((Xr Ci h.1 h.2.1.toNat ((Zwt.wrap (h.2.1+I)).toNat)).getD h.2.1.toNat Ci).length:Int) then((0<=h.2.1/\h.2.1 < (B.1.length:Int))/\((0<=h.2.1/\h.2.1 < (B.1.length:Int))/\((0<=B.2/\B.2 < ((B.1.getD h.2.1.toNat Ci).length:Int))/\((0<=B.2/\B.2 < ((B.1.getD h.2.1.toNat Ci).length:Int))/\aa (B.1.set h.2.1.toNat ((B.1.getD h.2.1.toNat Ci).set B.2.toNat (Fa (Zwt.wrap (((B.1.getD h.2.1.toNat Ci).getD B.2.toNat Ci) * ae)) 10007)),Zwt.wrap (B.2+1)))))) else Xv (λ(A:(List (List Int))×Int) L=>(if A.2 < (B.1.length:Int) then((0<=A.2/\A.2 < (A.1.length:Int))/\(if A.2≠h.2.1 then((0<=h.2.2/\h.2.2 < ((A.1.getD A.2.toNat Ci).length:Int))/\(if(A.1.getD A.2.toNat Ci).getD h.2.2.toNat Ci≠0 then((0<=h.2.1/\h.2.1 < (A.1.length:Int))/\((0<=h.2.2/\h.2.2 < ((A.1.getD A.2.toNat Ci).length:Int))/\((h.2.1.toNat≠A.2.toNat)/\M1 (A.1.getD A.2.toNat Ci) (A.1.getD h.2.1.toNat Ci) ((A.1.getD A.2.toNat Ci).getD h.2.2.toNat Ci) (λag=>L (A.1.set A.2.toNat ag,Zwt.wrap (A.2+1)))))) else L (A.1,Zwt.wrap (A.2+1)))) else L (A.1,Zwt.wrap (A.2+1)))) else U (A.1,Zwt.wrap (h.2.1+1),Zwt.wrap (h.2.2+1)))) (B.1,0))) (Xr Ci h.1 h.2.1.toNat ((Zwt.wrap (h.2.1+I)).toNat),0)))))))))))) else((0<=h.2.1/\h.2.1<=(h.1.length:Int))/\K (h.1.take h.2.1.toNat)))) else((0<=h.2.1/\h.2.1<=(h.1.length:Int))/\K (h.1.take h.2.1.toNat)))) (O,0,0)) a0.length 0 []
theorem M2 (a0:List (List Int))  {K:List (List Int)->Prop} (h:Uh a0 K) (w0:World) (q0:(ZFf.sl).rep a0 [Ia] Ib w0) :
  Calls ZCc 86 #[Ia] w0 λe w'=>∃ (r0:List (List Int)) (Ih:Value) (cv:List Nat),
   e=.returned (Ih)/\K r0/\(ZCn (ZJh 22 (ZJh 2 (eI.tr))) r0 [Ih] cv).holds w'/\(∀ b,b∈cv->w0.heap.size<=b)/\Bel w0 w':=by
 unfold Uh at h
 refine cof ZM8 rfl 132 Tryz.ntmps86 ?_
 have B:=ZCu (X:=Nox) w0 [ZB8 (ZFf.sl) a0 [Ia] Ib] (al1 q0);refine sr (Zd (v:=.slice none 0 0) rfl (dn (sr (Yd (sz:=1) B [] [] rfl (λ_=>Jl _) rfl (by decide) λb2 w3 O B=>?_))))
 replace B:=B.pushM0 (Zz (ZJh 2 (eI.tr)) ([]:List (List Int)) [] []) (Xn _ _) rfl;replace B:=B.gather (c:=ZCn (ZJh 22 (ZJh 2 (eI.tr))) [] [.slice (some ⟨b2,0,none⟩) 0 0] ((ZDa (Fe (.slice (some ⟨b2,0,none⟩) 0 0)))++([]:List (List Nat)).flatten)) (λx_ V=>(Ch.1 V).symm) (λa7 a8 a9=>Xj a8 a7 (λb_ ba c7=>a9 b_ c7 ba))
 refine Zd (v:=.slice (some ⟨b2,0,none⟩) 0 0) rfl (dn (ZB9 (sr (Za (v:=Ia) rfl (Zu B 0 rfl ZKd rfl (Za (v:=vI 0) rfl (dn (ZCf ?_))))))))
 have c8:a0.length<=9223372036854775807:=Yz (B.Iw 0 rfl);refine Yh (S:=(List (List Int))) _ _ (λaw au e_ w_=>∃ (ao:Value),∃ (ax:List Nat),Zt e_ [(3,ao),(14,Ia),(15,vI (a0.length:Int)),(16,vI (aw:Int))]/\Ctx Nox w0 w_ [ZCn (ZJh 22 (ZJh 2 (eI.tr))) au [ao] ax] [ZB8 (ZFf.sl) a0 [Ia] Ib]) a0.length ?_ ?_ (s0:=[]) ?_ h
 ·clear B h;rintro aw au e_ f9 f1 d0 ay ⟨ao,ax,ap,B⟩ h c9;rw [ue ap];refine sr (Zl rfl rfl (dn (ZB9 (Z8 rfl (decide_eq_true (by omega)) (ZCd (Ze (ZB9 (ZCf (sr ?_)))))))))
  obtain ⟨f2,ga,bq⟩:=Zx (B.Iw 0 rfl) aw ay;refine Yn (len:=a0.length) ZKd If.size (tr rfl bq) rfl (ZCq _) (ZC9.2 ay) ?_
  obtain ⟨gb,br,da,bs⟩:=Xb (B.Iw 0 rfl) bq aw ay;obtain ⟨bb,rfl⟩:=ZC7.1 br;clear br;rw [Y9 _ _ ay] at bs
  replace B:=B.I0 0 rfl (ZB8 TInts (a0.getD aw Ci) [bb] Ib) (λ_=>bs) (λ_ ba=>ba)
  refine Ye (bb) da If rfl (Zd (v:=bb) rfl (dn (Zh (Za (v:=ao) rfl (Za (v:=bb) rfl (Zf [bb] _ ZNa rfl rfl rfl (Zgt (a0.getD aw Ci) h _ (B.Iw 0 rfl)) ?_))))))
  rintro _ gc ⟨an,ai,d1,rfl,h,db,dc,dd⟩;refine rt ?_
  replace B:=B.push dd (ZCn (ZJh 2 (eI.tr)) an [ai] d1) db dc;obtain ⟨de,dg⟩:=Yx (B.Ix 0 rfl).1;subst dg;replace B:=B.Iz (c:=own 2 1 ai an.length (eI.encs an)) (λ_ h_=>h_) (λ_=>de)
  refine Yd (sz:=1) B [(0,ai)] [ai] rfl (λ_=>Wc ai (Va (B.Ix 0 rfl)) _) rfl (by decide) λa3 gf O B=>?_
  replace B:=B.pushM0 (Zz (ZJh 2 (eI.tr)) [] [] []) (Xn _ _) rfl;replace B:=B.sM [2,0,1,3] (M':=[own 2 1 ai an.length (eI.encs an),Zz (ZJh 2 (eI.tr)) [] [] [],own 22 1 (.slice (some ⟨a3,0,none⟩) 1 1) 1 [ai],ZCn (ZJh 22 (ZJh 2 (eI.tr))) au [ao] ax]) (by decide) rfl
  replace B:=B.gather (c:=Zz (ZJh 2 (eI.tr)) [an] [ai] [(ZDa (Fe ai))]) (λx_ V=>Vf V) (λa7 a8 a9=>W9 (c:=[ai]) (id (Xi a7)) a8 a9)
  replace B:=B.sM [1,0,2] (M':=[own 22 1 (.slice (some ⟨a3,0,none⟩) 1 1) 1 [ai],Zz (ZJh 2 (eI.tr)) [an] [ai] [(ZDa (Fe ai))],ZCn (ZJh 22 (ZJh 2 (eI.tr))) au [ao] ax]) (by decide) rfl
  replace B:=B.gather (c:=ZCn (ZJh 22 (ZJh 2 (eI.tr))) [an] [.slice (some ⟨a3,0,none⟩) 1 1] ((ZDa (Fe (.slice (some ⟨a3,0,none⟩) 1 1)))++([(ZDa (Fe ai))]:List (List Nat)).flatten)) (λx_ V=>Ch.1 V) (λa7 a8 a9=>Xj a7 a8 a9)
  replace B:=B.sM [1,0] (M':=[ZCn (ZJh 22 (ZJh 2 (eI.tr))) au [ao] ax,ZCn (ZJh 22 (ZJh 2 (eI.tr))) [an] [.slice (some ⟨a3,0,none⟩) 1 1] ((ZDa (Fe (.slice (some ⟨a3,0,none⟩) 1 1)))++([(ZDa (Fe ai))]:List (List Nat)).flatten)]) (by decide) rfl
  obtain ⟨dh,h⟩:=h;refine W1 B ZKd J0 rfl (by decide) (by decide) rfl rfl dh λcw d2 gg B=>Zd (v:=cw) rfl (done (Zr (Ze (Zh (Zm rfl rfl (Za (v:=vI (Zwt.wrap ((aw:Int)+1))) rfl (done ?_)))))))
  exact c9 (au++[an]) _ _ ⟨cw,d2,(sl ⟨rfl,rfl,rfl,(tr rfl (I1 _ (Z2 ay c8))),trivial⟩),(B.sP [1] rfl)⟩ h
 ·clear B h;rintro au e_ gh d0 ⟨ao,ax,ap,B⟩ h;rw [ue ap];refine sr (Zl rfl rfl (dn (ZB9 (Z4 rfl (decide_eq_false (by omega)) ?_))))
  refine ZCo (Zi (Zi (Zy ?_)))
  refine Ze (sr (Zd (v:=vI 0) rfl (dn (ZB9 (sr (Yt B [vI 0] z3 rfl λd3 gi O B=>Z7 (v:=vI 0) B 0 [vI 0] [vI 0] rfl sc3.size rfl rfl rfl rfl rfl (ZCh rfl) rfl λgj B=>dn (ZCf ?_)))))))
  refine Jb (S:=(List (List Int))×Int×Int) _ (λA e_ w_=>∃ (aa:Value),∃ (bc:List Nat),∃ (al:Nat),Zt e_ [(3,aa),(6,vI A.2.1),(7,vQ al)]/\Ctx Nox w0 w_ [blk al 3 [vI A.2.2],ZCn (ZJh 22 (ZJh 2 (eI.tr))) A.1 [aa] bc] [ZB8 (ZFf.sl) a0 [Ia] Ib]) ?_ (s0:=(au,0,0)) ?_ h
  ·clear B h;rintro A e_ gk f3 gl ⟨aa,bc,al,ap,B⟩ h bt;rw [ue ap];refine ZB9 (ZB9 ?_)
   refine cwd 10 Ym [0,0,2,7,15,31,31,95,223,479,1023,2047] [2,5,7,8,9] [0,1,3,4,5,6,7,8,9] (λaz aj gm O=>?_)
   replace B:=B.Iy O;refine bM 0 (vI A.2.1) rfl aj (Zc 12 1) (bM 1 (aa) rfl aj (Zc 12 3) (bL 2 (vI (A.1.length:Int)) rfl rfl az (λ_ O=>by exact Zl5 (B.Iy O) 1 rfl ZKd rfl) (Zc 12 7) (bF 3 (.bool (decide (A.2.1 < (A.1.length:Int)))) rfl rfl aj (λ_=>by exact Zej rfl rfl) (Zc 12 15) (bM 4 (.bool (decide (A.2.1 < (A.1.length:Int)))) rfl aj (Zc 12 31) ?_))))
   refine Xm (decide (A.2.1 < (A.1.length:Int))) (λab=>?_) (λab=>?_)
   ·replace h:=ift h (ct ab);refine aL 5 (vI A.2.2) rfl rfl (az 5 rfl) (Yo 4 30 rfl rfl ab) (λ_ O=>by exact Yj (B.Iy O) 0 (vI A.2.2) rfl sc3 rfl rfl) (Zc 12 63) (aF 6 (aa) rfl rfl (aj 6 rfl) (Yo 4 30 rfl rfl ab) (λ_=>by exact Vb (v:=aa) rfl) (Zc 12 127) ?_)
    replace B:=B.sM [1,0] (M':=[ZCn (ZJh 22 (ZJh 2 (eI.tr))) A.1 [aa] bc,blk al 3 [vI A.2.2]]) (by decide) rfl
    obtain ⟨ac,di,bu⟩:=Db (B.Ix 0 rfl);replace B:=B.Iz (c:=mat eI 22 2 aa ac A.1) (λx_ V=>by have e_:=bu; exact e_ ▸ V) (λ_=>di)
    obtain ⟨⟨d4,d5⟩,h⟩:=h;obtain ⟨d6,fi,bv⟩:=Tj (B.Ix 0 rfl) (ZFu (Fq _) (show 0 < A.1.length by omega))
    refine aL 7 (.pointer (some ⟨d6,0 * 1,none⟩)) rfl rfl (az 7 rfl) (Yo 4 30 rfl rfl ab) (λ_ O=>by exact Vz (0 * 1) ZKd If.size (by exact tr rfl bv) rfl d4 d5 rfl) (Zc 12 255) (aL 8 ((hd ac 0)) rfl rfl (az 8 rfl) (Yo 4 30 rfl rfl ab) (λ_ O=>by exact Xp (hd ac 0) (Sa ((B.Iy O).Ix 0 rfl) bv (show 0 < A.1.length by omega)) If rfl) (Zc 12 511) ?_)
    obtain ⟨f4,gn,dj⟩:=V8 (W4 (B.Ix 0 rfl) (show 0 < A.1.length by omega))
    refine aL 9 (vI ((A.1.getD 0 Ci).length:Int)) rfl rfl (az 9 rfl) (Yo 4 30 rfl rfl ab) (λ_ O=>by exact N8 ZCs (by exact tr rfl dj)) (Zc 12 1023) (Z5 10 (by decide) (by decide) (by kernel_rfl) (by kernel_rfl) rfl (Zq 4 30 rfl rfl ab (Zl rfl rfl (Ya (v:=.bool (decide (A.2.2 < ((A.1.getD 0 Ci).length:Int)))) (b:=true) (tr rfl (I1 _ ab)) rfl (done (Z6 (Ze ?_)))))))
    refine Zs rfl (λbh=>?_) (λbh=>?_)
    ·replace h:=ift h (ct bh);refine ZCd (Ze (ZB9 (ZCf (sr (Za (v:=aa) rfl (Za (v:=vI A.2.1) rfl ?_))))))
     obtain ⟨cx,h⟩:=h;obtain ⟨dk,d7,bw,bx⟩:=Zoq (B.Ix 0 rfl);refine Zbx ZKd If.size (tr rfl bw) rfl cx.1 cx.2 (Zal (g:=142) [vQ al] (Zak rfl rfl) (Zf [sliced dk A.2.1.toNat A.1.length d7 1,.func (.func 142) #[] (ZB7 [vQ al])] _ Tryz.func141 rfl rfl rfl (Zgw (A.1.drop A.2.1.toNat) (λbz K_=>Sy bz A.2.2 K_) h _ (Zbv (Zoi (B.Ix 0 rfl)) bw (show _<=_ by omega) bx) Tryz.func142 rfl rfl (λbz yu0_0_ f5 K_ w_ ba dm d8=>Zpt bz A.2.2 d8 w_ dm ((B.Iy ba).Ix 1 rfl))) ?_))
     rintro _ go ⟨U,rfl,h,dp⟩;refine rt ?_
     replace B:=B.Iy dp;refine Zd (v:=vI U) rfl (dn (ZB9 (sr (Za (v:=vI U) rfl (Zl rfl rfl (dn ?_))))))
     refine Zs rfl (λbi=>?_) (λbi=>?_)
     ·replace h:=ift h (ct bi);refine ZCo (Zi (Zy ?_))
      refine Ze (ZB9 (sr (Yc B 1 (vI A.2.2) rfl sc3 rfl rfl (dn (Zh (Yt B [vI 0] z3 rfl λcy gp O B=>Z7 (v:=vI A.2.2) B 0 [vI A.2.2] [vI A.2.2] rfl sc3.size rfl rfl rfl rfl rfl (ZCh rfl) rfl λgq B=>dn (Zh (Yc B 0 (vI A.2.2) rfl sc3 rfl rfl (Zm rfl rfl (Z7 (v:=vI (Zwt.wrap (A.2.2+1))) B 0 [vI (Zwt.wrap (A.2.2+1))] [vI (Zwt.wrap (A.2.2+1))] rfl sc3.size rfl rfl rfl rfl rfl (ZCh rfl) rfl λgr B=>done ?_))))))))))
      replace B:=B.sM [1,0,2] (M':=[mat eI 22 2 aa ac A.1,blk cy 3 [vI (Zwt.wrap (A.2.2+1))],blk al 3 [vI A.2.2]]) (by decide) rfl
      replace B:=B.Iz (c:=ZCn (ZJh 22 (ZJh 2 (eI.tr))) A.1 [aa] (Wb aa ac)) (λx_ V=>V) (λh_=>T9 h_)
      rw [<- bu] at B
      exact bt (A.1,A.2.1,Zwt.wrap (A.2.2+1)) _ _ ⟨aa,bc,cy,(slq rfl),(B.xM [1,0] rfl)⟩ h
     ·replace h:=Zk h (cf bi);refine ZCd (Ze (ZB9 ?_))
      refine cwd 17 Ym [0,0,0,0,0,24,0,0,0,384,960,1984,0,0,12288,28672,65475,131011,262143,524287] [10,11,14,15,16] [0,1,2,3,4,5,6,7,8,9,12,13] (λa1 ag gs O=>?_)
      replace B:=B.Iy O;refine bM 0 (aa) rfl ag (Zc 20 1) (bM 1 (vI A.2.1) rfl ag (Zc 20 3) (bM 2 (aa) rfl ag (Zc 20 7) (bM 3 (vI A.2.1) rfl ag (Zc 20 15) (bM 4 (vI U) rfl ag (Zc 20 31) (bF 5 (vI (Zwt.wrap (A.2.1+U))) rfl rfl ag (λ_=>by exact Vn rfl rfl) (Zc 20 63) (bM 6 (aa) rfl ag (Zc 20 127) (bM 7 (vI A.2.1) rfl ag (Zc 20 255) (bM 8 (vI U) rfl ag (Zc 20 511) (bF 9 (vI (Zwt.wrap (A.2.1+U))) rfl rfl ag (λ_=>by exact Vn rfl rfl) (Zc 20 1023) ?_)))))))))
      obtain ⟨⟨d9,ea⟩,h⟩:=h;obtain ⟨eb,fj,b8⟩:=Tj (B.Ix 0 rfl) (ZFu (Fq _) (show (Zwt.wrap (A.2.1+U)).toNat < A.1.length by omega))
      refine bL 10 (.pointer (some ⟨eb,(Zwt.wrap (A.2.1+U)).toNat * 1,none⟩)) rfl rfl a1 (λ_ O=>by exact Vz ((Zwt.wrap (A.2.1+U)).toNat * 1) ZKd If.size (by exact tr rfl b8) rfl d9 ea rfl) (Zc 20 2047) (bL 11 ((hd ac ((Zwt.wrap (A.2.1+U)).toNat))) rfl rfl a1 (λ_ O=>by exact Xp (hd ac ((Zwt.wrap (A.2.1+U)).toNat)) (Sa ((B.Iy O).Ix 0 rfl) b8 (show (Zwt.wrap (A.2.1+U)).toNat < A.1.length by omega)) If rfl) (Zc 20 4095) (bM 12 (aa) rfl ag (Zc 20 8191) (bM 13 (vI A.2.1) rfl ag (Zc 20 16383) ?_)))
      obtain ⟨⟨ec,ed⟩,h⟩:=h;obtain ⟨ee,fk,b9⟩:=Tj (B.Ix 0 rfl) (ZFu (Fq _) (show A.2.1.toNat < A.1.length by omega))
      refine bL 14 (.pointer (some ⟨ee,A.2.1.toNat * 1,none⟩)) rfl rfl a1 (λ_ O=>by exact Vz (A.2.1.toNat * 1) ZKd If.size (by exact tr rfl b9) rfl ec ed rfl) (Zc 20 32767) (bL 15 ((hd ac A.2.1.toNat)) rfl rfl a1 (λ_ O=>by exact Xp (hd ac A.2.1.toNat) (Sa ((B.Iy O).Ix 0 rfl) b9 (show A.2.1.toNat < A.1.length by omega)) If rfl) (Zc 20 65535) ?_)
      obtain ⟨⟨ef,eg⟩,h⟩:=h;obtain ⟨eh,fl,ca⟩:=Tj (B.Ix 0 rfl) (ZFu (Fq _) (show A.2.1.toNat < A.1.length by omega))
      refine bL 16 (.pointer (some ⟨eh,A.2.1.toNat * 1,none⟩)) rfl rfl a1 (λ_ O=>by exact Vz (A.2.1.toNat * 1) ZKd If.size (by exact tr rfl ca) rfl ef eg rfl) (Zc 20 131071) (aO 17 rfl (Zon B 0 rfl (show A.2.1.toNat < A.1.length by omega) (show (Zwt.wrap (A.2.1+U)).toNat < A.1.length by omega) ca If.size rfl rfl λgu B=>done (L1 (by decide) (l9:=(Zc 20 262143)) (by kernel_rfl) (Z5 18 (by decide) (by decide) (by kernel_rfl) (by kernel_rfl) rfl ?_))))
      obtain ⟨⟨ei,ej⟩,h⟩:=h;obtain ⟨gv,fo,cb⟩:=Zom (B.Ix 0 rfl) (ZFu (Fq _) (show (Zwt.wrap (A.2.1+U)).toNat < A.1.length by omega))
      refine X4 ((Zwt.wrap (A.2.1+U)).toNat * 1) ZKd If.size (tr rfl cb) rfl ei ej rfl (Zoo B 0 rfl (show A.2.1.toNat < A.1.length by omega) (show (Zwt.wrap (A.2.1+U)).toNat < A.1.length by omega) cb If.size rfl rfl λgw B=>done (Z6 (Ze (ZB9 ?_))))
      refine cwd 5 Ym [0,0,3,7,0,31,63,127,255] [2,3,4] [0,1] (λbj cc gx O=>?_)
      replace B:=B.Iy O;refine bM 0 (aa) rfl cc (Zc 9 1) (bM 1 (vI A.2.1) rfl cc (Zc 9 3) ?_)
      obtain ⟨⟨ek,en⟩,h⟩:=h;obtain ⟨eo,fq,ce⟩:=Tj (B.Ix 0 rfl) (ZFu (Fq _) (show A.2.1.toNat < (Xr Ci A.1 A.2.1.toNat ((Zwt.wrap (A.2.1+U)).toNat)).length by omega))
      refine bL 2 (.pointer (some ⟨eo,A.2.1.toNat * 1,none⟩)) rfl rfl bj (λ_ O=>by exact Vz (A.2.1.toNat * 1) ZKd If.size (by exact tr rfl ce) rfl ek en rfl) (Zc 9 7) (bL 3 ((hd (Xr undef ac A.2.1.toNat ((Zwt.wrap (A.2.1+U)).toNat)) A.2.1.toNat)) rfl rfl bj (λ_ O=>by exact Xp (hd (Xr undef ac A.2.1.toNat ((Zwt.wrap (A.2.1+U)).toNat)) A.2.1.toNat) (Sa ((B.Iy O).Ix 0 rfl) ce (show A.2.1.toNat < (Xr Ci A.1 A.2.1.toNat ((Zwt.wrap (A.2.1+U)).toNat)).length by omega)) If rfl) (Zc 9 15) (bL 4 (vI A.2.2) rfl rfl bj (λ_ O=>by exact Yj (B.Iy O) 1 (vI A.2.2) rfl sc3 rfl rfl) (Zc 9 31) (Z5 5 (by decide) (by decide) (by kernel_rfl) (by kernel_rfl) rfl ?_)))
      obtain ⟨⟨ep,er⟩,h⟩:=h;obtain ⟨gy,fr,cg⟩:=Xx (W4 (B.Ix 0 rfl) (show A.2.1.toNat < (Xr Ci A.1 A.2.1.toNat ((Zwt.wrap (A.2.1+U)).toNat)).length by omega)) (ZFu (Fq _) (show A.2.2.toNat < ((Xr Ci A.1 A.2.1.toNat ((Zwt.wrap (A.2.1+U)).toNat)).getD A.2.1.toNat Ci).length by omega))
      refine X4 (A.2.2.toNat * 1) ZCs sc2.size (tr rfl cg) rfl ep er rfl (Ye (vI (((Xr Ci A.1 A.2.1.toNat ((Zwt.wrap (A.2.1+U)).toNat)).getD A.2.1.toNat Ci).getD A.2.2.toNat Ci)) (J7 (W4 (B.Ix 0 rfl) (show A.2.1.toNat < (Xr Ci A.1 A.2.1.toNat ((Zwt.wrap (A.2.1+U)).toNat)).length by omega)) cg A.2.2.toNat (show A.2.2.toNat < ((Xr Ci A.1 A.2.1.toNat ((Zwt.wrap (A.2.1+U)).toNat)).getD A.2.1.toNat Ci).length by omega)) sc2 rfl (Zf [vI (((Xr Ci A.1 A.2.1.toNat ((Zwt.wrap (A.2.1+U)).toNat)).getD A.2.1.toNat Ci).getD A.2.2.toNat Ci)] _ Tryz.func143 rfl rfl rfl (Zpv (((Xr Ci A.1 A.2.1.toNat ((Zwt.wrap (A.2.1+U)).toNat)).getD A.2.1.toNat Ci).getD A.2.2.toNat Ci) h _) ?_))
      rintro _ gz ⟨av,rfl,h,dq⟩;refine rt ?_
      replace B:=B.Iy dq;refine Zd (v:=vI av) rfl (done (Z6 (Ze (ZB9 (sr (Za (v:=aa) rfl (Za (v:=vI A.2.1) rfl ?_)))))))
      obtain ⟨⟨es,et⟩,h⟩:=h;obtain ⟨g0,fs,ch⟩:=Tj (B.Ix 0 rfl) (ZFu (Fq _) (show A.2.1.toNat < (Xr Ci A.1 A.2.1.toNat ((Zwt.wrap (A.2.1+U)).toNat)).length by omega))
      refine X4 (A.2.1.toNat * 1) ZKd If.size (tr rfl ch) rfl es et rfl (Ye (hd (Xr undef ac A.2.1.toNat ((Zwt.wrap (A.2.1+U)).toNat)) A.2.1.toNat) (Sa (B.Ix 0 rfl) ch (show A.2.1.toNat < (Xr Ci A.1 A.2.1.toNat ((Zwt.wrap (A.2.1+U)).toNat)).length by omega)) If rfl ?_)
      obtain ⟨f6,g1,dr⟩:=V8 (W4 (B.Ix 0 rfl) (show A.2.1.toNat < (Xr Ci A.1 A.2.1.toNat ((Zwt.wrap (A.2.1+U)).toNat)).length by omega))
      refine Sl ZCs (tr rfl dr) (Za (v:=vI 0) rfl (dn (ZCf ?_)))
      replace B:=B.Iz (c:=ZCn (ZJh 22 (ZJh 2 (eI.tr))) (Xr Ci A.1 A.2.1.toNat ((Zwt.wrap (A.2.1+U)).toNat)) [aa] (Wb aa (Xr undef ac A.2.1.toNat ((Zwt.wrap (A.2.1+U)).toNat)))) (λx_ V=>V) (λh_=>T9 h_)
      refine Jb (S:=(List (List Int))×Int) _ (λL e_ w_=>∃ (am:Value),∃ (bp:List Nat),Zt e_ [(3,am),(6,vI A.2.1),(7,vQ al),(9,vI av),(77,vI (((Xr Ci A.1 A.2.1.toNat ((Zwt.wrap (A.2.1+U)).toNat)).getD A.2.1.toNat Ci).length:Int)),(78,vI L.2)]/\Ctx Nox w0 w_ [ZCn (ZJh 22 (ZJh 2 (eI.tr))) L.1 [am] bp,blk al 3 [vI A.2.2]] [ZB8 (ZFf.sl) a0 [Ia] Ib]) ?_ (s0:=(Xr Ci A.1 A.2.1.toNat ((Zwt.wrap (A.2.1+U)).toNat),0)) ?_ h
      ·clear B h;rintro L e_ g2 f7 g3 ⟨am,bp,ap,B⟩ h dt;rw [ue ap];refine sr (Zl rfl rfl (dn (ZB9 ?_)))
       refine Zs rfl (λbk=>?_) (λbk=>?_)
       ·replace h:=ift h (ct bk);refine ZCd (Ze (ZB9 (ZCf (sr (Za (v:=vI L.2) rfl (Zd (v:=vI L.2) rfl (dn ?_)))))))
        refine cwd 15 Ym [0,0,3,7,0,0,0,96,224,0,992,2016,0,8160,16352,32767,65535] [2,3,7,8,10,11] [0,1,4,5,6,9,12,13,14] (λaq ak g4 O=>?_)
        replace B:=B.Iy O;refine bM 0 (am) rfl ak (Zc 17 1) (bM 1 (vI A.2.1) rfl ak (Zc 17 3) ?_)
        obtain ⟨ar,du,ci⟩:=Db (B.Ix 0 rfl);replace B:=B.Iz (c:=mat eI 22 2 am ar L.1) (λx_ V=>by have e_:=ci; exact e_ ▸ V) (λ_=>du)
        obtain ⟨⟨eu,ew⟩,h⟩:=h;obtain ⟨ex,ft,cj⟩:=Tj (B.Ix 0 rfl) (ZFu (Fq _) (show A.2.1.toNat < L.1.length by omega))
        refine bL 2 (.pointer (some ⟨ex,A.2.1.toNat * 1,none⟩)) rfl rfl aq (λ_ O=>by exact Vz (A.2.1.toNat * 1) ZKd If.size (by exact tr rfl cj) rfl eu ew rfl) (Zc 17 7) (bL 3 ((hd ar A.2.1.toNat)) rfl rfl aq (λ_ O=>by exact Xp (hd ar A.2.1.toNat) (Sa ((B.Iy O).Ix 0 rfl) cj (show A.2.1.toNat < L.1.length by omega)) If rfl) (Zc 17 15) (bM 4 (vI L.2) rfl ak (Zc 17 31) (bM 5 (am) rfl ak (Zc 17 63) (bM 6 (vI A.2.1) rfl ak (Zc 17 127) ?_))))
        obtain ⟨⟨ey,ez⟩,h⟩:=h;obtain ⟨e1,fu,ck⟩:=Tj (B.Ix 0 rfl) (ZFu (Fq _) (show A.2.1.toNat < L.1.length by omega))
        refine bL 7 (.pointer (some ⟨e1,A.2.1.toNat * 1,none⟩)) rfl rfl aq (λ_ O=>by exact Vz (A.2.1.toNat * 1) ZKd If.size (by exact tr rfl ck) rfl ey ez rfl) (Zc 17 255) (bL 8 ((hd ar A.2.1.toNat)) rfl rfl aq (λ_ O=>by exact Xp (hd ar A.2.1.toNat) (Sa ((B.Iy O).Ix 0 rfl) ck (show A.2.1.toNat < L.1.length by omega)) If rfl) (Zc 17 511) (bM 9 (vI L.2) rfl ak (Zc 17 1023) ?_))
        obtain ⟨⟨e2,e3⟩,h⟩:=h;obtain ⟨e4,fv,cl⟩:=Xx (W4 (B.Ix 0 rfl) (show A.2.1.toNat < L.1.length by omega)) (ZFu (Fq _) (show L.2.toNat < (L.1.getD A.2.1.toNat Ci).length by omega))
        refine bL 10 (.pointer (some ⟨e4,L.2.toNat * 1,none⟩)) rfl rfl aq (λ_ O=>by exact Vz (L.2.toNat * 1) ZCs sc2.size (by exact tr rfl cl) rfl e2 e3 rfl) (Zc 17 2047) (bL 11 (vI ((L.1.getD A.2.1.toNat Ci).getD L.2.toNat Ci)) rfl rfl aq (λ_ O=>by exact Xp (vI ((L.1.getD A.2.1.toNat Ci).getD L.2.toNat Ci)) (J7 (W4 ((B.Iy O).Ix 0 rfl) (show A.2.1.toNat < L.1.length by omega)) cl L.2.toNat (show L.2.toNat < (L.1.getD A.2.1.toNat Ci).length by omega)) sc2 rfl) (Zc 17 4095) (bM 12 (vI av) rfl ak (Zc 17 8191) (bF 13 (vI (Zwt.wrap (((L.1.getD A.2.1.toNat Ci).getD L.2.toNat Ci) * av))) rfl rfl ak (λ_=>by exact Tv rfl rfl) (Zc 17 16383) (bF 14 (vI (Fa (Zwt.wrap (((L.1.getD A.2.1.toNat Ci).getD L.2.toNat Ci) * av)) 10007)) rfl rfl ak (λ_=>by exact Zeh rfl rfl (by decide)) (Zc 17 32767) (Z5 15 (by decide) (by decide) (by kernel_rfl) (by kernel_rfl) rfl ?_)))))
        obtain ⟨⟨e5,e6⟩,h⟩:=h;obtain ⟨g5,fw,cm⟩:=Xx (W4 (B.Ix 0 rfl) (show A.2.1.toNat < L.1.length by omega)) (ZFu (Fq _) (show L.2.toNat < (L.1.getD A.2.1.toNat Ci).length by omega))
        refine X4 (L.2.toNat * 1) ZCs sc2.size (tr rfl cm) rfl e5 e6 rfl (Zok B 0 (Fa (Zwt.wrap (((L.1.getD A.2.1.toNat Ci).getD L.2.toNat Ci) * av)) 10007) rfl (show A.2.1.toNat < L.1.length by omega) cm (show L.2.toNat < (L.1.getD A.2.1.toNat Ci).length by omega) sc2.size rfl rfl rfl λg6 B=>done (Z6 (Zr (Ze (Zh (Zm rfl rfl (Za (v:=vI (Zwt.wrap (L.2+1))) rfl (done ?_))))))))
        replace B:=B.Iz (c:=ZCn (ZJh 22 (ZJh 2 (eI.tr))) (L.1.set A.2.1.toNat ((L.1.getD A.2.1.toNat Ci).set L.2.toNat (Fa (Zwt.wrap (((L.1.getD A.2.1.toNat Ci).getD L.2.toNat Ci) * av)) 10007))) [am] (Wb am ar)) (λx_ V=>V) (λh_=>T9 h_)
        rw [<- ci] at B
        exact dt (L.1.set A.2.1.toNat ((L.1.getD A.2.1.toNat Ci).set L.2.toNat (Fa (Zwt.wrap (((L.1.getD A.2.1.toNat Ci).getD L.2.toNat Ci) * av)) 10007)),Zwt.wrap (L.2+1)) _ _ ⟨am,bp,(slq rfl),B⟩ h
       ·replace h:=Zk h (cf bk);refine ZCo (Zi (Zi (Zy ?_)))
        refine Ze (ZB9 (sr (Za (v:=am) rfl (Qs B 0 rfl ZKd rfl (Za (v:=vI 0) rfl (dn (ZCf ?_)))))))
        refine Jb (S:=(List (List Int))×Int) _ (λI e_ w_=>∃ (ah:Value),∃ (a4:List Nat),Zt e_ [(3,ah),(6,vI A.2.1),(7,vQ al),(98,ah),(99,vI (L.1.length:Int)),(100,vI I.2)]/\Ctx Nox w0 w_ [ZCn (ZJh 22 (ZJh 2 (eI.tr))) I.1 [ah] a4,blk al 3 [vI A.2.2]] [ZB8 (ZFf.sl) a0 [Ia] Ib]) ?_ (s0:=(L.1,0)) ?_ h
        ·clear B h;rintro I e_ g7 f8 g8 ⟨ah,a4,ap,B⟩ h bl;rw [ue ap];refine sr (Zl rfl rfl (dn (ZB9 ?_)))
         refine Zs rfl (λbm=>?_) (λbm=>?_)
         ·replace h:=ift h (ct bm);refine ZCd (Ze (ZB9 (ZCf (sr (Za (v:=vI I.2) rfl ?_)))))
          obtain ⟨ae,dv,a5⟩:=Db (B.Ix 0 rfl);replace B:=B.Iz (c:=mat eI 22 2 ah ae I.1) (λx_ V=>by have e_:=a5; exact e_ ▸ V) (λ_=>dv)
          obtain ⟨⟨e7,e8⟩,h⟩:=h;obtain ⟨g9,fx,cn⟩:=Tj (B.Ix 0 rfl) (ZFu (Fq _) (show I.2.toNat < I.1.length by omega))
          refine X4 (I.2.toNat * 1) ZKd If.size (tr rfl cn) rfl e7 e8 rfl (Ye (hd ae I.2.toNat) (Sa (B.Ix 0 rfl) cn (show I.2.toNat < I.1.length by omega)) If rfl (Zd (v:=vI I.2) rfl (Zd (v:=(hd ae I.2.toNat)) rfl (dn (sr (Za (v:=vI I.2) rfl (Za (v:=vI A.2.1) rfl (Xl rfl rfl (Za (v:=.bool (decide (I.2≠A.2.1))) rfl ?_)))))))))
          refine Xm (decide (I.2≠A.2.1)) (λad=>?_) (λad=>?_)
          ·replace h:=ift h (ct ad);refine Zq 3 108 rfl rfl ad (Za (v:=(hd ae I.2.toNat)) rfl (Zq 3 108 rfl rfl ad (Yc B 1 (vI A.2.2) rfl sc3 rfl rfl (Zq 3 108 rfl rfl ad ?_))))
           obtain ⟨⟨e9,fa⟩,h⟩:=h;obtain ⟨ha,fy,cp⟩:=Xx (W4 (B.Ix 0 rfl) (show I.2.toNat < I.1.length by omega)) (ZFu (Fq _) (show A.2.2.toNat < (I.1.getD I.2.toNat Ci).length by omega))
           refine X4 (A.2.2.toNat * 1) ZCs sc2.size (tr rfl cp) rfl e9 fa rfl (Zq 3 108 rfl rfl ad (Ye (vI ((I.1.getD I.2.toNat Ci).getD A.2.2.toNat Ci)) (J7 (W4 (B.Ix 0 rfl) (show I.2.toNat < I.1.length by omega)) cp A.2.2.toNat (show A.2.2.toNat < (I.1.getD I.2.toNat Ci).length by omega)) sc2 rfl (Zq 3 108 rfl rfl ad (Xl rfl rfl (Ya (v:=.bool (decide ((I.1.getD I.2.toNat Ci).getD A.2.2.toNat Ci≠0))) (b:=true) (tr rfl (I1 _ ad)) rfl (dn ?_))))))
           refine Zs rfl (λbn=>?_) (λbn=>?_)
           ·replace h:=ift h (ct bn);refine cwd 9 Ym [0,0,0,6,14,0,0,96,224,511] [3,4,6,7,8] [0,1,2,5] (λa2 a6 hb O=>?_)
            replace B:=B.Iy O;refine bM 0 ((hd ae I.2.toNat)) rfl a6 (Zc 10 1) (bM 1 (ah) rfl a6 (Zc 10 3) (bM 2 (vI A.2.1) rfl a6 (Zc 10 7) ?_))
            obtain ⟨⟨fb,fc⟩,h⟩:=h;obtain ⟨fd,fz,cq⟩:=Tj (B.Ix 0 rfl) (ZFu (Fq _) (show A.2.1.toNat < I.1.length by omega))
            refine bL 3 (.pointer (some ⟨fd,A.2.1.toNat * 1,none⟩)) rfl rfl a2 (λ_ O=>by exact Vz (A.2.1.toNat * 1) ZKd If.size (by exact tr rfl cq) rfl fb fc rfl) (Zc 10 15) (bL 4 ((hd ae A.2.1.toNat)) rfl rfl a2 (λ_ O=>by exact Xp (hd ae A.2.1.toNat) (Sa ((B.Iy O).Ix 0 rfl) cq (show A.2.1.toNat < I.1.length by omega)) If rfl) (Zc 10 31) (bM 5 ((hd ae I.2.toNat)) rfl a6 (Zc 10 63) (bL 6 (vI A.2.2) rfl rfl a2 (λ_ O=>by exact Yj (B.Iy O) 1 (vI A.2.2) rfl sc3 rfl rfl) (Zc 10 127) ?_)))
            obtain ⟨⟨fe,ff⟩,h⟩:=h;obtain ⟨fg,f0,cr⟩:=Xx (W4 (B.Ix 0 rfl) (show I.2.toNat < I.1.length by omega)) (ZFu (Fq _) (show A.2.2.toNat < (I.1.getD I.2.toNat Ci).length by omega))
            refine bL 7 (.pointer (some ⟨fg,A.2.2.toNat * 1,none⟩)) rfl rfl a2 (λ_ O=>by exact Vz (A.2.2.toNat * 1) ZCs sc2.size (by exact tr rfl cr) rfl fe ff rfl) (Zc 10 255) (bL 8 (vI ((I.1.getD I.2.toNat Ci).getD A.2.2.toNat Ci)) rfl rfl a2 (λ_ O=>by exact Xp (vI ((I.1.getD I.2.toNat Ci).getD A.2.2.toNat Ci)) (J7 (W4 ((B.Iy O).Ix 0 rfl) (show I.2.toNat < I.1.length by omega)) cr A.2.2.toNat (show A.2.2.toNat < (I.1.getD I.2.toNat Ci).length by omega)) sc2 rfl) (Zc 10 511) (Z5 9 (by decide) (by decide) (by kernel_rfl) (by kernel_rfl) rfl ?_))
            obtain ⟨cu,h⟩:=h;refine Zf [(hd ae I.2.toNat),(hd ae A.2.1.toNat),vI ((I.1.getD I.2.toNat Ci).getD A.2.2.toNat Ci)] _ ZNb rfl rfl rfl (Zgu (I.1.getD I.2.toNat Ci) (I.1.getD A.2.1.toNat Ci) ((I.1.getD I.2.toNat Ci).getD A.2.2.toNat Ci) h _ (W4 (B.Ix 0 rfl) (show I.2.toNat < I.1.length by omega)) (Yu (W4 (B.Ix 0 rfl) (show A.2.1.toNat < I.1.length by omega))) (Zf8 (B.Ix 0 rfl).2.2 (Zgf (B.Ix 0 rfl) (show A.2.1.toNat < I.1.length by omega)) (Zgf (B.Ix 0 rfl) (show I.2.toNat < I.1.length by omega)) cu)) ?_
            rintro _ hc ⟨cz,rfl,h,dw,dx⟩;refine rt ?_
            replace B:=B.turnRow 0 rfl (show I.2.toNat < I.1.length by omega) dx dw
            refine done (Z6 (Zr (Ze (Zh (Zm rfl rfl (Za (v:=vI (Zwt.wrap (I.2+1))) rfl (done ?_)))))))
            replace B:=B.Iz (c:=ZCn (ZJh 22 (ZJh 2 (eI.tr))) (I.1.set I.2.toNat cz) [ah] (Wb ah ae)) (λx_ V=>V) (λh_=>T9 h_)
            rw [<- a5] at B
            exact bl (I.1.set I.2.toNat cz,Zwt.wrap (I.2+1)) _ _ ⟨ah,a4,(slq rfl),B⟩ h
           ·replace h:=Zk h (cf bn);refine ZCd (Zr (Ze (Zh (Zm rfl rfl (Za (v:=vI (Zwt.wrap (I.2+1))) rfl (done ?_))))))
            replace B:=B.Iz (c:=ZCn (ZJh 22 (ZJh 2 (eI.tr))) I.1 [ah] (Wb ah ae)) (λx_ V=>V) (λh_=>T9 h_)
            rw [<- a5] at B
            exact bl (I.1,Zwt.wrap (I.2+1)) _ _ ⟨ah,a4,(slq rfl),B⟩ h
          ·replace h:=Zk h (cf ad);refine Zp (b:=false) 3 108 rfl (tr rfl (I1 _ ad)) (by decide) (Zp (b:=false) 3 108 rfl (tr rfl (I1 _ ad)) (by decide) (Zp (b:=false) 3 108 rfl (tr rfl (I1 _ ad)) (by decide) (Zp (b:=false) 3 108 rfl (tr rfl (I1 _ ad)) (by decide) (Zp (b:=false) 3 108 rfl (tr rfl (I1 _ ad)) (by decide) (Ya (v:=.bool false) (b:=false) (tr rfl (I1 _ ad)) rfl (dn (Z4 rfl rfl (ZCd (Zr (Ze (Zh (Zm rfl rfl (Za (v:=vI (Zwt.wrap (I.2+1))) rfl (done ?_))))))))))))))
           replace B:=B.Iz (c:=ZCn (ZJh 22 (ZJh 2 (eI.tr))) I.1 [ah] (Wb ah ae)) (λx_ V=>V) (λh_=>T9 h_)
           rw [<- a5] at B
           exact bl (I.1,Zwt.wrap (I.2+1)) _ _ ⟨ah,a4,(slq rfl),B⟩ h
         ·replace h:=Zk h (cf bm);refine ZCo (Zi (Zi (Zy ?_)))
          refine Ze (Zh (Za (v:=vI A.2.1) rfl (Zm rfl rfl (Zd (v:=vI (Zwt.wrap (A.2.1+1))) rfl (done (Zr (Ze (ZB9 (sr (Yc B 1 (vI A.2.2) rfl sc3 rfl rfl (dn (Zh (Yt B [vI 0] z3 rfl λfh he O B=>Z7 (v:=vI A.2.2) B 0 [vI A.2.2] [vI A.2.2] rfl sc3.size rfl rfl rfl rfl rfl (ZCh rfl) rfl λhf B=>dn (Zh (Yc B 0 (vI A.2.2) rfl sc3 rfl rfl (Zm rfl rfl (Z7 (v:=vI (Zwt.wrap (A.2.2+1))) B 0 [vI (Zwt.wrap (A.2.2+1))] [vI (Zwt.wrap (A.2.2+1))] rfl sc3.size rfl rfl rfl rfl rfl (ZCh rfl) rfl λhg B=>done ?_)))))))))))))))))
          exact bt (I.1,Zwt.wrap (A.2.1+1),Zwt.wrap (A.2.2+1)) _ _ ⟨ah,a4,fh,(slq rfl),(B.xM [0,1] rfl)⟩ h
        ·skip;exact⟨am,bp,(slq rfl),B⟩
      ·skip;exact⟨aa,(Wb aa (Xr undef ac A.2.1.toNat ((Zwt.wrap (A.2.1+U)).toNat))),(slq rfl),B⟩
    ·replace h:=Zk h (cf bh);refine ZCo (Zi (Zi (Zy ?_)))
     refine Ze (sr (Za (v:=aa) rfl (Za (v:=vI A.2.1) rfl ?_)))
     obtain ⟨c0,h⟩:=h;refine Zge B 0 rfl ZKd If.size rfl rfl c0.1 c0.2 λbd B=>Zd (v:=bd) rfl (dn (ZCi ?_))
     replace B:=B.Iz (c:=ZCn (ZJh 22 (ZJh 2 (eI.tr))) (A.1.take A.2.1.toNat) [bd] (Wb bd (ac.take A.2.1.toNat))) (λx_ V=>V) (λh_=>T9 h_)
     exact Zj rfl (Zg rfl) ⟨A.1.take A.2.1.toNat,bd,(Wb bd (ac.take A.2.1.toNat)),rfl,h,(B.Ix 0 rfl),(J9 B 0 rfl),B.below⟩ (.inl rfl)
   ·replace h:=Zk h (cf ab);refine Zv Z3 5 undef rfl rfl (by kernel_rfl) (aj 5 rfl) (λw_=>.inr ⟨Yk (b:=false) 4 30 rfl (tr rfl (I1 _ ab)) (by decide),rfl⟩) (l9:=(Zc 12 63)) (by kernel_rfl) (Zv Z3 6 undef rfl rfl (by kernel_rfl) (aj 6 rfl) (λw_=>.inr ⟨Yk (b:=false) 4 30 rfl (tr rfl (I1 _ ab)) (by decide),rfl⟩) (l9:=(Zc 12 127)) (by kernel_rfl) (Zv Z3 7 undef rfl rfl (by kernel_rfl) (aj 7 rfl) (λw_=>.inr ⟨Yk (b:=false) 4 30 rfl (tr rfl (I1 _ ab)) (by decide),rfl⟩) (l9:=(Zc 12 255)) (by kernel_rfl) (Zv Z3 8 undef rfl rfl (by kernel_rfl) (aj 8 rfl) (λw_=>.inr ⟨Yk (b:=false) 4 30 rfl (tr rfl (I1 _ ab)) (by decide),rfl⟩) (l9:=(Zc 12 511)) (by kernel_rfl) (Zv Z3 9 undef rfl rfl (by kernel_rfl) (aj 9 rfl) (λw_=>.inr ⟨Yk (b:=false) 4 30 rfl (tr rfl (I1 _ ab)) (by decide),rfl⟩) (l9:=(Zc 12 1023)) (by kernel_rfl) (Z5 10 (by decide) (by decide) (by kernel_rfl) (by kernel_rfl) rfl (Zp (b:=false) 4 30 rfl (tr rfl (I1 _ ab)) (by decide) (Ya (v:=.bool false) (b:=false) (tr rfl (I1 _ ab)) rfl (done (Z6 (Ze (Z4 rfl rfl ?_)))))))))))
    refine ZCo (Zi (Zi (Zy ?_)))
    refine Ze (sr (Za (v:=aa) rfl (Za (v:=vI A.2.1) rfl ?_)))
    replace B:=B.sM [1,0] (M':=[ZCn (ZJh 22 (ZJh 2 (eI.tr))) A.1 [aa] bc,blk al 3 [vI A.2.2]]) (by decide) rfl
    obtain ⟨bo,dy,dz⟩:=Db (B.Ix 0 rfl);replace B:=B.Iz (c:=mat eI 22 2 aa bo A.1) (λx_ V=>by have e_:=dz; exact e_ ▸ V) (λ_=>dy)
    obtain ⟨c6,h⟩:=h;refine Zge B 0 rfl ZKd If.size rfl rfl c6.1 c6.2 λbe B=>Zd (v:=be) rfl (dn (ZCi ?_))
    replace B:=B.Iz (c:=ZCn (ZJh 22 (ZJh 2 (eI.tr))) (A.1.take A.2.1.toNat) [be] (Wb be (bo.take A.2.1.toNat))) (λx_ V=>V) (λh_=>T9 h_)
    exact Zj rfl (Zg rfl) ⟨A.1.take A.2.1.toNat,be,(Wb be (bo.take A.2.1.toNat)),rfl,h,(B.Ix 0 rfl),(J9 B 0 rfl),B.below⟩ (.inl rfl)
  ·skip;exact⟨ao,ax,d3,(slq rfl),B⟩
 ·skip;exact⟨.slice (some ⟨b2,0,none⟩) 0 0,((ZDa (Fe (.slice (some ⟨b2,0,none⟩) 0 0)))++([]:List (List Nat)).flatten),(slq rfl),B⟩
def Hn (h:List Int) (K:Bool->Prop):Prop :=
 Nd h (λA=>K (decide (A < 0)))
theorem Zpw (A:List Int)  {K:Bool->Prop} (h:Hn A K) (w0:World) (O:ZFf.rep A [Ia] Ib w0) :
  Calls ZCc 83 #[Ia] w0 λe w'=>∃ (I:Bool),
   e=.returned (.bool I)/\K I/\Bel w0 w':=by
 unfold Hn at h
 refine cof Tryz.func83 rfl 6 Tryz.ntmps83 ?_
 have B:=ZCu (X:=Nox) w0 [ZB8 TInts A [Ia] Ib] (al1 O);refine sr (Zd (v:=.bool false) rfl (dn (sr (Za (v:=Ia) rfl (Zf [Ia] _ ZM9 rfl rfl rfl (Zgs A h _ (B.Iw 0 rfl)) ?_)))))
 rintro _ U ⟨L,rfl,h,hB6⟩;refine rt ?_
 replace B:=B.Iy hB6;refine Zl rfl rfl (Zd (v:=.bool (decide (L < 0))) rfl (dn (ZCi ?_)))
 exact Zj rfl (Zg rfl) ⟨decide (L < 0),rfl,h,B.below⟩ (.inl rfl)
def Ho (h:Int) (K:List Int->Prop):Prop :=
 (¬ (h < 0)/\(if Zwt.wrap (h - (Zwt.wrap (0 - 0))) > 0 then((0<=Zwt.wrap (h - (Zwt.wrap (0 - 0)))/\Zw (0+((Zwt.wrap (h - (Zwt.wrap (0 - 0)))).toNat)) 8)/\(((0:Int)<=0/\0<=((Cd ((Zwt.wrap (h - (Zwt.wrap (0 - 0)))).toNat) (0:Int)).length:Int))/\K ((Cd ((Zwt.wrap (h - (Zwt.wrap (0 - 0)))).toNat) (0:Int)).take 0))) else K []))
theorem Zpx (B:Int)  {K:List Int->Prop} (h:Ho B K) (w0:World)  :
  Calls ZCc 198 #[.slice none 0 0,vI B] w0 λe w'=>∃ (U:List Int) (Ih:Value) (O:List Nat),
   e=.returned (Ih)/\K U/\(ZCn (ZJh 2 (eI.tr)) U [Ih] O).holds w'/\(∀ b,b∈O->w0.heap.size<=b)/\Bel w0 w':=by
 unfold Ho at h
 refine cof Tryz.func198 rfl 27 Tryz.ntmps198 ?_
 have A:=ZCu (X:=Nox) w0 [] (by simp)
 refine sr (Zd (v:=.slice none 0 0) rfl (dn (ZB9 (sr (Za (v:=vI B) rfl (Zl rfl rfl (dn ?_)))))))
 obtain ⟨V,h⟩:=h;refine Z4 rfl (decide_eq_false V) (ZCd (Ze (ZB9 (sr (Za (v:=vI B) rfl (Za (v:=.slice none 0 0) rfl (Zf6 ZCs rfl (Za (v:=.slice none 0 0) rfl (Sl ZCs rfl (X5 rfl rfl (X5 rfl rfl (Zd (v:=vI (Zwt.wrap (B - (Zwt.wrap (0 - 0))))) rfl (dn (sr (Za (v:=vI (Zwt.wrap (B - (Zwt.wrap (0 - 0))))) rfl (Jn rfl rfl (dn ?_)))))))))))))))))
 refine Zs rfl (λI=>?_) (λI=>?_)
 ·replace h:=ift h (ct I);refine Zh (Za (v:=.slice none 0 0) rfl (Za (v:=.slice none 0 0) rfl (Zf6 ZCs rfl (Zoc ZCs sc2.size rfl rfl (Za (v:=vI (Zwt.wrap (B - (Zwt.wrap (0 - 0))))) rfl ?_)))))
  replace A:=A.pushNil 2 1;obtain ⟨aa,h⟩:=h;refine Zf3 A 0 ZCs Tryz.underlying3 el2 rfl rfl (by decide) rfl rfl (tr rfl (I1 (Value.int .i64) (ZFl aa.1).symm)) aa.2 λv4 w5 A=>?_
  replace A:=Y7 A 0 ((Cd ((Zwt.wrap (B - (Zwt.wrap (0 - 0)))).toNat) (0:Int)).length) (eI.encs (Cd ((Zwt.wrap (B - (Zwt.wrap (0 - 0)))).toNat) (0:Int))) rfl (by simp) (Zf7 _ [] _)
  refine Za (v:=.slice none 0 0) rfl (Sl ZCs rfl ?_)
  obtain ⟨h0_7,h⟩:=h;refine Zob A 0 rfl ZCs sc2.size rfl rfl h0_7.1 h0_7.2 λL A=>?_
  replace A:=Y7 A 0 (((Cd ((Zwt.wrap (B - (Zwt.wrap (0 - 0)))).toNat) (0:Int)).take 0).length) (eI.encs ((Cd ((Zwt.wrap (B - (Zwt.wrap (0 - 0)))).toNat) (0:Int)).take 0)) rfl (List.length_take_of_le (by omega)).symm (Enc.encs_take eI _ _)
  refine Zd (v:=L) rfl (dn (sr (Za (v:=L) rfl (Zd (v:=L) rfl (dn (ZCi ?_))))))
  exact Zj rfl (Zg rfl) ⟨(Cd ((Zwt.wrap (B - (Zwt.wrap (0 - 0)))).toNat) (0:Int)).take 0,L,(ZDa (Fe L)),rfl,h,(Xi (A.Ix 0 rfl)),(Xg A 0 rfl),A.below⟩ (.inl rfl)
 ·replace h:=Zk h (cf I);refine ZCd (Ze (sr (Za (v:=.slice none 0 0) rfl (Zd (v:=.slice none 0 0) rfl (dn (ZCi ?_))))))
  exact Zj rfl (Zg rfl) ⟨[],.slice none 0 0,[],rfl,h,(Mg _ _ _),(λb hb=>absurd hb (by simp)),A.below⟩ (.inl rfl)
def Hp (V:List (List Int)) (K:List Int->Prop):Prop :=
 Z1 (λB (h:Int) L=>(¬ (Zwt.wrap (h+((V.getD B Ci).length:Int)) < 0)/\L (Zwt.wrap (h+((V.getD B Ci).length:Int))))) (λ(h:Int)=>Ho h (λU=>Z1 (λI (A:(List Int)) O=>(Zw (A.length+(V.getD I Ci).length) 8/\O (A++(V.getD I Ci)))) (λ(A:(List Int))=>K A) V.length 0 U)) V.length 0 0
theorem Zpy (a0:List (List Int))  {K:List Int->Prop} (h:Hp a0 K) (w0:World) (q0:(ZFf.sl).rep a0 [Ia] Ib w0) :
  Calls ZCc 184 #[Ia] w0 λe w'=>∃ (r0:List Int) (Ih:Value) (ao:List Nat),
   e=.returned (Ih)/\K r0/\(ZCn (ZJh 2 (eI.tr)) r0 [Ih] ao).holds w'/\(∀ b,b∈ao->w0.heap.size<=b)/\Bel w0 w':=by
 unfold Hp at h
 refine cof Tryz.func184 rfl 36 Tryz.ntmps184 ?_
 have A:=ZCu (X:=Nox) w0 [ZB8 (ZFf.sl) a0 [Ia] Ib] (al1 q0);refine sr (Zd (v:=.slice none 0 0) rfl (dn (sr (Zd (v:=vI 0) rfl (dn (ZB9 (sr (Za (v:=Ia) rfl (Zu A 0 rfl ZKd rfl (Za (v:=vI 0) rfl (dn (ZCf ?_))))))))))))
 have aq:a0.length<=9223372036854775807:=Yz (A.Iw 0 rfl);refine Yh (S:=Int) _ _ (λI B e_ w_=>Zt e_ [(0,Ia),(3,vI B),(9,Ia),(10,vI (a0.length:Int)),(11,vI (I:Int))]/\Ctx Nox w0 w_ [] [ZB8 (ZFf.sl) a0 [Ia] Ib]) a0.length ?_ ?_ (s0:=0) ?_ h
 ·clear A h;rintro I B e_ be ba a6 V ⟨aa,A⟩ h ar;rw [ue aa];refine sr (Zl rfl rfl (dn (ZB9 (Z8 rfl (decide_eq_true (by omega)) (ZCd (Ze (ZB9 (ZCf (sr ?_)))))))))
  obtain ⟨bb,bh,ah⟩:=Zx (A.Iw 0 rfl) I V;refine Yn (len:=a0.length) ZKd If.size (tr rfl ah) rfl (ZCq _) (ZC9.2 V) ?_
  obtain ⟨a7,ai,au,aj⟩:=Xb (A.Iw 0 rfl) ah I V;obtain ⟨ac,rfl⟩:=ZC7.1 ai;clear ai;rw [Y9 _ _ V] at aj
  replace A:=A.I0 0 rfl (ZB8 TInts (a0.getD I Ci) [ac] Ib) (λ_=>aj) (λ_ ak=>ak)
  refine Ye (ac) au If rfl (Zd (v:=ac) rfl (dn (sr (Za (v:=vI B) rfl (Za (v:=ac) rfl (Zu A 0 rfl ZCs rfl (Zm rfl rfl (Zd (v:=vI (Zwt.wrap (B+((a0.getD I Ci).length:Int)))) rfl (dn (sr (Za (v:=vI (Zwt.wrap (B+((a0.getD I Ci).length:Int)))) rfl (Zl rfl rfl (dn ?_)))))))))))))
  obtain ⟨av,h⟩:=h;refine Z4 rfl (decide_eq_false av) (ZCd (Zr (Ze (Zh (Zm rfl rfl (Za (v:=vI (Zwt.wrap ((I:Int)+1))) rfl (done ?_)))))))
  exact ar (Zwt.wrap (B+((a0.getD I Ci).length:Int))) _ _ ⟨(sl ⟨rfl,rfl,rfl,rfl,(tr rfl (I1 _ (Z2 V aq))),trivial⟩),(A.sP [1] rfl)⟩ h
 ·clear A h;rintro B e_ bi a6 ⟨aa,A⟩ h;rw [ue aa];refine sr (Zl rfl rfl (dn (ZB9 (Z4 rfl (decide_eq_false (by omega)) ?_))))
  refine ZCo (Zi (Zi (Zy ?_)))
  refine Ze (sr (Za (v:=vI B) rfl (Zf [.slice none 0 0,vI B] _ Tryz.func198 rfl rfl rfl (Zpx B h _) ?_)))
  rintro _ bj ⟨ad,ae,a8,rfl,h,aw,ax,ay⟩;refine rt ?_
  replace A:=A.push ay (ZCn (ZJh 2 (eI.tr)) ad [ae] a8) aw ax;obtain ⟨az,a1⟩:=Yx (A.Ix 0 rfl).1;subst a1;replace A:=A.Iz (c:=own 2 1 ae ad.length (eI.encs ad)) (λ_ h_=>h_) (λ_=>az)
  refine Zd (v:=ae) rfl (dn (ZB9 (sr (Za (v:=Ia) rfl (Zu A 0 rfl ZKd rfl (Za (v:=vI 0) rfl (dn (ZCf ?_))))))))
  have a2:a0.length<=9223372036854775807:=Yz (A.Iw 0 rfl);refine Yh (S:=(List Int)) _ _ (λL U e_ w_=>∃ (O:Value),Zt e_ [(6,O),(25,Ia),(26,vI (a0.length:Int)),(27,vI (L:Int))]/\Ctx Nox w0 w_ [own 2 1 O U.length (eI.encs U)] [ZB8 (ZFf.sl) a0 [Ia] Ib]) a0.length ?_ ?_ (s0:=ad) ?_ h
  ·clear A h;rintro L U e_ bk bc a9 ab ⟨O,aa,A⟩ h a3;rw [ue aa];refine sr (Zl rfl rfl (dn (ZB9 (Z8 rfl (decide_eq_true (by omega)) (ZCd (Ze (ZB9 (ZCf (sr ?_)))))))))
   obtain ⟨bd,bl,al⟩:=Zx (A.Iw 0 rfl) L ab;refine Yn (len:=a0.length) ZKd If.size (tr rfl al) rfl (ZCq _) (ZC9.2 ab) ?_
   obtain ⟨a7,am,a4,an⟩:=Xb (A.Iw 0 rfl) al L ab;obtain ⟨ag,rfl⟩:=ZC7.1 am;clear am;rw [Y9 _ _ ab] at an
   replace A:=A.I0 0 rfl (ZB8 TInts (a0.getD L Ci) [ag] Ib) (λ_=>an) (λ_ ak=>ak)
   refine Ye (ag) a4 If rfl (Zd (v:=ag) rfl (dn (Zh (Za (v:=O) rfl (Za (v:=ag) rfl ?_)))))
   obtain ⟨a5,h⟩:=h;refine Jg A 0 ZCs el2 rfl (by decide) (by decide) rfl (Eh (A.Iw 0 rfl)) (λq hq=>Enc.encs_one' (E:=eI) _ q hq) rfl rfl a5 λap bm A=>?_
   replace A:=Y7 A 0 ((U++(a0.getD L Ci)).length) (eI.encs (U++(a0.getD L Ci))) rfl (by simp) (by first | (simp [ZC1]; done) | simp [ZC1,Enc.encs])
   refine Zd (v:=ap) rfl (done (Zr (Ze (Zh (Zm rfl rfl (Za (v:=vI (Zwt.wrap ((L:Int)+1))) rfl (done ?_)))))))
   exact a3 (U++(a0.getD L Ci)) _ _ ⟨ap,(sl ⟨rfl,rfl,rfl,(tr rfl (I1 _ (Z2 ab a2))),trivial⟩),(A.sP [1] rfl)⟩ h
  ·clear A h;rintro U e_ bn a9 ⟨O,aa,A⟩ h;rw [ue aa];refine sr (Zl rfl rfl (dn (ZB9 (Z4 rfl (decide_eq_false (by omega)) ?_))))
   refine ZCo (Zi (Zi (Zy ?_)))
   refine Ze (sr (Za (v:=O) rfl (Zd (v:=O) rfl (dn (ZCi ?_)))))
   exact Zj rfl (Zg rfl) ⟨U,O,(ZDa (Fe O)),rfl,h,(Xi (A.Ix 0 rfl)),(Xg A 0 rfl),A.below⟩ (.inl rfl)
  ·skip;exact⟨ae,(slq rfl),A⟩
 ·skip;exact⟨(slq rfl),A⟩
def M3 (a0:List (List Int)) (U:Int) (K:List (List Int)->Prop):Prop :=
 Z1 (λB (I:(List (List Int))) V=>((0<=(a0.length:Int)/\(a0.length:Int) * 8<=281474976710656)/\((0<=(B:Int)/\(B:Int) < ((Cd ((a0.length:Int).toNat) (0:Int)).length:Int))/\Hp [(a0.getD B Ci),(Cd ((a0.length:Int).toNat) (0:Int)).set B 1] (λaa=>(Zw (I.length+1) 24/\V (I++[aa])))))) (λ(I:(List (List Int)))=>Uh I (λh=>Z1 (λL (A:(List (List Int))) O=>((0<=U/\U<=((h.getD L Ci).length:Int))/\Hn ((h.getD L Ci).take U.toNat) (λab=>(if ab=true then((0<=U/\U<=((h.getD L Ci).length:Int))/\(Zw (A.length+1) 24/\O (A++[(h.getD L Ci).drop U.toNat]))) else O A)))) (λ(A:(List (List Int)))=>Uh A (λac=>K ac)) h.length 0 [])) a0.length 0 []
theorem Zgx (a0:List (List Int)) (a1:Int)  {K:List (List Int)->Prop} (h:M3 a0 a1 K) (w0:World) (q0:(ZFf.sl).rep a0 [Ia] Ib w0) :
  Calls ZCc 136 #[Ia,vI a1] w0 λe w'=>∃ (r0:List (List Int)) (Ih:Value) (bs:List Nat),
   e=.returned (Ih)/\K r0/\(ZCn (ZJh 22 (ZJh 2 (eI.tr))) r0 [Ih] bs).holds w'/\(∀ b,b∈bs->w0.heap.size<=b)/\Bel w0 w':=by
 unfold M3 at h
 refine cof Tryz.func136 rfl 57 Tryz.ntmps136 ?_
 have A:=ZCu (X:=Nox) w0 [ZB8 (ZFf.sl) a0 [Ia] Ib] (al1 q0);refine sr (Zd (v:=.slice none 0 0) rfl (dn (sr (Za (v:=Ia) rfl (Zu A 0 rfl ZKd rfl (Yd (sz:=1) A [] [] rfl (λ_=>Jl _) rfl (by decide) λb5 w6 ay A=>?_))))))
 replace A:=A.pushE (ZM7 TInts [] [] []) (Zbq _ _) rfl;refine Zd (v:=vI (a0.length:Int)) rfl (Zd (v:=.slice (some ⟨b5,0,none⟩) 0 0) rfl (dn (ZB9 (sr (Za (v:=Ia) rfl (Zu A 1 rfl ZKd rfl (Za (v:=vI 0) rfl (dn (ZCf ?_)))))))))
 have ca:a0.length<=9223372036854775807:=Yz (A.Iw 1 rfl);refine Yh (S:=(List (List Int))) _ _ (λB al e_ w_=>∃ (ao:Value),∃ (ah:List Value),∃ (ap:List Nat),Zt e_ [(1,vI a1),(5,vI (a0.length:Int)),(6,ao),(16,Ia),(17,vI (a0.length:Int)),(18,vI (B:Int))]/\(∀ b,b∈ap->w0.heap.size<=b)/\Ctx Nox w0 w_ [own 22 1 ao al.length ah] [ZM7 TInts al ah ap,ZB8 (ZFf.sl) a0 [Ia] Ib]) a0.length ?_ ?_ (s0:=[]) ?_ h
 ·clear A h;rintro B al e_ dx dp dg aq ⟨ao,ah,ap,ar,a7,A⟩ h cb;rw [ue ar];refine sr (Zl rfl rfl (dn (ZB9 (Z8 rfl (decide_eq_true (by omega)) (ZCd (Ze (ZB9 (ZCf (sr (Za (v:=vI (B:Int)) rfl ?_))))))))))
  obtain ⟨dq,dy,a8⟩:=Zx (A.Iw 1 rfl) B aq;refine Yn (len:=a0.length) ZKd If.size (tr rfl a8) rfl (ZCq _) (ZC9.2 aq) ?_
  obtain ⟨dh,a9,cc,ba⟩:=Xb (A.Iw 1 rfl) a8 B aq;obtain ⟨ai,rfl⟩:=ZC7.1 a9;clear a9;rw [Y9 _ _ aq] at ba
  replace A:=A.I0 1 rfl (ZB8 TInts (a0.getD B Ci) [ai] Ib) (λ_=>ba) (λ_ O=>O)
  refine Ye (ai) cc If rfl (Zd (v:=vI (B:Int)) rfl (Zd (v:=ai) rfl (dn (sr (Za (v:=vI (a0.length:Int)) rfl ?_)))))
  obtain ⟨bb,h⟩:=h;refine Uu (sz:=1) A (eI.encs (Cd ((a0.length:Int).toNat) (0:Int))) ZCs el2 (tr rfl (I1 (Value.int .i64) (ZFl bb.1).symm)) (tr rfl (I1 (Value.int .i64) (ZFl bb.1).symm)) (by omega) (by omega) (V9 (E:=eI) _ _) λV dz ay A=>?_
  replace A:=Y7 A 0 ((Cd ((a0.length:Int).toNat) (0:Int)).length) (eI.encs (Cd ((a0.length:Int).toNat) (0:Int))) rfl (by simp) rfl
  refine Zd (v:=V) rfl (dn (sr (Za (v:=V) rfl (Za (v:=vI (B:Int)) rfl ?_))))
  obtain ⟨⟨di,dj⟩,h⟩:=h;obtain ⟨dr,d0,bc⟩:=Xx (A.Ix 0 rfl) (ZFu (Fq _) (show B < (Cd ((a0.length:Int).toNat) (0:Int)).length by omega))
  refine X4 (B * 1) ZCs sc2.size (tr rfl bc) rfl di dj rfl (U6 (v:=vI 1) A 0 [vI 1] (eI.encs ((Cd ((a0.length:Int).toNat) (0:Int)).set B 1)) rfl bc sc2.size rfl rfl rfl rfl rfl (by rw [Enc.encs_len]; exact W8 (sz:=1) (show B < (Cd ((a0.length:Int).toNat) (0:Int)).length by omega)) (U7 _ _ _ (show B < (Cd ((a0.length:Int).toNat) (0:Int)).length by omega)) λd1 A=>?_)
  replace A:=Y7 A 0 (((Cd ((a0.length:Int).toNat) (0:Int)).set B 1).length) (eI.encs ((Cd ((a0.length:Int).toNat) (0:Int)).set B 1)) rfl (by simp) rfl
  refine dn (Zh (Za (v:=ao) rfl (Za (v:=ai) rfl (Za (v:=V) rfl ?_))))
  have ce:=Xg A 0 rfl;replace A:=A.thaw 0 rfl (ZB8 TInts ((Cd ((a0.length:Int).toNat) (0:Int)).set B 1) [V] (ZDa (Fe V))) Yu (λ_ O=>O)
  refine Yd (sz:=1) A [(0,ai),(1,V)] [ai,V] rfl (λ_=>Zps ai V (Tc (A.Iw 1 rfl)) (Tc (A.Iw 0 rfl)) _) rfl (by decide) λaz d2 ay A=>?_
  have cg:=Xg A 0 rfl;replace A:=A.joinP 1 0 rfl rfl (ZM7 TInts [(a0.getD B Ci),(Cd ((a0.length:Int).toNat) (0:Int)).set B 1] [ai,V] (Ib++(ZDa (Fe V)))) (λa_ b_=>Zoa a_ b_) (λc_ aa=>Ch.1 aa)
  replace A:=A.thaw 0 rfl (own 22 1 (.slice (some ⟨az,0,none⟩) 2 2) 2 [ai,V]) id (λ_ O=>O)
  replace A:=A.joinP 0 1 rfl rfl (ZB8 (ZFf.sl) [(a0.getD B Ci),(Cd ((a0.length:Int).toNat) (0:Int)).set B 1] [.slice (some ⟨az,0,none⟩) 2 2] ((ZDa (Fe (.slice (some ⟨az,0,none⟩) 2 2)))++(Ib++(ZDa (Fe V))))) (λa_ b_=>Vp a_ b_) (λc_ aa=>Ch.1 aa)
  have dt:∀ b,b∈((ZDa (Fe (.slice (some ⟨az,0,none⟩) 2 2)))++(Ib++(ZDa (Fe V))))->w0.heap.size<=b\/b∈(Ib):=(λb hb=>(Ch.1 hb).elim (λhb=>.inl (cg b hb)) (λhb=>(Ch.1 hb).elim (λhb=>.inr hb) (λhb=>.inl (ce b hb))))
  refine Zf [.slice (some ⟨az,0,none⟩) 2 2] _ Tryz.func184 rfl rfl rfl (Zpy [(a0.getD B Ci),(Cd ((a0.length:Int).toNat) (0:Int)).set B 1] h _ (A.Iw 0 rfl)) ?_
  rintro _ d3 ⟨aj,U,dk,rfl,h,ch,ci,cj⟩;refine rt ?_
  replace A:=A.push cj (ZCn (ZJh 2 (eI.tr)) aj [U] dk) ch ci;obtain ⟨ck,cl⟩:=Yx (A.Ix 0 rfl).1;subst cl;replace A:=A.Iz (c:=own 2 1 U aj.length (eI.encs aj)) (λ_ h_=>h_) (λ_=>ck)
  have cm:=Xg A 0 rfl;replace A:=A.thaw 0 rfl (ZB8 TInts aj [U] (ZDa (Fe U))) Yu (λ_ O=>O)
  refine Yd (sz:=1) A [(0,U)] [U] rfl (λ_=>Wc U (Tc (A.Iw 0 rfl)) _) rfl (by decide) λam d4 ay A=>?_
  have cn:=Xg A 0 rfl;replace A:=A.thaw 0 rfl (own 22 1 (.slice (some ⟨am,0,none⟩) 1 1) 1 [U]) id (λ_ O=>O)
  replace A:=A.joinP 0 1 rfl rfl (ZB8 (ZFf.sl) [aj] [.slice (some ⟨am,0,none⟩) 1 1] ((ZDa (Fe (.slice (some ⟨am,0,none⟩) 1 1)))++(ZDa (Fe U)))) (λa_ b_=>Vp a_ (Sv b_)) (λc_ aa=>Ch.1 aa)
  have cp:∀ b,b∈((ZDa (Fe (.slice (some ⟨am,0,none⟩) 1 1)))++(ZDa (Fe U)))->w0.heap.size<=b:=(λb hb=>(Ch.1 hb).elim (λhb=>cn b hb) (λhb=>cm b hb))
  obtain ⟨av,cq,bd⟩:=Q7 (A.Iw 0 rfl);replace A:=A.I0 0 rfl (ZM7 TInts [aj] av ((ZDa (Fe (.slice (some ⟨am,0,none⟩) 1 1)))++(ZDa (Fe U)))) (λ_=>bd) (λ_ h_=>h_)
  obtain ⟨cr,h⟩:=h;refine Jg A 0 ZKd J0 rfl (by decide) (by decide) rfl cq (λq_ be=>bd.2.2.1 q_ be) rfl rfl cr λbt d5 A=>?_
  replace A:=Y7 A 0 ((al++[aj]).length) (ah++av) rfl (by simp) (by simp)
  have cu:∀ b,b∈(ap++((ZDa (Fe (.slice (some ⟨am,0,none⟩) 1 1)))++(ZDa (Fe U))))->w0.heap.size<=b:=(λb hb=>(Ch.1 hb).elim (λhb=>a7 b hb) (λhb=>cp b hb))
  replace A:=A.joinP 9 0 rfl rfl (ZM7 TInts (al++[aj]) (ah++av) (ap++((ZDa (Fe (.slice (some ⟨am,0,none⟩) 1 1)))++(ZDa (Fe U))))) (λa_ b_=>Q8 a_ b_) (λc_ aa=>Ch.1 aa)
  refine Zd (v:=bt) rfl (done (Zr (Ze (Zh (Zm rfl rfl (Za (v:=vI (Zwt.wrap ((B:Int)+1))) rfl (done ?_)))))))
  exact cb (al++[aj]) _ _ ⟨bt,ah++av,(ap++((ZDa (Fe (.slice (some ⟨am,0,none⟩) 1 1)))++(ZDa (Fe U)))),(sl ⟨rfl,rfl,rfl,rfl,rfl,(tr rfl (I1 _ (Z2 aq ca))),trivial⟩),cu,(A.sP [0,11] rfl)⟩ h
 ·clear A h;rintro al e_ d6 dg ⟨ao,ah,ap,ar,a7,A⟩ h;rw [ue ar];refine sr (Zl rfl rfl (dn (ZB9 (Z4 rfl (decide_eq_false (by omega)) ?_))))
  refine ZCo (Zi (Zi (Zy ?_)))
  refine Ze (sr (Yd (sz:=1) A [] [] rfl (λ_=>Jl _) rfl (by decide) λbu d7 ay A=>?_))
  replace A:=A.pushE (ZM7 TInts [] [] []) (Zbq _ _) rfl;refine Zd (v:=.slice (some ⟨bu,0,none⟩) 0 0) rfl (dn (ZB9 (sr (Za (v:=ao) rfl (Zf [ao] _ ZM8 rfl rfl rfl (M2 al h _ (Vp (A.Ix 1 rfl) (A.Iw 1 rfl))) ?_)))))
  rintro _ d8 ⟨I,a6,ac,rfl,h,cv,cw,cx⟩;refine rt ?_
  replace A:=A.push cx (ZCn (ZJh 22 (ZJh 2 (eI.tr))) I [a6] ac) cv cw;refine Qs A 0 rfl ZKd rfl (Za (v:=vI 0) rfl (dn (ZCf ?_)))
  have cy:=J9 A 0 rfl;replace A:=A.thaw 0 rfl (ZB8 (ZFf.sl) I [a6] ac) (λh_=>Tr.trep _ h_.1) (λ_ O=>O)
  have bh:I.length<=9223372036854775807:=Yz (A.Iw 0 rfl);refine Yh (S:=(List (List Int))) _ _ (λL ae e_ w_=>∃ (ad:Value),∃ (ab:List Value),∃ (ag:List Nat),Zt e_ [(1,vI a1),(10,ad),(38,a6),(39,vI (I.length:Int)),(40,vI (L:Int))]/\(∀ b,b∈ag->w0.heap.size<=b)/\Ctx Nox w0 w_ [own 22 1 ad ae.length ab] [ZM7 TInts ae ab ag,ZB8 (ZFf.sl) I [a6] ac,ZB8 (ZFf.sl) a0 [Ia] Ib]) I.length ?_ ?_ (s0:=[]) ?_ h
  ·clear A h;rintro L ae e_ d9 du dm ak ⟨ad,ab,ag,ar,aw,A⟩ h bi;rw [ue ar];refine sr (Zl rfl rfl (dn (ZB9 (Z8 rfl (decide_eq_true (by omega)) (ZCd (Ze (ZB9 (ZCf (sr ?_)))))))))
   obtain ⟨dv,ea,bj⟩:=Zx (A.Iw 1 rfl) L ak;refine Yn (len:=I.length) ZKd If.size (tr rfl bj) rfl (ZCq _) (ZC9.2 ak) ?_
   obtain ⟨dh,bk,cz,bl⟩:=Xb (A.Iw 1 rfl) bj L ak;obtain ⟨a2,rfl⟩:=ZC7.1 bk;clear bk;rw [Y9 _ _ ak] at bl
   replace A:=A.I0 1 rfl (ZB8 TInts (I.getD L Ci) [a2] ac) (λ_=>bl) (λ_ O=>O)
   refine Ye (a2) cz If rfl (Zd (v:=a2) rfl (dn (sr (Za (v:=a2) rfl (Za (v:=vI a1) rfl ?_)))))
   obtain ⟨bv,h⟩:=h;obtain ⟨bm,bw,bn,a3⟩:=Zbw (A.Iw 0 rfl);refine Zor ZCs sc2.size (tr rfl bn) rfl bv.1 bv.2 a3 ?_
   replace A:=A.I0 0 rfl (ZB8 TInts ((I.getD L Ci).take a1.toNat) [(sliced bm 0 a1.toNat bw 1)] ac) (λh_=>Zop h_ bn (show _<=_ by omega) a3) (λ_ h_=>h_)
   refine Zf [(sliced bm 0 a1.toNat bw 1)] _ Tryz.func83 rfl rfl rfl (Zpw ((I.getD L Ci).take a1.toNat) h _ (A.Iw 0 rfl)) ?_
   rintro _ eb ⟨ec,rfl,h,c0⟩;refine rt ?_
   replace A:=A.Iy c0;refine dn ?_
   refine Zs rfl (λa5=>?_) (λa5=>?_)
   ·replace h:=ift h (a5);refine Zh (Za (v:=ad) rfl (Za (v:=a2) rfl (Za (v:=vI a1) rfl ?_)))
    obtain ⟨bx,h⟩:=h;obtain ⟨au,a4,bo,bp⟩:=Zbw (A.Iw 1 rfl);refine Zbx ZCs sc2.size (tr rfl bo) rfl bx.1 bx.2 ?_
    replace A:=A.I0 1 rfl (ZB8 TInts ((I.getD L Ci).drop a1.toNat) [(sliced au a1.toNat ((I.getD L Ci).length) a4 1)] ac) (λh_=>Zbv h_ bo (show _<=_ by omega) bp) (λ_ h_=>h_)
    refine Yd (sz:=1) A [(0,(sliced au a1.toNat ((I.getD L Ci).length) a4 1))] [(sliced au a1.toNat ((I.getD L Ci).length) a4 1)] rfl (λ_=>Wc (sliced au a1.toNat ((I.getD L Ci).length) a4 1) (Tc (A.Iw 0 rfl)) _) rfl (by decide) λan ed ay A=>?_
    have c6:=Xg A 0 rfl;replace A:=A.thaw 0 rfl (own 22 1 (.slice (some ⟨an,0,none⟩) 1 1) 1 [(sliced au a1.toNat ((I.getD L Ci).length) a4 1)]) id (λ_ O=>O)
    replace A:=A.joinP 0 1 rfl rfl (ZB8 (ZFf.sl) [(I.getD L Ci).drop a1.toNat] [.slice (some ⟨an,0,none⟩) 1 1] ((ZDa (Fe (.slice (some ⟨an,0,none⟩) 1 1)))++ac)) (λa_ b_=>Vp a_ (Sv b_)) (λc_ aa=>Ch.1 aa)
    have c7:∀ b,b∈((ZDa (Fe (.slice (some ⟨an,0,none⟩) 1 1)))++ac)->w0.heap.size<=b:=(λb hb=>(Ch.1 hb).elim (λhb=>c6 b hb) (λhb=>cy b hb))
    obtain ⟨ax,c8,bq⟩:=Q7 (A.Iw 0 rfl);replace A:=A.I0 0 rfl (ZM7 TInts [(I.getD L Ci).drop a1.toNat] ax ((ZDa (Fe (.slice (some ⟨an,0,none⟩) 1 1)))++ac)) (λ_=>bq) (λ_ h_=>h_)
    obtain ⟨c9,h⟩:=h;refine Jg A 0 ZKd J0 rfl (by decide) (by decide) rfl c8 (λq_ be=>bq.2.2.1 q_ be) rfl rfl c9 λbz ee A=>?_
    replace A:=Y7 A 0 ((ae++[(I.getD L Ci).drop a1.toNat]).length) (ab++ax) rfl (by simp) (by simp)
    have da:∀ b,b∈(ag++((ZDa (Fe (.slice (some ⟨an,0,none⟩) 1 1)))++ac))->w0.heap.size<=b:=(λb hb=>(Ch.1 hb).elim (λhb=>aw b hb) (λhb=>c7 b hb))
    replace A:=A.joinP 6 0 rfl rfl (ZM7 TInts (ae++[(I.getD L Ci).drop a1.toNat]) (ab++ax) (ag++((ZDa (Fe (.slice (some ⟨an,0,none⟩) 1 1)))++ac))) (λa_ b_=>Q8 a_ b_) (λc_ aa=>Ch.1 aa)
    refine Zd (v:=bz) rfl (done (Zr (Ze (Zh (Zm rfl rfl (Za (v:=vI (Zwt.wrap ((L:Int)+1))) rfl (done ?_)))))))
    exact bi (ae++[(I.getD L Ci).drop a1.toNat]) _ _ ⟨bz,ab++ax,(ag++((ZDa (Fe (.slice (some ⟨an,0,none⟩) 1 1)))++ac)),(sl ⟨rfl,rfl,rfl,rfl,(tr rfl (I1 _ (Z2 ak bh))),trivial⟩),da,(A.sP [0,8,9] rfl)⟩ h
   ·replace h:=Zk h (Xe a5);refine ZCd (Zr (Ze (Zh (Zm rfl rfl (Za (v:=vI (Zwt.wrap ((L:Int)+1))) rfl (done ?_))))))
    exact bi ae _ _ ⟨ad,ab,ag,(sl ⟨rfl,rfl,rfl,rfl,(tr rfl (I1 _ (Z2 ak bh))),trivial⟩),aw,(A.sP [2,3,4] rfl)⟩ h
  ·clear A h;rintro ae e_ ef dm ⟨ad,ab,ag,ar,aw,A⟩ h;rw [ue ar];refine sr (Zl rfl rfl (dn (ZB9 (Z4 rfl (decide_eq_false (by omega)) ?_))))
   refine ZCo (Zi (Zi (Zy ?_)))
   refine Ze (sr (Za (v:=ad) rfl (Zf [ad] _ ZM8 rfl rfl rfl (M2 ae h _ (Vp (A.Ix 0 rfl) (A.Iw 0 rfl))) ?_)))
   rintro _ eg ⟨b8,br,b9,rfl,h,db,dc,dd⟩;refine rt ?_
   replace A:=A.push dd (ZCn (ZJh 22 (ZJh 2 (eI.tr))) b8 [br] b9) db dc;refine Zd (v:=br) rfl (dn (ZCi ?_))
   have de:=Xg A 1 rfl;replace A:=A.thaw 1 rfl (own 22 1 ad ae.length ab) id (λ_ O=>O)
   replace A:=A.joinP 0 1 rfl rfl (ZB8 (ZFf.sl) ae [ad] ((ZDa (Fe ad))++ag)) (λa_ b_=>Vp a_ b_) (λc_ aa=>Ch.1 aa)
   have dw:∀ b,b∈((ZDa (Fe ad))++ag)->w0.heap.size<=b:=(λb hb=>(Ch.1 hb).elim (λhb=>de b hb) (λhb=>aw b hb))
   exact Zj rfl (Zg rfl) ⟨b8,br,b9,rfl,h,(A.Ix 0 rfl),(J9 A 0 rfl),A.below⟩ (.inl rfl)
  ·skip;exact⟨.slice (some ⟨bu,0,none⟩) 0 0,[],[],(slq rfl),(λb hb=>absurd hb (by simp)),((A.xM [0] rfl).sP [1,0,3] rfl)⟩
 ·skip;exact⟨.slice (some ⟨b5,0,none⟩) 0 0,[],[],(slq rfl),(λb hb=>absurd hb (by simp)),A⟩
def Dh (C:Cx) (O:Alg) (h:Int) (K:Prop):Prop :=
 (M0 C O h/\((Ug C O.degrees (Zwt.wrap (h+1))/\M3 (C.MX h) ((C.LV (Zwt.wrap (h+1))).length:Int) (λU=>(U=C.CL h/\(if h > 0 then(M0 C O (Zwt.wrap (h - 1))/\Uh (C.MX (Zwt.wrap (h - 1))) (λV=>(V=C.BD h/\Z1 (λaa (A:(List (List Int))) I=>S0 ((C.CL h).getD aa Ci) (C.BD h) (λab=>(Zw (A.length+1) 24/\I (A++[ab])))) (λ(A:(List (List Int)))=>Uh A (λac=>(ac=C.KL h/\K))) ((C.CL h).length) 0 []))) else(C.BD h=[]/\Z1 (λad (B:(List (List Int))) L=>S0 ((C.CL h).getD ad Ci) (C.BD h) (λae=>(Zw (B.length+1) 24/\L (B++[ae])))) (λ(B:(List (List Int)))=>Uh B (λag=>(ag=C.KL h/\K))) ((C.CL h).length) 0 [])))))/\K))
theorem Zpz (C:Cx) (a0:Alg) (B:Int)  {K:Prop} (h:Dh C a0 B K) (w0:World) (q0:TAlg.rep a0 [Ia,Ic] Ib w0) (fd:(blk b0 32 [Ia,Ic]).holds w0) (cz:(blk bp0 198 [vQ b0,.map (some mb0)]).holds w0) (fe:(cpx C 125 mb0 D0 F0).holds w0) (ff:∀ b,b∈Ib->b∉(cpx C 125 mb0 D0 F0).fp) (fg:b0∉(cpx C 125 mb0 D0 F0).fp) (c0:bp0∉(cpx C 125 mb0 D0 F0).fp) (fh:Mx D0) :
  Calls ZCc 79 #[vQ bp0,vI B] w0 λe w'=>∃ (cp:Nat) (Dz:List Lev) (Fz:List Nat),
   e=.returned (vvP cp)/\K/\LvAt Dz B cp true true/\CpLe D0 Dz F0 Fz/\(cpx C 125 mb0 Dz Fz).holds w'/\(∀ x,x∈(cpx C 125 mb0 Dz Fz).fp->x∈(cpx C 125 mb0 D0 F0).fp\/w0.heap.size<=x)/\BelO ((cpx C 125 mb0 D0 F0).fp) w0 w':=by
 unfold Dh at h
 refine cof Tryz.func79 rfl 73 Tryz.ntmps79 ?_
 have A:=Ctx.startL w0 ((cpx C 125 mb0 D0 F0).fp) [cpx C 125 mb0 D0 F0] [ZB8 TAlg a0 [Ia,Ic] Ib,blk b0 32 [Ia,Ic],blk bp0 198 [vQ b0,.map (some mb0)]] (al1 fe) (alc q0 (alc fd (al1 cz))) (al1 (λb_ V=>V)) (ZK0 _ _) (alc (λb_ V=>ff b_ V) (alc (Vr fg) (al1 (Vr c0))))
 replace A:=A.dAlg 0 rfl;refine sr (Zd (v:=.pointer none) rfl (dn (sr (Za (v:=vQ bp0) rfl (Za (v:=vI B) rfl ?_)))))
 obtain ⟨c6,h⟩:=h;refine Zf [vQ bp0,vI B] _ Tryz.func135 rfl rfl rfl (Zb3 C a0 B c6 _ (Yf (A.Iw 1 rfl) (A.Iw 0 rfl)) (A.Iw 3 rfl) (A.Iw 4 rfl) (A.Ix 0 rfl) (λb_ hb U=>(Ch.1 hb).elim (λhb=>A.pdk 1 0 rfl rfl b_ hb U) (λhb=>A.pdk 0 0 rfl rfl b_ hb U)) (λI=>A.pdk 3 0 rfl rfl _ (ZJp _) I) (λI=>A.pdk 4 0 rfl rfl _ (ZJp _) I)) ?_
 rintro _ w9 ⟨L,fi,fj,rfl,aw,ax,c7,c8,c9⟩;refine rt ?_
 replace A:=A.turnI 0 rfl c9 c7 c8;refine Zd (v:=vvP L) rfl (dn (ZB9 (sr (Za (v:=vvP L) rfl (Xd rfl (Z0 3 ZJo rfl Im.size rfl rfl ?_))))))
 obtain ⟨gr,gs,gu,fk,gv,gw,da,db,gx,gy,bt,ck⟩:=Zpl (A.Ix 0 rfl) aw (ax.rest fh);refine Ye (fk) (Jv (off:=3) (sz:=1) da rfl) Im rfl ?_
 rcases db with _ | f0
 ·replace h:=h.1;refine Zgr false ZKd (tr rfl bt) rfl rfl (dn (Z4 rfl rfl (ZCd (Ze (ZB9 ?_)))))
  refine Zgj mb0 14 Ym [0,0,2,6,14,0,0,64,224,480,992,2016,4064,8190,16383,32767,65535] [4,11,12] [0,1,2,3,5,6,7,9,10] (by kernel_rfl) (by kernel_rfl) (by kernel_rfl) (λbi ae gz an=>?_)
  replace A:=A.Iy an;refine bMR (J5 mb0) 0 (vvP L) rfl ae (Zc 17 1) (bMR (J5 mb0) 1 (vvP L) rfl ae (Zc 17 3) (Zv (J5 mb0) 2 (vvP L) rfl rfl (by kernel_rfl) (ae 2 rfl) (λw_=>.inl ⟨rfl,by exact Wu rfl⟩) (l9:=(Zc 17 7)) (by kernel_rfl) (Zv (J5 mb0) 3 (.pointer (some ⟨L,2,none⟩)) rfl rfl (by kernel_rfl) (ae 3 rfl) (λw_=>.inl ⟨rfl,by exact Yq 2 ZJo rfl Im.size rfl rfl⟩) (l9:=(Zc 17 15)) (by kernel_rfl) ?_)))
  obtain ⟨g0,g1,bu,g2,g3,g4,dc,f1,dd,f2,f3⟩:=Hk (A.Ix 0 rfl) aw.inn;have de:=dd;have bv:=Zpm (A.Ix 0 rfl) aw.inn;refine W0 (J5 mb0) 4 (bu) rfl rfl (by kernel_rfl) (bi 4 rfl) (λw_ an=>.inl ⟨rfl,by exact Xp (bu) (Jv (off:=2) (sz:=1) (Zgo an dc bv) rfl) Im rfl⟩) (l9:=(Zc 17 31)) (by kernel_rfl) (bMR (J5 mb0) 5 (vQ bp0) rfl ae (Zc 17 63) (bMR (J5 mb0) 6 (vI B) rfl ae (Zc 17 127) (Zv (J5 mb0) 7 (vI (Zwt.wrap (B+1))) rfl rfl (by kernel_rfl) (ae 7 rfl) (λw_=>.inl ⟨rfl,by exact Vn rfl rfl⟩) (l9:=(Zc 17 255)) (by kernel_rfl) (aO 8 rfl ?_))))
  have cl:=(A.Ix 0 rfl).2.2.2.2.1;obtain ⟨dg,h⟩:=h;refine Zf [vQ bp0,vI (Zwt.wrap (B+1))] _ Tryz.func115 rfl rfl rfl (Nc C a0 (Zwt.wrap (B+1)) dg _ (Yf (A.Iw 1 rfl) (A.Iw 0 rfl)) (A.Iw 3 rfl) (A.Iw 4 rfl) (A.Ix 0 rfl) (λb_ hb U=>(Ch.1 hb).elim (λhb=>A.pdk 1 0 rfl rfl b_ hb U) (λhb=>A.pdk 0 0 rfl rfl b_ hb U)) (λI=>A.pdk 3 0 rfl rfl _ (ZJp _) I) (λI=>A.pdk 4 0 rfl rfl _ (ZJp _) I)) ?_
  rintro _ g5 ⟨cq,fl,ag,rfl,bk,a8,dh,di,bw⟩;refine rt ?_
  replace A:=A.turnI 0 rfl (bw.belO Vg) dh di;have dj:=Zpn de bw cl;refine done (aK (by first | assumption | exact Sw (by assumption)) (Zc 17 511) (Zv (J5 mb0) 9 (vvP cq) rfl rfl (by kernel_rfl) (ae 9 rfl) (λw_=>.inl ⟨rfl,by exact Wu rfl⟩) (l9:=(Zc 17 1023)) (by kernel_rfl) (Zv (J5 mb0) 10 (vQ cq) rfl rfl (by kernel_rfl) (ae 10 rfl) (λw_=>.inl ⟨rfl,by exact Yq 0 ZJo rfl Io.size rfl rfl⟩) (l9:=(Zc 17 2047)) (by kernel_rfl) ?_)))
  obtain ⟨cr,g6,g7,g8,g9,ha,dk,dm,f4,f5⟩:=Mz (A.Ix 0 rfl) bk;have dp:=dm;have bx:=Zb4 (A.Ix 0 rfl) bk;refine W0 (J5 mb0) 11 (cr) rfl rfl (by kernel_rfl) (bi 11 rfl) (λw_ an=>.inl ⟨rfl,by exact Xp (cr) (Jv (off:=0) (sz:=1) (Zgo an dk bx) rfl) Io rfl⟩) (l9:=(Zc 17 4095)) (by kernel_rfl) ?_
  obtain ⟨f6,hc,dq⟩:=Sk dp;refine W0 (J5 mb0) 12 (vI ((C.LV (Zwt.wrap (B+1))).length:Int)) rfl rfl (by kernel_rfl) (bi 12 rfl) (λw_ an=>.inl ⟨rfl,by exact N8 Tryz.underlying122 (by exact tr rfl dq)⟩) (l9:=(Zc 17 8191)) (by kernel_rfl) (aO 13 rfl (Zf [bu,vI ((C.LV (Zwt.wrap (B+1))).length:Int)] _ Tryz.func136 rfl rfl rfl (Zgx (C.MX B) ((C.LV (Zwt.wrap (B+1))).length:Int) h _ dj) ?_))
  rintro _ he ⟨fo,bz,ac,rfl,h,dr,dt,du⟩;refine rt ?_
  replace A:=A.push du (ZCn (ZJh 22 (ZJh 2 (eI.tr))) fo [bz] ac) dr dt;refine done (aK (by first | assumption | exact Sw (by assumption)) (Zc 17 16383) (Z5 14 (by decide) (by decide) (by kernel_rfl) (by kernel_rfl) rfl (Xd rfl (Z0 3 ZJo rfl Im.size rfl rfl ?_))))
  obtain ⟨cm,h⟩:=h;replace A:=A.Iz (c:=ZCn (ZJh 22 (ZJh 2 (eI.tr))) (C.CL B) [bz] ac) (λ_ O=>O) (λO=>cm ▸ O)
  replace A:=A.sM [1,0] (M':=[cpx C 125 mb0 fl ag,ZCn (ZJh 22 (ZJh 2 (eI.tr))) (C.CL B) [bz] ac]) (by decide) rfl
  refine Zpq A (aw.inn.up a8) Im.size rfl rfl (λfq hf b8 bl A=>?_)
  refine done (Z6 (Ze (ZB9 (sr (Za (v:=vI B) rfl (Jn rfl rfl (dn ?_)))))))
  refine Zs rfl (λbj=>?_) (λbj=>?_)
  ·replace h:=ift h (ct bj);refine Zh (Za (v:=vvP L) rfl (Za (v:=vQ bp0) rfl (Za (v:=vI B) rfl (X5 rfl rfl ?_))))
   obtain ⟨dv,h⟩:=h;refine Zf [vQ bp0,vI (Zwt.wrap (B - 1))] _ Tryz.func135 rfl rfl rfl (Zb3 C a0 (Zwt.wrap (B - 1)) dv _ (Yf (A.Iw 1 rfl) (A.Iw 0 rfl)) (A.Iw 3 rfl) (A.Iw 4 rfl) (A.Ix 0 rfl) (λb_ hb U=>(Ch.1 hb).elim (λhb=>A.pdk 1 0 rfl rfl b_ hb U) (λhb=>A.pdk 0 0 rfl rfl b_ hb U)) (λI=>A.pdk 3 0 rfl rfl _ (ZJp _) I) (λI=>A.pdk 4 0 rfl rfl _ (ZJp _) I)) ?_
   rintro _ hg ⟨hh,fr,aj,rfl,hat104,bm,dw,dx,dy⟩;refine rt ?_
   replace A:=A.turnI 0 rfl dy dw dx;refine Xd rfl (Z0 2 ZJo rfl Im.size rfl rfl ?_)
   obtain ⟨hk,hl,cu,hm,hn,ho,dz,f7,d0,f8⟩:=Mz (A.Ix 0 rfl) hat104;have d1:=d0 rfl;have hnhb111:=Zb4 (A.Ix 0 rfl) hat104;refine Ye (cu) (Jv (off:=2) (sz:=1) dz rfl) Im rfl (Zf [cu] _ ZM8 rfl rfl rfl (M2 (C.MX (Zwt.wrap (B - 1))) h _ d1) ?_)
   rintro _ hp ⟨fs,b9,ad,rfl,h,d2,d3,d4⟩;refine rt ?_
   replace A:=A.push d4 (ZCn (ZJh 22 (ZJh 2 (eI.tr))) fs [b9] ad) d2 d3;refine Xd rfl (Z0 4 ZJo rfl Im.size rfl rfl ?_)
   obtain ⟨hmx127,h⟩:=h;replace A:=A.Iz (c:=ZCn (ZJh 22 (ZJh 2 (eI.tr))) (C.BD B) [b9] ad) (λ_ O=>O) (λO=>hmx127 ▸ O)
   replace A:=A.sM [1,0] (M':=[cpx C 125 mb0 fr aj,ZCn (ZJh 22 (ZJh 2 (eI.tr))) (C.BD B) [b9] ad]) (by decide) rfl
   refine Zpr A (bl.up bm) Im.size rfl rfl (λD128 hq hx130 a9 A=>?_)
   refine dn (sr (Yd (sz:=1) A [] [] rfl (λ_=>Jl _) rfl (by decide) λbb hr an A=>?_))
   replace A:=A.pushM0 (Zz (ZJh 2 (eI.tr)) ([]:List (List Int)) [] []) (Xn _ _) rfl;replace A:=A.gather (c:=ZCn (ZJh 22 (ZJh 2 (eI.tr))) [] [.slice (some ⟨bb,0,none⟩) 0 0] ((ZDa (Fe (.slice (some ⟨bb,0,none⟩) 0 0)))++([]:List (List Nat)).flatten)) (λx_ I=>(Ch.1 I).symm) (λak al am=>Xj al ak (λb_ V U=>am b_ U V))
   refine Zd (v:=.slice (some ⟨bb,0,none⟩) 0 0) rfl (dn (ZB9 (sr (Za (v:=vvP L) rfl (Xd rfl (Z0 3 ZJo rfl Im.size rfl rfl ?_))))))
   have d5:=A.off 1 rfl;have hz136:=A.anyX 1 rfl;replace A:=A.thaw 1 rfl (cpx C 125 mb0 D128 (aj++ad)) id (λ_ V=>V)
   obtain ⟨hs,ht,hu,bn,hv,hw,d6,f9,ga,d7,gb⟩:=Hk (A.Iw 0 rfl) a9;have d8:=d7 rfl;replace A:=A.I0 0 rfl (ZB8 (ZFf.sl) (C.CL B) [bn] (aj++ad)) (λ_=>d8) (λ_ O=>Tk O)
   refine Ye (bn) (Jv (off:=3) (sz:=1) d6 rfl) Im rfl (Zu A 0 rfl ZKd rfl (Za (v:=vI 0) rfl (dn (ZCf ?_))))
   have d9:(C.CL B).length<=9223372036854775807:=Yz (A.Iw 0 rfl);refine Yh (S:=(List (List Int))) _ _ (λay ao e_ w_=>∃ (ah:Value),∃ (au:List Nat),Zt e_ [(5,vvP L),(6,ah),(51,bn),(52,vI ((C.CL B).length:Int)),(53,vI (ay:Int))]/\Ctx (λc_=>c_∈(cpx C 125 mb0 D0 F0).fp) w0 w_ [ZCn (ZJh 22 (ZJh 2 (eI.tr))) ao [ah] au] [ZB8 (ZFf.sl) (C.CL B) [bn] (aj++ad),cpx C 125 mb0 D128 (aj++ad),ZB8 TForm.sl a0.images [Ic] Ib,ZB8 TInts a0.degrees [Ia] Ib,ZB8 TAlg a0 [Ia,Ic] Ib,blk b0 32 [Ia,Ic],blk bp0 198 [vQ b0,.map (some mb0)]]) ((C.CL B).length) ?_ ?_ (s0:=[]) ?_ h
   ·clear A h;rintro ay ao e_ hx gc ft az ⟨ah,au,a2,A⟩ h ea;rw [ue a2];refine sr (Zl rfl rfl (dn (ZB9 (Z8 rfl (decide_eq_true (by omega)) (ZCd (Ze (ZB9 (ZCf (sr ?_)))))))))
    obtain ⟨gf,hy,ca⟩:=Zx (A.Iw 0 rfl) ay az;refine Yn (len:=(C.CL B).length) ZKd If.size (tr rfl ca) rfl (ZCq _) (ZC9.2 az) ?_
    obtain ⟨fu,cb,eb,cc⟩:=Xb (A.Iw 0 rfl) ca ay az;obtain ⟨bc,rfl⟩:=ZC7.1 cb;clear cb;rw [Y9 _ _ az] at cc
    replace A:=A.I0 0 rfl (ZB8 TInts ((C.CL B).getD ay Ci) [bc] (aj++ad)) (λ_=>cc) (λ_ V=>V)
    refine Ye (bc) eb If rfl (Zd (v:=bc) rfl (dn (Zh (Za (v:=ah) rfl (Za (v:=bc) rfl (Za (v:=vvP L) rfl (Xd rfl (Z0 4 ZJo rfl Im.size rfl rfl ?_))))))))
    obtain ⟨hz,h0,h1,h2,ce,h3,ec,gg,gh,gi,ed⟩:=Hk (A.Iw 2 rfl) a9;have ee:=ed rfl;replace A:=A.I0 2 rfl (ZB8 (ZFf.sl) (C.BD B) [ce] (aj++ad)) (λ_=>ee) (λ_ O=>Tk O)
    refine Ye (ce) (Jv (off:=4) (sz:=1) ec rfl) Im rfl (Zf [bc,ce] _ Tryz.func84 rfl rfl rfl (Zgv ((C.CL B).getD ay Ci) (C.BD B) h _ (A.Iw 1 rfl) (A.Iw 0 rfl)) ?_)
    rintro _ h4 ⟨ap,aa,fv,rfl,h,ef,eg,eh⟩;refine rt ?_
    replace A:=A.push eh (ZCn (ZJh 2 (eI.tr)) ap [aa] fv) ef eg;obtain ⟨ei,ej⟩:=Yx (A.Ix 0 rfl).1;subst ej;replace A:=A.Iz (c:=own 2 1 aa ap.length (eI.encs ap)) (λ_ O=>O) (λ_=>ei)
    refine Yd (sz:=1) A [(0,aa)] [aa] rfl (λ_=>Wc aa (Va (A.Ix 0 rfl)) _) rfl (by decide) λa6 h5 an A=>?_
    replace A:=A.pushM0 (Zz (ZJh 2 (eI.tr)) [] [] []) (Xn _ _) rfl;replace A:=A.sM [2,0,1,3] (M':=[own 2 1 aa ap.length (eI.encs ap),Zz (ZJh 2 (eI.tr)) [] [] [],own 22 1 (.slice (some ⟨a6,0,none⟩) 1 1) 1 [aa],ZCn (ZJh 22 (ZJh 2 (eI.tr))) ao [ah] au]) (by decide) rfl
    replace A:=A.gather (c:=Zz (ZJh 2 (eI.tr)) [ap] [aa] [(ZDa (Fe aa))]) (λx_ I=>Vf I) (λak al am=>W9 (c:=[aa]) (id (Xi ak)) al am)
    replace A:=A.sM [1,0,2] (M':=[own 22 1 (.slice (some ⟨a6,0,none⟩) 1 1) 1 [aa],Zz (ZJh 2 (eI.tr)) [ap] [aa] [(ZDa (Fe aa))],ZCn (ZJh 22 (ZJh 2 (eI.tr))) ao [ah] au]) (by decide) rfl
    replace A:=A.gather (c:=ZCn (ZJh 22 (ZJh 2 (eI.tr))) [ap] [.slice (some ⟨a6,0,none⟩) 1 1] ((ZDa (Fe (.slice (some ⟨a6,0,none⟩) 1 1)))++([(ZDa (Fe aa))]:List (List Nat)).flatten)) (λx_ I=>Ch.1 I) (λak al am=>Xj ak al am)
    replace A:=A.sM [1,0] (M':=[ZCn (ZJh 22 (ZJh 2 (eI.tr))) ao [ah] au,ZCn (ZJh 22 (ZJh 2 (eI.tr))) [ap] [.slice (some ⟨a6,0,none⟩) 1 1] ((ZDa (Fe (.slice (some ⟨a6,0,none⟩) 1 1)))++([(ZDa (Fe aa))]:List (List Nat)).flatten)]) (by decide) rfl
    obtain ⟨ek,h⟩:=h;refine W1 A ZKd J0 rfl (by decide) (by decide) rfl rfl ek λcv fw h6 A=>Zd (v:=cv) rfl (done (Zr (Ze (Zh (Zm rfl rfl (Za (v:=vI (Zwt.wrap ((ay:Int)+1))) rfl (done ?_)))))))
    exact ea (ao++[ap]) _ _ ⟨cv,fw,(sl ⟨rfl,rfl,rfl,rfl,(tr rfl (I1 _ (Z2 az d9))),trivial⟩),(A.sP [2,3,4,5,6,7,8] rfl)⟩ h
   ·clear A h;rintro ao e_ h7 ft ⟨ah,au,a2,A⟩ h;rw [ue a2];refine sr (Zl rfl rfl (dn (ZB9 (Z4 rfl (decide_eq_false (by omega)) ?_))))
    refine ZCo (Zi (Zi (Zy ?_)))
    refine Ze (sr (Za (v:=vvP L) rfl (Za (v:=ah) rfl (Zf [ah] _ ZM8 rfl rfl rfl (M2 ao h _ (Tr.trep _ (A.Ix 0 rfl).1)) ?_))))
    rintro _ h8 ⟨cw,bo,bd,rfl,h,en,eo,ep⟩;refine rt ?_
    replace A:=A.push ep (ZCn (ZJh 22 (ZJh 2 (eI.tr))) cw [bo] bd) en eo;refine Xd rfl (Z0 5 ZJo rfl Im.size rfl rfl ?_)
    replace A:=(A.sP [1,2,3,4,5,6] (Ps':=[cpx C 125 mb0 D128 (aj++ad),ZB8 TForm.sl a0.images [Ic] Ib,ZB8 TInts a0.degrees [Ia] Ib,ZB8 TAlg a0 [Ia,Ic] Ib,blk b0 32 [Ia,Ic],blk bp0 198 [vQ b0,.map (some mb0)]]) rfl).back hz136 d5;obtain ⟨hmx346,h⟩:=h;replace A:=A.sM [1,0,2] (M':=[ZCn (ZJh 22 (ZJh 2 (eI.tr))) cw [bo] bd,cpx C 125 mb0 D128 (aj++ad),ZCn (ZJh 22 (ZJh 2 (eI.tr))) ao [ah] au]) (by decide) rfl
    replace A:=A.Iz (c:=ZCn (ZJh 22 (ZJh 2 (eI.tr))) (C.KL B) [bo] bd) (λ_ O=>O) (λO=>hmx346 ▸ O)
    replace A:=A.sM [1,0,2] (M':=[cpx C 125 mb0 D128 (aj++ad),ZCn (ZJh 22 (ZJh 2 (eI.tr))) (C.KL B) [bo] bd,ZCn (ZJh 22 (ZJh 2 (eI.tr))) ao [ah] au]) (by decide) rfl
    refine Zgq A a9 Im.size rfl rfl (λD347 h9 hx349 bp A=>?_)
    have hle351:=(ax.trans ((((((a8.some (λ_ q_=>q_.elim)).trans b8).trans (bm.some (λ_ q_=>q_.elim))).trans hx130).trans hx349).done (Zgp (A.Ix 0 rfl) bp)))
    refine dn (sr (Za (v:=vvP L) rfl (Zd (v:=vvP L) rfl (dn (ZCi ?_)))))
    exact Zj rfl (Zg rfl) ⟨L,D347,((aj++ad)++bd),rfl,h,bp,hle351,(A.Ix 0 rfl),(λx_ I=>(A.anyX 0 rfl x_ I).symm),A.belO⟩ (.inl rfl)
   ·skip;exact⟨.slice (some ⟨bb,0,none⟩) 0 0,((ZDa (Fe (.slice (some ⟨bb,0,none⟩) 0 0)))++([]:List (List Nat)).flatten),(slq rfl),A⟩
  ·replace h:=Zk h (cf bj);refine ZCd (Ze (sr (Yd (sz:=1) A [] [] rfl (λ_=>Jl _) rfl (by decide) λa3 ia an A=>?_)))
   replace A:=A.pushM0 (Zz (ZJh 2 (eI.tr)) ([]:List (List Int)) [] []) (Xn _ _) rfl;replace A:=A.gather (c:=ZCn (ZJh 22 (ZJh 2 (eI.tr))) [] [.slice (some ⟨a3,0,none⟩) 0 0] ((ZDa (Fe (.slice (some ⟨a3,0,none⟩) 0 0)))++([]:List (List Nat)).flatten)) (λx_ I=>(Ch.1 I).symm) (λak al am=>Xj al ak (λb_ V U=>am b_ U V))
   refine Zd (v:=.slice (some ⟨a3,0,none⟩) 0 0) rfl (dn (ZB9 (sr (Za (v:=vvP L) rfl (Xd rfl (Z0 3 ZJo rfl Im.size rfl rfl ?_))))))
   obtain ⟨er,h⟩:=h;replace A:=A.sM [1,0] (M':=[cpx C 125 mb0 fq (ag++ac),ZCn (ZJh 22 (ZJh 2 (eI.tr))) [] [.slice (some ⟨a3,0,none⟩) 0 0] ((ZDa (Fe (.slice (some ⟨a3,0,none⟩) 0 0)))++([]:List (List Nat)).flatten)]) (by decide) rfl
   obtain ⟨D356,hx357,ba,A⟩:=A.noBd bl er;have es:=A.off 0 rfl;have hz360:=A.anyX 0 rfl;replace A:=A.thaw 0 rfl (cpx C 125 mb0 D356 (ag++ac)) id (λ_ V=>V)
   obtain ⟨ib,ic,ie,bq,ig,ih,et,gj,gk,eu,gl⟩:=Hk (A.Iw 0 rfl) ba;have ew:=eu rfl;replace A:=A.I0 0 rfl (ZB8 (ZFf.sl) (C.CL B) [bq] (ag++ac)) (λ_=>ew) (λ_ O=>Tk O)
   refine Ye (bq) (Jv (off:=3) (sz:=1) et rfl) Im rfl (Zu A 0 rfl ZKd rfl (Za (v:=vI 0) rfl (dn (ZCf ?_))))
   have ex:(C.CL B).length<=9223372036854775807:=Yz (A.Iw 0 rfl);refine Yh (S:=(List (List Int))) _ _ (λa4 aq e_ w_=>∃ (ai:Value),∃ (av:List Nat),Zt e_ [(5,vvP L),(6,ai),(51,bq),(52,vI ((C.CL B).length:Int)),(53,vI (a4:Int))]/\Ctx (λc_=>c_∈(cpx C 125 mb0 D0 F0).fp) w0 w_ [ZCn (ZJh 22 (ZJh 2 (eI.tr))) aq [ai] av] [ZB8 (ZFf.sl) (C.CL B) [bq] (ag++ac),cpx C 125 mb0 D356 (ag++ac),ZB8 TForm.sl a0.images [Ic] Ib,ZB8 TInts a0.degrees [Ia] Ib,ZB8 TAlg a0 [Ia,Ic] Ib,blk b0 32 [Ia,Ic],blk bp0 198 [vQ b0,.map (some mb0)]]) ((C.CL B).length) ?_ ?_ (s0:=[]) ?_ h
   ·clear A h;rintro a4 aq e_ ii gm fx a5 ⟨ai,av,a2,A⟩ h ey;rw [ue a2];refine sr (Zl rfl rfl (dn (ZB9 (Z8 rfl (decide_eq_true (by omega)) (ZCd (Ze (ZB9 (ZCf (sr ?_)))))))))
    obtain ⟨gn,ij,cg⟩:=Zx (A.Iw 0 rfl) a4 a5;refine Yn (len:=(C.CL B).length) ZKd If.size (tr rfl cg) rfl (ZCq _) (ZC9.2 a5) ?_
    obtain ⟨fu,ch,ez,ci⟩:=Xb (A.Iw 0 rfl) cg a4 a5;obtain ⟨be,rfl⟩:=ZC7.1 ch;clear ch;rw [Y9 _ _ a5] at ci
    replace A:=A.I0 0 rfl (ZB8 TInts ((C.CL B).getD a4 Ci) [be] (ag++ac)) (λ_=>ci) (λ_ V=>V)
    refine Ye (be) ez If rfl (Zd (v:=be) rfl (dn (Zh (Za (v:=ai) rfl (Za (v:=be) rfl (Za (v:=vvP L) rfl (Xd rfl (Z0 4 ZJo rfl Im.size rfl rfl ?_))))))))
    obtain ⟨il,im,io,ip,cj,iq,e1,go,gp,gq,e2⟩:=Hk (A.Iw 2 rfl) ba;have e3:=e2 rfl;replace A:=A.I0 2 rfl (ZB8 (ZFf.sl) (C.BD B) [cj] (ag++ac)) (λ_=>e3) (λ_ O=>Tk O)
    refine Ye (cj) (Jv (off:=4) (sz:=1) e1 rfl) Im rfl (Zf [be,cj] _ Tryz.func84 rfl rfl rfl (Zgv ((C.CL B).getD a4 Ci) (C.BD B) h _ (A.Iw 1 rfl) (A.Iw 0 rfl)) ?_)
    rintro _ ir ⟨ar,ab,fy,rfl,h,e4,e5,e6⟩;refine rt ?_
    replace A:=A.push e6 (ZCn (ZJh 2 (eI.tr)) ar [ab] fy) e4 e5;obtain ⟨e7,e8⟩:=Yx (A.Ix 0 rfl).1;subst e8;replace A:=A.Iz (c:=own 2 1 ab ar.length (eI.encs ar)) (λ_ O=>O) (λ_=>e7)
    refine Yd (sz:=1) A [(0,ab)] [ab] rfl (λ_=>Wc ab (Va (A.Ix 0 rfl)) _) rfl (by decide) λa7 iu an A=>?_
    replace A:=A.pushM0 (Zz (ZJh 2 (eI.tr)) [] [] []) (Xn _ _) rfl;replace A:=A.sM [2,0,1,3] (M':=[own 2 1 ab ar.length (eI.encs ar),Zz (ZJh 2 (eI.tr)) [] [] [],own 22 1 (.slice (some ⟨a7,0,none⟩) 1 1) 1 [ab],ZCn (ZJh 22 (ZJh 2 (eI.tr))) aq [ai] av]) (by decide) rfl
    replace A:=A.gather (c:=Zz (ZJh 2 (eI.tr)) [ar] [ab] [(ZDa (Fe ab))]) (λx_ I=>Vf I) (λak al am=>W9 (c:=[ab]) (id (Xi ak)) al am)
    replace A:=A.sM [1,0,2] (M':=[own 22 1 (.slice (some ⟨a7,0,none⟩) 1 1) 1 [ab],Zz (ZJh 2 (eI.tr)) [ar] [ab] [(ZDa (Fe ab))],ZCn (ZJh 22 (ZJh 2 (eI.tr))) aq [ai] av]) (by decide) rfl
    replace A:=A.gather (c:=ZCn (ZJh 22 (ZJh 2 (eI.tr))) [ar] [.slice (some ⟨a7,0,none⟩) 1 1] ((ZDa (Fe (.slice (some ⟨a7,0,none⟩) 1 1)))++([(ZDa (Fe ab))]:List (List Nat)).flatten)) (λx_ I=>Ch.1 I) (λak al am=>Xj ak al am)
    replace A:=A.sM [1,0] (M':=[ZCn (ZJh 22 (ZJh 2 (eI.tr))) aq [ai] av,ZCn (ZJh 22 (ZJh 2 (eI.tr))) [ar] [.slice (some ⟨a7,0,none⟩) 1 1] ((ZDa (Fe (.slice (some ⟨a7,0,none⟩) 1 1)))++([(ZDa (Fe ab))]:List (List Nat)).flatten)]) (by decide) rfl
    obtain ⟨e9,h⟩:=h;refine W1 A ZKd J0 rfl (by decide) (by decide) rfl rfl e9 λcx fz iv A=>Zd (v:=cx) rfl (done (Zr (Ze (Zh (Zm rfl rfl (Za (v:=vI (Zwt.wrap ((a4:Int)+1))) rfl (done ?_)))))))
    exact ey (aq++[ar]) _ _ ⟨cx,fz,(sl ⟨rfl,rfl,rfl,rfl,(tr rfl (I1 _ (Z2 a5 ex))),trivial⟩),(A.sP [2,3,4,5,6,7,8] rfl)⟩ h
   ·clear A h;rintro aq e_ iw fx ⟨ai,av,a2,A⟩ h;rw [ue a2];refine sr (Zl rfl rfl (dn (ZB9 (Z4 rfl (decide_eq_false (by omega)) ?_))))
    refine ZCo (Zi (Zi (Zy ?_)))
    refine Ze (sr (Za (v:=vvP L) rfl (Za (v:=ai) rfl (Zf [ai] _ ZM8 rfl rfl rfl (M2 aq h _ (Tr.trep _ (A.Ix 0 rfl).1)) ?_))))
    rintro _ ix ⟨cy,br,bh,rfl,h,fa,fb,fc⟩;refine rt ?_
    replace A:=A.push fc (ZCn (ZJh 22 (ZJh 2 (eI.tr))) cy [br] bh) fa fb;refine Xd rfl (Z0 5 ZJo rfl Im.size rfl rfl ?_)
    replace A:=(A.sP [1,2,3,4,5,6] (Ps':=[cpx C 125 mb0 D356 (ag++ac),ZB8 TForm.sl a0.images [Ic] Ib,ZB8 TInts a0.degrees [Ia] Ib,ZB8 TAlg a0 [Ia,Ic] Ib,blk b0 32 [Ia,Ic],blk bp0 198 [vQ b0,.map (some mb0)]]) rfl).back hz360 es;obtain ⟨hmx570,h⟩:=h;replace A:=A.sM [1,0,2] (M':=[ZCn (ZJh 22 (ZJh 2 (eI.tr))) cy [br] bh,cpx C 125 mb0 D356 (ag++ac),ZCn (ZJh 22 (ZJh 2 (eI.tr))) aq [ai] av]) (by decide) rfl
    replace A:=A.Iz (c:=ZCn (ZJh 22 (ZJh 2 (eI.tr))) (C.KL B) [br] bh) (λ_ O=>O) (λO=>hmx570 ▸ O)
    replace A:=A.sM [1,0,2] (M':=[cpx C 125 mb0 D356 (ag++ac),ZCn (ZJh 22 (ZJh 2 (eI.tr))) (C.KL B) [br] bh,ZCn (ZJh 22 (ZJh 2 (eI.tr))) aq [ai] av]) (by decide) rfl
    refine Zgq A ba Im.size rfl rfl (λD571 iy hx573 bs A=>?_)
    have hle575:=(ax.trans (((((a8.some (λ_ q_=>q_.elim)).trans b8).trans hx357).trans hx573).done (Zgp (A.Ix 0 rfl) bs)))
    refine dn (sr (Za (v:=vvP L) rfl (Zd (v:=vvP L) rfl (dn (ZCi ?_)))))
    exact Zj rfl (Zg rfl) ⟨L,D571,((ag++ac)++bh),rfl,h,bs,hle575,(A.Ix 0 rfl),(λx_ I=>(A.anyX 0 rfl x_ I).symm),A.belO⟩ (.inl rfl)
   ·skip;exact⟨.slice (some ⟨a3,0,none⟩) 0 0,((ZDa (Fe (.slice (some ⟨a3,0,none⟩) 0 0)))++([]:List (List Nat)).flatten),(slq rfl),A⟩
 ·replace h:=h.2;refine Zgr true ZKd (tr rfl bt) rfl rfl ?_
  have cn:=ck _ rfl;refine dn (Z8 rfl rfl (sr (Za (v:=vvP L) rfl (Zd (v:=vvP L) rfl (dn ?_)))))
  refine ZCi (Zn ?_)
  exact Zj rfl (Zg rfl) ⟨L,fi,fj,rfl,h,cn,ax,(A.Ix 0 rfl),(λx_ I=>(A.anyX 0 rfl x_ I).symm),A.belO⟩ (.inl rfl)
end Go.Proofs.YtaagfepgbofmlaaGreat
namespace Go.Proofs.YtaagfepgbofmlaaGreat
open Go Go.RowKit Vc
def Hq (C:Cx) (a:Alg) (n:Int):Prop:=Dh C a n True
theorem Zp0 (C:Cx) (a:Alg) (n:Int) {cb ab mb:Nat} {A B:Value} {fpA:List Nat} {D:List Lev} {F:List Nat} (h:Hq C a n) (w0:World)
  (I:TAlg.rep a [A,B] fpA w0) (qa:(blk ab 32 [A,B]).holds w0) (qc:(blk cb 198 [.pointer (some ⟨ab,0,none⟩),.map (some mb)]).holds w0) (qx:(cpx C 125 mb D F).holds w0)
  (dq:∀ b,b∈fpA->b∉(cpx C 125 mb D F).fp) (da:ab∉(cpx C 125 mb D F).fp) (dc:cb∉(cpx C 125 mb D F).fp) (hr:Mx D) :
  Calls ZCc 79 #[.pointer (some ⟨cb,0,none⟩),.int .i64 n] w0 λe w'=>∃ (b:Nat) (D':List Lev) (F':List Nat),
   e=.returned (vvP b)/\LvAt D' n b true true/\CpLe D D' F F'/\(cpx C 125 mb D' F').holds w'/\(∀ x,x∈(cpx C 125 mb D' F').fp->x∈(cpx C 125 mb D F).fp\/w0.heap.size<=x)/\BelO (cpx C 125 mb D F).fp w0 w':=by
 refine(Zpz C a n h w0 I qa qc qx dq da dc hr).mono ?_
 rintro e w' ⟨b,D',F',L,_,O⟩;exact⟨b,D',F',L,O⟩
end Go.Proofs.YtaagfepgbofmlaaGreat
