import Derived.Test.YtaagfepgbofmlaaGreatQ4
set_option linter.unusedSectionVars false
set_option linter.unusedSimpArgs false
set_option linter.unusedVariables false
open Go renaming wp_seq→ZB9,wp_block→ZCf,wp_skip→ZCd,wp_ret→ZCi,wp_exit→ZCo
open Go.Instr renaming buildSlice→ZJ8
open Go.IntKind renaming i64→Zwt,u8→ZCl
open Go.Proofs.Tryz renaming underlying85→ZKd,prog→ZCc,underlying22→ZCs,underlying132→ZN8,func109→ZN9,func163→ZOb,func128→ZOc,func55→ZOd,underlying55→ZCg,func168→ZOe,underlying53→ZCj,func126→ZOf,func110→ZOg,underlying136→ZCr,underlying5→ZDc,func125→ZCz,func150→ZOh,underlying32→ZCt,func170→ZOj,func71→ZOk,func164→ZOm,underlying2→ZDj,underlying162→ZCp,func169→ZOo
open Go.Value renaming ownBlock→Fe,int→ZFk
open Inhabited renaming default→Ci
open Int renaming tdiv→ZJi,natCast_nonneg→ZCq,ofNat_lt→ZC9,toNat_of_nonneg→ZFl,tmod→Fa
open List renaming mem_append→Ch,replicate→Cd,toArray→ZB7,length_eq_one_iff→ZC7,mem_cons→Cb,not_mem_nil→Zwd,length_nil→ZOi,mem_append_left→Cv
open Nat renaming lt_of_le_of_lt→ZFu,zero_le→Fq,le_trans→Cj,le_of_ble_eq_true→ZCh
open Option renaming toList→ZDa
open Vc renaming TInts→ZFf,ETerm→ZCa,TForm→ZCv,Form→ZCb
open Vc.A8 renaming enc→ZB6
open Vc.Ctx renaming start→ZCu
open Vc.Enc renaming encs_append→ZC1,encs_one'→ZDf,encs→ZJw,encs_len→ZOl
open Vc.Tr renaming sl→ZJh,item→ZCn,trep→ZJu
open Vc.Ty renaming item→ZB8,allItem→ZM7
set_option maxRecDepth 4000
set_option maxHeartbeats 4000000
namespace Go.Proofs.YtaagfepgbofmlaaGreat
open Go Go.RowKit Vc
variable {b0 bp0 b1 bp1 b2 bp2 b3 bp3 b4 bp4 b5 bp5 b6 bp6 b7 bp7 mb0:Nat} {Ia Ic Ij Ip Iq Ir Ie Iu u1_2 u1_3 u1_4 u1_5 Ik u2_1 u2_2 u2_3 u2_4 u2_5 u3_0 u3_1 u3_2 u3_3 u3_4 u3_5 Is u4_1 u4_2 u4_3 u4_4 u4_5 u5_0 u5_1 u5_2 u5_3 u5_4 u5_5 u6_0 u6_1 u6_2 u6_3 u6_4 u6_5 u7_0 u7_1 u7_2 u7_3 u7_4 u7_5:Value} {Ib Ig It fp3 fp4 fp5 fp6 fp7 fp0_0 fp0_1 fp0_2 fp0_3 fp0_4 fp0_5 fp1_0 fp1_1 fp1_2 fp1_3 fp1_4 fp1_5 F0:List Nat} {D0:List Lev}
theorem Zb5 (x0:A8) (w:World):(ZJ8 132 1 #[(0,.agg (ZB7 (ZB6 .u8 x0)))]).run ZCc w=.ok (.slice (some ⟨w.heap.size,0,none⟩) 1 1) (w.alloc (.cells (ZB7 ((EA .u8).encs [x0])) 136)):=by kernel_rfl
theorem Zb6:Wm ZCc 136 (.agg (ZB7 (ZB6 .u8 A8.zero))) 8 8:=by unfold Wm; kernel_rfl
theorem Zgy  (w:World):(ZJ8 132 0 #[]).run ZCc w=.ok (.slice (some ⟨w.heap.size,0,none⟩) 0 0) (w.alloc (.cells (ZB7 ((EA .u8).encs [])) 136)):=by kernel_rfl
theorem Zp1:ZCc.eqGuardType ZCc.depth 136=false:=by kernel_rfl
theorem Zp2:KeyT ZCc 136 (kvA .u8):=Zao ZCr ZDc sc5
theorem M4 (x0:Int) (w:World):(ZJ8 22 1 #[(0,.int .i64 x0)]).run ZCc w=.ok (.slice (some ⟨w.heap.size,0,none⟩) 1 1) (w.alloc (.cells (ZB7 ((EI .i64).encs [x0])) 2)):=by kernel_rfl
theorem Zb7 (x0:Int) (x1:Int) (w:World):(ZJ8 22 2 #[(0,.int .i64 x0),(1,.int .i64 x1)]).run ZCc w=.ok (.slice (some ⟨w.heap.size,0,none⟩) 2 2) (w.alloc (.cells (ZB7 ((EI .i64).encs [x0,x1])) 2)):=by kernel_rfl
theorem sc4:ScaT ZCc 4:=⟨⟨_,Tryz.underlying4,rfl⟩,by kernel_rfl⟩
theorem Zp3  (w:World):(ZJ8 200 0 #[]).run ZCc w=.ok (.slice (some ⟨w.heap.size,0,none⟩) 0 0) (w.alloc (.cells (ZB7 ((EI .i64).encs [])) 3)):=by kernel_rfl
theorem Zp4 (x0:Int) (w:World):(ZJ8 200 1 #[(0,.int .i64 x0)]).run ZCc w=.ok (.slice (some ⟨w.heap.size,0,none⟩) 1 1) (w.alloc (.cells (ZB7 ((EI .i64).encs [x0])) 3)):=by kernel_rfl
theorem el3:Wm ZCc 3 (.int .i64 0) 1 8:=by unfold Wm; kernel_rfl
theorem Zp5 (x0:Nat) (x1:Nat) (w:World):(Instr.build 198 #[(0,.pointer (some ⟨x0,0,none⟩)),(1,.map (some x1))]).run ZCc w=.ok (.agg #[.pointer (some ⟨x0,0,none⟩),.map (some x1)]) w:=by kernel_rfl
theorem Di:AggT ZCc 25 2:=⟨⟨_,Tryz.underlying25,rfl⟩,by kernel_rfl⟩
def V4 (I:List Int) (K:Int->Prop):Prop :=
 Z1 (λh (B:Unit) A=>(if I.getD h Ci≠0 then K (h:Int) else A ())) (λ(B:Unit)=>K (-1)) I.length 0 ()
theorem Dj (V:List Int)  {K:Int->Prop} (h:V4 V K) (w0:World) (q0:ZFf.rep V [Ia] Ib w0) :
  Calls ZCc 126 #[Ia] w0 λe w'=>∃ (r0:Int),
   e=.returned (vI r0)/\K r0/\Bel w0 w':=by
 unfold V4 at h
 refine cof ZOf rfl 16 Tryz.ntmps126 ?_
 have B:=ZCu (X:=Nox) w0 [ZB8 TInts V [Ia] Ib] (al1 q0);refine sr (Zd (v:=vI 0) rfl (dn (ZB9 (sr (Zd (v:=vI 0) rfl (dn (ZCf ?_)))))))
 have ab:V.length<=9223372036854775807:=Yz (B.Iw 0 rfl);refine Yh (S:=Unit) _ _ (λA aa e_ w_=>Zt e_ [(0,Ia),(3,vI (A:Int))]/\Ctx Nox w0 w_ [] [ZB8 TInts V [Ia] Ib]) V.length ?_ ?_ (s0:=()) ?_ h
 ·clear B h;rintro A aa e_ ah ae ad I ⟨O,B⟩ h ac;rw [ue O];refine ZB9 (sr (Za (v:=vI (A:Int)) rfl (Za (v:=Ia) rfl (Zu B 0 rfl ZCs rfl (Zl rfl rfl (dn (Z8 rfl (decide_eq_true (by omega)) (ZCd (Ze (ZB9 (ZCf (sr (Za (v:=Ia) rfl (Za (v:=vI (A:Int)) rfl ?_))))))))))))))
  obtain ⟨ag,ai,U⟩:=Zx (B.Iw 0 rfl) A I;refine Yn (len:=V.length) ZCs sc2.size (tr rfl U) rfl (ZCq _) (ZC9.2 I) (Ye (vI (V.getD A Ci)) (Yi (B.Iw 0 rfl) U A I) sc2 rfl (Xl rfl rfl (dn ?_)))
  refine Zs rfl (λL=>?_) (λL=>?_)
  ·replace h:=ift h (ct L);refine sr (Za (v:=vI (A:Int)) rfl (Zd (v:=vI (A:Int)) rfl (dn ?_)))
   refine ZCi (Z9 (Zn (Zn (Z9 (Zn ?_)))))
   exact Zj rfl (Zg rfl) ⟨(A:Int),rfl,h,B.below⟩ (.inl rfl)
  ·replace h:=Zk h (cf L);refine ZCd (Zr (Ze (Zh (Za (v:=vI (A:Int)) rfl (Zm rfl rfl (Zd (v:=vI (Zwt.wrap ((A:Int)+1))) rfl (done ?_)))))))
   exact ac () _ _ ⟨(sl ⟨rfl,(tr rfl (I1 _ (Z2 I ab))),trivial⟩),B⟩ h
 ·clear B h;rintro aa e_ aj ad ⟨O,B⟩ h;rw [ue O];refine ZB9 (sr (Za (v:=vI (V.length:Int)) rfl (Za (v:=Ia) rfl (Zu B 0 rfl ZCs rfl (Zl rfl rfl (dn (Z4 rfl (decide_eq_false (by omega)) ?_)))))))
  refine ZCo (Zi (Zi (Zy ?_)))
  refine Ze (sr (Zd (v:=vI (-1)) rfl (dn (ZCi ?_))))
  exact Zj rfl (Zg rfl) ⟨(-1),rfl,h,B.below⟩ (.inl rfl)
 ·skip;exact⟨(slq rfl),B⟩
def Jt (O:List Int) (U:List Int) (L:Int) (K:List Int->Prop):Prop :=
 ((0<=(O.length:Int)/\(O.length:Int) * 8<=281474976710656)/\Z1 (λh (A:(List Int)) B=>((0<=(h:Int)/\(h:Int) < (U.length:Int))/\Jk (Zwt.wrap ((O.getD h Ci) - (Zwt.wrap (L * (U.getD h Ci))))) (λI=>((0<=(h:Int)/\(h:Int) < (A.length:Int))/\B (A.set h I))))) (λ(A:(List Int))=>K A) O.length 0 (Cd ((O.length:Int).toNat) (0:Int)))
theorem Ng (a0:List Int) (a1:List Int) (a2:Int)  {K:List Int->Prop} (h:Jt a0 a1 a2 K) (w0:World) (q0:ZFf.rep a0 [Ia] Ib w0) (q1:ZFf.rep a1 [Ie] Ig w0) :
  Calls ZCc 163 #[Ia,Ie,vI a2] w0 λe w'=>∃ (r0:List Int) (Ih:Value) (ah:List Nat),
   e=.returned (Ih)/\K r0/\(ZCn (ZJh 2 (eI.tr)) r0 [Ih] ah).holds w'/\(∀ b,b∈ah->w0.heap.size<=b)/\Bel w0 w':=by
 unfold Jt at h
 refine cof ZOb rfl 34 Tryz.ntmps163 ?_
 have B:=ZCu (X:=Nox) w0 [ZB8 TInts a0 [Ia] Ib,ZB8 TInts a1 [Ie] Ig] (alc q0 (al1 q1));refine sr (Zd (v:=.slice none 0 0) rfl (dn (sr (Za (v:=Ia) rfl (Zu B 0 rfl ZCs rfl ?_)))))
 obtain ⟨aw,h⟩:=h;refine Uu (sz:=1) B (eI.encs (Cd ((a0.length:Int).toNat) (0:Int))) ZCs el2 (tr rfl (I1 (ZFk .i64) (ZFl aw.1).symm)) (tr rfl (I1 (ZFk .i64) (ZFl aw.1).symm)) (by omega) (by omega) (V9 (E:=eI) _ _) λv6 w7 U B=>?_
 replace B:=Y7 B 0 ((Cd ((a0.length:Int).toNat) (0:Int)).length) (eI.encs (Cd ((a0.length:Int).toNat) (0:Int))) rfl (by simp) rfl
 refine Zd (v:=v6) rfl (dn (ZB9 (sr (Zd (v:=vI 0) rfl (dn (ZCf ?_))))))
 have ai:a0.length<=9223372036854775807:=Yz (B.Iw 0 rfl);refine Yh (S:=(List Int)) _ _ (λA L e_ w_=>∃ (O:Value),Zt e_ [(0,Ia),(1,Ie),(2,vI a2),(7,O),(8,vI (A:Int))]/\Ctx Nox w0 w_ [own 2 1 O L.length (eI.encs L)] [ZB8 TInts a0 [Ia] Ib,ZB8 TInts a1 [Ie] Ig]) a0.length ?_ ?_ (s0:=(Cd ((a0.length:Int).toNat) (0:Int))) ?_ h
 ·clear B h;rintro A L e_ ax au an aa ⟨O,ac,B⟩ h aj;rw [ue ac];refine ZB9 (sr (Za (v:=vI (A:Int)) rfl (Za (v:=Ia) rfl (Zu B 0 rfl ZCs rfl (Zl rfl rfl (dn (Z8 rfl (decide_eq_true (by omega)) (ZCd (Ze (ZB9 (ZCf ?_)))))))))))
  refine cwd 14 Ym [0,0,0,0,12,28,0,0,0,384,896,1984,4092,8188,16383,32767] [4,5,9,10] [0,1,2,3,6,7,8,11,12] (λab I ay U=>?_)
  replace B:=B.Iy U;refine bM 0 (O) rfl I (Zc 16 1) (bM 1 (vI (A:Int)) rfl I (Zc 16 3) (bM 2 (Ia) rfl I (Zc 16 7) (bM 3 (vI (A:Int)) rfl I (Zc 16 15) ?_)))
  obtain ⟨ak,az,ad⟩:=Zx (B.Iw 0 rfl) A aa;refine bL 4 (.pointer (some (ak.add (A * 1)))) rfl rfl ab (λ_ U=>by exact Y3 (len:=a0.length) ZCs sc2.size (by exact tr rfl ad) rfl (ZCq _) (ZC9.2 aa)) (Zc 16 31) (bL 5 (vI (a0.getD A Ci)) rfl rfl ab (λ_ U=>by exact Xp (vI (a0.getD A Ci)) (Yi ((B.Iy U).Iw 0 rfl) ad A aa) sc2 rfl) (Zc 16 63) (bM 6 (vI a2) rfl I (Zc 16 127) (bM 7 (Ie) rfl I (Zc 16 255) (bM 8 (vI (A:Int)) rfl I (Zc 16 511) ?_))))
  obtain ⟨⟨ao,ap⟩,h⟩:=h;obtain ⟨al,a3,ae⟩:=Zx (B.Iw 1 rfl) A (show A < a1.length by omega)
  refine bL 9 (.pointer (some (al.add (A * 1)))) rfl rfl ab (λ_ U=>by exact Y3 (len:=a1.length) ZCs sc2.size (by exact tr rfl ae) rfl ao ap) (Zc 16 1023) (bL 10 (vI (a1.getD A Ci)) rfl rfl ab (λ_ U=>by exact Xp (vI (a1.getD A Ci)) (Yi ((B.Iy U).Iw 1 rfl) ae A (show A < a1.length by omega)) sc2 rfl) (Zc 16 2047) (bF 11 (vI (Zwt.wrap (a2 * (a1.getD A Ci)))) rfl rfl I (λ_=>by exact Tv rfl rfl) (Zc 16 4095) (bF 12 (vI (Zwt.wrap ((a0.getD A Ci) - (Zwt.wrap (a2 * (a1.getD A Ci)))))) rfl rfl I (λ_=>by exact Tu rfl rfl) (Zc 16 8191) (aO 13 rfl (Zf [vI (Zwt.wrap ((a0.getD A Ci) - (Zwt.wrap (a2 * (a1.getD A Ci)))))] _ ZCz rfl rfl rfl (Ud (Zwt.wrap ((a0.getD A Ci) - (Zwt.wrap (a2 * (a1.getD A Ci))))) h _) ?_)))))
  rintro _ a4 ⟨V,rfl,h,am⟩;refine rt ?_
  replace B:=B.Iy am;refine done (aK (by assumption) (Zc 16 16383) (Z5 14 (by decide) (by decide) (by kernel_rfl) (by kernel_rfl) rfl ?_))
  obtain ⟨⟨aq,ar⟩,h⟩:=h;obtain ⟨av,a5,ag⟩:=Xx (B.Ix 0 rfl) (ZFu (Fq _) (show A < L.length by omega))
  refine X4 (A * 1) ZCs sc2.size (tr rfl ag) rfl aq ar rfl (U6 (v:=vI V) B 0 [vI V] (eI.encs (L.set A V)) rfl ag sc2.size rfl rfl rfl rfl rfl (by rw [ZOl]; exact W8 (sz:=1) (show A < L.length by omega)) (U7 _ _ _ (show A < L.length by omega)) λa6 B=>?_)
  replace B:=Y7 B 0 ((L.set A V).length) (eI.encs (L.set A V)) rfl (by simp) rfl
  refine done (Z6 (Zr (Ze (Zh (Za (v:=vI (A:Int)) rfl (Zm rfl rfl (Zd (v:=vI (Zwt.wrap ((A:Int)+1))) rfl (done ?_))))))))
  exact aj (L.set A V) _ _ ⟨O,(sl ⟨rfl,rfl,rfl,rfl,(tr rfl (I1 _ (Z2 aa ai))),trivial⟩),B⟩ h
 ·clear B h;rintro L e_ a7 an ⟨O,ac,B⟩ h;rw [ue ac];refine ZB9 (sr (Za (v:=vI (a0.length:Int)) rfl (Za (v:=Ia) rfl (Zu B 0 rfl ZCs rfl (Zl rfl rfl (dn (Z4 rfl (decide_eq_false (by omega)) ?_)))))))
  refine ZCo (Zi (Zi (Zy ?_)))
  refine Ze (sr (Za (v:=O) rfl (Zd (v:=O) rfl (dn (ZCi ?_)))))
  exact Zj rfl (Zg rfl) ⟨L,O,(ZDa (Fe O)),rfl,h,(Xi (B.Ix 0 rfl)),(Xg B 0 rfl),B.below⟩ (.inl rfl)
 ·skip;exact⟨v6,(slq rfl),B⟩
def Nh (O:List Int) (U:List (List Int)) (K:List Int->Prop):Prop :=
 Z1 (λI (h:(List Int)) B=>V4 (U.getD I Ci) (λA=>((0<=A/\A < (h.length:Int))/\(if h.getD A.toNat Ci≠0 then((0<=A/\A < (h.length:Int))/\Jt h (U.getD I Ci) (h.getD A.toNat Ci) (λL=>B L)) else B h)))) (λ(h:(List Int))=>K h) U.length 0 O
theorem Zgz (a0:List Int) (a1:List (List Int))  {K:List Int->Prop} (h:Nh a0 a1 K) (w0:World) (q0:ZFf.rep a0 [Ia] Ib w0) (q1:(ZFf.sl).rep a1 [Ie] Ig w0) :
  Calls ZCc 127 #[Ia,Ie] w0 λe w'=>∃ (r0:List Int) (Ih:Value) (ay:List Nat),
   e=.returned (Ih)/\K r0/\ZFf.rep r0 [Ih] ay w'/\(∀ b,b∈ay->w0.heap.size<=b\/b∈(Ib++(Ig)))/\Bel w0 w':=by
 unfold Nh at h
 refine cof Tryz.func127 rfl 34 Tryz.ntmps127 ?_
 have A:=ZCu (X:=Nox) w0 [ZB8 TInts a0 [Ia] Ib,ZB8 (ZFf.sl) a1 [Ie] Ig] (alc q0 (al1 q1));refine sr (Zd (v:=.slice none 0 0) rfl (dn (ZB9 (sr (Zd (v:=vI 0) rfl (dn (ZCf ?_)))))))
 have ak:a1.length<=9223372036854775807:=Yz (A.Iw 1 rfl);refine Yh (S:=(List Int)) _ _ (λB I e_ w_=>∃ (U:Value),∃ (ac:List Nat),Zt e_ [(0,U),(1,Ie),(5,vI (B:Int))]/\(∀ b,b∈ac->w0.heap.size<=b\/b∈(Ib++(Ig)))/\Ctx Nox w0 w_ [] [ZB8 TInts I [U] ac,ZB8 TInts a0 [Ia] Ib,ZB8 (ZFf.sl) a1 [Ie] Ig]) a1.length ?_ ?_ (s0:=a0) ?_ h
 ·clear A h;rintro B I e_ bo bl bc O ⟨U,ac,al,ah,A⟩ h am;rw [ue al];refine ZB9 (sr (Za (v:=vI (B:Int)) rfl (Za (v:=Ie) rfl (Zu A 2 rfl ZKd rfl (Zl rfl rfl (dn (Z8 rfl (decide_eq_true (by omega)) (ZCd (Ze (ZB9 (ZCf (sr (Za (v:=Ie) rfl (Za (v:=vI (B:Int)) rfl ?_))))))))))))))
  obtain ⟨bm,bp,an⟩:=Zx (A.Iw 2 rfl) B O;refine Yn (len:=a1.length) ZKd If.size (tr rfl an) rfl (ZCq _) (ZC9.2 O) ?_
  obtain ⟨bd,ao,az,ap⟩:=Xb (A.Iw 2 rfl) an B O;obtain ⟨aq,rfl⟩:=ZC7.1 ao;clear ao;rw [Y9 _ _ O] at ap
  replace A:=A.I0 2 rfl (ZB8 TInts (a1.getD B Ci) [aq] Ig) (λ_=>ap) (λ_ ae=>ae)
  refine Ye (aq) az If rfl (Zf [aq] _ ZOf rfl rfl rfl (Dj (a1.getD B Ci) h _ (A.Iw 0 rfl)) ?_)
  rintro _ bq ⟨L,rfl,h,a2⟩;refine rt ?_
  replace A:=A.Iy a2;refine Zd (v:=vI L) rfl (dn (sr (Za (v:=U) rfl (Za (v:=vI L) rfl ?_))))
  obtain ⟨⟨be,bh⟩,h⟩:=h;obtain ⟨bn,br,ar⟩:=Zx (A.Iw 1 rfl) L.toNat (show L.toNat < I.length by omega)
  refine Yn (len:=I.length) ZCs sc2.size (tr rfl ar) rfl be bh (Ye (vI (I.getD L.toNat Ci)) (Yi (A.Iw 1 rfl) ar L.toNat (show L.toNat < I.length by omega)) sc2 rfl (Xl rfl rfl (dn ?_)))
  refine Zs rfl (λai=>?_) (λai=>?_)
  ·replace h:=ift h (ct ai);refine cwd 9 Ym [0,0,0,6,14,0,0,96,224,511,1023] [3,4,7,8] [0,1,2,5,6] (λad V bs aa=>?_)
   replace A:=A.Iy aa;refine bM 0 (U) rfl V (Zc 11 1) (bM 1 (Ie) rfl V (Zc 11 3) (bM 2 (vI (B:Int)) rfl V (Zc 11 7) ?_))
   obtain ⟨a3,bt,au⟩:=Zx (A.Iw 3 rfl) B O;refine bL 3 (.pointer (some (a3.add (B * 1)))) rfl rfl ad (λ_ aa=>by exact Y3 (len:=a1.length) ZKd If.size (by exact tr rfl au) rfl (ZCq _) (ZC9.2 O)) (Zc 11 15) ?_
   obtain ⟨bd,av,a4,aw⟩:=Xb (A.Iw 3 rfl) au B O;obtain ⟨aj,rfl⟩:=ZC7.1 av;clear av;rw [Y9 _ _ O] at aw
   replace A:=A.I0 3 rfl (ZB8 TInts (a1.getD B Ci) [aj] Ig) (λ_=>aw) (λ_ ae=>ae)
   refine bL 4 (aj) rfl rfl ad (λ_ aa=>by exact Xp (aj) (Vd aa a4) If rfl) (Zc 11 31) (bM 5 (U) rfl V (Zc 11 63) (bM 6 (vI L) rfl V (Zc 11 127) ?_))
   obtain ⟨⟨bi,bj⟩,h⟩:=h;obtain ⟨a5,bu,ax⟩:=Zx (A.Iw 2 rfl) L.toNat (show L.toNat < I.length by omega)
   refine bL 7 (.pointer (some (a5.add (L.toNat * 1)))) rfl rfl ad (λ_ aa=>by exact Y3 (len:=I.length) ZCs sc2.size (by exact tr rfl ax) rfl bi bj) (Zc 11 255) (bL 8 (vI (I.getD L.toNat Ci)) rfl rfl ad (λ_ aa=>by exact Xp (vI (I.getD L.toNat Ci)) (Yi ((A.Iy aa).Iw 2 rfl) ax L.toNat (show L.toNat < I.length by omega)) sc2 rfl) (Zc 11 511) (Z5 9 (by decide) (by decide) (by kernel_rfl) (by kernel_rfl) rfl (Zf [U,aj,vI (I.getD L.toNat Ci)] _ ZOb rfl rfl rfl (Ng I (a1.getD B Ci) (I.getD L.toNat Ci) h _ (A.Iw 2 rfl) (A.Iw 0 rfl)) ?_)))
   rintro _ bv ⟨ag,ab,bk,rfl,h,a6,a7,a8⟩;refine rt ?_
   replace A:=A.push a8 (ZCn (ZJh 2 (eI.tr)) ag [ab] bk) a6 a7;obtain ⟨a9,ba⟩:=Yx (A.Ix 0 rfl).1;subst ba;replace A:=A.Iz (c:=own 2 1 ab ag.length (eI.encs ag)) (λ_ h_=>h_) (λ_=>a9)
   refine Zd (v:=ab) rfl (done (Z6 (Zr (Ze (Zh (Za (v:=vI (B:Int)) rfl (Zm rfl rfl (Zd (v:=vI (Zwt.wrap ((B:Int)+1))) rfl (done ?_)))))))))
   have bb:=Xg A 0 rfl;replace A:=A.thaw 0 rfl (ZB8 TInts ag [ab] (ZDa (Fe ab))) Yu (λ_ ae=>ae)
   exact am ag _ _ ⟨ab,(ZDa (Fe ab)),(sl ⟨rfl,rfl,(tr rfl (I1 _ (Z2 O ak))),trivial⟩),(λb hb=>.inl (bb b hb)),(A.sP [0,4,5] rfl)⟩ h
  ·replace h:=Zk h (cf ai);refine ZCd (Zr (Ze (Zh (Za (v:=vI (B:Int)) rfl (Zm rfl rfl (Zd (v:=vI (Zwt.wrap ((B:Int)+1))) rfl (done ?_)))))))
   exact am I _ _ ⟨U,ac,(sl ⟨rfl,rfl,(tr rfl (I1 _ (Z2 O ak))),trivial⟩),ah,(A.sP [1,2,3] rfl)⟩ h
 ·clear A h;rintro I e_ bw bc ⟨U,ac,al,ah,A⟩ h;rw [ue al];refine ZB9 (sr (Za (v:=vI (a1.length:Int)) rfl (Za (v:=Ie) rfl (Zu A 2 rfl ZKd rfl (Zl rfl rfl (dn (Z4 rfl (decide_eq_false (by omega)) ?_)))))))
  refine ZCo (Zi (Zi (Zy ?_)))
  refine Ze (sr (Za (v:=U) rfl (Zd (v:=U) rfl (dn (ZCi ?_)))))
  exact Zj rfl (Zg rfl) ⟨I,U,ac,rfl,h,(A.Iw 0 rfl),(λb hb=>ah b hb),A.below⟩ (.inl rfl)
 ·skip;exact⟨Ia,Ib,(slq rfl),(λb hb=>.inr (Cv _ hb)),(A.sP [0,0,1] rfl)⟩
def Ni (h:Int) (K:Int->Prop):Prop :=
 Xv (λ(A:Int×Int×Int) next7=>(if A.2.2 > 0 then(if Fa A.2.2 2=1 then next7 (Fa (Zwt.wrap (A.1 * A.2.1)) 10007,Fa (Zwt.wrap (A.2.1 * A.2.1)) 10007,Zwt.wrap (ZJi A.2.2 2)) else next7 (A.1,Fa (Zwt.wrap (A.2.1 * A.2.1)) 10007,Zwt.wrap (ZJi A.2.2 2))) else K A.1)) (1,h,10005)
theorem Zg0 (L:Int)  {K:Int->Prop} (h:Ni L K) (w0:World)  :
  Calls ZCc 164 #[vI L] w0 λe w'=>∃ (O:Int),
   e=.returned (vI O)/\K O/\Bel w0 w':=by
 unfold Ni at h
 refine cof ZOm rfl 23 Tryz.ntmps164 ?_
 have I:=ZCu (X:=Nox) w0 [] (by simp)
 refine sr (Zd (v:=vI 0) rfl (dn (sr (Za (v:=vI L) rfl (Zd (v:=vI 1) rfl (Zd (v:=vI L) rfl (dn (ZB9 (sr (Zd (v:=vI 10005) rfl (dn (ZCf ?_))))))))))))
 refine Jb (S:=Int×Int×Int) _ (λs6 U w_=>Zt U [(3,vI s6.1),(4,vI s6.2.1),(5,vI s6.2.2)]/\Ctx Nox w0 w_ [] []) ?_ (s0:=(1,L,10005)) ?_ h
 ·clear I h;rintro s6 U aa next7 K8 ⟨V,I⟩ h hK9;rw [ue V];refine ZB9 (sr (Za (v:=vI s6.2.2) rfl (Jn rfl rfl (dn ?_))))
  refine Zs rfl (λA=>?_) (λA=>?_)
  ·replace h:=ift h (ct A);refine ZCd (Ze (ZB9 (ZCf (ZB9 (sr (Za (v:=vI s6.2.2) rfl (Jf rfl rfl (by decide) (X6 rfl rfl (dn ?_)))))))))
   refine Zs rfl (λB=>?_) (λB=>?_)
   ·replace h:=ift h (ct B);refine Zh (Za (v:=vI s6.1) rfl (Za (v:=vI s6.2.1) rfl (Wz rfl rfl (Jf rfl rfl (by decide) (Zd (v:=vI (Fa (Zwt.wrap (s6.1 * s6.2.1)) 10007)) rfl (dn (Zh (Za (v:=vI s6.2.1) rfl (Za (v:=vI s6.2.1) rfl (Wz rfl rfl (Jf rfl rfl (by decide) (Zd (v:=vI (Fa (Zwt.wrap (s6.2.1 * s6.2.1)) 10007)) rfl (done (Zr (Ze (Zh (Za (v:=vI s6.2.2) rfl (N4 rfl rfl (by decide) (Zd (v:=vI (Zwt.wrap (ZJi s6.2.2 2))) rfl (done ?_))))))))))))))))))))
    exact hK9 (Fa (Zwt.wrap (s6.1 * s6.2.1)) 10007,Fa (Zwt.wrap (s6.2.1 * s6.2.1)) 10007,Zwt.wrap (ZJi s6.2.2 2)) _ _ ⟨(slq rfl),I⟩ h
   ·replace h:=Zk h (cf B);refine ZCd (Ze (Zh (Za (v:=vI s6.2.1) rfl (Za (v:=vI s6.2.1) rfl (Wz rfl rfl (Jf rfl rfl (by decide) (Zd (v:=vI (Fa (Zwt.wrap (s6.2.1 * s6.2.1)) 10007)) rfl (done (Zr (Ze (Zh (Za (v:=vI s6.2.2) rfl (N4 rfl rfl (by decide) (Zd (v:=vI (Zwt.wrap (ZJi s6.2.2 2))) rfl (done ?_)))))))))))))))
    exact hK9 (s6.1,Fa (Zwt.wrap (s6.2.1 * s6.2.1)) 10007,Zwt.wrap (ZJi s6.2.2 2)) _ _ ⟨(slq rfl),I⟩ h
  ·replace h:=Zk h (cf A);refine ZCo (Zi (Zi (Zy ?_)))
   refine Ze (sr (Za (v:=vI s6.1) rfl (Zd (v:=vI s6.1) rfl (dn (ZCi ?_)))))
   exact Zj rfl (Zg rfl) ⟨s6.1,rfl,h,I.below⟩ (.inl rfl)
 ·skip;exact⟨(slq rfl),I⟩
def Nj (a0:List (List Int)) (a1:List Int) (K:List (List Int)->Prop):Prop :=
 Nh a1 a0 (λr6=>V4 r6 (λA=>(if A < 0 then K a0 else((0<=A/\A < (r6.length:Int))/\(((0<=(r6.length:Int)/\(r6.length:Int) * 8<=281474976710656)/\Ni (r6.getD A.toNat Ci) (λae=>Jk (Zwt.wrap (0 - ae)) (λag=>Jt (Cd ((r6.length:Int).toNat) (0:Int)) r6 ag (λL=>Z1 (λB (h:(List (List Int))×Bool) I=>(if¬ (h.2=true) then V4 (a0.getD B Ci) (λV=>(if V > A then(Zw (h.1.length+1) 24/\((0<=A/\A < ((a0.getD B Ci).length:Int))/\Jt (a0.getD B Ci) L ((a0.getD B Ci).getD A.toNat Ci) (λaa=>(Zw ((h.1++[L]).length+1) 24/\I ((h.1++[L])++[aa],true))))) else((0<=A/\A < ((a0.getD B Ci).length:Int))/\Jt (a0.getD B Ci) L ((a0.getD B Ci).getD A.toNat Ci) (λab=>(Zw (h.1.length+1) 24/\I (h.1++[ab],h.2)))))) else((0<=A/\A < ((a0.getD B Ci).length:Int))/\Jt (a0.getD B Ci) L ((a0.getD B Ci).getD A.toNat Ci) (λac=>(Zw (h.1.length+1) 24/\I (h.1++[ac],h.2)))))) (λ(h:(List (List Int))×Bool)=>(if¬ (h.2=true) then(Zw (h.1.length+1) 24/\K (h.1++[L])) else K h.1)) a0.length 0 ([],false)))))/\Ni (r6.getD A.toNat Ci) (λad=>(((0<=(r6.length:Int)/\(r6.length:Int) * 8<=281474976710656)/\Jk (Zwt.wrap (0 - ad)) (λah=>Jt (Cd ((r6.length:Int).toNat) (0:Int)) r6 ah (λO=>Z1 (λB (h:(List (List Int))×Bool) I=>(if¬ (h.2=true) then V4 (a0.getD B Ci) (λV=>(if V > A then(Zw (h.1.length+1) 24/\((0<=A/\A < ((a0.getD B Ci).length:Int))/\Jt (a0.getD B Ci) O ((a0.getD B Ci).getD A.toNat Ci) (λaa=>(Zw ((h.1++[O]).length+1) 24/\I ((h.1++[O])++[aa],true))))) else((0<=A/\A < ((a0.getD B Ci).length:Int))/\Jt (a0.getD B Ci) O ((a0.getD B Ci).getD A.toNat Ci) (λab=>(Zw (h.1.length+1) 24/\I (h.1++[ab],h.2)))))) else((0<=A/\A < ((a0.getD B Ci).length:Int))/\Jt (a0.getD B Ci) O ((a0.getD B Ci).getD A.toNat Ci) (λac=>(Zw (h.1.length+1) 24/\I (h.1++[ac],h.2)))))) (λ(h:(List (List Int))×Bool)=>(if¬ (h.2=true) then(Zw (h.1.length+1) 24/\K (h.1++[O])) else K h.1)) a0.length 0 ([],false))))/\Jk (Zwt.wrap (0 - ad)) (λai=>((0<=(r6.length:Int)/\(r6.length:Int) * 8<=281474976710656)/\Jt (Cd ((r6.length:Int).toNat) (0:Int)) r6 ai (λU=>Z1 (λB (h:(List (List Int))×Bool) I=>(if¬ (h.2=true) then V4 (a0.getD B Ci) (λV=>(if V > A then(Zw (h.1.length+1) 24/\((0<=A/\A < ((a0.getD B Ci).length:Int))/\Jt (a0.getD B Ci) U ((a0.getD B Ci).getD A.toNat Ci) (λaa=>(Zw ((h.1++[U]).length+1) 24/\I ((h.1++[U])++[aa],true))))) else((0<=A/\A < ((a0.getD B Ci).length:Int))/\Jt (a0.getD B Ci) U ((a0.getD B Ci).getD A.toNat Ci) (λab=>(Zw (h.1.length+1) 24/\I (h.1++[ab],h.2)))))) else((0<=A/\A < ((a0.getD B Ci).length:Int))/\Jt (a0.getD B Ci) U ((a0.getD B Ci).getD A.toNat Ci) (λac=>(Zw (h.1.length+1) 24/\I (h.1++[ac],h.2)))))) (λ(h:(List (List Int))×Bool)=>(if¬ (h.2=true) then(Zw (h.1.length+1) 24/\K (h.1++[U])) else K h.1)) a0.length 0 ([],false)))))))))))
theorem Zg1 (a0:List (List Int)) (a1:List Int)  {K:List (List Int)->Prop} (h:Nj a0 a1 K) (w0:World) (q0:(ZFf.sl).rep a0 [Ia] Ib w0) (q1:ZFf.rep a1 [Ie] Ig w0) :
  Calls ZCc 106 #[Ia,Ie] w0 λe w'=>∃ (r0:List (List Int)) (Ih:Value) (dp:List Nat),
   e=.returned (Ih)/\K r0/\(ZFf.sl).rep r0 [Ih] dp w'/\(∀ b,b∈dp->w0.heap.size<=b\/b∈(Ib++(Ig)))/\Bel w0 w':=by
 unfold Nj at h
 refine cof Tryz.func106 rfl 74 Tryz.ntmps106 ?_
 have A:=ZCu (X:=Nox) w0 [ZB8 (ZFf.sl) a0 [Ia] Ib,ZB8 TInts a1 [Ie] Ig] (alc q0 (al1 q1));refine sr (Zd (v:=.slice none 0 0) rfl (dn (sr (Za (v:=Ie) rfl (Za (v:=Ia) rfl (Zf [Ie,Ia] _ Tryz.func127 rfl rfl rfl (Zgz a1 a0 h _ (A.Iw 1 rfl) (A.Iw 0 rfl)) ?_))))))
 rintro _ w5 ⟨r6,u7,f8,rfl,h,gp,bx,dz⟩;refine rt ?_
 have g9:∀ b,b∈f8->w0.heap.size<=b\/b∈(Ib++(Ig)):=(λb hb=>(bx b hb).elim (λh_=>.inl (Cj A.size h_)) (λhb=>(Ch.1 hb).elim (λhb=>.inr (List.mem_append_right _ hb)) (λhb=>.inr (Cv _ hb))))
 replace A:=A.pushR dz (ZB8 TInts r6 [u7] f8) gp (λb hb=>(bx b hb).elim .inl (λhb=>.inr ((Ch.1 hb).elim (λhb=>⟨_,mg 1 rfl,hb⟩) (λhb=>⟨_,mg 0 rfl,hb⟩))))
 refine Zd (v:=u7) rfl (dn (sr (Za (v:=u7) rfl (Zf [u7] _ ZOf rfl rfl rfl (Dj r6 h _ (A.Iw 0 rfl)) ?_))))
 rintro _ hc ⟨I,rfl,h,d0⟩;refine rt ?_
 replace A:=A.Iy d0;refine Zd (v:=vI I) rfl (dn (ZB9 (sr (Za (v:=vI I) rfl (Zl rfl rfl (dn ?_))))))
 refine Zs rfl (λbi=>?_) (λbi=>?_)
 ·replace h:=ift h (ct bi);refine sr (Za (v:=Ia) rfl (Zd (v:=Ia) rfl (dn ?_)))
  refine ZCi (Zn ?_)
  exact Zj rfl (Zg rfl) ⟨a0,Ia,Ib,rfl,h,(A.Iw 1 rfl),(λb hb=>.inr (Cv _ hb)),A.below⟩ (.inl rfl)
 ·replace h:=Zk h (cf bi);refine ZCd (Ze (ZB9 ?_))
  refine cwd 11 Ym [0,1,3,0,0,0,48,112,240,496,1008,2047,4095] [1,6,7] [0,3,4,5,9] (λbj ax he L=>?_)
  replace A:=A.Iy L;refine bM 0 (u7) rfl ax (Zc 13 1) (bL 1 (vI (r6.length:Int)) rfl rfl bj (λ_ L=>by exact Ep (A.Iy L) 0 rfl ZCs rfl) (Zc 13 3) (bM 3 (u7) rfl ax (Zc 13 11) (bM 4 (u7) rfl ax (Zc 13 27) (bM 5 (vI I) rfl ax (Zc 13 59) ?_))))
  obtain ⟨⟨gq,gr⟩,h⟩:=h;obtain ⟨d1,hf,bz⟩:=Zx (A.Iw 0 rfl) I.toNat (show I.toNat < r6.length by omega)
  refine bL 6 (.pointer (some (d1.add (I.toNat * 1)))) rfl rfl bj (λ_ L=>by exact Y3 (len:=r6.length) ZCs sc2.size (by exact tr rfl bz) rfl gq gr) (Zc 13 123) (bL 7 (vI (r6.getD I.toNat Ci)) rfl rfl bj (λ_ L=>by exact Xp (vI (r6.getD I.toNat Ci)) (Yi ((A.Iy L).Iw 0 rfl) bz I.toNat (show I.toNat < r6.length by omega)) sc2 rfl) (Zc 13 251) ?_)
  refine U8 (λe_ w_=>∃ (V:Value),∃ (ab:List Int),Zt e_ [(0,Ia),(1,V),(5,vI I)]/\Ctx Nox w0 w_ [own 2 1 V ab.length (eI.encs ab)] [ZB8 (ZFf.sl) a0 [Ia] Ib,ZB8 TInts a1 [Ie] Ig]/\(Z1 (λB (O:(List (List Int))×Bool) a9=>(if¬ (O.2=true) then V4 (a0.getD B Ci) (λb8=>(if b8 > I then(Zw (O.1.length+1) 24/\((0<=I/\I < ((a0.getD B Ci).length:Int))/\Jt (a0.getD B Ci) ab ((a0.getD B Ci).getD I.toNat Ci) (λal=>(Zw ((O.1++[ab]).length+1) 24/\a9 ((O.1++[ab])++[al],true))))) else((0<=I/\I < ((a0.getD B Ci).length:Int))/\Jt (a0.getD B Ci) ab ((a0.getD B Ci).getD I.toNat Ci) (λam=>(Zw (O.1.length+1) 24/\a9 (O.1++[am],O.2)))))) else((0<=I/\I < ((a0.getD B Ci).length:Int))/\Jt (a0.getD B Ci) ab ((a0.getD B Ci).getD I.toNat Ci) (λan=>(Zw (O.1.length+1) 24/\a9 (O.1++[an],O.2)))))) (λ(O:(List (List Int))×Bool)=>(if¬ (O.2=true) then(Zw (O.1.length+1) 24/\K (O.1++[ab])) else K O.1)) a0.length 0 ([],false))) ?_ ?_
  ·clear A h;rintro e_ hg ⟨V,ab,be,A,h⟩;rw [ue be];refine Ze (sr (Yd (sz:=1) A [] [] rfl (λ_=>Jl _) rfl (by decide) λdq hh L A=>?_))
   replace A:=A.pushE (ZM7 TInts [] [] []) (Zbq _ _) rfl;refine Zd (v:=.slice (some ⟨dq,0,none⟩) 0 0) rfl (Zd (v:=.bool false) rfl (dn (ZB9 (sr (Zd (v:=vI 0) rfl (dn (ZCf ?_)))))))
   have b9:=Xg A 1 rfl;replace A:=A.thaw 1 rfl (ZB8 TInts ab [V] (ZDa (Fe V))) Yu (λ_ aa=>aa)
   have bk:a0.length<=9223372036854775807:=Yz (A.Iw 2 rfl);refine Yh (S:=(List (List Int))×Bool) _ _ (λB O e_ w_=>∃ (ah:Value),∃ (ac:List Value),∃ (ae:List Nat),Zt e_ [(0,Ia),(1,V),(5,vI I),(6,ah),(7,.bool O.2),(8,vI (B:Int))]/\(∀ b,b∈ae->w0.heap.size<=b\/b∈(Ib++(Ig)))/\Ctx Nox w0 w_ [own 22 1 ah O.1.length ac] [ZM7 TInts O.1 ac ae,ZB8 TInts ab [V] (ZDa (Fe V)),ZB8 (ZFf.sl) a0 [Ia] Ib,ZB8 TInts a1 [Ie] Ig]) a0.length ?_ ?_ (s0:=([],false)) ?_ h
   ·clear A h;rintro B O e_ hk a9 gs U ⟨ah,ac,ae,be,ay,A⟩ h bl;rw [ue be];refine ZB9 (sr (Za (v:=vI (B:Int)) rfl (Za (v:=Ia) rfl (Zu A 2 rfl ZKd rfl (Zl rfl rfl (dn (Z8 rfl (decide_eq_true (by omega)) (ZCd (Ze (ZB9 (ZCf (ZB9 (sr (Za (v:=.bool O.2) rfl (Xo rfl (Za (v:=.bool (!O.2)) rfl ?_))))))))))))))))
    refine Xm (!O.2) (λad=>?_) (λad=>?_)
    ·replace h:=ift h (Xe (X1 ad));refine Zq 2 38 rfl rfl ad (Za (v:=Ia) rfl (Zq 2 38 rfl rfl ad (Za (v:=vI (B:Int)) rfl (Zq 2 38 rfl rfl ad ?_))))
     obtain ⟨ha,hl,ca⟩:=Zx (A.Iw 2 rfl) B U;refine Yn (len:=a0.length) ZKd If.size (tr rfl ca) rfl (ZCq _) (ZC9.2 U) (Zq 2 38 rfl rfl ad ?_)
     obtain ⟨a8,cb,d2,cc⟩:=Xb (A.Iw 2 rfl) ca B U;obtain ⟨ce,rfl⟩:=ZC7.1 cb;clear cb;rw [Y9 _ _ U] at cc
     replace A:=A.I0 2 rfl (ZB8 TInts (a0.getD B Ci) [ce] Ib) (λ_=>cc) (λ_ aa=>aa)
     refine Ye (ce) d2 If rfl (Zq 2 38 rfl rfl ad (Zf [ce] _ ZOf rfl rfl rfl (Dj (a0.getD B Ci) h _ (A.Iw 0 rfl)) ?_))
     rintro _ hm ⟨b8,rfl,h,d3⟩;refine rt ?_
     replace A:=A.Iy d3;refine Zq 2 38 rfl rfl ad (Za (v:=vI I) rfl (Zq 2 38 rfl rfl ad (Jn rfl rfl (Ya (v:=.bool (decide (b8 > I))) (b:=true) (tr rfl (I1 _ ad)) rfl (dn ?_)))))
     refine Zs rfl (λbm=>?_) (λbm=>?_)
     ·replace h:=ift h (ct bm);refine sr (Za (v:=ah) rfl (Za (v:=V) rfl (Yd (sz:=1) A [(0,V)] [V] rfl (λ_=>Wc V (Tc (A.Iw 2 rfl)) _) rfl (by decide) λao hn L A=>?_)))
      have d4:=Xg A 0 rfl;replace A:=A.thaw 0 rfl (own 22 1 (.slice (some ⟨ao,0,none⟩) 1 1) 1 [V]) id (λ_ aa=>aa)
      replace A:=A.joinP 0 3 rfl rfl (ZB8 (ZFf.sl) [ab] [.slice (some ⟨ao,0,none⟩) 1 1] ((ZDa (Fe (.slice (some ⟨ao,0,none⟩) 1 1)))++(ZDa (Fe V)))) (λa_ b_=>Vp a_ (Sv b_)) (λc_ ag=>Ch.1 ag)
      have d5:∀ b,b∈((ZDa (Fe (.slice (some ⟨ao,0,none⟩) 1 1)))++(ZDa (Fe V)))->w0.heap.size<=b:=(λb hb=>(Ch.1 hb).elim (λhb=>d4 b hb) (λhb=>b9 b hb))
      obtain ⟨az,d6,cg⟩:=Q7 (A.Iw 0 rfl);replace A:=A.I0 0 rfl (ZM7 TInts [ab] az ((ZDa (Fe (.slice (some ⟨ao,0,none⟩) 1 1)))++(ZDa (Fe V)))) (λ_=>cg) (λ_ h_=>h_)
      obtain ⟨d7,h⟩:=h;refine Jg A 0 ZKd J0 rfl (by decide) (by decide) rfl d6 (λq_ av=>cg.2.2.1 q_ av) rfl rfl d7 λdr ho A=>?_
      replace A:=Y7 A 0 ((O.1++[ab]).length) (ac++az) rfl (by simp) (by simp)
      have d8:∀ b,b∈(ae++((ZDa (Fe (.slice (some ⟨ao,0,none⟩) 1 1)))++(ZDa (Fe V))))->w0.heap.size<=b\/b∈(Ib++(Ig)):=(λb hb=>(Ch.1 hb).elim (λhb=>ay b hb) (λhb=>.inl (d5 b hb)))
      replace A:=A.joinP 4 0 rfl rfl (ZM7 TInts (O.1++[ab]) (ac++az) (ae++((ZDa (Fe (.slice (some ⟨ao,0,none⟩) 1 1)))++(ZDa (Fe V))))) (λa_ b_=>Q8 a_ b_) (λc_ ag=>Ch.1 ag)
      refine Zd (v:=dr) rfl (dn (Zh (Zd (v:=.bool true) rfl (dn ?_))))
      refine cwd 15 Ym [0,0,0,6,14,0,0,0,192,448,0,1984,4032,8190,16382,32767,65535] [3,4,8,9,11,12] [0,1,2,5,6,7,10] (λa2 aq hp L=>?_)
      replace A:=A.Iy L;refine bM 0 (dr) rfl aq (Zc 17 1) (bM 1 (Ia) rfl aq (Zc 17 3) (bM 2 (vI (B:Int)) rfl aq (Zc 17 7) ?_))
      obtain ⟨d9,hq,ch⟩:=Zx (A.Iw 7 rfl) B U;refine bL 3 (.pointer (some (d9.add (B * 1)))) rfl rfl a2 (λ_ L=>by exact Y3 (len:=a0.length) ZKd If.size (by exact tr rfl ch) rfl (ZCq _) (ZC9.2 U)) (Zc 17 15) ?_
      obtain ⟨a8,ci,ea,cj⟩:=Xb (A.Iw 7 rfl) ch B U;obtain ⟨bo,rfl⟩:=ZC7.1 ci;clear ci;rw [Y9 _ _ U] at cj
      replace A:=A.I0 7 rfl (ZB8 TInts (a0.getD B Ci) [bo] Ib) (λ_=>cj) (λ_ aa=>aa)
      refine bL 4 (bo) rfl rfl a2 (λ_ L=>by exact Xp (bo) (Vd L ea) If rfl) (Zc 17 31) (bM 5 (V) rfl aq (Zc 17 63) (bM 6 (Ia) rfl aq (Zc 17 127) (bM 7 (vI (B:Int)) rfl aq (Zc 17 255) ?_)))
      obtain ⟨eb,hr,ck⟩:=Zx (A.Iw 8 rfl) B U;refine bL 8 (.pointer (some (eb.add (B * 1)))) rfl rfl a2 (λ_ L=>by exact Y3 (len:=a0.length) ZKd If.size (by exact tr rfl ck) rfl (ZCq _) (ZC9.2 U)) (Zc 17 511) ?_
      obtain ⟨a8,cl,ec,cm⟩:=Xb (A.Iw 8 rfl) ck B U;obtain ⟨cn,rfl⟩:=ZC7.1 cl;clear cl;rw [Y9 _ _ U] at cm
      replace A:=A.I0 8 rfl (ZB8 TInts (a0.getD B Ci) [cn] Ib) (λ_=>cm) (λ_ aa=>aa)
      refine bL 9 (cn) rfl rfl a2 (λ_ L=>by exact Xp (cn) (Vd L ec) If rfl) (Zc 17 1023) (bM 10 (vI I) rfl aq (Zc 17 2047) ?_)
      obtain ⟨⟨gu,gv⟩,h⟩:=h;obtain ⟨ed,hs,cp⟩:=Zx (A.Iw 0 rfl) I.toNat (show I.toNat < (a0.getD B Ci).length by omega)
      refine bL 11 (.pointer (some (ed.add (I.toNat * 1)))) rfl rfl a2 (λ_ L=>by exact Y3 (len:=(a0.getD B Ci).length) ZCs sc2.size (by exact tr rfl cp) rfl gu gv) (Zc 17 4095) (bL 12 (vI ((a0.getD B Ci).getD I.toNat Ci)) rfl rfl a2 (λ_ L=>by exact Xp (vI ((a0.getD B Ci).getD I.toNat Ci)) (Yi ((A.Iy L).Iw 0 rfl) cp I.toNat (show I.toNat < (a0.getD B Ci).length by omega)) sc2 rfl) (Zc 17 8191) (aO 13 rfl (Zf [bo,V,vI ((a0.getD B Ci).getD I.toNat Ci)] _ ZOb rfl rfl rfl (Ng (a0.getD B Ci) ab ((a0.getD B Ci).getD I.toNat Ci) h _ (A.Iw 1 rfl) (A.Iw 8 rfl)) ?_)))
      rintro _ ht ⟨al,ai,gw,rfl,h,ee,ef,eg⟩;refine rt ?_
      replace A:=A.push eg (ZCn (ZJh 2 (eI.tr)) al [ai] gw) ee ef;obtain ⟨eh,ei⟩:=Yx (A.Ix 0 rfl).1;subst ei;replace A:=A.Iz (c:=own 2 1 ai al.length (eI.encs al)) (λ_ h_=>h_) (λ_=>eh)
      refine done (aK (by assumption) (Zc 17 16383) (aO 14 rfl ?_))
      have ej:=Xg A 0 rfl;replace A:=A.thaw 0 rfl (ZB8 TInts al [ai] (ZDa (Fe ai))) Yu (λ_ aa=>aa)
      refine Yd (sz:=1) A [(0,ai)] [ai] rfl (λ_=>Wc ai (Tc (A.Iw 0 rfl)) _) rfl (by decide) λa5 hu L A=>?_
      have ek:=Xg A 0 rfl;replace A:=A.thaw 0 rfl (own 22 1 (.slice (some ⟨a5,0,none⟩) 1 1) 1 [ai]) id (λ_ aa=>aa)
      replace A:=A.joinP 0 1 rfl rfl (ZB8 (ZFf.sl) [al] [.slice (some ⟨a5,0,none⟩) 1 1] ((ZDa (Fe (.slice (some ⟨a5,0,none⟩) 1 1)))++(ZDa (Fe ai)))) (λa_ b_=>Vp a_ (Sv b_)) (λc_ ag=>Ch.1 ag)
      have en:∀ b,b∈((ZDa (Fe (.slice (some ⟨a5,0,none⟩) 1 1)))++(ZDa (Fe ai)))->w0.heap.size<=b:=(λb hb=>(Ch.1 hb).elim (λhb=>ek b hb) (λhb=>ej b hb))
      refine done (aK (by assumption) (Zc 17 32767) (Z5 15 (by decide) (by decide) (by kernel_rfl) (by kernel_rfl) rfl ?_))
      obtain ⟨ba,eo,cq⟩:=Q7 (A.Iw 0 rfl);replace A:=A.I0 0 rfl (ZM7 TInts [al] ba ((ZDa (Fe (.slice (some ⟨a5,0,none⟩) 1 1)))++(ZDa (Fe ai)))) (λ_=>cq) (λ_ h_=>h_)
      obtain ⟨ep,h⟩:=h;refine Jg A 0 ZKd J0 rfl (by decide) (by decide) rfl eo (λq_ av=>cq.2.2.1 q_ av) rfl rfl ep λdt hv A=>?_
      replace A:=Y7 A 0 (((O.1++[ab])++[al]).length) ((ac++az)++ba) rfl (by simp) (by simp)
      have er:∀ b,b∈((ae++((ZDa (Fe (.slice (some ⟨ao,0,none⟩) 1 1)))++(ZDa (Fe V))))++((ZDa (Fe (.slice (some ⟨a5,0,none⟩) 1 1)))++(ZDa (Fe ai))))->w0.heap.size<=b\/b∈(Ib++(Ig)):=(λb hb=>(Ch.1 hb).elim (λhb=>d8 b hb) (λhb=>.inl (en b hb)))
      replace A:=A.joinP 6 0 rfl rfl (ZM7 TInts ((O.1++[ab])++[al]) ((ac++az)++ba) ((ae++((ZDa (Fe (.slice (some ⟨ao,0,none⟩) 1 1)))++(ZDa (Fe V))))++((ZDa (Fe (.slice (some ⟨a5,0,none⟩) 1 1)))++(ZDa (Fe ai))))) (λa_ b_=>Q8 a_ b_) (λc_ ag=>Ch.1 ag)
      refine Zd (v:=dt) rfl (done (Z6 (Zr (Ze (Zh (Za (v:=vI (B:Int)) rfl (Zm rfl rfl (Zd (v:=vI (Zwt.wrap ((B:Int)+1))) rfl (done ?_)))))))))
      exact bl ((O.1++[ab])++[al],true) _ _ ⟨dt,(ac++az)++ba,((ae++((ZDa (Fe (.slice (some ⟨ao,0,none⟩) 1 1)))++(ZDa (Fe V))))++((ZDa (Fe (.slice (some ⟨a5,0,none⟩) 1 1)))++(ZDa (Fe ai)))),(sl ⟨rfl,rfl,rfl,rfl,rfl,(tr rfl (I1 _ (Z2 U bk))),trivial⟩),er,(A.sP [0,13,14,15] rfl)⟩ h
     ·replace h:=Zk h (cf bm);refine ZCd (Ze ?_)
      refine cwd 15 Ym [0,0,0,6,14,0,0,0,192,448,0,1984,4032,8190,16382,32767,65535] [3,4,8,9,11,12] [0,1,2,5,6,7,10] (λa3 ar hw L=>?_)
      replace A:=A.Iy L;refine bM 0 (ah) rfl ar (Zc 17 1) (bM 1 (Ia) rfl ar (Zc 17 3) (bM 2 (vI (B:Int)) rfl ar (Zc 17 7) ?_))
      obtain ⟨es,hx,cr⟩:=Zx (A.Iw 3 rfl) B U;refine bL 3 (.pointer (some (es.add (B * 1)))) rfl rfl a3 (λ_ L=>by exact Y3 (len:=a0.length) ZKd If.size (by exact tr rfl cr) rfl (ZCq _) (ZC9.2 U)) (Zc 17 15) ?_
      obtain ⟨a8,cu,et,cv⟩:=Xb (A.Iw 3 rfl) cr B U;obtain ⟨bp,rfl⟩:=ZC7.1 cu;clear cu;rw [Y9 _ _ U] at cv
      replace A:=A.I0 3 rfl (ZB8 TInts (a0.getD B Ci) [bp] Ib) (λ_=>cv) (λ_ aa=>aa)
      refine bL 4 (bp) rfl rfl a3 (λ_ L=>by exact Xp (bp) (Vd L et) If rfl) (Zc 17 31) (bM 5 (V) rfl ar (Zc 17 63) (bM 6 (Ia) rfl ar (Zc 17 127) (bM 7 (vI (B:Int)) rfl ar (Zc 17 255) ?_)))
      obtain ⟨eu,hy,cw⟩:=Zx (A.Iw 4 rfl) B U;refine bL 8 (.pointer (some (eu.add (B * 1)))) rfl rfl a3 (λ_ L=>by exact Y3 (len:=a0.length) ZKd If.size (by exact tr rfl cw) rfl (ZCq _) (ZC9.2 U)) (Zc 17 511) ?_
      obtain ⟨a8,cx,ew,cy⟩:=Xb (A.Iw 4 rfl) cw B U;obtain ⟨cz,rfl⟩:=ZC7.1 cx;clear cx;rw [Y9 _ _ U] at cy
      replace A:=A.I0 4 rfl (ZB8 TInts (a0.getD B Ci) [cz] Ib) (λ_=>cy) (λ_ aa=>aa)
      refine bL 9 (cz) rfl rfl a3 (λ_ L=>by exact Xp (cz) (Vd L ew) If rfl) (Zc 17 1023) (bM 10 (vI I) rfl ar (Zc 17 2047) ?_)
      obtain ⟨⟨gx,gy⟩,h⟩:=h;obtain ⟨ex,hz,c0⟩:=Zx (A.Iw 0 rfl) I.toNat (show I.toNat < (a0.getD B Ci).length by omega)
      refine bL 11 (.pointer (some (ex.add (I.toNat * 1)))) rfl rfl a3 (λ_ L=>by exact Y3 (len:=(a0.getD B Ci).length) ZCs sc2.size (by exact tr rfl c0) rfl gx gy) (Zc 17 4095) (bL 12 (vI ((a0.getD B Ci).getD I.toNat Ci)) rfl rfl a3 (λ_ L=>by exact Xp (vI ((a0.getD B Ci).getD I.toNat Ci)) (Yi ((A.Iy L).Iw 0 rfl) c0 I.toNat (show I.toNat < (a0.getD B Ci).length by omega)) sc2 rfl) (Zc 17 8191) (aO 13 rfl (Zf [bp,V,vI ((a0.getD B Ci).getD I.toNat Ci)] _ ZOb rfl rfl rfl (Ng (a0.getD B Ci) ab ((a0.getD B Ci).getD I.toNat Ci) h _ (A.Iw 1 rfl) (A.Iw 4 rfl)) ?_)))
      rintro _ h0 ⟨am,aj,gz,rfl,h,ey,ez,e1⟩;refine rt ?_
      replace A:=A.push e1 (ZCn (ZJh 2 (eI.tr)) am [aj] gz) ey ez;obtain ⟨e2,e3⟩:=Yx (A.Ix 0 rfl).1;subst e3;replace A:=A.Iz (c:=own 2 1 aj am.length (eI.encs am)) (λ_ h_=>h_) (λ_=>e2)
      refine done (aK (by assumption) (Zc 17 16383) (aO 14 rfl ?_))
      have e4:=Xg A 0 rfl;replace A:=A.thaw 0 rfl (ZB8 TInts am [aj] (ZDa (Fe aj))) Yu (λ_ aa=>aa)
      refine Yd (sz:=1) A [(0,aj)] [aj] rfl (λ_=>Wc aj (Tc (A.Iw 0 rfl)) _) rfl (by decide) λa6 h1 L A=>?_
      have e5:=Xg A 0 rfl;replace A:=A.thaw 0 rfl (own 22 1 (.slice (some ⟨a6,0,none⟩) 1 1) 1 [aj]) id (λ_ aa=>aa)
      replace A:=A.joinP 0 1 rfl rfl (ZB8 (ZFf.sl) [am] [.slice (some ⟨a6,0,none⟩) 1 1] ((ZDa (Fe (.slice (some ⟨a6,0,none⟩) 1 1)))++(ZDa (Fe aj)))) (λa_ b_=>Vp a_ (Sv b_)) (λc_ ag=>Ch.1 ag)
      have e6:∀ b,b∈((ZDa (Fe (.slice (some ⟨a6,0,none⟩) 1 1)))++(ZDa (Fe aj)))->w0.heap.size<=b:=(λb hb=>(Ch.1 hb).elim (λhb=>e5 b hb) (λhb=>e4 b hb))
      refine done (aK (by assumption) (Zc 17 32767) (Z5 15 (by decide) (by decide) (by kernel_rfl) (by kernel_rfl) rfl ?_))
      obtain ⟨bb,e7,c6⟩:=Q7 (A.Iw 0 rfl);replace A:=A.I0 0 rfl (ZM7 TInts [am] bb ((ZDa (Fe (.slice (some ⟨a6,0,none⟩) 1 1)))++(ZDa (Fe aj)))) (λ_=>c6) (λ_ h_=>h_)
      obtain ⟨e8,h⟩:=h;refine Jg A 0 ZKd J0 rfl (by decide) (by decide) rfl e7 (λq_ av=>c6.2.2.1 q_ av) rfl rfl e8 λdu h2 A=>?_
      replace A:=Y7 A 0 ((O.1++[am]).length) (ac++bb) rfl (by simp) (by simp)
      have e9:∀ b,b∈(ae++((ZDa (Fe (.slice (some ⟨a6,0,none⟩) 1 1)))++(ZDa (Fe aj))))->w0.heap.size<=b\/b∈(Ib++(Ig)):=(λb hb=>(Ch.1 hb).elim (λhb=>ay b hb) (λhb=>.inl (e6 b hb)))
      replace A:=A.joinP 7 0 rfl rfl (ZM7 TInts (O.1++[am]) (ac++bb) (ae++((ZDa (Fe (.slice (some ⟨a6,0,none⟩) 1 1)))++(ZDa (Fe aj))))) (λa_ b_=>Q8 a_ b_) (λc_ ag=>Ch.1 ag)
      refine Zd (v:=du) rfl (done (Z6 (Zr (Ze (Zh (Za (v:=vI (B:Int)) rfl (Zm rfl rfl (Zd (v:=vI (Zwt.wrap ((B:Int)+1))) rfl (done ?_)))))))))
      exact bl (O.1++[am],O.2) _ _ ⟨du,ac++bb,(ae++((ZDa (Fe (.slice (some ⟨a6,0,none⟩) 1 1)))++(ZDa (Fe aj)))),(sl ⟨rfl,rfl,rfl,rfl,rfl,(tr rfl (I1 _ (Z2 U bk))),trivial⟩),e9,(A.sP [0,9,10,11] rfl)⟩ h
    ·replace h:=Zk h (not_not_intro ((X2 ad)));refine Zp (b:=false) 2 38 rfl (tr rfl (I1 _ ad)) (by decide) (Zp (b:=false) 2 38 rfl (tr rfl (I1 _ ad)) (by decide) (Zp (b:=false) 2 38 rfl (tr rfl (I1 _ ad)) (by decide) (Zp (b:=false) 2 38 rfl (tr rfl (I1 _ ad)) (by decide) (Zp (b:=false) 2 38 rfl (tr rfl (I1 _ ad)) (by decide) (Zp (b:=false) 2 38 rfl (tr rfl (I1 _ ad)) (by decide) (Zp (b:=false) 2 38 rfl (tr rfl (I1 _ ad)) (by decide) (Ya (v:=.bool false) (b:=false) (tr rfl (I1 _ ad)) rfl (dn (Z4 rfl rfl (ZCd (Ze ?_)))))))))))
     refine cwd 15 Ym [0,0,0,6,14,0,0,0,192,448,0,1984,4032,8190,16382,32767,65535] [3,4,8,9,11,12] [0,1,2,5,6,7,10] (λa4 au h3 L=>?_)
     replace A:=A.Iy L;refine bM 0 (ah) rfl au (Zc 17 1) (bM 1 (Ia) rfl au (Zc 17 3) (bM 2 (vI (B:Int)) rfl au (Zc 17 7) ?_))
     obtain ⟨fa,h4,c7⟩:=Zx (A.Iw 2 rfl) B U;refine bL 3 (.pointer (some (fa.add (B * 1)))) rfl rfl a4 (λ_ L=>by exact Y3 (len:=a0.length) ZKd If.size (by exact tr rfl c7) rfl (ZCq _) (ZC9.2 U)) (Zc 17 15) ?_
     obtain ⟨a8,c8,fb,c9⟩:=Xb (A.Iw 2 rfl) c7 B U;obtain ⟨bq,rfl⟩:=ZC7.1 c8;clear c8;rw [Y9 _ _ U] at c9
     replace A:=A.I0 2 rfl (ZB8 TInts (a0.getD B Ci) [bq] Ib) (λ_=>c9) (λ_ aa=>aa)
     refine bL 4 (bq) rfl rfl a4 (λ_ L=>by exact Xp (bq) (Vd L fb) If rfl) (Zc 17 31) (bM 5 (V) rfl au (Zc 17 63) (bM 6 (Ia) rfl au (Zc 17 127) (bM 7 (vI (B:Int)) rfl au (Zc 17 255) ?_)))
     obtain ⟨fc,h5,da⟩:=Zx (A.Iw 3 rfl) B U;refine bL 8 (.pointer (some (fc.add (B * 1)))) rfl rfl a4 (λ_ L=>by exact Y3 (len:=a0.length) ZKd If.size (by exact tr rfl da) rfl (ZCq _) (ZC9.2 U)) (Zc 17 511) ?_
     obtain ⟨a8,db,fd,dc⟩:=Xb (A.Iw 3 rfl) da B U;obtain ⟨dd,rfl⟩:=ZC7.1 db;clear db;rw [Y9 _ _ U] at dc
     replace A:=A.I0 3 rfl (ZB8 TInts (a0.getD B Ci) [dd] Ib) (λ_=>dc) (λ_ aa=>aa)
     refine bL 9 (dd) rfl rfl a4 (λ_ L=>by exact Xp (dd) (Vd L fd) If rfl) (Zc 17 1023) (bM 10 (vI I) rfl au (Zc 17 2047) ?_)
     obtain ⟨⟨g0,g1⟩,h⟩:=h;obtain ⟨fe,h6,de⟩:=Zx (A.Iw 0 rfl) I.toNat (show I.toNat < (a0.getD B Ci).length by omega)
     refine bL 11 (.pointer (some (fe.add (I.toNat * 1)))) rfl rfl a4 (λ_ L=>by exact Y3 (len:=(a0.getD B Ci).length) ZCs sc2.size (by exact tr rfl de) rfl g0 g1) (Zc 17 4095) (bL 12 (vI ((a0.getD B Ci).getD I.toNat Ci)) rfl rfl a4 (λ_ L=>by exact Xp (vI ((a0.getD B Ci).getD I.toNat Ci)) (Yi ((A.Iy L).Iw 0 rfl) de I.toNat (show I.toNat < (a0.getD B Ci).length by omega)) sc2 rfl) (Zc 17 8191) (aO 13 rfl (Zf [bq,V,vI ((a0.getD B Ci).getD I.toNat Ci)] _ ZOb rfl rfl rfl (Ng (a0.getD B Ci) ab ((a0.getD B Ci).getD I.toNat Ci) h _ (A.Iw 1 rfl) (A.Iw 3 rfl)) ?_)))
     rintro _ h7 ⟨an,ak,g2,rfl,h,ff,fg,fh⟩;refine rt ?_
     replace A:=A.push fh (ZCn (ZJh 2 (eI.tr)) an [ak] g2) ff fg;obtain ⟨fi,fj⟩:=Yx (A.Ix 0 rfl).1;subst fj;replace A:=A.Iz (c:=own 2 1 ak an.length (eI.encs an)) (λ_ h_=>h_) (λ_=>fi)
     refine done (aK (by assumption) (Zc 17 16383) (aO 14 rfl ?_))
     have fk:=Xg A 0 rfl;replace A:=A.thaw 0 rfl (ZB8 TInts an [ak] (ZDa (Fe ak))) Yu (λ_ aa=>aa)
     refine Yd (sz:=1) A [(0,ak)] [ak] rfl (λ_=>Wc ak (Tc (A.Iw 0 rfl)) _) rfl (by decide) λa7 h8 L A=>?_
     have fl:=Xg A 0 rfl;replace A:=A.thaw 0 rfl (own 22 1 (.slice (some ⟨a7,0,none⟩) 1 1) 1 [ak]) id (λ_ aa=>aa)
     replace A:=A.joinP 0 1 rfl rfl (ZB8 (ZFf.sl) [an] [.slice (some ⟨a7,0,none⟩) 1 1] ((ZDa (Fe (.slice (some ⟨a7,0,none⟩) 1 1)))++(ZDa (Fe ak)))) (λa_ b_=>Vp a_ (Sv b_)) (λc_ ag=>Ch.1 ag)
     have fo:∀ b,b∈((ZDa (Fe (.slice (some ⟨a7,0,none⟩) 1 1)))++(ZDa (Fe ak)))->w0.heap.size<=b:=(λb hb=>(Ch.1 hb).elim (λhb=>fl b hb) (λhb=>fk b hb))
     refine done (aK (by assumption) (Zc 17 32767) (Z5 15 (by decide) (by decide) (by kernel_rfl) (by kernel_rfl) rfl ?_))
     obtain ⟨bc,fq,dg⟩:=Q7 (A.Iw 0 rfl);replace A:=A.I0 0 rfl (ZM7 TInts [an] bc ((ZDa (Fe (.slice (some ⟨a7,0,none⟩) 1 1)))++(ZDa (Fe ak)))) (λ_=>dg) (λ_ h_=>h_)
     obtain ⟨fr,h⟩:=h;refine Jg A 0 ZKd J0 rfl (by decide) (by decide) rfl fq (λq_ av=>dg.2.2.1 q_ av) rfl rfl fr λdv h9 A=>?_
     replace A:=Y7 A 0 ((O.1++[an]).length) (ac++bc) rfl (by simp) (by simp)
     have fs:∀ b,b∈(ae++((ZDa (Fe (.slice (some ⟨a7,0,none⟩) 1 1)))++(ZDa (Fe ak))))->w0.heap.size<=b\/b∈(Ib++(Ig)):=(λb hb=>(Ch.1 hb).elim (λhb=>ay b hb) (λhb=>.inl (fo b hb)))
     replace A:=A.joinP 6 0 rfl rfl (ZM7 TInts (O.1++[an]) (ac++bc) (ae++((ZDa (Fe (.slice (some ⟨a7,0,none⟩) 1 1)))++(ZDa (Fe ak))))) (λa_ b_=>Q8 a_ b_) (λc_ ag=>Ch.1 ag)
     refine Zd (v:=dv) rfl (done (Z6 (Zr (Ze (Zh (Za (v:=vI (B:Int)) rfl (Zm rfl rfl (Zd (v:=vI (Zwt.wrap ((B:Int)+1))) rfl (done ?_)))))))))
     exact bl (O.1++[an],O.2) _ _ ⟨dv,ac++bc,(ae++((ZDa (Fe (.slice (some ⟨a7,0,none⟩) 1 1)))++(ZDa (Fe ak)))),(sl ⟨rfl,rfl,rfl,rfl,rfl,(tr rfl (I1 _ (Z2 U bk))),trivial⟩),fs,(A.sP [0,8,9,10] rfl)⟩ h
   ·clear A h;rintro O e_ ia gs ⟨ah,ac,ae,be,ay,A⟩ h;rw [ue be];refine ZB9 (sr (Za (v:=vI (a0.length:Int)) rfl (Za (v:=Ia) rfl (Zu A 2 rfl ZKd rfl (Zl rfl rfl (dn (Z4 rfl (decide_eq_false (by omega)) ?_)))))))
    refine ZCo (Zi (Zi (Zy ?_)))
    refine Ze (ZB9 (sr (Za (v:=.bool O.2) rfl (Xo rfl (dn ?_)))))
    refine Zs rfl (λbn=>?_) (λbn=>?_)
    ·replace h:=ift h (Xe (X1 bn));refine Zh (Za (v:=ah) rfl (Za (v:=V) rfl (Yd (sz:=1) A [(0,V)] [V] rfl (λ_=>Wc V (Tc (A.Iw 1 rfl)) _) rfl (by decide) λap ib L A=>?_)))
     have ft:=Xg A 0 rfl;replace A:=A.thaw 0 rfl (own 22 1 (.slice (some ⟨ap,0,none⟩) 1 1) 1 [V]) id (λ_ aa=>aa)
     replace A:=A.joinP 0 2 rfl rfl (ZB8 (ZFf.sl) [ab] [.slice (some ⟨ap,0,none⟩) 1 1] ((ZDa (Fe (.slice (some ⟨ap,0,none⟩) 1 1)))++(ZDa (Fe V)))) (λa_ b_=>Vp a_ (Sv b_)) (λc_ ag=>Ch.1 ag)
     have fu:∀ b,b∈((ZDa (Fe (.slice (some ⟨ap,0,none⟩) 1 1)))++(ZDa (Fe V)))->w0.heap.size<=b:=(λb hb=>(Ch.1 hb).elim (λhb=>ft b hb) (λhb=>b9 b hb))
     obtain ⟨bd,fv,dh⟩:=Q7 (A.Iw 0 rfl);replace A:=A.I0 0 rfl (ZM7 TInts [ab] bd ((ZDa (Fe (.slice (some ⟨ap,0,none⟩) 1 1)))++(ZDa (Fe V)))) (λ_=>dh) (λ_ h_=>h_)
     obtain ⟨fw,h⟩:=h;refine Jg A 0 ZKd J0 rfl (by decide) (by decide) rfl fv (λq_ av=>dh.2.2.1 q_ av) rfl rfl fw λaw ic A=>?_
     replace A:=Y7 A 0 ((O.1++[ab]).length) (ac++bd) rfl (by simp) (by simp)
     have fx:∀ b,b∈(ae++((ZDa (Fe (.slice (some ⟨ap,0,none⟩) 1 1)))++(ZDa (Fe V))))->w0.heap.size<=b\/b∈(Ib++(Ig)):=(λb hb=>(Ch.1 hb).elim (λhb=>ay b hb) (λhb=>.inl (fu b hb)))
     replace A:=A.joinP 3 0 rfl rfl (ZM7 TInts (O.1++[ab]) (ac++bd) (ae++((ZDa (Fe (.slice (some ⟨ap,0,none⟩) 1 1)))++(ZDa (Fe V))))) (λa_ b_=>Q8 a_ b_) (λc_ ag=>Ch.1 ag)
     refine Zd (v:=aw) rfl (dn (sr (Za (v:=aw) rfl (Zd (v:=aw) rfl (dn (ZCi ?_))))))
     have fy:=Xg A 0 rfl;replace A:=A.thaw 0 rfl (own 22 1 aw ((O.1++[ab]).length) (ac++bd)) id (λ_ aa=>aa)
     replace A:=A.joinP 0 1 rfl rfl (ZB8 (ZFf.sl) (O.1++[ab]) [aw] ((ZDa (Fe aw))++(ae++((ZDa (Fe (.slice (some ⟨ap,0,none⟩) 1 1)))++(ZDa (Fe V)))))) (λa_ b_=>Vp a_ b_) (λc_ ag=>Ch.1 ag)
     have fz:∀ b,b∈((ZDa (Fe aw))++(ae++((ZDa (Fe (.slice (some ⟨ap,0,none⟩) 1 1)))++(ZDa (Fe V)))))->w0.heap.size<=b\/b∈(Ib++(Ig)):=(λb hb=>(Ch.1 hb).elim (λhb=>.inl (fy b hb)) (λhb=>fx b hb))
     exact Zj rfl (Zg rfl) ⟨O.1++[ab],aw,((ZDa (Fe aw))++(ae++((ZDa (Fe (.slice (some ⟨ap,0,none⟩) 1 1)))++(ZDa (Fe V))))),rfl,h,(A.Iw 0 rfl),(λb hb=>fz b hb),A.below⟩ (.inl rfl)
    ·replace h:=Zk h (not_not_intro ((X2 bn)));refine ZCd (Ze (sr (Za (v:=ah) rfl (Zd (v:=ah) rfl (dn (ZCi ?_))))))
     have f0:=Xg A 0 rfl;replace A:=A.thaw 0 rfl (own 22 1 ah O.1.length ac) id (λ_ aa=>aa)
     replace A:=A.joinP 0 1 rfl rfl (ZB8 (ZFf.sl) O.1 [ah] ((ZDa (Fe ah))++ae)) (λa_ b_=>Vp a_ b_) (λc_ ag=>Ch.1 ag)
     have f1:∀ b,b∈((ZDa (Fe ah))++ae)->w0.heap.size<=b\/b∈(Ib++(Ig)):=(λb hb=>(Ch.1 hb).elim (λhb=>.inl (f0 b hb)) (λhb=>ay b hb))
     exact Zj rfl (Zg rfl) ⟨O.1,ah,((ZDa (Fe ah))++ae),rfl,h,(A.Iw 0 rfl),(λb hb=>f1 b hb),A.below⟩ (.inl rfl)
   ·skip;exact⟨.slice (some ⟨dq,0,none⟩) 0 0,[],[],(slq rfl),(λb hb=>.inl ((λb hb=>absurd hb (by simp)) b hb)),(A.sP [1,0,2,3] rfl)⟩
  refine Jp 2 8 rfl rfl (by kernel_rfl) ?_ ?_
  ·skip;replace h:=h.1;obtain ⟨di,h⟩:=h;refine Uu (sz:=1) A (eI.encs (Cd ((r6.length:Int).toNat) (0:Int))) ZCs el2 (tr rfl (I1 (ZFk .i64) (ZFl di.1).symm)) (tr rfl (I1 (ZFk .i64) (ZFl di.1).symm)) (by omega) (by omega) (V9 (E:=eI) _ _) λg3 ie L A=>?_
   replace A:=Y7 A 0 ((Cd ((r6.length:Int).toNat) (0:Int)).length) (eI.encs (Cd ((r6.length:Int).toNat) (0:Int))) rfl (by simp) rfl
   refine done (aK (by assumption) (Zc 13 255) (aO 8 rfl (Zf [vI (r6.getD I.toNat Ci)] _ ZOm rfl rfl rfl (Zg0 (r6.getD I.toNat Ci) h _) ?_)))
   rintro _ ig ⟨dj,rfl,h,f2⟩;refine rt ?_
   replace A:=A.Iy f2;refine done (aK (by assumption) (Zc 13 511) (bF 9 (vI (Zwt.wrap (0 - dj))) rfl rfl ax (λ_=>by exact Zem rfl) (Zc 13 1023) (aO 10 rfl (Zf [vI (Zwt.wrap (0 - dj))] _ ZCz rfl rfl rfl (Ud (Zwt.wrap (0 - dj)) h _) ?_))))
   rintro _ ih ⟨dw,rfl,h,f3⟩;refine rt ?_
   replace A:=A.Iy f3;refine done (aK (by assumption) (Zc 13 2047) (Z5 11 (by decide) (by decide) (by kernel_rfl) (by kernel_rfl) rfl (Zf [g3,u7,vI dw] _ ZOb rfl rfl rfl (Ng (Cd ((r6.length:Int).toNat) (0:Int)) r6 dw h _ (Yu (A.Ix 0 rfl)) (A.Iw 0 rfl)) ?_)))
   rintro _ ii ⟨br,bs,g4,rfl,h,f4,f5,f6⟩;refine rt ?_
   replace A:=A.push f6 (ZCn (ZJh 2 (eI.tr)) br [bs] g4) f4 f5;obtain ⟨f7,f9⟩:=Yx (A.Ix 0 rfl).1;subst f9;replace A:=A.Iz (c:=own 2 1 bs br.length (eI.encs br)) (λ_ h_=>h_) (λ_=>f7)
   refine Zd (v:=bs) rfl (done (Z6 ?_))
   exact⟨rfl,_,rfl,⟨bs,br,(slq rfl),((A.xM [0] rfl).sP [1,2] rfl),h⟩⟩
  ·skip;replace h:=h.2;refine Zf [vI (r6.getD I.toNat Ci)] _ ZOm rfl rfl rfl (Zg0 (r6.getD I.toNat Ci) h _) ?_
   rintro _ ij ⟨bh,rfl,h,ga⟩;refine rt ?_
   replace A:=A.Iy ga;refine done (aK (by assumption) (Zc 13 507) (bF 9 (vI (Zwt.wrap (0 - bh))) rfl rfl ax (λ_=>by exact Zem rfl) (Zc 13 1019) ?_))
   refine Jp 2 10 rfl rfl (by kernel_rfl) ?_ ?_
   ·skip;replace h:=h.1;obtain ⟨dk,h⟩:=h;refine Uu (sz:=1) A (eI.encs (Cd ((r6.length:Int).toNat) (0:Int))) ZCs el2 (tr rfl (I1 (ZFk .i64) (ZFl dk.1).symm)) (tr rfl (I1 (ZFk .i64) (ZFl dk.1).symm)) (by omega) (by omega) (V9 (E:=eI) _ _) λg5 il L A=>?_
    replace A:=Y7 A 0 ((Cd ((r6.length:Int).toNat) (0:Int)).length) (eI.encs (Cd ((r6.length:Int).toNat) (0:Int))) rfl (by simp) rfl
    refine done (aK (by assumption) (Zc 13 1023) (aO 10 rfl (Zf [vI (Zwt.wrap (0 - bh))] _ ZCz rfl rfl rfl (Ud (Zwt.wrap (0 - bh)) h _) ?_)))
    rintro _ im ⟨dx,rfl,h,gb⟩;refine rt ?_
    replace A:=A.Iy gb;refine done (aK (by assumption) (Zc 13 2047) (Z5 11 (by decide) (by decide) (by kernel_rfl) (by kernel_rfl) rfl (Zf [g5,u7,vI dx] _ ZOb rfl rfl rfl (Ng (Cd ((r6.length:Int).toNat) (0:Int)) r6 dx h _ (Yu (A.Ix 0 rfl)) (A.Iw 0 rfl)) ?_)))
    rintro _ io ⟨bt,bu,g6,rfl,h,gc,gf,gg⟩;refine rt ?_
    replace A:=A.push gg (ZCn (ZJh 2 (eI.tr)) bt [bu] g6) gc gf;obtain ⟨gh,gi⟩:=Yx (A.Ix 0 rfl).1;subst gi;replace A:=A.Iz (c:=own 2 1 bu bt.length (eI.encs bt)) (λ_ h_=>h_) (λ_=>gh)
    refine Zd (v:=bu) rfl (done (Z6 ?_))
    exact⟨rfl,_,rfl,⟨bu,bt,(slq rfl),((A.xM [0] rfl).sP [1,2] rfl),h⟩⟩
   ·skip;replace h:=h.2;refine Zf [vI (Zwt.wrap (0 - bh))] _ ZCz rfl rfl rfl (Ud (Zwt.wrap (0 - bh)) h _) ?_
    rintro _ ip ⟨dy,rfl,h,gj⟩;refine rt ?_
    replace A:=A.Iy gj;refine done (aK (by assumption) (Zc 13 2043) (aO 2 rfl ?_))
    obtain ⟨dm,h⟩:=h;refine Uu (sz:=1) A (eI.encs (Cd ((r6.length:Int).toNat) (0:Int))) ZCs el2 (tr rfl (I1 (ZFk .i64) (ZFl dm.1).symm)) (tr rfl (I1 (ZFk .i64) (ZFl dm.1).symm)) (by omega) (by omega) (V9 (E:=eI) _ _) λg7 iq L A=>?_
    replace A:=Y7 A 0 ((Cd ((r6.length:Int).toNat) (0:Int)).length) (eI.encs (Cd ((r6.length:Int).toNat) (0:Int))) rfl (by simp) rfl
    refine done (aK (by assumption) (Zc 13 2047) (Z5 11 (by decide) (by decide) (by kernel_rfl) (by kernel_rfl) rfl (Zf [g7,u7,vI dy] _ ZOb rfl rfl rfl (Ng (Cd ((r6.length:Int).toNat) (0:Int)) r6 dy h _ (Yu (A.Ix 0 rfl)) (A.Iw 0 rfl)) ?_)))
    rintro _ ir ⟨bv,bw,g8,rfl,h,gk,gl,gm⟩;refine rt ?_
    replace A:=A.push gm (ZCn (ZJh 2 (eI.tr)) bv [bw] g8) gk gl;obtain ⟨gn,go⟩:=Yx (A.Ix 0 rfl).1;subst go;replace A:=A.Iz (c:=own 2 1 bw bv.length (eI.encs bv)) (λ_ h_=>h_) (λ_=>gn)
    refine Zd (v:=bw) rfl (done (Z6 ?_))
    exact⟨rfl,_,rfl,⟨bw,bv,(slq rfl),((A.xM [0] rfl).sP [1,2] rfl),h⟩⟩
def V5 (L:List (List Int)) (K:List (List Int)->Prop):Prop :=
 Z1 (λB (h:(List (List Int))) A=>Nj h (L.getD B Ci) (λI=>A I)) (λ(h:(List (List Int)))=>K h) L.length 0 []
theorem Nk (a0:List (List Int))  {K:List (List Int)->Prop} (h:V5 a0 K) (w0:World) (q0:(ZFf.sl).rep a0 [Ia] Ib w0) :
  Calls ZCc 55 #[Ia] w0 λe w'=>∃ (r0:List (List Int)) (Ih:Value) (ak:List Nat),
   e=.returned (Ih)/\K r0/\(ZFf.sl).rep r0 [Ih] ak w'/\(∀ b,b∈ak->w0.heap.size<=b\/b∈(Ib))/\Bel w0 w':=by
 unfold V5 at h
 refine cof ZOd rfl 19 Tryz.ntmps55 ?_
 have A:=ZCu (X:=Nox) w0 [ZB8 (ZFf.sl) a0 [Ia] Ib] (al1 q0);refine sr (Zd (v:=.slice none 0 0) rfl (dn (sr (Yd (sz:=1) A [] [] rfl (λ_=>Jl _) rfl (by decide) λb2 w3 a4 A=>?_))))
 replace A:=A.pushM0 (Zz (ZJh 2 (eI.tr)) ([]:List (List Int)) [] []) (Xn _ _) rfl;replace A:=A.gather (c:=ZCn (ZJh 22 (ZJh 2 (eI.tr))) [] [.slice (some ⟨b2,0,none⟩) 0 0] ((ZDa (Fe (.slice (some ⟨b2,0,none⟩) 0 0)))++([]:List (List Nat)).flatten)) (λx_ av=>(Ch.1 av).symm) (λaw ax ay=>Xj ax aw (λb_ O am=>ay b_ am O))
 refine Zd (v:=.slice (some ⟨b2,0,none⟩) 0 0) rfl (dn (ZB9 (sr (Zd (v:=vI 0) rfl (dn (ZCf ?_))))))
 have az:=J9 A 0 rfl;replace A:=A.thaw 0 rfl (ZB8 (ZFf.sl) [] [.slice (some ⟨b2,0,none⟩) 0 0] ((ZDa (Fe (.slice (some ⟨b2,0,none⟩) 0 0)))++([]:List (List Nat)).flatten)) (λh_=>ZJu _ h_.1) (λ_ O=>O)
 have an:a0.length<=9223372036854775807:=Yz (A.Iw 1 rfl);refine Yh (S:=(List (List Int))) _ _ (λB U e_ w_=>∃ (I:Value),∃ (V:List Nat),Zt e_ [(0,Ia),(3,I),(4,vI (B:Int))]/\(∀ b,b∈V->w0.heap.size<=b\/b∈(Ib))/\Ctx Nox w0 w_ [] [ZB8 (ZFf.sl) U [I] V,ZB8 (ZFf.sl) a0 [Ia] Ib]) a0.length ?_ ?_ (s0:=[]) ?_ h
 ·clear A h;rintro B U e_ a5 a2 a1 L ⟨I,V,ab,aa,A⟩ h ao;rw [ue ab];refine ZB9 (sr (Za (v:=vI (B:Int)) rfl (Za (v:=Ia) rfl (Zu A 1 rfl ZKd rfl (Zl rfl rfl (dn (Z8 rfl (decide_eq_true (by omega)) (ZCd (Ze (ZB9 (ZCf (Zh (Za (v:=I) rfl (Za (v:=Ia) rfl (Za (v:=vI (B:Int)) rfl ?_)))))))))))))))
  obtain ⟨a3,a6,ac⟩:=Zx (A.Iw 1 rfl) B L;refine Yn (len:=a0.length) ZKd If.size (tr rfl ac) rfl (ZCq _) (ZC9.2 L) ?_
  obtain ⟨a7,ad,ap,ae⟩:=Xb (A.Iw 1 rfl) ac B L;obtain ⟨ag,rfl⟩:=ZC7.1 ad;clear ad;rw [Y9 _ _ L] at ae
  replace A:=A.I0 1 rfl (ZB8 TInts (a0.getD B Ci) [ag] Ib) (λ_=>ae) (λ_ O=>O)
  refine Ye (ag) ap If rfl (Zf [I,ag] _ Tryz.func106 rfl rfl rfl (Zg1 U (a0.getD B Ci) h _ (A.Iw 1 rfl) (A.Iw 0 rfl)) ?_)
  rintro _ a8 ⟨al,ah,ai,rfl,h,aq,aj,ar⟩;refine rt ?_
  have au:∀ b,b∈ai->w0.heap.size<=b\/b∈(Ib):=(λb hb=>(aj b hb).elim (λh_=>.inl (Cj A.size h_)) (λhb=>(Ch.1 hb).elim (λhb=>aa b hb) (λhb=>.inr hb)))
  replace A:=A.pushR ar (ZB8 (ZFf.sl) al [ah] ai) aq (λb hb=>(aj b hb).elim .inl (λhb=>.inr ((Ch.1 hb).elim (λhb=>⟨_,mg 1 rfl,hb⟩) (λhb=>⟨_,mg 0 rfl,hb⟩))))
  refine Zd (v:=ah) rfl (done (Zr (Ze (Zh (Za (v:=vI (B:Int)) rfl (Zm rfl rfl (Zd (v:=vI (Zwt.wrap ((B:Int)+1))) rfl (done ?_))))))))
  exact ao al _ _ ⟨ah,ai,(sl ⟨rfl,rfl,(tr rfl (I1 _ (Z2 L an))),trivial⟩),au,(A.sP [0,3] rfl)⟩ h
 ·clear A h;rintro U e_ a9 a1 ⟨I,V,ab,aa,A⟩ h;rw [ue ab];refine ZB9 (sr (Za (v:=vI (a0.length:Int)) rfl (Za (v:=Ia) rfl (Zu A 1 rfl ZKd rfl (Zl rfl rfl (dn (Z4 rfl (decide_eq_false (by omega)) ?_)))))))
  refine ZCo (Zi (Zi (Zy ?_)))
  refine Ze (sr (Za (v:=I) rfl (Zd (v:=I) rfl (dn (ZCi ?_)))))
  exact Zj rfl (Zg rfl) ⟨U,I,V,rfl,h,(A.Iw 0 rfl),(λb hb=>aa b hb),A.below⟩ (.inl rfl)
 ·skip;exact⟨.slice (some ⟨b2,0,none⟩) 0 0,((ZDa (Fe (.slice (some ⟨b2,0,none⟩) 0 0)))++([]:List (List Nat)).flatten),(slq rfl),(λb hb=>.inl (az b hb)),A⟩
def f_spec_l01Fill (L:Nat) (a0:List Int) (U:A8) (B:Int) (I:Int) (O:List A8) (K:List A8->Prop):Prop :=
 match L with
 | 0=>False
 | L+1=>(if B=(a0.length:Int) then(if I=0 then(Zw (O.length+1) 8/\K (O++[U])) else K O) else((0<=B/\B < (a0.length:Int))/\((a0.getD B.toNat Ci)≠0/\((0<=B/\B < (a0.length:Int))/\(if Fa (a0.getD B.toNat Ci) 2≠0 then Xv (λ(h:A8×(List A8)×Int) V=>(if h.2.2≥0 then(if(h.2.1.length:Int)<=400 then((0<=B/\B < 8)/\((0<=B/\B < (a0.length:Int))/\f_spec_l01Fill L a0 (h.1.set B.toNat (ZCl.wrap h.2.2)) (Zwt.wrap (B+1)) (Zwt.wrap (I - (Zwt.wrap (h.2.2 * (a0.getD B.toNat Ci))))) h.2.1 (λab=>V (h.1.set B.toNat (ZCl.wrap h.2.2),ab,Zwt.wrap (h.2.2 - 1))))) else K h.2.1) else K h.2.1)) (U,O,(if 20 < (if 1 < Zwt.wrap (ZJi I (a0.getD B.toNat Ci)) then 1 else Zwt.wrap (ZJi I (a0.getD B.toNat Ci))) then 20 else(if 1 < Zwt.wrap (ZJi I (a0.getD B.toNat Ci)) then 1 else Zwt.wrap (ZJi I (a0.getD B.toNat Ci))))) else Xv (λ(A:A8×(List A8)×Int) aa=>(if A.2.2≥0 then(if(A.2.1.length:Int)<=400 then((0<=B/\B < 8)/\((0<=B/\B < (a0.length:Int))/\f_spec_l01Fill L a0 (A.1.set B.toNat (ZCl.wrap A.2.2)) (Zwt.wrap (B+1)) (Zwt.wrap (I - (Zwt.wrap (A.2.2 * (a0.getD B.toNat Ci))))) A.2.1 (λac=>aa (A.1.set B.toNat (ZCl.wrap A.2.2),ac,Zwt.wrap (A.2.2 - 1))))) else K A.2.1) else K A.2.1)) (U,O,(if 20 < Zwt.wrap (ZJi I (a0.getD B.toNat Ci)) then 20 else Zwt.wrap (ZJi I (a0.getD B.toNat Ci)))))))))
theorem Zp6 (an:Nat):∀ (a0:List Int) (a1:A8) (a2:Int) (L:Int) (a4:List A8) {Is:Value} {Ia:Value} {Ib:List Nat} {K:List A8->Prop} (h:f_spec_l01Fill an a0 a1 a2 L a4 K) (w0:World) (q0:ZFf.rep a0 [Ia] Ib w0) (ao:(own 136 8 Is a4.length ((EA .u8).encs a4)).holds w0) (ap:∀ b,b∈Ib->b∉ZDa (Fe Is)),
  Calls ZCc 150 #[Ia,.agg (ZB7 (ZB6 .u8 a1)),vI a2,vI L,Is] w0 λe w'=>∃ (r0:List A8) (Ih:Value),
   e=.returned (Ih)/\K r0/\(own 136 8 Ih r0.length ((EA .u8).encs r0)).holds w'/\(∀ b,b∈ZDa (Fe Ih)->b∈ZDa (Fe Is)\/w0.heap.size<=b)/\BelO (ZDa (Fe Is)) w0 w':=by
 induction an with
 | zero =>
  intro a0 a1 a2 L a4 Is Ia Ib K h w0 q0 ao ap;exact False.elim h
 | succ an ay =>
  intro a0 a1 a2 L a4 Is Ia Ib K h w0 q0 ao ap;rw [f_spec_l01Fill.eq_2] at h
  refine cof ZOh rfl 68 Tryz.ntmps150 ?_
  have A:=Ctx.startL w0 (ZDa (Fe Is)) [own 136 8 Is a4.length ((EA .u8).encs a4)] [ZB8 TInts a0 [Ia] Ib] (by simp only [Cb,Zwd,or_false,forall_eq_or_imp,forall_eq]; exact ao) (by simp only [Cb,Zwd,or_false,forall_eq_or_imp,forall_eq]; exact q0) (by simp only [Cb,Zwd,or_false,forall_eq_or_imp,forall_eq]; exact(λb_ O=>O)) (List.pairwise_singleton _ _) (by simp only [Cb,Zwd,or_false,forall_eq_or_imp,forall_eq]; exact ap)
  refine sr (Yg (v:=.agg (ZB7 (ZB6 .u8 a1))) A (ZB6 .u8 a1) rfl rfl λb3 w5 U A=>Zd (v:=.slice none 0 0) rfl (dn (ZB9 (sr (Za (v:=vI a2) rfl (Za (v:=Ia) rfl (Zu A 0 rfl ZCs rfl (X6 rfl rfl (dn ?_)))))))))
  refine Zs rfl (λaq=>?_) (λaq=>?_)
  ·replace h:=ift h (ct aq);refine ZB9 (sr (Za (v:=vI L) rfl (X6 rfl rfl (dn ?_))))
   refine Zs rfl (λag=>?_) (λag=>?_)
   ·replace h:=ift h (ct ag);refine sr (Za (v:=Is) rfl (Yr A 0 (ZB6 .u8 a1) rfl ag136 rfl rfl rfl (Yd (sz:=8) A [(0,.agg (ZB7 (ZB6 .u8 a1)))] ((EA .u8).encs [a1]) rfl (λ_=>Zb5 a1 _) rfl (by decide) λcc ce U A=>?_)))
    obtain ⟨a7,h⟩:=h;refine Jg A 2 ZN8 Zb6 rfl (by decide) (by decide) rfl (Wl (A.Ix 0 rfl)) (λq hq=>ZDf (E:=(EA .u8)) _ q hq) rfl rfl a7 λaz cg A=>?_
    replace A:=Y7 A 2 ((a4++[a1]).length) ((EA .u8).encs (a4++[a1])) rfl (by simp) (by first | (simp [ZC1]; done) | simp [ZC1,ZJw])
    refine Zd (v:=az) rfl (dn ?_)
    refine ZCi (Zn (Zn ?_))
    exact Zj rfl (Zg rfl) ⟨a4++[a1],az,rfl,h,(A.Ix 2 rfl),(λb_ O=>(A.mfk 2 rfl b_ O).symm),A.belO⟩ (.inl rfl)
   ·replace h:=Zk h (cf ag);refine ZCd (Ze (sr (Za (v:=Is) rfl (Zd (v:=Is) rfl (dn ?_)))))
    refine ZCi (Zn ?_)
    exact Zj rfl (Zg rfl) ⟨a4,Is,rfl,h,(A.Ix 1 rfl),(λb_ O=>(A.mfk 1 rfl b_ O).symm),A.belO⟩ (.inl rfl)
  ·replace h:=Zk h (cf aq);refine ZCd (Ze (sr (Za (v:=vI L) rfl (Za (v:=Ia) rfl (Za (v:=vI a2) rfl ?_)))))
   obtain ⟨⟨bk,bl⟩,h⟩:=h;obtain ⟨b8,ch,ar⟩:=Zx (A.Iw 0 rfl) a2.toNat (show a2.toNat < a0.length by omega)
   refine Yn (len:=a0.length) ZCs sc2.size (tr rfl ar) rfl bk bl (Ye (vI (a0.getD a2.toNat Ci)) (Yi (A.Iw 0 rfl) ar a2.toNat (show a2.toNat < a0.length by omega)) sc2 rfl ?_)
   obtain ⟨bm,h⟩:=h;refine N4 rfl rfl bm (Zd (v:=vI (Zwt.wrap (ZJi L (a0.getD a2.toNat Ci)))) rfl (dn (ZB9 (sr (Za (v:=Ia) rfl (Za (v:=vI a2) rfl ?_))))))
   obtain ⟨⟨bn,bo⟩,h⟩:=h;obtain ⟨b9,ci,au⟩:=Zx (A.Iw 0 rfl) a2.toNat (show a2.toNat < a0.length by omega)
   refine Yn (len:=a0.length) ZCs sc2.size (tr rfl au) rfl bn bo (Ye (vI (a0.getD a2.toNat Ci)) (Yi (A.Iw 0 rfl) au a2.toNat (show a2.toNat < a0.length by omega)) sc2 rfl (Jf rfl rfl (by decide) (Xl rfl rfl (dn ?_))))
   refine Zs rfl (λah=>?_) (λah=>?_)
   ·replace h:=ift h (ct ah);refine Zh (Za (v:=vI (Zwt.wrap (ZJi L (a0.getD a2.toNat Ci)))) rfl (Hi rfl rfl (Zd (v:=vI (if 1 < Zwt.wrap (ZJi L (a0.getD a2.toNat Ci)) then 1 else Zwt.wrap (ZJi L (a0.getD a2.toNat Ci)))) rfl (dn (ZB9 (sr (Za (v:=vI (if 1 < Zwt.wrap (ZJi L (a0.getD a2.toNat Ci)) then 1 else Zwt.wrap (ZJi L (a0.getD a2.toNat Ci)))) rfl (Hi rfl rfl (Zd (v:=vI (if 20 < (if 1 < Zwt.wrap (ZJi L (a0.getD a2.toNat Ci)) then 1 else Zwt.wrap (ZJi L (a0.getD a2.toNat Ci))) then 20 else(if 1 < Zwt.wrap (ZJi L (a0.getD a2.toNat Ci)) then 1 else Zwt.wrap (ZJi L (a0.getD a2.toNat Ci))))) rfl (dn (ZCf ?_)))))))))))
    refine Jb (S:=A8×(List A8)×Int) _ (λB e_ w_=>∃ (ad:Value),Zt e_ [(0,Ia),(2,vI a2),(3,vI L),(4,ad),(6,vQ b3),(12,vI B.2.2)]/\Ctx (λc_=>c_∈ZDa (Fe Is)) w0 w_ [blk b3 136 (ZB6 .u8 B.1),own 136 8 ad B.2.1.length ((EA .u8).encs B.2.1)] [ZB8 TInts a0 [Ia] Ib]) ?_ (s0:=(a1,a4,(if 20 < (if 1 < Zwt.wrap (ZJi L (a0.getD a2.toNat Ci)) then 1 else Zwt.wrap (ZJi L (a0.getD a2.toNat Ci))) then 20 else(if 1 < Zwt.wrap (ZJi L (a0.getD a2.toNat Ci)) then 1 else Zwt.wrap (ZJi L (a0.getD a2.toNat Ci)))))) ?_ h
    ·clear A h;rintro B e_ cj ca ck ⟨ad,av,A⟩ h a8;rw [ue av];refine ZB9 (sr (Za (v:=vI B.2.2) rfl (Wp rfl rfl (Za (v:=.bool (decide (B.2.2≥0))) rfl ?_))))
     refine Xm (decide (B.2.2≥0)) (λV=>?_) (λV=>?_)
     ·replace h:=ift h (ct V);refine Zq 2 42 rfl rfl V (Za (v:=ad) rfl (Zq 2 42 rfl rfl V (J3 A 1 rfl ZN8 rfl (Zq 2 42 rfl rfl V (Ut rfl rfl (Ya (v:=.bool (decide ((B.2.1.length:Int)<=400))) (b:=true) (tr rfl (I1 _ V)) rfl (dn ?_)))))))
      refine Zs rfl (λai=>?_) (λai=>?_)
      ·replace h:=ift h (ct ai);refine ZCd (Ze (ZB9 (ZCf (sr (Za (v:=vI a2) rfl (Za (v:=vI B.2.2) rfl (G4 ZDj ZDc rfl ?_)))))))
       obtain ⟨⟨bp,bq⟩,h⟩:=h;refine X0 a2.toNat ZCr sc5.size rfl rfl bp bq (by omega) (Z7 (v:=.int .u8 (ZCl.wrap B.2.2)) A 0 [.int .u8 (ZCl.wrap B.2.2)] (ZB6 .u8 (B.1.set a2.toNat (ZCl.wrap B.2.2))) rfl sc5.size rfl rfl rfl rfl rfl (show a2.toNat < 8 by omega) (A8.enc_set _ _ _ (show a2.toNat < 8 by omega)) λcl A=>dn ?_)
       refine cwd 13 Ym [0,0,0,4,0,0,0,0,192,448,992,2032,0,8191,16383] [1,8,9] [0,2,3,4,5,6,7,10,11,12] (λaj ab cm U=>?_)
       replace A:=A.Iy U;refine bM 0 (Ia) rfl ab (Zc 15 1) (bL 1 (.agg (ZB7 (ZB6 .u8 (B.1.set a2.toNat (ZCl.wrap B.2.2))))) rfl rfl aj (λ_ U=>by exact Y6 (A.Iy U) 0 (ZB6 .u8 (B.1.set a2.toNat (ZCl.wrap B.2.2))) rfl ag136 rfl rfl rfl) (Zc 15 3) (bM 2 (vI a2) rfl ab (Zc 15 7) (bF 3 (vI (Zwt.wrap (a2+1))) rfl rfl ab (λ_=>by exact Vn rfl rfl) (Zc 15 15) (bM 4 (vI L) rfl ab (Zc 15 31) (bM 5 (vI B.2.2) rfl ab (Zc 15 63) (bM 6 (Ia) rfl ab (Zc 15 127) (bM 7 (vI a2) rfl ab (Zc 15 255) ?_)))))))
       obtain ⟨⟨br,bs⟩,h⟩:=h;obtain ⟨a9,cn,aw⟩:=Zx (A.Iw 0 rfl) a2.toNat (show a2.toNat < a0.length by omega)
       refine bL 8 (.pointer (some (a9.add (a2.toNat * 1)))) rfl rfl aj (λ_ U=>by exact Y3 (len:=a0.length) ZCs sc2.size (by exact tr rfl aw) rfl br bs) (Zc 15 511) (bL 9 (vI (a0.getD a2.toNat Ci)) rfl rfl aj (λ_ U=>by exact Xp (vI (a0.getD a2.toNat Ci)) (Yi ((A.Iy U).Iw 0 rfl) aw a2.toNat (show a2.toNat < a0.length by omega)) sc2 rfl) (Zc 15 1023) (bF 10 (vI (Zwt.wrap (B.2.2 * (a0.getD a2.toNat Ci)))) rfl rfl ab (λ_=>by exact Tv rfl rfl) (Zc 15 2047) (bF 11 (vI (Zwt.wrap (L - (Zwt.wrap (B.2.2 * (a0.getD a2.toNat Ci)))))) rfl rfl ab (λ_=>by exact Tu rfl rfl) (Zc 15 4095) (bM 12 (ad) rfl ab (Zc 15 8191) (Z5 13 (by decide) (by decide) (by kernel_rfl) (by kernel_rfl) rfl (Zf [Ia,.agg (ZB7 (ZB6 .u8 (B.1.set a2.toNat (ZCl.wrap B.2.2)))),vI (Zwt.wrap (a2+1)),vI (Zwt.wrap (L - (Zwt.wrap (B.2.2 * (a0.getD a2.toNat Ci))))),ad] _ ZOh rfl rfl rfl (ay a0 (B.1.set a2.toNat (ZCl.wrap B.2.2)) (Zwt.wrap (a2+1)) (Zwt.wrap (L - (Zwt.wrap (B.2.2 * (a0.getD a2.toNat Ci))))) B.2.1 h _ (A.Iw 0 rfl) (A.Ix 1 rfl) (λb_ O ak=>A.pdk 0 1 rfl rfl b_ O ak)) ?_))))))
       rintro _ cp ⟨bt,a5,rfl,h,ba,bb,bc⟩;refine rt ?_
       replace A:=A.turnO 1 rfl bc ba bb;refine Zd (v:=a5) rfl (done (Z6 (Zr (Ze (Zh (Za (v:=vI B.2.2) rfl (X5 rfl rfl (Zd (v:=vI (Zwt.wrap (B.2.2 - 1))) rfl (done ?_)))))))))
       exact a8 (B.1.set a2.toNat (ZCl.wrap B.2.2),bt,Zwt.wrap (B.2.2 - 1)) _ _ ⟨a5,(slq rfl),A⟩ h
      ·replace h:=Zk h (cf ai);refine ZCo (Zi (Zi (Zy ?_)))
       refine Ze (sr (Za (v:=ad) rfl (Zd (v:=ad) rfl (dn (ZCi ?_)))))
       exact Zj rfl (Zg rfl) ⟨B.2.1,ad,rfl,h,(A.Ix 1 rfl),(λb_ O=>(A.mfk 1 rfl b_ O).symm),A.belO⟩ (.inl rfl)
     ·replace h:=Zk h (cf V);refine Zp (b:=false) 2 42 rfl (tr rfl (I1 _ V)) (by decide) (Zp (b:=false) 2 42 rfl (tr rfl (I1 _ V)) (by decide) (Zp (b:=false) 2 42 rfl (tr rfl (I1 _ V)) (by decide) (Ya (v:=.bool false) (b:=false) (tr rfl (I1 _ V)) rfl (dn (Z4 rfl rfl ?_)))))
      refine ZCo (Zi (Zi (Zy ?_)))
      refine Ze (sr (Za (v:=ad) rfl (Zd (v:=ad) rfl (dn (ZCi ?_)))))
      exact Zj rfl (Zg rfl) ⟨B.2.1,ad,rfl,h,(A.Ix 1 rfl),(λb_ O=>(A.mfk 1 rfl b_ O).symm),A.belO⟩ (.inl rfl)
    ·skip;exact⟨Is,(slq rfl),A⟩
   ·replace h:=Zk h (cf ah);refine ZCd (Ze (ZB9 (sr (Za (v:=vI (Zwt.wrap (ZJi L (a0.getD a2.toNat Ci)))) rfl (Hi rfl rfl (Zd (v:=vI (if 20 < Zwt.wrap (ZJi L (a0.getD a2.toNat Ci)) then 20 else Zwt.wrap (ZJi L (a0.getD a2.toNat Ci)))) rfl (dn (ZCf ?_))))))))
    refine Jb (S:=A8×(List A8)×Int) _ (λI e_ w_=>∃ (ae:Value),Zt e_ [(0,Ia),(2,vI a2),(3,vI L),(4,ae),(6,vQ b3),(12,vI I.2.2)]/\Ctx (λc_=>c_∈ZDa (Fe Is)) w0 w_ [blk b3 136 (ZB6 .u8 I.1),own 136 8 ae I.2.1.length ((EA .u8).encs I.2.1)] [ZB8 TInts a0 [Ia] Ib]) ?_ (s0:=(a1,a4,(if 20 < Zwt.wrap (ZJi L (a0.getD a2.toNat Ci)) then 20 else Zwt.wrap (ZJi L (a0.getD a2.toNat Ci))))) ?_ h
    ·clear A h;rintro I e_ cq cb cr ⟨ae,av,A⟩ h bd;rw [ue av];refine ZB9 (sr (Za (v:=vI I.2.2) rfl (Wp rfl rfl (Za (v:=.bool (decide (I.2.2≥0))) rfl ?_))))
     refine Xm (decide (I.2.2≥0)) (λaa=>?_) (λaa=>?_)
     ·replace h:=ift h (ct aa);refine Zq 2 42 rfl rfl aa (Za (v:=ae) rfl (Zq 2 42 rfl rfl aa (J3 A 1 rfl ZN8 rfl (Zq 2 42 rfl rfl aa (Ut rfl rfl (Ya (v:=.bool (decide ((I.2.1.length:Int)<=400))) (b:=true) (tr rfl (I1 _ aa)) rfl (dn ?_)))))))
      refine Zs rfl (λal=>?_) (λal=>?_)
      ·replace h:=ift h (ct al);refine ZCd (Ze (ZB9 (ZCf (sr (Za (v:=vI a2) rfl (Za (v:=vI I.2.2) rfl (G4 ZDj ZDc rfl ?_)))))))
       obtain ⟨⟨bu,bv⟩,h⟩:=h;refine X0 a2.toNat ZCr sc5.size rfl rfl bu bv (by omega) (Z7 (v:=.int .u8 (ZCl.wrap I.2.2)) A 0 [.int .u8 (ZCl.wrap I.2.2)] (ZB6 .u8 (I.1.set a2.toNat (ZCl.wrap I.2.2))) rfl sc5.size rfl rfl rfl rfl rfl (show a2.toNat < 8 by omega) (A8.enc_set _ _ _ (show a2.toNat < 8 by omega)) λcu A=>dn ?_)
       refine cwd 13 Ym [0,0,0,4,0,0,0,0,192,448,992,2032,0,8191,16383] [1,8,9] [0,2,3,4,5,6,7,10,11,12] (λam ac cv U=>?_)
       replace A:=A.Iy U;refine bM 0 (Ia) rfl ac (Zc 15 1) (bL 1 (.agg (ZB7 (ZB6 .u8 (I.1.set a2.toNat (ZCl.wrap I.2.2))))) rfl rfl am (λ_ U=>by exact Y6 (A.Iy U) 0 (ZB6 .u8 (I.1.set a2.toNat (ZCl.wrap I.2.2))) rfl ag136 rfl rfl rfl) (Zc 15 3) (bM 2 (vI a2) rfl ac (Zc 15 7) (bF 3 (vI (Zwt.wrap (a2+1))) rfl rfl ac (λ_=>by exact Vn rfl rfl) (Zc 15 15) (bM 4 (vI L) rfl ac (Zc 15 31) (bM 5 (vI I.2.2) rfl ac (Zc 15 63) (bM 6 (Ia) rfl ac (Zc 15 127) (bM 7 (vI a2) rfl ac (Zc 15 255) ?_)))))))
       obtain ⟨⟨bw,bx⟩,h⟩:=h;obtain ⟨be,cw,ax⟩:=Zx (A.Iw 0 rfl) a2.toNat (show a2.toNat < a0.length by omega)
       refine bL 8 (.pointer (some (be.add (a2.toNat * 1)))) rfl rfl am (λ_ U=>by exact Y3 (len:=a0.length) ZCs sc2.size (by exact tr rfl ax) rfl bw bx) (Zc 15 511) (bL 9 (vI (a0.getD a2.toNat Ci)) rfl rfl am (λ_ U=>by exact Xp (vI (a0.getD a2.toNat Ci)) (Yi ((A.Iy U).Iw 0 rfl) ax a2.toNat (show a2.toNat < a0.length by omega)) sc2 rfl) (Zc 15 1023) (bF 10 (vI (Zwt.wrap (I.2.2 * (a0.getD a2.toNat Ci)))) rfl rfl ac (λ_=>by exact Tv rfl rfl) (Zc 15 2047) (bF 11 (vI (Zwt.wrap (L - (Zwt.wrap (I.2.2 * (a0.getD a2.toNat Ci)))))) rfl rfl ac (λ_=>by exact Tu rfl rfl) (Zc 15 4095) (bM 12 (ae) rfl ac (Zc 15 8191) (Z5 13 (by decide) (by decide) (by kernel_rfl) (by kernel_rfl) rfl (Zf [Ia,.agg (ZB7 (ZB6 .u8 (I.1.set a2.toNat (ZCl.wrap I.2.2)))),vI (Zwt.wrap (a2+1)),vI (Zwt.wrap (L - (Zwt.wrap (I.2.2 * (a0.getD a2.toNat Ci))))),ae] _ ZOh rfl rfl rfl (ay a0 (I.1.set a2.toNat (ZCl.wrap I.2.2)) (Zwt.wrap (a2+1)) (Zwt.wrap (L - (Zwt.wrap (I.2.2 * (a0.getD a2.toNat Ci))))) I.2.1 h _ (A.Iw 0 rfl) (A.Ix 1 rfl) (λb_ O ak=>A.pdk 0 1 rfl rfl b_ O ak)) ?_))))))
       rintro _ cx ⟨bz,a6,rfl,h,bh,bi,bj⟩;refine rt ?_
       replace A:=A.turnO 1 rfl bj bh bi;refine Zd (v:=a6) rfl (done (Z6 (Zr (Ze (Zh (Za (v:=vI I.2.2) rfl (X5 rfl rfl (Zd (v:=vI (Zwt.wrap (I.2.2 - 1))) rfl (done ?_)))))))))
       exact bd (I.1.set a2.toNat (ZCl.wrap I.2.2),bz,Zwt.wrap (I.2.2 - 1)) _ _ ⟨a6,(slq rfl),A⟩ h
      ·replace h:=Zk h (cf al);refine ZCo (Zi (Zi (Zy ?_)))
       refine Ze (sr (Za (v:=ae) rfl (Zd (v:=ae) rfl (dn (ZCi ?_)))))
       exact Zj rfl (Zg rfl) ⟨I.2.1,ae,rfl,h,(A.Ix 1 rfl),(λb_ O=>(A.mfk 1 rfl b_ O).symm),A.belO⟩ (.inl rfl)
     ·replace h:=Zk h (cf aa);refine Zp (b:=false) 2 42 rfl (tr rfl (I1 _ aa)) (by decide) (Zp (b:=false) 2 42 rfl (tr rfl (I1 _ aa)) (by decide) (Zp (b:=false) 2 42 rfl (tr rfl (I1 _ aa)) (by decide) (Ya (v:=.bool false) (b:=false) (tr rfl (I1 _ aa)) rfl (dn (Z4 rfl rfl ?_)))))
      refine ZCo (Zi (Zi (Zy ?_)))
      refine Ze (sr (Za (v:=ae) rfl (Zd (v:=ae) rfl (dn (ZCi ?_)))))
      exact Zj rfl (Zg rfl) ⟨I.2.1,ae,rfl,h,(A.Ix 1 rfl),(λb_ O=>(A.mfk 1 rfl b_ O).symm),A.belO⟩ (.inl rfl)
    ·skip;exact⟨Is,(slq rfl),A⟩
def Sc (h:List Int) (A:Int) (K:List A8->Prop):Prop :=
 f_spec_l01Fill 9 h A8.zero 0 A [] (λB=>K B)
theorem S1 (I:List Int) (B:Int)  {K:List A8->Prop} (h:Sc I B K) (w0:World) (q0:ZFf.rep I [Ia] Ib w0) :
  Calls ZCc 94 #[Ia,vI B] w0 λe w'=>∃ (r0:List A8) (Ih:Value) (L:List Nat),
   e=.returned (Ih)/\K r0/\(ZCn (ZJh 136 ((EA .u8).tr)) r0 [Ih] L).holds w'/\(∀ b,b∈L->w0.heap.size<=b)/\Bel w0 w':=by
 unfold Sc at h
 refine cof Tryz.func94 rfl 9 Tryz.ntmps94 ?_
 have A:=ZCu (X:=Nox) w0 [ZB8 TInts I [Ia] Ib] (al1 q0);refine sr (Zd (v:=.slice none 0 0) rfl (dn (sr (Za (v:=Ia) rfl (Wk [] rfl (Za1   _) (Za (v:=vI B) rfl ?_))))))
 replace A:=A.pushNil 136 8;refine Zf [Ia,.agg (ZB7 (ZB6 .u8 A8.zero)),vI 0,vI B,.slice none 0 0] _ ZOh rfl rfl rfl (Zp6 9 I A8.zero 0 B [] h _ (A.Iw 0 rfl) (A.Ix 0 rfl) (λb_ aa O=>A.pdk 0 0 rfl rfl b_ aa O)) ?_
 rintro _ w5 ⟨r6,U,rfl,h,ab,ac,V⟩;refine rt ?_
 replace A:=A.turnO 0 rfl V ab ac;refine Zd (v:=U) rfl (dn (ZCi ?_))
 exact Zj rfl (Zg rfl) ⟨r6,U,(ZDa (Fe U)),rfl,h,(Xi (A.Ix 0 rfl)),(Xg A 0 rfl),A.below⟩ (.inl rfl)
def Ui (I:A8) (K:Int->Prop):Prop :=
 Z1 (λB (h:Int) A=>A (Zwt.wrap (h+(Zwt.wrap (I.get B))))) (λ(h:Int)=>K h) 8 0 0
theorem Hr (L:A8)  {K:Int->Prop} (h:Ui L K) (w0:World)  :
  Calls ZCc 168 #[.agg (ZB7 (ZB6 .u8 L))] w0 λe w'=>∃ (r0:Int),
   e=.returned (vI r0)/\K r0/\Bel w0 w':=by
 unfold Ui at h
 refine cof ZOe rfl 16 Tryz.ntmps168 ?_
 have I:=ZCu (X:=Nox) w0 [] (by simp)
 refine sr (Yg (v:=.agg (ZB7 (ZB6 .u8 L))) I (ZB6 .u8 L) rfl rfl λb1 w3 ad I=>Zd (v:=vI 0) rfl (dn (sr (Zd (v:=vI 0) rfl (dn (ZB9 (sr (Zd (v:=vI 0) rfl (dn (ZCf ?_))))))))))
 refine Yh (S:=Int) _ _ (λA B V w_=>Zt V [(1,vQ b1),(3,vI B),(4,vI (A:Int))]/\Ctx Nox w0 w_ [blk b1 136 (ZB6 .u8 L)] []) 8 ?_ ?_ (s0:=0) ?_ h
 ·clear I h;rintro A B V ae ac ab O ⟨U,I⟩ h aa;rw [ue U];refine ZB9 (sr (Za (v:=vI (A:Int)) rfl (Zl rfl rfl (dn (Z8 rfl (decide_eq_true (by omega)) (ZCd (Ze (ZB9 (ZCf (Zh (Za (v:=vI B) rfl (Za (v:=vI (A:Int)) rfl (X0 A ZCr sc5.size rfl rfl (ZCq _) (by omega) (by omega) (Yc I 0 (.int .u8 (L.get A)) rfl sc5 rfl (A8.enc_get _ _ O) (G4 ZDc ZDj rfl (Zm rfl rfl (Zd (v:=vI (Zwt.wrap (B+(Zwt.wrap (L.get A))))) rfl (done (Zr (Ze (Zh (Za (v:=vI (A:Int)) rfl (Zm rfl rfl (Zd (v:=vI (Zwt.wrap ((A:Int)+1))) rfl (done ?_)))))))))))))))))))))))))
  exact aa (Zwt.wrap (B+(Zwt.wrap (L.get A)))) _ _ ⟨(sl ⟨rfl,rfl,(tr rfl (I1 _ (Z2 O (by decide)))),trivial⟩),I⟩ h
 ·clear I h;rintro B V ag ab ⟨U,I⟩ h;rw [ue U];refine ZB9 (sr (Za (v:=vI 8) rfl (Zl rfl rfl (dn (Z4 rfl (decide_eq_false (by omega)) ?_)))))
  refine ZCo (Zi (Zi (Zy ?_)))
  refine Ze (sr (Za (v:=vI B) rfl (Zd (v:=vI B) rfl (dn (ZCi ?_)))))
  exact Zj rfl (Zg rfl) ⟨B,rfl,h,I.below⟩ (.inl rfl)
 ·skip;exact⟨(slq rfl),I⟩
def Uj (a0:Alg) (V:Int) (a2:Int) (K:List A8->Prop):Prop :=
 (if a2≥0 then Sc a0.degrees a2 (λB=>Z1 (λO (h:(List A8)) I=>Ui (B.getD O Ci) (λaa=>(if aa≥V then(Zw (h.length+1) 8/\I (h++[B.getD O Ci])) else I h))) (λ(h:(List A8))=>K h) B.length 0 []) else Z1 (λU (A:(List A8)) L=>Ui ([].getD U Ci) (λab=>(if ab≥V then(Zw (A.length+1) 8/\L (A++[[].getD U Ci])) else L A))) (λ(A:(List A8))=>K A) (([]:List A8).length) 0 [])
theorem U2 (a0:Alg) (a1:Int) (a2:Int)  {K:List A8->Prop} (h:Uj a0 a1 a2 K) (w0:World) (q0:TAlg.rep a0 [Ia,Ic] Ib w0) :
  Calls ZCc 109 #[.agg #[Ia,Ic],vI a1,vI a2] w0 λe w'=>∃ (r0:List A8) (Ih:Value) (av:List Nat),
   e=.returned (Ih)/\K r0/\(ZCn (ZJh 136 ((EA .u8).tr)) r0 [Ih] av).holds w'/\(∀ b,b∈av->w0.heap.size<=b)/\Bel w0 w':=by
 unfold Uj at h
 refine cof ZN9 rfl 39 Tryz.ntmps109 ?_
 have A:=ZCu (X:=Nox) w0 [ZB8 TAlg a0 [Ia,Ic] Ib] (al1 q0);replace A:=A.dAlg 0 rfl;refine sr (Yg (v:=.agg #[Ia,Ic]) A [Ia,Ic] rfl rfl λb4 w6 aj A=>Zd (v:=.slice none 0 0) rfl (dn (sr (Yd (sz:=8) A [] ((EA .u8).encs []) rfl (λ_=>Zgy  _) rfl (by decide) λb7 w8 aj A=>Yd (sz:=8) A [] ((EA .u8).encs []) rfl (λ_=>Zgy  _) rfl (by decide) λak bl aj A=>Zd (v:=.slice (some ⟨b7,0,none⟩) 0 0) rfl (Zd (v:=.slice (some ⟨ak,0,none⟩) 0 0) rfl (dn (ZB9 (sr (Za (v:=vI a2) rfl (Wp rfl rfl (dn ?_)))))))))))
 refine Zs rfl (λag=>?_) (λag=>?_)
 ·replace h:=ift h (ct ag);refine Zh (Z0 0 ZCt rfl If.size rfl rfl (Yc A 2 (Ia) rfl If rfl rfl (Za (v:=vI a2) rfl (Zf [Ia,vI a2] _ Tryz.func94 rfl rfl rfl (S1 a0.degrees a2 h _ (A.Iw 1 rfl)) ?_))))
  rintro _ bm ⟨L,ab,ba,rfl,h,ay,az,a3⟩;refine rt ?_
  replace A:=A.push a3 (ZCn (ZJh 136 ((EA .u8).tr)) L [ab] ba) ay az;obtain ⟨a4,a5⟩:=Yx (A.Ix 0 rfl).1;subst a5;replace A:=A.Iz (c:=own 136 8 ab L.length ((EA .u8).encs L)) (λ_ h_=>h_) (λ_=>a4)
  refine Zd (v:=ab) rfl (dn (ZB9 (sr (Zd (v:=vI 0) rfl (dn (ZCf ?_))))))
  have al:L.length<=9223372036854775807:=Uv (A.Ix 0 rfl);refine Yh (S:=(List A8)) _ _ (λB ac e_ w_=>∃ (V:Value),Zt e_ [(1,vI a1),(7,ab),(8,V),(9,vI (B:Int))]/\Ctx Nox w0 w_ [own 136 8 ab L.length ((EA .u8).encs L),own 136 8 V ac.length ((EA .u8).encs ac)] [ZB8 ZCv.sl a0.images [Ic] Ib,ZB8 TInts a0.degrees [Ia] Ib,ZB8 TAlg a0 [Ia,Ic] Ib]) L.length ?_ ?_ (s0:=[]) ?_ h
  ·clear A h;rintro B ac e_ bn bd bb O ⟨V,ae,A⟩ h am;rw [ue ae];refine ZB9 (sr (Za (v:=vI (B:Int)) rfl (Za (v:=ab) rfl (J3 A 0 rfl ZN8 rfl (Zl rfl rfl (dn (Z8 rfl (decide_eq_true (by first | omega | (simp only [ZOi] at *; omega))) (ZCd (Ze (ZB9 (ZCf (sr (Za (v:=ab) rfl (Za (v:=vI (B:Int)) rfl ?_))))))))))))))
   obtain ⟨be,bo,an⟩:=Xx (A.Ix 0 rfl) (ZFu (Fq _) O);refine X4 (B * 8) ZN8 ag136.size (tr rfl an) rfl (ZCq _) (ZC9.2 O) rfl (Ji (ZB6 .u8 (L.getD B Ci)) (J7 (A.Ix 0 rfl) an B O) ag136 rfl rfl (Zf [.agg (ZB7 (ZB6 .u8 (L.getD B Ci)))] _ ZOe rfl rfl rfl (Hr (L.getD B Ci) h _) ?_))
   rintro _ bp ⟨bq,rfl,h,a6⟩;refine rt ?_
   replace A:=A.Iy a6;refine Za (v:=vI a1) rfl (Wp rfl rfl (dn ?_))
   refine Zs rfl (λah=>?_) (λah=>?_)
   ·replace h:=ift h (ct ah);refine Zh (Za (v:=V) rfl (Za (v:=ab) rfl (Za (v:=vI (B:Int)) rfl ?_)))
    obtain ⟨bh,br,ao⟩:=Xx (A.Ix 0 rfl) (ZFu (Fq _) O);refine X4 (B * 8) ZN8 ag136.size (tr rfl ao) rfl (ZCq _) (ZC9.2 O) rfl (Ji (ZB6 .u8 (L.getD B Ci)) (J7 (A.Ix 0 rfl) ao B O) ag136 rfl rfl (Yd (sz:=8) A [(0,.agg (ZB7 (ZB6 .u8 (L.getD B Ci))))] ((EA .u8).encs [L.getD B Ci]) rfl (λ_=>Zb5 (L.getD B Ci) _) rfl (by decide) λbs bt aj A=>?_))
    obtain ⟨a7,h⟩:=h;refine Jg A 2 ZN8 Zb6 rfl (by decide) (by decide) rfl (Wl (A.Ix 0 rfl)) (λq hq=>ZDf (E:=(EA .u8)) _ q hq) rfl rfl a7 λaw bu A=>?_
    replace A:=Y7 A 2 ((ac++[L.getD B Ci]).length) ((EA .u8).encs (ac++[L.getD B Ci])) rfl (by simp) (by first | (simp [ZC1]; done) | simp [ZC1,ZJw])
    refine Zd (v:=aw) rfl (done (Zr (Ze (Zh (Za (v:=vI (B:Int)) rfl (Zm rfl rfl (Zd (v:=vI (Zwt.wrap ((B:Int)+1))) rfl (done ?_))))))))
    exact am (ac++[L.getD B Ci]) _ _ ⟨aw,(sl ⟨rfl,rfl,rfl,(tr rfl (I1 _ (Z2 O al))),trivial⟩),(A.xM [1,2] rfl)⟩ h
   ·replace h:=Zk h (cf ah);refine ZCd (Zr (Ze (Zh (Za (v:=vI (B:Int)) rfl (Zm rfl rfl (Zd (v:=vI (Zwt.wrap ((B:Int)+1))) rfl (done ?_)))))))
    exact am ac _ _ ⟨V,(sl ⟨rfl,rfl,rfl,(tr rfl (I1 _ (Z2 O al))),trivial⟩),A⟩ h
  ·clear A h;rintro ac e_ bv bb ⟨V,ae,A⟩ h;rw [ue ae];refine ZB9 (sr (Za (v:=vI (L.length:Int)) rfl (Za (v:=ab) rfl (J3 A 0 rfl ZN8 rfl (Zl rfl rfl (dn (Z4 rfl (decide_eq_false (by first | omega | (simp only [ZOi] at *; omega))) ?_)))))))
   refine ZCo (Zi (Zi (Zy ?_)))
   refine Ze (sr (Za (v:=V) rfl (Zd (v:=V) rfl (dn (ZCi ?_)))))
   exact Zj rfl (Zg rfl) ⟨ac,V,(ZDa (Fe V)),rfl,h,(Xi (A.Ix 1 rfl)),(Xg A 1 rfl),A.below⟩ (.inl rfl)
  ·skip;exact⟨.slice (some ⟨ak,0,none⟩) 0 0,(slq rfl),(A.xM [0,1] rfl)⟩
 ·replace h:=Zk h (cf ag);refine ZCd (Ze (ZB9 (sr (Zd (v:=vI 0) rfl (dn (ZCf ?_))))))
  have ap:([]:List A8).length<=9223372036854775807:=Uv (A.Ix 1 rfl);refine Yh (S:=(List A8)) _ _ (λI ad e_ w_=>∃ (aa:Value),Zt e_ [(1,vI a1),(7,.slice (some ⟨b7,0,none⟩) 0 0),(8,aa),(9,vI (I:Int))]/\Ctx Nox w0 w_ [own 136 8 aa ad.length ((EA .u8).encs ad),own 136 8 (.slice (some ⟨b7,0,none⟩) 0 0) 0 ((EA .u8).encs [])] [ZB8 ZCv.sl a0.images [Ic] Ib,ZB8 TInts a0.degrees [Ia] Ib,ZB8 TAlg a0 [Ia,Ic] Ib]) (([]:List A8).length) ?_ ?_ (s0:=[]) ?_ h
  ·clear A h;rintro I ad e_ bw bi bc U ⟨aa,ae,A⟩ h aq;rw [ue ae];refine ZB9 (sr (Za (v:=vI (I:Int)) rfl (Za (v:=.slice (some ⟨b7,0,none⟩) 0 0) rfl (J3 A 1 rfl ZN8 rfl (Zl rfl rfl (dn (Z8 rfl (decide_eq_true (by first | omega | (simp only [ZOi] at *; omega))) (ZCd (Ze (ZB9 (ZCf (sr (Za (v:=.slice (some ⟨b7,0,none⟩) 0 0) rfl (Za (v:=vI (I:Int)) rfl ?_))))))))))))))
   obtain ⟨bj,bx,ar⟩:=Xx (A.Ix 1 rfl) (ZFu (Fq _) U);refine X4 (I * 8) ZN8 ag136.size (tr rfl ar) rfl (ZCq _) (ZC9.2 U) rfl (Ji (ZB6 .u8 ([].getD I Ci)) (J7 (A.Ix 1 rfl) ar I U) ag136 rfl rfl (Zf [.agg (ZB7 (ZB6 .u8 ([].getD I Ci)))] _ ZOe rfl rfl rfl (Hr ([].getD I Ci) h _) ?_))
   rintro _ bz ⟨b8,rfl,h,a8⟩;refine rt ?_
   replace A:=A.Iy a8;refine Za (v:=vI a1) rfl (Wp rfl rfl (dn ?_))
   refine Zs rfl (λai=>?_) (λai=>?_)
   ·replace h:=ift h (ct ai);refine Zh (Za (v:=aa) rfl (Za (v:=.slice (some ⟨b7,0,none⟩) 0 0) rfl (Za (v:=vI (I:Int)) rfl ?_)))
    obtain ⟨bk,b9,au⟩:=Xx (A.Ix 1 rfl) (ZFu (Fq _) U);refine X4 (I * 8) ZN8 ag136.size (tr rfl au) rfl (ZCq _) (ZC9.2 U) rfl (Ji (ZB6 .u8 ([].getD I Ci)) (J7 (A.Ix 1 rfl) au I U) ag136 rfl rfl (Yd (sz:=8) A [(0,.agg (ZB7 (ZB6 .u8 ([].getD I Ci))))] ((EA .u8).encs [[].getD I Ci]) rfl (λ_=>Zb5 ([].getD I Ci) _) rfl (by decide) λca cb aj A=>?_))
    obtain ⟨a9,h⟩:=h;refine Jg A 1 ZN8 Zb6 rfl (by decide) (by decide) rfl (Wl (A.Ix 0 rfl)) (λq hq=>ZDf (E:=(EA .u8)) _ q hq) rfl rfl a9 λax cc A=>?_
    replace A:=Y7 A 1 ((ad++[[].getD I Ci]).length) ((EA .u8).encs (ad++[[].getD I Ci])) rfl (by simp) (by first | (simp [ZC1]; done) | simp [ZC1,ZJw])
    refine Zd (v:=ax) rfl (done (Zr (Ze (Zh (Za (v:=vI (I:Int)) rfl (Zm rfl rfl (Zd (v:=vI (Zwt.wrap ((I:Int)+1))) rfl (done ?_))))))))
    exact aq (ad++[[].getD I Ci]) _ _ ⟨ax,(sl ⟨rfl,rfl,rfl,(tr rfl (I1 _ (Z2 U ap))),trivial⟩),(A.xM [1,2] rfl)⟩ h
   ·replace h:=Zk h (cf ai);refine ZCd (Zr (Ze (Zh (Za (v:=vI (I:Int)) rfl (Zm rfl rfl (Zd (v:=vI (Zwt.wrap ((I:Int)+1))) rfl (done ?_)))))))
    exact aq ad _ _ ⟨aa,(sl ⟨rfl,rfl,rfl,(tr rfl (I1 _ (Z2 U ap))),trivial⟩),A⟩ h
  ·clear A h;rintro ad e_ ce bc ⟨aa,ae,A⟩ h;rw [ue ae];refine ZB9 (sr (Za (v:=vI (([]:List A8).length:Int)) rfl (Za (v:=.slice (some ⟨b7,0,none⟩) 0 0) rfl (J3 A 1 rfl ZN8 rfl (Zl rfl rfl (dn (Z4 rfl (decide_eq_false (by first | omega | (simp only [ZOi] at *; omega))) ?_)))))))
   refine ZCo (Zi (Zi (Zy ?_)))
   refine Ze (sr (Za (v:=aa) rfl (Zd (v:=aa) rfl (dn (ZCi ?_)))))
   exact Zj rfl (Zg rfl) ⟨ad,aa,(ZDa (Fe aa)),rfl,h,(Xi (A.Ix 0 rfl)),(Xg A 0 rfl),A.below⟩ (.inl rfl)
  ·skip;exact⟨.slice (some ⟨ak,0,none⟩) 0 0,(slq rfl),(A.xM [0,1] rfl)⟩
def Vu (B:ZCb) (I:List A8) (K:List Int->Prop):Prop :=
 ((0<=(I.length:Int)/\(I.length:Int) * 8<=281474976710656)/\Xv (λ(h:(List Int)×Int×Int) A=>(if h.2.2 < (I.length:Int) then(if h.2.1 < (B.terms.length:Int) then((0<=h.2.1/\h.2.1 < (B.terms.length:Int))/\((0<=h.2.2/\h.2.2 < (I.length:Int))/\(if(B.terms.getD h.2.1.toNat Ci).mono=I.getD h.2.2.toNat Ci then((0<=h.2.1/\h.2.1 < (B.terms.length:Int))/\((0<=h.2.2/\h.2.2 < (h.1.length:Int))/\A (h.1.set h.2.2.toNat ((B.terms.getD h.2.1.toNat Ci).factor),Zwt.wrap (h.2.1+1),Zwt.wrap (h.2.2+1)))) else A (h.1,h.2.1,Zwt.wrap (h.2.2+1))))) else K h.1) else K h.1)) (Cd ((I.length:Int).toNat) (0:Int),0,0))
theorem S2 (a0:ZCb) (a1:List A8)  {K:List Int->Prop} (h:Vu a0 a1 K) (w0:World) (q0:ZCv.rep a0 [Ia] Ib w0) (q1:((EA .u8).ty.sl).rep a1 [Ie] Ig w0) :
  Calls ZCc 128 #[.agg #[Ia],Ie] w0 λe w'=>∃ (r0:List Int) (Ih:Value) (ak:List Nat),
   e=.returned (Ih)/\K r0/\(ZCn (ZJh 2 (eI.tr)) r0 [Ih] ak).holds w'/\(∀ b,b∈ak->w0.heap.size<=b)/\Bel w0 w':=by
 unfold Vu at h
 refine cof ZOc rfl 47 Tryz.ntmps128 ?_
 have B:=ZCu (X:=Nox) w0 [ZB8 TForm a0 [Ia] Ib,ZB8 ((EA .u8).ty.sl) a1 [Ie] Ig] (alc q0 (al1 q1));have an:=(B.Iw 0 rfl);replace B:=B.I0 0 rfl (ZB8 ZCa.ty.sl a0.terms [Ia] Ib) (λ_=>(Xq an)) (λ_ ao=>ao)
 refine sr (Yg (v:=.agg #[Ia]) B [Ia] rfl rfl λb5 w7 O B=>Zd (v:=.slice none 0 0) rfl (dn (sr (Za (v:=Ie) rfl (Zu B 2 rfl ZN8 rfl ?_)))))
 obtain ⟨ac,h⟩:=h;refine Uu (sz:=1) B (eI.encs (Cd ((a1.length:Int).toNat) (0:Int))) ZCs el2 (tr rfl (I1 (ZFk .i64) (ZFl ac.1).symm)) (tr rfl (I1 (ZFk .i64) (ZFl ac.1).symm)) (by omega) (by omega) (V9 (E:=eI) _ _) λal a5 O B=>?_
 replace B:=Y7 B 0 ((Cd ((a1.length:Int).toNat) (0:Int)).length) (eI.encs (Cd ((a1.length:Int).toNat) (0:Int))) rfl (by simp) rfl
 refine Zd (v:=al) rfl (Zd (v:=vI 0) rfl (dn (ZB9 (sr (Zd (v:=vI 0) rfl (dn (ZCf ?_)))))))
 refine Jb (S:=(List Int)×Int×Int) _ (λA e_ w_=>∃ (L:Value),Zt e_ [(1,Ie),(2,vQ b5),(5,L),(6,vI A.2.1),(7,vI A.2.2)]/\Ctx Nox w0 w_ [own 2 1 L A.1.length (eI.encs A.1),blk b5 55 [Ia]] [ZB8 ZCa.ty.sl a0.terms [Ia] Ib,ZB8 TForm a0 [Ia] Ib,ZB8 ((EA .u8).ty.sl) a1 [Ie] Ig]) ?_ (s0:=(Cd ((a1.length:Int).toNat) (0:Int),0,0)) ?_ h
 ·clear B h;rintro A e_ a6 a2 a7 ⟨L,ap,B⟩ h ad;rw [ue ap];refine ZB9 (sr (Za (v:=vI A.2.2) rfl (Za (v:=Ie) rfl (Zu B 2 rfl ZN8 rfl (Zl rfl rfl (Za (v:=.bool (decide (A.2.2 < (a1.length:Int)))) rfl ?_))))))
  refine Xm (decide (A.2.2 < (a1.length:Int))) (λI=>?_) (λI=>?_)
  ·replace h:=ift h (ct I);refine Zq 4 15 rfl rfl I (Za (v:=vI A.2.1) rfl (Zq 4 15 rfl rfl I (Z0 0 ZCg rfl Ii.size rfl rfl (Zq 4 15 rfl rfl I (Yc B 1 (Ia) rfl Ii rfl rfl (Zq 4 15 rfl rfl I (Zu B 0 rfl ZCj rfl (Zq 4 15 rfl rfl I (Zl rfl rfl (Ya (v:=.bool (decide (A.2.1 < (a0.terms.length:Int)))) (b:=true) (tr rfl (I1 _ I)) rfl (dn ?_)))))))))))
   refine Zs rfl (λaa=>?_) (λaa=>?_)
   ·replace h:=ift h (ct aa);refine ZCd (Ze (ZB9 (ZCf (ZB9 ?_))))
    refine cwd 10 Ym [0,1,0,7,15,31,0,0,192,448,1023] [1,3,5,8,9] [0,2,4,6,7] (λU V a8 O=>?_)
    replace B:=B.Iy O;refine bF 0 (vQ b5) rfl rfl V (λ_=>by exact Yq 0 ZCg rfl Ii.size rfl rfl) (Zc 11 1) (bL 1 (Ia) rfl rfl U (λ_ O=>by exact Yj (B.Iy O) 1 (Ia) rfl Ii rfl rfl) (Zc 11 3) (bM 2 (vI A.2.1) rfl V (Zc 11 7) ?_))
    obtain ⟨⟨aq,ar⟩,h⟩:=h;obtain ⟨ae,a9,ag⟩:=Zx (B.Iw 0 rfl) A.2.1.toNat (show A.2.1.toNat < a0.terms.length by omega)
    refine bL 3 (.pointer (some (ae.add (A.2.1.toNat * 9)))) rfl rfl U (λ_ O=>by exact Y3 (len:=a0.terms.length) ZCj ag162.size (by exact tr rfl ag) rfl aq ar) (Zc 11 15) (bF 4 (.pointer (some (ae.add (A.2.1.toNat * 9+0)))) rfl rfl V (λ_=>by exact Vo (A.2.1.toNat * 9+0) ZCp rfl ag136.size rfl rfl) (Zc 11 31) (bL 5 (.agg (ZB7 (ZB6 .u8 ((a0.terms.getD A.2.1.toNat Ci).mono)))) rfl rfl U (λ_ O=>by exact Jq (ZB6 .u8 ((a0.terms.getD A.2.1.toNat Ci).mono)) (Wg (o:=0) (k:=8) (Yi ((B.Iy O).Iw 0 rfl) ag A.2.1.toNat (show A.2.1.toNat < a0.terms.length by omega)) rfl) ag136 rfl rfl) (Zc 11 63) (bM 6 (Ie) rfl V (Zc 11 127) (bM 7 (vI A.2.2) rfl V (Zc 11 255) ?_))))
    obtain ⟨⟨au,av⟩,h⟩:=h;obtain ⟨am,ba,ah⟩:=Zx (B.Iw 2 rfl) A.2.2.toNat (show A.2.2.toNat < a1.length by omega)
    refine bL 8 (.pointer (some (am.add (A.2.2.toNat * 8)))) rfl rfl U (λ_ O=>by exact Y3 (len:=a1.length) ZN8 ag136.size (by exact tr rfl ah) rfl au av) (Zc 11 511) (bL 9 (.agg (ZB7 (ZB6 .u8 (a1.getD A.2.2.toNat Ci)))) rfl rfl U (λ_ O=>by exact Jq (ZB6 .u8 (a1.getD A.2.2.toNat Ci)) (Yi ((B.Iy O).Iw 2 rfl) ah A.2.2.toNat (show A.2.2.toNat < a1.length by omega)) ag136 rfl rfl) (Zc 11 1023) (Z5 10 (by decide) (by decide) (by kernel_rfl) (by kernel_rfl) rfl (Zoe Zp2 Zp1 rfl rfl (done (Z6 (Ze ?_))))))
    refine Zs rfl (λab=>?_) (λab=>?_)
    ·replace h:=ift h (ct ab);refine sr (Za (v:=L) rfl (Za (v:=vI A.2.2) rfl (Z0 0 ZCg rfl Ii.size rfl rfl (Yc B 1 (Ia) rfl Ii rfl rfl (Za (v:=vI A.2.1) rfl ?_)))))
     obtain ⟨⟨aw,ax⟩,h⟩:=h;obtain ⟨a3,bb,ai⟩:=Zx (B.Iw 0 rfl) A.2.1.toNat (show A.2.1.toNat < a0.terms.length by omega)
     refine Yn (len:=a0.terms.length) ZCj ag162.size (tr rfl ai) rfl aw ax (Qm (A.2.1.toNat * 9+8) ZCp rfl sc2.size rfl rfl (Ye (vI ((a0.terms.getD A.2.1.toNat Ci).factor)) (Wg (o:=8) (k:=1) (Yi (B.Iw 0 rfl) ai A.2.1.toNat (show A.2.1.toNat < a0.terms.length by omega)) rfl) sc2 rfl ?_))
     obtain ⟨⟨ay,az⟩,h⟩:=h;obtain ⟨a4,bc,aj⟩:=Xx (B.Ix 0 rfl) (ZFu (Fq _) (show A.2.2.toNat < A.1.length by omega))
     refine X4 (A.2.2.toNat * 1) ZCs sc2.size (tr rfl aj) rfl ay az rfl (U6 (v:=vI ((a0.terms.getD A.2.1.toNat Ci).factor)) B 0 [vI ((a0.terms.getD A.2.1.toNat Ci).factor)] (eI.encs (A.1.set A.2.2.toNat ((a0.terms.getD A.2.1.toNat Ci).factor))) rfl aj sc2.size rfl rfl rfl rfl rfl (by rw [ZOl]; exact W8 (sz:=1) (show A.2.2.toNat < A.1.length by omega)) (U7 _ _ _ (show A.2.2.toNat < A.1.length by omega)) λbd B=>?_)
     replace B:=Y7 B 0 ((A.1.set A.2.2.toNat ((a0.terms.getD A.2.1.toNat Ci).factor)).length) (eI.encs (A.1.set A.2.2.toNat ((a0.terms.getD A.2.1.toNat Ci).factor))) rfl (by simp) rfl
     refine dn (Zh (Za (v:=vI A.2.1) rfl (Zm rfl rfl (Zd (v:=vI (Zwt.wrap (A.2.1+1))) rfl (done (Zr (Ze (Zh (Za (v:=vI A.2.2) rfl (Zm rfl rfl (Zd (v:=vI (Zwt.wrap (A.2.2+1))) rfl (done ?_))))))))))))
     exact ad (A.1.set A.2.2.toNat ((a0.terms.getD A.2.1.toNat Ci).factor),Zwt.wrap (A.2.1+1),Zwt.wrap (A.2.2+1)) _ _ ⟨L,(slq rfl),B⟩ h
    ·replace h:=Zk h (cf ab);refine ZCd (Zr (Ze (Zh (Za (v:=vI A.2.2) rfl (Zm rfl rfl (Zd (v:=vI (Zwt.wrap (A.2.2+1))) rfl (done ?_)))))))
     exact ad (A.1,A.2.1,Zwt.wrap (A.2.2+1)) _ _ ⟨L,(slq rfl),B⟩ h
   ·replace h:=Zk h (cf aa);refine ZCo (Zi (Zi (Zy ?_)))
    refine Ze (sr (Za (v:=L) rfl (Zd (v:=L) rfl (dn (ZCi ?_)))))
    exact Zj rfl (Zg rfl) ⟨A.1,L,(ZDa (Fe L)),rfl,h,(Xi (B.Ix 0 rfl)),(Xg B 0 rfl),B.below⟩ (.inl rfl)
  ·replace h:=Zk h (cf I);refine Zp (b:=false) 4 15 rfl (tr rfl (I1 _ I)) (by decide) (Zp (b:=false) 4 15 rfl (tr rfl (I1 _ I)) (by decide) (Zp (b:=false) 4 15 rfl (tr rfl (I1 _ I)) (by decide) (Zp (b:=false) 4 15 rfl (tr rfl (I1 _ I)) (by decide) (Zp (b:=false) 4 15 rfl (tr rfl (I1 _ I)) (by decide) (Ya (v:=.bool false) (b:=false) (tr rfl (I1 _ I)) rfl (dn (Z4 rfl rfl ?_)))))))
   refine ZCo (Zi (Zi (Zy ?_)))
   refine Ze (sr (Za (v:=L) rfl (Zd (v:=L) rfl (dn (ZCi ?_)))))
   exact Zj rfl (Zg rfl) ⟨A.1,L,(ZDa (Fe L)),rfl,h,(Xi (B.Ix 0 rfl)),(Xg B 0 rfl),B.below⟩ (.inl rfl)
 ·skip;exact⟨al,(slq rfl),B⟩
def Nl (a0:List (List Int)) (O:Int) (K:List (List Int)->Prop):Prop :=
 Z1 (λh (I:(List (List Int))) V=>(Zw (0+(a0.getD h Ci).length) 8/\((0<=(a0.length:Int)/\Zw ((a0.getD h Ci).length+((a0.length:Int).toNat)) 8)/\((0<=Zwt.wrap (O+(h:Int))/\Zwt.wrap (O+(h:Int)) < (((a0.getD h Ci)++Cd ((a0.length:Int).toNat) (0:Int)).length:Int))/\(Zw (I.length+1) 24/\V (I++[((a0.getD h Ci)++Cd ((a0.length:Int).toNat) (0:Int)).set ((Zwt.wrap (O+(h:Int))).toNat) 1])))))) (λ(I:(List (List Int)))=>V5 I (λA=>Z1 (λL (B:(List (List Int))) U=>V4 (A.getD L Ci) (λaa=>(if aa≥O then((0<=O/\O<=((A.getD L Ci).length:Int))/\(Zw (0+((A.getD L Ci).drop O.toNat).length) 8/\(Zw (B.length+1) 24/\U (B++[(A.getD L Ci).drop O.toNat])))) else U B))) (λ(B:(List (List Int)))=>V5 B (λab=>K ab)) A.length 0 [])) a0.length 0 []
theorem Zb8 (a0:List (List Int)) (U:Int)  {K:List (List Int)->Prop} (h:Nl a0 U K) (w0:World) (q0:(ZFf.sl).rep a0 [Ia] Ib w0) :
  Calls ZCc 169 #[Ia,vI U] w0 λe w'=>∃ (r0:List (List Int)) (Ih:Value) (bn:List Nat),
   e=.returned (Ih)/\K r0/\(ZFf.sl).rep r0 [Ih] bn w'/\(∀ b,b∈bn->w0.heap.size<=b)/\Bel w0 w':=by
 unfold Nl at h
 refine cof ZOo rfl 65 Tryz.ntmps169 ?_
 have A:=ZCu (X:=Nox) w0 [ZB8 (ZFf.sl) a0 [Ia] Ib] (al1 q0);refine sr (Zd (v:=.slice none 0 0) rfl (dn (sr (Za (v:=Ia) rfl (Zu A 0 rfl ZKd rfl (Zd (v:=vI (a0.length:Int)) rfl (dn (sr (Yd (sz:=1) A [] [] rfl (λ_=>Jl _) rfl (by decide) λb5 w6 av A=>?_)))))))))
 replace A:=A.pushM0 (Zz (ZJh 2 (eI.tr)) ([]:List (List Int)) [] []) (Xn _ _) rfl;replace A:=A.gather (c:=ZCn (ZJh 22 (ZJh 2 (eI.tr))) [] [.slice (some ⟨b5,0,none⟩) 0 0] ((ZDa (Fe (.slice (some ⟨b5,0,none⟩) 0 0)))++([]:List (List Nat)).flatten)) (λx_ ad=>(Ch.1 ad).symm) (λae ag ah=>Xj ag ae (λb_ aa ax=>ah b_ ax aa))
 refine Zd (v:=.slice (some ⟨b5,0,none⟩) 0 0) rfl (dn (ZB9 (sr (Zd (v:=vI 0) rfl (dn (ZCf ?_))))))
 have bv:a0.length<=9223372036854775807:=Yz (A.Iw 0 rfl);refine Yh (S:=(List (List Int))) _ _ (λB ak e_ w_=>∃ (ai:Value),∃ (an:List Nat),Zt e_ [(0,Ia),(1,vI U),(5,vI (a0.length:Int)),(6,ai),(7,vI (B:Int))]/\Ctx Nox w0 w_ [ZCn (ZJh 22 (ZJh 2 (eI.tr))) ak [ai] an] [ZB8 (ZFf.sl) a0 [Ia] Ib]) a0.length ?_ ?_ (s0:=[]) ?_ h
 ·clear A h;rintro B ak e_ da cy cp ao ⟨ai,an,ap,A⟩ h bw;rw [ue ap];refine ZB9 (sr (Za (v:=vI (B:Int)) rfl (Za (v:=vI (a0.length:Int)) rfl (Zl rfl rfl (dn (Z8 rfl (decide_eq_true (by omega)) (ZCd (Ze (ZB9 (ZCf (sr (Yd (sz:=1) A [] (eI.encs []) rfl (λ_=>U1  _) rfl (by decide) λdb dc av A=>Za (v:=Ia) rfl (Za (v:=vI (B:Int)) rfl ?_)))))))))))))
  obtain ⟨cz,dd,az⟩:=Zx (A.Iw 0 rfl) B ao;refine Yn (len:=a0.length) ZKd If.size (tr rfl az) rfl (ZCq _) (ZC9.2 ao) ?_
  obtain ⟨bo,a2,bx,a3⟩:=Xb (A.Iw 0 rfl) az B ao;obtain ⟨bp,rfl⟩:=ZC7.1 a2;clear a2;rw [Y9 _ _ ao] at a3
  replace A:=A.I0 0 rfl (ZB8 TInts (a0.getD B Ci) [bp] Ib) (λ_=>a3) (λ_ aa=>aa)
  refine Ye (bp) bx If rfl ?_
  obtain ⟨bz,h⟩:=h;refine Jg A 0 ZCs el2 rfl (by decide) (by decide) rfl (Eh (A.Iw 0 rfl)) (λq hq=>ZDf (E:=eI) _ q hq) rfl rfl bz λde dg A=>?_
  replace A:=Y7 A 0 ((a0.getD B Ci).length) (eI.encs (a0.getD B Ci)) rfl (by simp) (by first | (simp [ZC1]; done) | simp [ZC1,ZJw])
  refine Za (v:=vI (a0.length:Int)) rfl ?_
  obtain ⟨a4,h⟩:=h;refine Zf3 A 0 ZCs Tryz.underlying3 el2 rfl rfl (by decide) rfl rfl (tr rfl (I1 (ZFk .i64) (ZFl a4.1).symm)) a4.2 λO dh A=>?_
  replace A:=Y7 A 0 (((a0.getD B Ci)++Cd ((a0.length:Int).toNat) (0:Int)).length) (eI.encs ((a0.getD B Ci)++Cd ((a0.length:Int).toNat) (0:Int))) rfl (by simp) (Zf7 _ (a0.getD B Ci) _)
  refine Zd (v:=O) rfl (dn (sr (Za (v:=O) rfl (Za (v:=vI U) rfl (Za (v:=vI (B:Int)) rfl (Zm rfl rfl ?_))))))
  obtain ⟨⟨cq,cr⟩,h⟩:=h;obtain ⟨c0,di,a5⟩:=Xx (A.Ix 0 rfl) (ZFu (Fq _) (show (Zwt.wrap (U+(B:Int))).toNat < ((a0.getD B Ci)++Cd ((a0.length:Int).toNat) (0:Int)).length by omega))
  refine X4 ((Zwt.wrap (U+(B:Int))).toNat * 1) ZCs sc2.size (tr rfl a5) rfl cq cr rfl (U6 (v:=vI 1) A 0 [vI 1] (eI.encs (((a0.getD B Ci)++Cd ((a0.length:Int).toNat) (0:Int)).set ((Zwt.wrap (U+(B:Int))).toNat) 1)) rfl a5 sc2.size rfl rfl rfl rfl rfl (by rw [ZOl]; exact W8 (sz:=1) (show (Zwt.wrap (U+(B:Int))).toNat < ((a0.getD B Ci)++Cd ((a0.length:Int).toNat) (0:Int)).length by omega)) (U7 _ _ _ (show (Zwt.wrap (U+(B:Int))).toNat < ((a0.getD B Ci)++Cd ((a0.length:Int).toNat) (0:Int)).length by omega)) λdj A=>?_)
  replace A:=Y7 A 0 ((((a0.getD B Ci)++Cd ((a0.length:Int).toNat) (0:Int)).set ((Zwt.wrap (U+(B:Int))).toNat) 1).length) (eI.encs (((a0.getD B Ci)++Cd ((a0.length:Int).toNat) (0:Int)).set ((Zwt.wrap (U+(B:Int))).toNat) 1)) rfl (by simp) rfl
  refine dn (Zh (Za (v:=ai) rfl (Za (v:=O) rfl (Yd (sz:=1) A [(0,O)] [O] rfl (λ_=>Wc O (Va (A.Ix 0 rfl)) _) rfl (by decide) λaq dk av A=>?_))))
  replace A:=A.pushM0 (Zz (ZJh 2 (eI.tr)) [] [] []) (Xn _ _) rfl;replace A:=A.sM [2,0,1,3] (M':=[own 2 1 O ((((a0.getD B Ci)++Cd ((a0.length:Int).toNat) (0:Int)).set ((Zwt.wrap (U+(B:Int))).toNat) 1).length) (eI.encs (((a0.getD B Ci)++Cd ((a0.length:Int).toNat) (0:Int)).set ((Zwt.wrap (U+(B:Int))).toNat) 1)),Zz (ZJh 2 (eI.tr)) [] [] [],own 22 1 (.slice (some ⟨aq,0,none⟩) 1 1) 1 [O],ZCn (ZJh 22 (ZJh 2 (eI.tr))) ak [ai] an]) (by decide) rfl
  replace A:=A.gather (c:=Zz (ZJh 2 (eI.tr)) [((a0.getD B Ci)++Cd ((a0.length:Int).toNat) (0:Int)).set ((Zwt.wrap (U+(B:Int))).toNat) 1] [O] [(ZDa (Fe O))]) (λx_ ad=>Vf ad) (λae ag ah=>W9 (c:=[O]) (id (Xi ae)) ag ah)
  replace A:=A.sM [1,0,2] (M':=[own 22 1 (.slice (some ⟨aq,0,none⟩) 1 1) 1 [O],Zz (ZJh 2 (eI.tr)) [((a0.getD B Ci)++Cd ((a0.length:Int).toNat) (0:Int)).set ((Zwt.wrap (U+(B:Int))).toNat) 1] [O] [(ZDa (Fe O))],ZCn (ZJh 22 (ZJh 2 (eI.tr))) ak [ai] an]) (by decide) rfl
  replace A:=A.gather (c:=ZCn (ZJh 22 (ZJh 2 (eI.tr))) [((a0.getD B Ci)++Cd ((a0.length:Int).toNat) (0:Int)).set ((Zwt.wrap (U+(B:Int))).toNat) 1] [.slice (some ⟨aq,0,none⟩) 1 1] ((ZDa (Fe (.slice (some ⟨aq,0,none⟩) 1 1)))++([(ZDa (Fe O))]:List (List Nat)).flatten)) (λx_ ad=>Ch.1 ad) (λae ag ah=>Xj ae ag ah)
  replace A:=A.sM [1,0] (M':=[ZCn (ZJh 22 (ZJh 2 (eI.tr))) ak [ai] an,ZCn (ZJh 22 (ZJh 2 (eI.tr))) [((a0.getD B Ci)++Cd ((a0.length:Int).toNat) (0:Int)).set ((Zwt.wrap (U+(B:Int))).toNat) 1] [.slice (some ⟨aq,0,none⟩) 1 1] ((ZDa (Fe (.slice (some ⟨aq,0,none⟩) 1 1)))++([(ZDa (Fe O))]:List (List Nat)).flatten)]) (by decide) rfl
  obtain ⟨b8,h⟩:=h;refine W1 A ZKd J0 rfl (by decide) (by decide) rfl rfl b8 λbq cu dm A=>Zd (v:=bq) rfl (done (Zr (Ze (Zh (Za (v:=vI (B:Int)) rfl (Zm rfl rfl (Zd (v:=vI (Zwt.wrap ((B:Int)+1))) rfl (done ?_))))))))
  exact bw (ak++[((a0.getD B Ci)++Cd ((a0.length:Int).toNat) (0:Int)).set ((Zwt.wrap (U+(B:Int))).toNat) 1]) _ _ ⟨bq,cu,(sl ⟨rfl,rfl,rfl,rfl,(tr rfl (I1 _ (Z2 ao bv))),trivial⟩),(A.sP [1] rfl)⟩ h
 ·clear A h;rintro ak e_ dp cp ⟨ai,an,ap,A⟩ h;rw [ue ap];refine ZB9 (sr (Za (v:=vI (a0.length:Int)) rfl (Za (v:=vI (a0.length:Int)) rfl (Zl rfl rfl (dn (Z4 rfl (decide_eq_false (by omega)) ?_))))))
  refine ZCo (Zi (Zi (Zy ?_)))
  refine Ze (sr (Za (v:=ai) rfl ?_))
  have b9:=J9 A 0 rfl;replace A:=A.thaw 0 rfl (ZB8 (ZFf.sl) ak [ai] an) (λh_=>ZJu _ h_.1) (λ_ aa=>aa)
  refine Zf [ai] _ ZOd rfl rfl rfl (Nk ak h _ (A.Iw 0 rfl)) ?_
  rintro _ dq ⟨L,al,ar,rfl,h,ca,a6,cb⟩;refine rt ?_
  have c6:∀ b,b∈ar->w0.heap.size<=b:=(λb hb=>(a6 b hb).elim (λh_=>Cj A.size h_) (λhb=>b9 b hb))
  replace A:=A.pushR cb (ZB8 (ZFf.sl) L [al] ar) ca (λb hb=>(a6 b hb).elim .inl (λhb=>.inr (⟨_,mg 0 rfl,hb⟩)))
  refine Zd (v:=al) rfl (dn (sr (Yd (sz:=1) A [] [] rfl (λ_=>Jl _) rfl (by decide) λaw dr av A=>?_)))
  replace A:=A.pushM0 (Zz (ZJh 2 (eI.tr)) ([]:List (List Int)) [] []) (Xn _ _) rfl;replace A:=A.gather (c:=ZCn (ZJh 22 (ZJh 2 (eI.tr))) [] [.slice (some ⟨aw,0,none⟩) 0 0] ((ZDa (Fe (.slice (some ⟨aw,0,none⟩) 0 0)))++([]:List (List Nat)).flatten)) (λx_ ad=>(Ch.1 ad).symm) (λae ag ah=>Xj ag ae (λb_ aa ax=>ah b_ ax aa))
  refine Zd (v:=.slice (some ⟨aw,0,none⟩) 0 0) rfl (dn (ZB9 (sr (Zd (v:=vI 0) rfl (dn (ZCf ?_))))))
  have a7:L.length<=9223372036854775807:=Yz (A.Iw 0 rfl);refine Yh (S:=(List (List Int))) _ _ (λI aj e_ w_=>∃ (ac:Value),∃ (am:List Nat),Zt e_ [(1,vI U),(6,al),(9,ac),(10,vI (I:Int))]/\Ctx Nox w0 w_ [ZCn (ZJh 22 (ZJh 2 (eI.tr))) aj [ac] am] [ZB8 (ZFf.sl) L [al] ar,ZB8 (ZFf.sl) a0 [Ia] Ib]) L.length ?_ ?_ (s0:=[]) ?_ h
  ·clear A h;rintro I aj e_ dt c7 cv V ⟨ac,am,ap,A⟩ h a8;rw [ue ap];refine ZB9 (sr (Za (v:=vI (I:Int)) rfl (Za (v:=al) rfl (Zu A 0 rfl ZKd rfl (Zl rfl rfl (dn (Z8 rfl (decide_eq_true (by omega)) (ZCd (Ze (ZB9 (ZCf (sr (Za (v:=al) rfl (Za (v:=vI (I:Int)) rfl ?_))))))))))))))
   obtain ⟨c8,du,a9⟩:=Zx (A.Iw 0 rfl) I V;refine Yn (len:=L.length) ZKd If.size (tr rfl a9) rfl (ZCq _) (ZC9.2 V) ?_
   obtain ⟨bo,ba,cc,bb⟩:=Xb (A.Iw 0 rfl) a9 I V;obtain ⟨bc,rfl⟩:=ZC7.1 ba;clear ba;rw [Y9 _ _ V] at bb
   replace A:=A.I0 0 rfl (ZB8 TInts (L.getD I Ci) [bc] ar) (λ_=>bb) (λ_ aa=>aa)
   refine Ye (bc) cc If rfl (Zf [bc] _ ZOf rfl rfl rfl (Dj (L.getD I Ci) h _ (A.Iw 0 rfl)) ?_)
   rintro _ dv ⟨dw,rfl,h,ce⟩;refine rt ?_
   replace A:=A.Iy ce;refine Za (v:=vI U) rfl (Wp rfl rfl (dn ?_))
   refine Zs rfl (λay=>?_) (λay=>?_)
   ·replace h:=ift h (ct ay);refine Zh (Za (v:=ac) rfl (Yd (sz:=1) A [] (eI.encs []) rfl (λ_=>U1  _) rfl (by decide) λdx dy av A=>Za (v:=al) rfl (Za (v:=vI (I:Int)) rfl ?_)))
    obtain ⟨c9,dz,bd⟩:=Zx (A.Iw 1 rfl) I V;refine Yn (len:=L.length) ZKd If.size (tr rfl bd) rfl (ZCq _) (ZC9.2 V) ?_
    obtain ⟨bo,be,cg,bh⟩:=Xb (A.Iw 1 rfl) bd I V;obtain ⟨br,rfl⟩:=ZC7.1 be;clear be;rw [Y9 _ _ V] at bh
    replace A:=A.I0 1 rfl (ZB8 TInts (L.getD I Ci) [br] ar) (λ_=>bh) (λ_ aa=>aa)
    refine Ye (br) cg If rfl (Za (v:=vI U) rfl ?_)
    obtain ⟨bs,h⟩:=h;obtain ⟨ch,cw,bi,bj⟩:=Zbw (A.Iw 0 rfl);refine Zbx ZCs sc2.size (tr rfl bi) rfl bs.1 bs.2 ?_
    replace A:=A.I0 0 rfl (ZB8 TInts ((L.getD I Ci).drop U.toNat) [(sliced ch U.toNat ((L.getD I Ci).length) cw 1)] ar) (λh_=>Zbv h_ bi (show _<=_ by omega) bj) (λ_ h_=>h_)
    obtain ⟨ci,h⟩:=h;refine Jg A 0 ZCs el2 rfl (by decide) (by decide) rfl (Eh (A.Iw 0 rfl)) (λq hq=>ZDf (E:=eI) _ q hq) rfl rfl ci λab d0 A=>?_
    replace A:=Y7 A 0 (((L.getD I Ci).drop U.toNat).length) (eI.encs ((L.getD I Ci).drop U.toNat)) rfl (by simp) (by first | (simp [ZC1]; done) | simp [ZC1,ZJw])
    refine Yd (sz:=1) A [(0,ab)] [ab] rfl (λ_=>Wc ab (Va (A.Ix 0 rfl)) _) rfl (by decide) λau d1 av A=>?_
    replace A:=A.pushM0 (Zz (ZJh 2 (eI.tr)) [] [] []) (Xn _ _) rfl;replace A:=A.sM [2,0,1,3] (M':=[own 2 1 ab (((L.getD I Ci).drop U.toNat).length) (eI.encs ((L.getD I Ci).drop U.toNat)),Zz (ZJh 2 (eI.tr)) [] [] [],own 22 1 (.slice (some ⟨au,0,none⟩) 1 1) 1 [ab],ZCn (ZJh 22 (ZJh 2 (eI.tr))) aj [ac] am]) (by decide) rfl
    replace A:=A.gather (c:=Zz (ZJh 2 (eI.tr)) [(L.getD I Ci).drop U.toNat] [ab] [(ZDa (Fe ab))]) (λx_ ad=>Vf ad) (λae ag ah=>W9 (c:=[ab]) (id (Xi ae)) ag ah)
    replace A:=A.sM [1,0,2] (M':=[own 22 1 (.slice (some ⟨au,0,none⟩) 1 1) 1 [ab],Zz (ZJh 2 (eI.tr)) [(L.getD I Ci).drop U.toNat] [ab] [(ZDa (Fe ab))],ZCn (ZJh 22 (ZJh 2 (eI.tr))) aj [ac] am]) (by decide) rfl
    replace A:=A.gather (c:=ZCn (ZJh 22 (ZJh 2 (eI.tr))) [(L.getD I Ci).drop U.toNat] [.slice (some ⟨au,0,none⟩) 1 1] ((ZDa (Fe (.slice (some ⟨au,0,none⟩) 1 1)))++([(ZDa (Fe ab))]:List (List Nat)).flatten)) (λx_ ad=>Ch.1 ad) (λae ag ah=>Xj ae ag ah)
    replace A:=A.sM [1,0] (M':=[ZCn (ZJh 22 (ZJh 2 (eI.tr))) aj [ac] am,ZCn (ZJh 22 (ZJh 2 (eI.tr))) [(L.getD I Ci).drop U.toNat] [.slice (some ⟨au,0,none⟩) 1 1] ((ZDa (Fe (.slice (some ⟨au,0,none⟩) 1 1)))++([(ZDa (Fe ab))]:List (List Nat)).flatten)]) (by decide) rfl
    obtain ⟨cj,h⟩:=h;refine W1 A ZKd J0 rfl (by decide) (by decide) rfl rfl cj λbt cx d2 A=>Zd (v:=bt) rfl (done (Zr (Ze (Zh (Za (v:=vI (I:Int)) rfl (Zm rfl rfl (Zd (v:=vI (Zwt.wrap ((I:Int)+1))) rfl (done ?_))))))))
    exact a8 (aj++[(L.getD I Ci).drop U.toNat]) _ _ ⟨bt,cx,(sl ⟨rfl,rfl,rfl,(tr rfl (I1 _ (Z2 V a7))),trivial⟩),(A.sP [3,4] rfl)⟩ h
   ·replace h:=Zk h (cf ay);refine ZCd (Zr (Ze (Zh (Za (v:=vI (I:Int)) rfl (Zm rfl rfl (Zd (v:=vI (Zwt.wrap ((I:Int)+1))) rfl (done ?_)))))))
    exact a8 aj _ _ ⟨ac,am,(sl ⟨rfl,rfl,rfl,(tr rfl (I1 _ (Z2 V a7))),trivial⟩),(A.sP [1,2] rfl)⟩ h
  ·clear A h;rintro aj e_ d3 cv ⟨ac,am,ap,A⟩ h;rw [ue ap];refine ZB9 (sr (Za (v:=vI (L.length:Int)) rfl (Za (v:=al) rfl (Zu A 0 rfl ZKd rfl (Zl rfl rfl (dn (Z4 rfl (decide_eq_false (by omega)) ?_)))))))
   refine ZCo (Zi (Zi (Zy ?_)))
   refine Ze (sr (Za (v:=ac) rfl ?_))
   have ck:=J9 A 0 rfl;replace A:=A.thaw 0 rfl (ZB8 (ZFf.sl) aj [ac] am) (λh_=>ZJu _ h_.1) (λ_ aa=>aa)
   refine Zf [ac] _ ZOd rfl rfl rfl (Nk aj h _ (A.Iw 0 rfl)) ?_
   rintro _ d4 ⟨bu,bk,bl,rfl,h,cl,bm,cm⟩;refine rt ?_
   have cn:∀ b,b∈bl->w0.heap.size<=b:=(λb hb=>(bm b hb).elim (λh_=>Cj A.size h_) (λhb=>ck b hb))
   replace A:=A.pushR cm (ZB8 (ZFf.sl) bu [bk] bl) cl (λb hb=>(bm b hb).elim .inl (λhb=>.inr (⟨_,mg 0 rfl,hb⟩)))
   refine Zd (v:=bk) rfl (dn (ZCi ?_))
   exact Zj rfl (Zg rfl) ⟨bu,bk,bl,rfl,h,(A.Iw 0 rfl),(λb hb=>cn b hb),A.below⟩ (.inl rfl)
  ·skip;exact⟨.slice (some ⟨aw,0,none⟩) 0 0,((ZDa (Fe (.slice (some ⟨aw,0,none⟩) 0 0)))++([]:List (List Nat)).flatten),(slq rfl),(A.sP [0,2] rfl)⟩
 ·skip;exact⟨.slice (some ⟨b5,0,none⟩) 0 0,((ZDa (Fe (.slice (some ⟨b5,0,none⟩) 0 0)))++([]:List (List Nat)).flatten),(slq rfl),A⟩
def Tl (I:List Int) (L:List A8) (K:ZCb->Prop):Prop :=
 Z1 (λh (A:(List Term)) B=>((0<=(h:Int)/\(h:Int) < (I.length:Int))/\(if I.getD h Ci≠0 then((0<=(h:Int)/\(h:Int) < (I.length:Int))/\(Zw (A.length+1) 16/\B (A++[(⟨L.getD h Ci,I.getD h Ci⟩:Term)]))) else B A))) (λ(A:(List Term))=>K (⟨A⟩:ZCb)) L.length 0 []
theorem Zb9 (a0:List Int) (a1:List A8)  {K:ZCb->Prop} (h:Tl a0 a1 K) (w0:World) (q0:ZFf.rep a0 [Ia] Ib w0) (q1:((EA .u8).ty.sl).rep a1 [Ie] Ig w0) :
  Calls ZCc 170 #[Ia,Ie] w0 λe w'=>∃ (r0:ZCb) (Ih:Value) (ak:List Nat),
   e=.returned (.agg #[Ih])/\K r0/\(ZCn (Y0 162) r0 [Ih] ak).holds w'/\(∀ b,b∈ak->w0.heap.size<=b)/\Bel w0 w':=by
 unfold Tl at h
 refine cof ZOj rfl 34 Tryz.ntmps170 ?_
 have B:=ZCu (X:=Nox) w0 [ZB8 TInts a0 [Ia] Ib,ZB8 ((EA .u8).ty.sl) a1 [Ie] Ig] (alc q0 (al1 q1));refine sr (Yt B [.slice none 0 0] z55 rfl λb3 w5 I B=>dn (sr (Wk [] rfl (Mh   _) (Yt B [.slice none 0 0] z55 rfl λb6 w8 I B=>Z7 (v:=.agg #[.slice none 0 0]) B 0 [.slice none 0 0] [.slice none 0 0] rfl ag55.size rfl rfl rfl rfl rfl (ZCh rfl) rfl λw9 B=>dn (ZB9 (sr (Zd (v:=vI 0) rfl (dn (ZCf ?_)))))))))
 have ad:a1.length<=9223372036854775807:=Yz (B.Iw 1 rfl);refine Yh (S:=(List Term)) _ _ (λA O e_ w_=>∃ (L:Value),Zt e_ [(0,Ia),(1,Ie),(4,vQ b3),(5,vQ b6),(6,vI (A:Int))]/\Ctx Nox w0 w_ [own 162 9 L O.length (ZCa.encs O),blk b6 55 [L],blk b3 55 [.slice none 0 0]] [ZB8 TInts a0 [Ia] Ib,ZB8 ((EA .u8).ty.sl) a1 [Ie] Ig]) a1.length ?_ ?_ (s0:=[]) ?_ h
 ·clear B h;rintro A O e_ ax av ao V ⟨L,ae,B⟩ h ag;rw [ue ae];refine ZB9 (sr (Za (v:=vI (A:Int)) rfl (Za (v:=Ie) rfl (Zu B 1 rfl ZN8 rfl (Zl rfl rfl (dn (Z8 rfl (decide_eq_true (by omega)) (ZCd (Ze (ZB9 (ZCf (sr (Za (v:=Ia) rfl (Za (v:=vI (A:Int)) rfl ?_))))))))))))))
  obtain ⟨⟨ap,aq⟩,h⟩:=h;obtain ⟨aw,ay,ah⟩:=Zx (B.Iw 0 rfl) A (show A < a0.length by omega)
  refine Yn (len:=a0.length) ZCs sc2.size (tr rfl ah) rfl ap aq (Ye (vI (a0.getD A Ci)) (Yi (B.Iw 0 rfl) ah A (show A < a0.length by omega)) sc2 rfl (Xl rfl rfl (dn ?_)))
  refine Zs rfl (λab=>?_) (λab=>?_)
  ·replace h:=ift h (ct ab);refine cwd 12 Ym [0,1,0,0,12,28,0,0,192,448,1020,2044,4095,8191,16383] [1,4,5,8,9,10] [0,2,3,6,7] (λU aa az I=>?_)
   replace B:=B.Iy I;refine bF 0 (vQ b6) rfl rfl aa (λ_=>by exact Yq 0 ZCg rfl Ii.size rfl rfl) (Zc 15 1) (bL 1 (L) rfl rfl U (λ_ I=>by exact Yj (B.Iy I) 1 (L) rfl Ii rfl rfl) (Zc 15 3) (bM 2 (Ie) rfl aa (Zc 15 7) (bM 3 (vI (A:Int)) rfl aa (Zc 15 15) ?_)))
   obtain ⟨al,a2,ai⟩:=Zx (B.Iw 1 rfl) A V;refine bL 4 (.pointer (some (al.add (A * 8)))) rfl rfl U (λ_ I=>by exact Y3 (len:=a1.length) ZN8 ag136.size (by exact tr rfl ai) rfl (ZCq _) (ZC9.2 V)) (Zc 15 31) (bL 5 (.agg (ZB7 (ZB6 .u8 (a1.getD A Ci)))) rfl rfl U (λ_ I=>by exact Jq (ZB6 .u8 (a1.getD A Ci)) (Yi ((B.Iy I).Iw 1 rfl) ai A V) ag136 rfl rfl) (Zc 15 63) (bM 6 (Ia) rfl aa (Zc 15 127) (bM 7 (vI (A:Int)) rfl aa (Zc 15 255) ?_)))
   obtain ⟨⟨ar,au⟩,h⟩:=h;obtain ⟨am,a3,aj⟩:=Zx (B.Iw 0 rfl) A (show A < a0.length by omega)
   refine bL 8 (.pointer (some (am.add (A * 1)))) rfl rfl U (λ_ I=>by exact Y3 (len:=a0.length) ZCs sc2.size (by exact tr rfl aj) rfl ar au) (Zc 15 511) (bL 9 (vI (a0.getD A Ci)) rfl rfl U (λ_ I=>by exact Xp (vI (a0.getD A Ci)) (Yi ((B.Iy I).Iw 0 rfl) aj A (show A < a0.length by omega)) sc2 rfl) (Zc 15 1023) (bL 10 (.agg (ZB7 (Term.enc (⟨a1.getD A Ci,a0.getD A Ci⟩:Term)))) rfl rfl U (λ_ I=>by exact G6 [(0,.agg (ZB7 (ZB6 .u8 (a1.getD A Ci)))),(1,vI (a0.getD A Ci))] rfl (Kc (a1.getD A Ci) (a0.getD A Ci)  _)) (Zc 15 2047) (aO 11 rfl (Yd (sz:=9) B [(0,.agg (ZB7 (Term.enc (⟨a1.getD A Ci,a0.getD A Ci⟩:Term))))] (ZCa.encs [(⟨a1.getD A Ci,a0.getD A Ci⟩:Term)]) rfl (λ_=>Mi (⟨a1.getD A Ci,a0.getD A Ci⟩:Term) _) rfl (by decide) λa4 a5 I B=>done (aK (by assumption) (Zc 15 4095) (Z5 12 (by decide) (by decide) (by kernel_rfl) (by kernel_rfl) rfl ?_))))))
   obtain ⟨an,h⟩:=h;refine Jg B 1 ZCj Mj rfl (by decide) (by decide) rfl (Wl (B.Ix 0 rfl)) (λq hq=>ZDf (E:=ETerm) _ q hq) rfl rfl an λac a6 B=>?_
   replace B:=Y7 B 1 ((O++[(⟨a1.getD A Ci,a0.getD A Ci⟩:Term)]).length) (ZCa.encs (O++[(⟨a1.getD A Ci,a0.getD A Ci⟩:Term)])) rfl (by simp) (by first | (simp [ZC1]; done) | simp [ZC1,ZJw])
   refine Z0 0 ZCg rfl Ii.size rfl rfl (Z7 (v:=ac) B 2 [ac] [ac] rfl Ii.size rfl rfl (Uw (B.Ix 1 rfl)) rfl (Xy (Jc (B.Ix 1 rfl)) rfl) (ZCh rfl) rfl λa7 B=>done (Z6 (Zr (Ze (Zh (Za (v:=vI (A:Int)) rfl (Zm rfl rfl (Zd (v:=vI (Zwt.wrap ((A:Int)+1))) rfl (done ?_)))))))))
   exact ag (O++[(⟨a1.getD A Ci,a0.getD A Ci⟩:Term)]) _ _ ⟨ac,(sl ⟨rfl,rfl,rfl,rfl,(tr rfl (I1 _ (Z2 V ad))),trivial⟩),(B.xM [1,2,3] rfl)⟩ h
  ·replace h:=Zk h (cf ab);refine ZCd (Zr (Ze (Zh (Za (v:=vI (A:Int)) rfl (Zm rfl rfl (Zd (v:=vI (Zwt.wrap ((A:Int)+1))) rfl (done ?_)))))))
   exact ag O _ _ ⟨L,(sl ⟨rfl,rfl,rfl,rfl,(tr rfl (I1 _ (Z2 V ad))),trivial⟩),B⟩ h
 ·clear B h;rintro O e_ a8 ao ⟨L,ae,B⟩ h;rw [ue ae];refine ZB9 (sr (Za (v:=vI (a1.length:Int)) rfl (Za (v:=Ie) rfl (Zu B 1 rfl ZN8 rfl (Zl rfl rfl (dn (Z4 rfl (decide_eq_false (by omega)) ?_)))))))
  refine ZCo (Zi (Zi (Zy ?_)))
  refine Ze (sr (Yr B 1 [L] rfl ag55 rfl rfl rfl (Z7 (v:=.agg #[L]) B 2 [L] [L] rfl ag55.size rfl rfl rfl rfl (Xy (Jc (B.Ix 0 rfl)) rfl) (ZCh rfl) rfl λa9 B=>dn (ZCi ?_))))
  exact Zj rfl (Wq B 2 rfl ag55 rfl rfl) ⟨(⟨O⟩:ZCb),L,(ZDa (Fe L)),rfl,h,(Tb (Xi (B.Ix 0 rfl))),(Xg B 0 rfl),B.below⟩ (.inl rfl)
 ·skip;replace B:=B.pushNil 162 9;exact⟨.slice none 0 0,(slq rfl),B⟩
def Sd (a0:Alg) (a1:Int) (a2:Int) (a3:Int) (K:List (List Int)->Prop):Prop :=
 Uj a0 a2 a3 (λB=>Uj a0 0 a3 (λaa=>Uj a0 0 (Zwt.wrap (a3+1)) (λU=>Z1 (λai (h:(List (List Int))) ae=>Wh (B.getD ai Ci) 1 (λaj=>Uy (⟨a0.degrees,a0.images⟩:Alg) aj (λak=>Vu ak U (λab=>Z1 (λI (A:(List Int)) V=>Ui (U.getD I Ci) (λal=>(if al < Zwt.wrap (a2+a1) then((0<=(I:Int)/\(I:Int) < (ab.length:Int))/\(Zw (A.length+1) 8/\V (A++[ab.getD I Ci]))) else V A))) (λ(A:(List Int))=>(Zw (h.length+1) 24/\ae (h++[A]))) U.length 0 [])))) (λ(h:(List (List Int)))=>(if(h.length:Int) > 0 then((0<=(0:Int)/\(0:Int) < (h.length:Int))/\Nl h ((h.getD 0 Ci).length:Int) (λac=>Z1 (λam (L:(List (List Int))) ag=>Tl (ac.getD am Ci) B (λan=>Vu an aa (λao=>(Zw (L.length+1) 24/\ag (L++[ao]))))) (λ(L:(List (List Int)))=>K L) ac.length 0 [])) else Nl h 0 (λad=>Z1 (λap (O:(List (List Int))) ah=>Tl (ad.getD ap Ci) B (λaq=>Vu aq aa (λar=>(Zw (O.length+1) 24/\ah (O++[ar]))))) (λ(O:(List (List Int)))=>K O) ad.length 0 []))) B.length 0 [])))
theorem Dk (a0:Alg) (a1:Int) (a2:Int) (a3:Int)  {K:List (List Int)->Prop} (h:Sd a0 a1 a2 a3 K) (w0:World) (q0:TAlg.rep a0 [Ia,Ic] Ib w0) :
  Calls ZCc 110 #[.agg #[Ia,Ic],vI a1,vI a2,vI a3] w0 λe w'=>∃ (r0:List (List Int)) (Ih:Value) (dp:List Nat),
   e=.returned (Ih)/\K r0/\(ZCn (ZJh 22 (ZJh 2 (eI.tr))) r0 [Ih] dp).holds w'/\(∀ b,b∈dp->w0.heap.size<=b)/\Bel w0 w':=by
 unfold Sd at h
 refine cof ZOg rfl 104 Tryz.ntmps110 ?_
 have A:=ZCu (X:=Nox) w0 [ZB8 TAlg a0 [Ia,Ic] Ib] (al1 q0);replace A:=A.dAlg 0 rfl;refine sr (Yg (v:=.agg #[Ia,Ic]) A [Ia,Ic] rfl rfl λb4 w6 V A=>Zd (v:=.slice none 0 0) rfl (dn (ZB9 ?_)))
 refine cwd 10 Ym [0,0,0,7,0,0,63,0,0,256,1023,2047,4095,8191] [0,4,7] [1,2,5,8,9] (λhM8 hM9 w7 V=>?_)
 replace A:=A.Iy V;refine bL 0 (.agg #[Ia,Ic]) rfl rfl hM8 (λ_ V=>by exact Y6 (A.Iy V) 0 [Ia,Ic] rfl ag32 rfl rfl rfl) (Zc 14 1) (bM 1 (vI a2) rfl hM9 (Zc 14 3) (bM 2 (vI a3) rfl hM9 (Zc 14 7) (bL 4 (.agg #[Ia,Ic]) rfl rfl hM8 (λ_ V=>by exact Y6 (A.Iy V) 0 [Ia,Ic] rfl ag32 rfl rfl rfl) (Zc 14 23) (bM 5 (vI a3) rfl hM9 (Zc 14 55) (bL 7 (.agg #[Ia,Ic]) rfl rfl hM8 (λ_ V=>by exact Y6 (A.Iy V) 0 [Ia,Ic] rfl ag32 rfl rfl rfl) (Zc 14 183) (bM 8 (vI a3) rfl hM9 (Zc 14 439) (bF 9 (vI (Zwt.wrap (a3+1))) rfl rfl hM9 (λ_=>by exact Vn rfl rfl) (Zc 14 951) (aO 3 rfl (Zf [.agg #[Ia,Ic],vI a2,vI a3] _ ZN9 rfl rfl rfl (U2 a0 a2 a3 h _ (Yf (A.Iw 1 rfl) (A.Iw 0 rfl))) ?_)))))))))
 rintro _ ib ⟨B,O,g5,rfl,h,d2,d3,d4⟩;refine rt ?_
 replace A:=A.push d4 (ZCn (ZJh 136 ((EA .u8).tr)) B [O] g5) d2 d3;obtain ⟨d5,d6⟩:=Yx (A.Ix 0 rfl).1;subst d6;replace A:=A.Iz (c:=own 136 8 O B.length ((EA .u8).encs B)) (λ_ h_=>h_) (λ_=>d5)
 refine done (aK (by assumption) (Zc 14 959) (aO 6 rfl (Zf [.agg #[Ia,Ic],vI 0,vI a3] _ ZN9 rfl rfl rfl (U2 a0 0 a3 h _ (Yf (A.Iw 1 rfl) (A.Iw 0 rfl))) ?_)))
 rintro _ ic ⟨I,aa,g6,rfl,h,d7,d8,d9⟩;refine rt ?_
 replace A:=A.push d9 (ZCn (ZJh 136 ((EA .u8).tr)) I [aa] g6) d7 d8;obtain ⟨ea,eb⟩:=Yx (A.Ix 0 rfl).1;subst eb;replace A:=A.Iz (c:=own 136 8 aa I.length ((EA .u8).encs I)) (λ_ h_=>h_) (λ_=>ea)
 refine done (aK (by assumption) (Zc 14 1023) (Z5 10 (by decide) (by decide) (by kernel_rfl) (by kernel_rfl) rfl (Zf [.agg #[Ia,Ic],vI 0,vI (Zwt.wrap (a3+1))] _ ZN9 rfl rfl rfl (U2 a0 0 (Zwt.wrap (a3+1)) h _ (Yf (A.Iw 1 rfl) (A.Iw 0 rfl))) ?_)))
 rintro _ ie ⟨U,ae,g7,rfl,h,ec,ed,ee⟩;refine rt ?_
 replace A:=A.push ee (ZCn (ZJh 136 ((EA .u8).tr)) U [ae] g7) ec ed;obtain ⟨ef,eg⟩:=Yx (A.Ix 0 rfl).1;subst eg;replace A:=A.Iz (c:=own 136 8 ae U.length ((EA .u8).encs U)) (λ_ h_=>h_) (λ_=>ef)
 refine Zd (v:=O) rfl (Zd (v:=aa) rfl (Zd (v:=ae) rfl (done (Z6 (Ze (sr (Yd (sz:=1) A [] [] rfl (λ_=>Jl _) rfl (by decide) λbr ig V A=>?_)))))))
 replace A:=A.pushM0 (Zz (ZJh 2 (eI.tr)) ([]:List (List Int)) [] []) (Xn _ _) rfl;replace A:=A.gather (c:=ZCn (ZJh 22 (ZJh 2 (eI.tr))) [] [.slice (some ⟨br,0,none⟩) 0 0] ((ZDa (Fe (.slice (some ⟨br,0,none⟩) 0 0)))++([]:List (List Nat)).flatten)) (λx_ ai=>(Ch.1 ai).symm) (λaj ak al=>Xj ak aj (λb_ aq bb=>al b_ bb aq))
 refine Zd (v:=.slice (some ⟨br,0,none⟩) 0 0) rfl (dn (ZB9 (sr (Zd (v:=vI 0) rfl (dn (ZCf ?_))))))
 have eh:B.length<=9223372036854775807:=Uv (A.Ix 3 rfl);refine Yh (S:=(List (List Int))) _ _ (λam ab e_ w_=>∃ (ah:Value),∃ (av:List Nat),Zt e_ [(1,vI a1),(2,vI a2),(4,vQ b4),(9,O),(10,aa),(11,ae),(12,ah),(13,vI (am:Int))]/\Ctx Nox w0 w_ [ZCn (ZJh 22 (ZJh 2 (eI.tr))) ab [ah] av,own 136 8 ae U.length ((EA .u8).encs U),own 136 8 aa I.length ((EA .u8).encs I),own 136 8 O B.length ((EA .u8).encs B),blk b4 32 [Ia,Ic]] [ZB8 ZCv.sl a0.images [Ic] Ib,ZB8 TInts a0.degrees [Ia] Ib,ZB8 TAlg a0 [Ia,Ic] Ib]) B.length ?_ ?_ (s0:=[]) ?_ h
 ·clear A h;rintro am ab e_ ih ei g8 bq ⟨ah,av,an,A⟩ h ej;rw [ue an];refine ZB9 (sr (Za (v:=vI (am:Int)) rfl (Za (v:=O) rfl (J3 A 3 rfl ZN8 rfl (Zl rfl rfl (dn (Z8 rfl (decide_eq_true (by omega)) (ZCd (Ze (ZB9 (ZCf (ZB9 ?_))))))))))))
  refine cwd 10 Ym [0,0,0,0,12,28,60,126,0,510,1023,2047] [1,4,5] [2,3,8] (λbw bx ii V=>?_)
  replace A:=A.Iy V;refine bL 1 (.agg #[Ia,Ic]) rfl rfl bw (λ_ V=>by exact Y6 (A.Iy V) 4 [Ia,Ic] rfl ag32 rfl rfl rfl) (Zc 12 2) (bM 2 (O) rfl bx (Zc 12 6) (bM 3 (vI (am:Int)) rfl bx (Zc 12 14) ?_))
  obtain ⟨ek,ij,cr⟩:=Xx (A.Ix 3 rfl) (ZFu (Fq _) bq);refine bL 4 (.pointer (some ⟨ek,am * 8,none⟩)) rfl rfl bw (λ_ V=>by exact Vz (am * 8) ZN8 ag136.size (by exact tr rfl cr) rfl (ZCq _) (ZC9.2 bq) rfl) (Zc 12 30) (bL 5 (.agg (ZB7 (ZB6 .u8 (B.getD am Ci)))) rfl rfl bw (λ_ V=>by exact Jq (ZB6 .u8 (B.getD am Ci)) (J7 ((A.Iy V).Ix 3 rfl) cr am bq) ag136 rfl rfl) (Zc 12 62) (bM 8 (ae) rfl bx (Zc 12 318) ?_))
  refine U8 (λe_ w_=>∃ (a6:Value),∃ (ac:List Int),∃ (ca:Nat),Zt e_ [(1,vI a1),(2,vI a2),(4,vQ b4),(9,O),(10,aa),(11,ae),(12,ah),(13,vI (am:Int)),(14,.slice (some ⟨ca,0,none⟩) 0 0),(15,a6)]/\Ctx Nox w0 w_ [own 2 1 a6 ac.length (eI.encs ac),own 2 1 (.slice (some ⟨ca,0,none⟩) 0 0) 0 (eI.encs []),ZCn (ZJh 22 (ZJh 2 (eI.tr))) ab [ah] av,own 136 8 ae U.length ((EA .u8).encs U),own 136 8 aa I.length ((EA .u8).encs I),own 136 8 O B.length ((EA .u8).encs B),blk b4 32 [Ia,Ic]] [ZB8 ZCv.sl a0.images [Ic] Ib,ZB8 TInts a0.degrees [Ia] Ib,ZB8 TAlg a0 [Ia,Ic] Ib]/\(Z1 (λL (ad:(List Int)) bz=>Ui (U.getD L Ci) (λdq=>(if dq < Zwt.wrap (a2+a1) then((0<=(L:Int)/\(L:Int) < (ac.length:Int))/\(Zw (ad.length+1) 8/\bz (ad++[ac.getD L Ci]))) else bz ad))) (λ(ad:(List Int))=>(Zw (ab.length+1) 24/\ei (ab++[ad]))) U.length 0 [])) ?_ ?_
  ·clear A h;rintro e_ il ⟨a6,ac,ca,an,A,h⟩;rw [ue an];refine Ze (ZB9 (sr (Zd (v:=vI 0) rfl (dn (ZCf ?_)))))
   have cu:U.length<=9223372036854775807:=Uv (A.Ix 3 rfl);refine Yh (S:=(List Int)) _ _ (λL ad e_ w_=>∃ (ag:Value),Zt e_ [(1,vI a1),(2,vI a2),(4,vQ b4),(9,O),(10,aa),(11,ae),(12,ah),(13,vI (am:Int)),(14,ag),(15,a6),(16,vI (L:Int))]/\Ctx Nox w0 w_ [own 2 1 a6 ac.length (eI.encs ac),own 2 1 ag ad.length (eI.encs ad),ZCn (ZJh 22 (ZJh 2 (eI.tr))) ab [ah] av,own 136 8 ae U.length ((EA .u8).encs U),own 136 8 aa I.length ((EA .u8).encs I),own 136 8 O B.length ((EA .u8).encs B),blk b4 32 [Ia,Ic]] [ZB8 ZCv.sl a0.images [Ic] Ib,ZB8 TInts a0.degrees [Ia] Ib,ZB8 TAlg a0 [Ia,Ic] Ib]) U.length ?_ ?_ (s0:=[]) ?_ h
   ·clear A h;rintro L ad e_ im bz g9 bc ⟨ag,an,A⟩ h cv;rw [ue an];refine ZB9 (sr (Za (v:=vI (L:Int)) rfl (Za (v:=ae) rfl (J3 A 3 rfl ZN8 rfl (Zl rfl rfl (dn (Z8 rfl (decide_eq_true (by omega)) (ZCd (Ze (ZB9 (ZCf (sr (Za (v:=ae) rfl (Za (v:=vI (L:Int)) rfl ?_))))))))))))))
    obtain ⟨h1,io,cw⟩:=Xx (A.Ix 3 rfl) (ZFu (Fq _) bc);refine X4 (L * 8) ZN8 ag136.size (tr rfl cw) rfl (ZCq _) (ZC9.2 bc) rfl (Ji (ZB6 .u8 (U.getD L Ci)) (J7 (A.Ix 3 rfl) cw L bc) ag136 rfl rfl (Zf [.agg (ZB7 (ZB6 .u8 (U.getD L Ci)))] _ ZOe rfl rfl rfl (Hr (U.getD L Ci) h _) ?_))
    rintro _ ip ⟨dq,rfl,h,en⟩;refine rt ?_
    replace A:=A.Iy en;refine Za (v:=vI a2) rfl (Za (v:=vI a1) rfl (Zm rfl rfl (Zl rfl rfl (dn ?_))))
    refine Zs rfl (λb8=>?_) (λb8=>?_)
    ·replace h:=ift h (ct b8);refine Zh (Za (v:=ag) rfl (Za (v:=a6) rfl (Za (v:=vI (L:Int)) rfl ?_)))
     obtain ⟨⟨ha,hc⟩,h⟩:=h;obtain ⟨h2,iq,cx⟩:=Xx (A.Ix 0 rfl) (ZFu (Fq _) (show L < ac.length by omega))
     refine X4 (L * 1) ZCs sc2.size (tr rfl cx) rfl ha hc rfl (Ye (vI (ac.getD L Ci)) (J7 (A.Ix 0 rfl) cx L (show L < ac.length by omega)) sc2 rfl (Yd (sz:=1) A [(0,vI (ac.getD L Ci))] (eI.encs [ac.getD L Ci]) rfl (λ_=>M4 (ac.getD L Ci) _) rfl (by decide) λir iu V A=>?_))
     obtain ⟨eo,h⟩:=h;refine Jg A 2 ZCs el2 rfl (by decide) (by decide) rfl (Wl (A.Ix 0 rfl)) (λq hq=>ZDf (E:=eI) _ q hq) rfl rfl eo λdr iv A=>?_
     replace A:=Y7 A 2 ((ad++[ac.getD L Ci]).length) (eI.encs (ad++[ac.getD L Ci])) rfl (by simp) (by first | (simp [ZC1]; done) | simp [ZC1,ZJw])
     refine Zd (v:=dr) rfl (done (Zr (Ze (Zh (Za (v:=vI (L:Int)) rfl (Zm rfl rfl (Zd (v:=vI (Zwt.wrap ((L:Int)+1))) rfl (done ?_))))))))
     exact cv (ad++[ac.getD L Ci]) _ _ ⟨dr,(sl ⟨rfl,rfl,rfl,rfl,rfl,rfl,rfl,rfl,rfl,rfl,(tr rfl (I1 _ (Z2 bc cu))),trivial⟩),(A.xM [1,2,3,4,5,6,7] rfl)⟩ h
    ·replace h:=Zk h (cf b8);refine ZCd (Zr (Ze (Zh (Za (v:=vI (L:Int)) rfl (Zm rfl rfl (Zd (v:=vI (Zwt.wrap ((L:Int)+1))) rfl (done ?_)))))))
     exact cv ad _ _ ⟨ag,(sl ⟨rfl,rfl,rfl,rfl,rfl,rfl,rfl,rfl,rfl,rfl,(tr rfl (I1 _ (Z2 bc cu))),trivial⟩),A⟩ h
   ·clear A h;rintro ad e_ iw g9 ⟨ag,an,A⟩ h;rw [ue an];refine ZB9 (sr (Za (v:=vI (U.length:Int)) rfl (Za (v:=ae) rfl (J3 A 3 rfl ZN8 rfl (Zl rfl rfl (dn (Z4 rfl (decide_eq_false (by omega)) ?_)))))))
    refine ZCo (Zi (Zi (Zy ?_)))
    refine Ze (Zh (Za (v:=ah) rfl (Za (v:=ag) rfl (Yd (sz:=1) A [(0,ag)] [ag] rfl (λ_=>Wc ag (Va (A.Ix 1 rfl)) _) rfl (by decide) λbl ix V A=>?_))))
    replace A:=A.pushM0 (Zz (ZJh 2 (eI.tr)) [] [] []) (Xn _ _) rfl;replace A:=A.sM [3,0,1,2,4,5,6,7,8] (M':=[own 2 1 ag ad.length (eI.encs ad),Zz (ZJh 2 (eI.tr)) [] [] [],own 22 1 (.slice (some ⟨bl,0,none⟩) 1 1) 1 [ag],own 2 1 a6 ac.length (eI.encs ac),ZCn (ZJh 22 (ZJh 2 (eI.tr))) ab [ah] av,own 136 8 ae U.length ((EA .u8).encs U),own 136 8 aa I.length ((EA .u8).encs I),own 136 8 O B.length ((EA .u8).encs B),blk b4 32 [Ia,Ic]]) (by decide) rfl
    replace A:=A.gather (c:=Zz (ZJh 2 (eI.tr)) [ad] [ag] [(ZDa (Fe ag))]) (λx_ ai=>Vf ai) (λaj ak al=>W9 (c:=[ag]) (id (Xi aj)) ak al)
    replace A:=A.sM [1,0,2,3,4,5,6,7] (M':=[own 22 1 (.slice (some ⟨bl,0,none⟩) 1 1) 1 [ag],Zz (ZJh 2 (eI.tr)) [ad] [ag] [(ZDa (Fe ag))],own 2 1 a6 ac.length (eI.encs ac),ZCn (ZJh 22 (ZJh 2 (eI.tr))) ab [ah] av,own 136 8 ae U.length ((EA .u8).encs U),own 136 8 aa I.length ((EA .u8).encs I),own 136 8 O B.length ((EA .u8).encs B),blk b4 32 [Ia,Ic]]) (by decide) rfl
    replace A:=A.gather (c:=ZCn (ZJh 22 (ZJh 2 (eI.tr))) [ad] [.slice (some ⟨bl,0,none⟩) 1 1] ((ZDa (Fe (.slice (some ⟨bl,0,none⟩) 1 1)))++([(ZDa (Fe ag))]:List (List Nat)).flatten)) (λx_ ai=>Ch.1 ai) (λaj ak al=>Xj aj ak al)
    replace A:=A.sM [2,0,1,3,4,5,6] (M':=[ZCn (ZJh 22 (ZJh 2 (eI.tr))) ab [ah] av,ZCn (ZJh 22 (ZJh 2 (eI.tr))) [ad] [.slice (some ⟨bl,0,none⟩) 1 1] ((ZDa (Fe (.slice (some ⟨bl,0,none⟩) 1 1)))++([(ZDa (Fe ag))]:List (List Nat)).flatten),own 2 1 a6 ac.length (eI.encs ac),own 136 8 ae U.length ((EA .u8).encs U),own 136 8 aa I.length ((EA .u8).encs I),own 136 8 O B.length ((EA .u8).encs B),blk b4 32 [Ia,Ic]]) (by decide) rfl
    obtain ⟨ep,h⟩:=h;refine W1 A ZKd J0 rfl (by decide) (by decide) rfl rfl ep λdt he iy A=>Zd (v:=dt) rfl (done (Zr (Ze (Zh (Za (v:=vI (am:Int)) rfl (Zm rfl rfl (Zd (v:=vI (Zwt.wrap ((am:Int)+1))) rfl (done ?_))))))))
    exact ej (ab++[ad]) _ _ ⟨dt,he,(sl ⟨rfl,rfl,rfl,rfl,rfl,rfl,rfl,(tr rfl (I1 _ (Z2 bq eh))),trivial⟩),(A.xM [0,2,3,4,5] rfl)⟩ h
   ·skip;exact⟨.slice (some ⟨ca,0,none⟩) 0 0,(slq rfl),A⟩
  refine Jp 0 6 rfl rfl (by kernel_rfl) ?_ ?_
  ·skip;refine Yd (sz:=1) A [] (eI.encs []) rfl (λ_=>U1  _) rfl (by decide) λdu iz V A=>done (aK (by assumption) (Zc 12 319) (aO 6 rfl (Zf [.agg (ZB7 (ZB6 .u8 (B.getD am Ci))),vI 1] _ Tryz.func95 rfl rfl rfl (T2 (B.getD am Ci) 1 h _) ?_)))
   rintro _ i0 ⟨cb,cy,hf,rfl,h,er,es,et⟩;refine rt ?_
   replace A:=A.push et (ZCn (Y0 162) cb [cy] hf) er es;obtain ⟨eu,ew⟩:=X7 (A.Ix 0 rfl);subst ew;replace A:=A.Iz (c:=own 162 9 cy cb.terms.length (ZCa.encs cb.terms)) (λ_ h_=>h_) (λ_=>eu)
   refine done (aK (by assumption) (Zc 12 383) (aO 7 rfl (Zf [.agg #[Ia,Ic],.agg #[cy]] _ ZOk rfl rfl rfl (Ml (⟨a0.degrees,a0.images⟩:Alg) cb h _ (Yf (A.Iw 1 rfl) (A.Iw 0 rfl)) (Y1 (Yu (A.Ix 0 rfl)))) ?_)))
   rintro _ i1 ⟨cc,cz,hg,rfl,h,ex,ey,ez⟩;refine rt ?_
   replace A:=A.push ez (ZCn (Y0 162) cc [cz] hg) ex ey;obtain ⟨e1,e2⟩:=X7 (A.Ix 0 rfl);subst e2;replace A:=A.Iz (c:=own 162 9 cz cc.terms.length (ZCa.encs cc.terms)) (λ_ h_=>h_) (λ_=>e1)
   refine done (aK (by assumption) (Zc 12 511) (aO 9 rfl (Zf [.agg #[cz],ae] _ ZOc rfl rfl rfl (S2 cc U h _ (Y1 (Yu (A.Ix 0 rfl))) (Yu (A.Ix 4 rfl))) ?_)))
   rintro _ i2 ⟨ce,cg,hh,rfl,h,e3,e4,e5⟩;refine rt ?_
   replace A:=A.push e5 (ZCn (ZJh 2 (eI.tr)) ce [cg] hh) e3 e4;obtain ⟨e6,e7⟩:=Yx (A.Ix 0 rfl).1;subst e7;replace A:=A.Iz (c:=own 2 1 cg ce.length (eI.encs ce)) (λ_ h_=>h_) (λ_=>e6)
   refine done (aK (by assumption) (Zc 12 1023) (Z5 10 (by decide) (by decide) (by kernel_rfl) (by kernel_rfl) rfl (Zd (v:=.slice (some ⟨du,0,none⟩) 0 0) rfl (Zd (v:=cg) rfl (done (Z6 ?_))))))
   exact⟨rfl,_,rfl,⟨cg,ce,du,(slq rfl),(A.xM [0,3,4,5,6,7,8] rfl),h⟩⟩
  ·skip;refine Zf [.agg (ZB7 (ZB6 .u8 (B.getD am Ci))),vI 1] _ Tryz.func95 rfl rfl rfl (T2 (B.getD am Ci) 1 h _) ?_
   rintro _ i3 ⟨bs,ch,hk,rfl,h,e8,e9,fa⟩;refine rt ?_
   replace A:=A.push fa (ZCn (Y0 162) bs [ch] hk) e8 e9;obtain ⟨fb,fc⟩:=X7 (A.Ix 0 rfl);subst fc;replace A:=A.Iz (c:=own 162 9 ch bs.terms.length (ZCa.encs bs.terms)) (λ_ h_=>h_) (λ_=>fb)
   refine done (aK (by assumption) (Zc 12 382) ?_)
   refine Jp 0 7 rfl rfl (by kernel_rfl) ?_ ?_
   ·skip;refine Yd (sz:=1) A [] (eI.encs []) rfl (λ_=>U1  _) rfl (by decide) λdv i4 V A=>done (aK (by assumption) (Zc 12 383) (aO 7 rfl (Zf [.agg #[Ia,Ic],.agg #[ch]] _ ZOk rfl rfl rfl (Ml (⟨a0.degrees,a0.images⟩:Alg) bs h _ (Yf (A.Iw 1 rfl) (A.Iw 0 rfl)) (Y1 (Yu (A.Ix 1 rfl)))) ?_)))
    rintro _ i5 ⟨ci,c0,hl,rfl,h,fd,fe,ff⟩;refine rt ?_
    replace A:=A.push ff (ZCn (Y0 162) ci [c0] hl) fd fe;obtain ⟨fg,fh⟩:=X7 (A.Ix 0 rfl);subst fh;replace A:=A.Iz (c:=own 162 9 c0 ci.terms.length (ZCa.encs ci.terms)) (λ_ h_=>h_) (λ_=>fg)
    refine done (aK (by assumption) (Zc 12 511) (aO 9 rfl (Zf [.agg #[c0],ae] _ ZOc rfl rfl rfl (S2 ci U h _ (Y1 (Yu (A.Ix 0 rfl))) (Yu (A.Ix 4 rfl))) ?_)))
    rintro _ i6 ⟨cj,ck,hm,rfl,h,fi,fj,fk⟩;refine rt ?_
    replace A:=A.push fk (ZCn (ZJh 2 (eI.tr)) cj [ck] hm) fi fj;obtain ⟨fl,fo⟩:=Yx (A.Ix 0 rfl).1;subst fo;replace A:=A.Iz (c:=own 2 1 ck cj.length (eI.encs cj)) (λ_ h_=>h_) (λ_=>fl)
    refine done (aK (by assumption) (Zc 12 1023) (Z5 10 (by decide) (by decide) (by kernel_rfl) (by kernel_rfl) rfl (Zd (v:=.slice (some ⟨dv,0,none⟩) 0 0) rfl (Zd (v:=ck) rfl (done (Z6 ?_))))))
    exact⟨rfl,_,rfl,⟨ck,cj,dv,(slq rfl),(A.xM [0,2,4,5,6,7,8] rfl),h⟩⟩
   ·skip;refine Zf [.agg #[Ia,Ic],.agg #[ch]] _ ZOk rfl rfl rfl (Ml (⟨a0.degrees,a0.images⟩:Alg) bs h _ (Yf (A.Iw 1 rfl) (A.Iw 0 rfl)) (Y1 (Yu (A.Ix 0 rfl)))) ?_
    rintro _ i7 ⟨bt,cl,hn,rfl,h,fq,fr,fs⟩;refine rt ?_
    replace A:=A.push fs (ZCn (Y0 162) bt [cl] hn) fq fr;obtain ⟨ft,fu⟩:=X7 (A.Ix 0 rfl);subst fu;replace A:=A.Iz (c:=own 162 9 cl bt.terms.length (ZCa.encs bt.terms)) (λ_ h_=>h_) (λ_=>ft)
    refine done (aK (by assumption) (Zc 12 510) ?_)
    refine Jp 0 9 rfl rfl (by kernel_rfl) ?_ ?_
    ·skip;refine Yd (sz:=1) A [] (eI.encs []) rfl (λ_=>U1  _) rfl (by decide) λdw i8 V A=>done (aK (by assumption) (Zc 12 511) (aO 9 rfl (Zf [.agg #[cl],ae] _ ZOc rfl rfl rfl (S2 bt U h _ (Y1 (Yu (A.Ix 1 rfl))) (Yu (A.Ix 4 rfl))) ?_)))
     rintro _ i9 ⟨cm,cn,ho,rfl,h,fv,fw,fx⟩;refine rt ?_
     replace A:=A.push fx (ZCn (ZJh 2 (eI.tr)) cm [cn] ho) fv fw;obtain ⟨fy,fz⟩:=Yx (A.Ix 0 rfl).1;subst fz;replace A:=A.Iz (c:=own 2 1 cn cm.length (eI.encs cm)) (λ_ h_=>h_) (λ_=>fy)
     refine done (aK (by assumption) (Zc 12 1023) (Z5 10 (by decide) (by decide) (by kernel_rfl) (by kernel_rfl) rfl (Zd (v:=.slice (some ⟨dw,0,none⟩) 0 0) rfl (Zd (v:=cn) rfl (done (Z6 ?_))))))
     exact⟨rfl,_,rfl,⟨cn,cm,dw,(slq rfl),(A.xM [0,1,4,5,6,7,8] rfl),h⟩⟩
    ·skip;refine Zf [.agg #[cl],ae] _ ZOc rfl rfl rfl (S2 bt U h _ (Y1 (Yu (A.Ix 0 rfl))) (Yu (A.Ix 3 rfl))) ?_
     rintro _ ja ⟨cp,cq,hp,rfl,h,f0,f1,f2⟩;refine rt ?_
     replace A:=A.push f2 (ZCn (ZJh 2 (eI.tr)) cp [cq] hp) f0 f1;obtain ⟨f3,f4⟩:=Yx (A.Ix 0 rfl).1;subst f4;replace A:=A.Iz (c:=own 2 1 cq cp.length (eI.encs cp)) (λ_ h_=>h_) (λ_=>f3)
     refine done (aK (by assumption) (Zc 12 1022) (aO 0 rfl (Yd (sz:=1) A [] (eI.encs []) rfl (λ_=>U1  _) rfl (by decide) λdx jb V A=>done (aK (by assumption) (Zc 12 1023) (Z5 10 (by decide) (by decide) (by kernel_rfl) (by kernel_rfl) rfl (Zd (v:=.slice (some ⟨dx,0,none⟩) 0 0) rfl (Zd (v:=cq) rfl (done (Z6 ?_)))))))))
     exact⟨rfl,_,rfl,⟨cq,cp,dx,(slq rfl),(A.xM [1,0,4,5,6,7,8] rfl),h⟩⟩
 ·clear A h;rintro ab e_ jc g8 ⟨ah,av,an,A⟩ h;rw [ue an];refine ZB9 (sr (Za (v:=vI (B.length:Int)) rfl (Za (v:=O) rfl (J3 A 3 rfl ZN8 rfl (Zl rfl rfl (dn (Z4 rfl (decide_eq_false (by omega)) ?_)))))))
  refine ZCo (Zi (Zi (Zy ?_)))
  refine Ze (sr (Zd (v:=vI 0) rfl (dn (ZB9 (sr (Za (v:=ah) rfl (Qs A 0 rfl ZKd rfl (Jn rfl rfl (dn ?_)))))))))
  refine Zs rfl (λb9=>?_) (λb9=>?_)
  ·replace h:=ift h (ct b9);refine Zh (Za (v:=ah) rfl ?_)
   have h3:=J9 A 0 rfl;replace A:=A.thaw 0 rfl (ZB8 (ZFf.sl) ab [ah] av) (λh_=>ZJu _ h_.1) (λ_ aq=>aq)
   obtain ⟨⟨hr,hs⟩,h⟩:=h;obtain ⟨h4,jd,c6⟩:=Zx (A.Iw 0 rfl) 0 (show 0 < ab.length by omega)
   refine Yn (len:=ab.length) ZKd If.size (tr rfl c6) rfl hr hs ?_
   obtain ⟨dy,c7,f5,c8⟩:=Xb (A.Iw 0 rfl) c6 0 (show 0 < ab.length by omega)
   obtain ⟨dz,rfl⟩:=ZC7.1 c7;clear c7;rw [Y9 _ _ (show 0 < ab.length by omega)] at c8
   replace A:=A.I0 0 rfl (ZB8 TInts (ab.getD 0 Ci) [dz] av) (λ_=>c8) (λ_ aq=>aq)
   refine Ye (dz) f5 If rfl (Zu A 0 rfl ZCs rfl (Zd (v:=vI ((ab.getD 0 Ci).length:Int)) rfl (dn (sr (Za (v:=ah) rfl (Za (v:=vI ((ab.getD 0 Ci).length:Int)) rfl (Zf [ah,vI ((ab.getD 0 Ci).length:Int)] _ ZOo rfl rfl rfl (Zb8 ab ((ab.getD 0 Ci).length:Int) h _ (A.Iw 1 rfl)) ?_)))))))
   rintro _ je ⟨a7,bd,c9,rfl,h,f6,da,f7⟩;refine rt ?_
   have h5:=Ta A.size da;replace A:=A.pushR f7 (ZB8 (ZFf.sl) a7 [bd] c9) f6 (λb hb=>.inl (da b hb))
   refine Yd (sz:=1) A [] [] rfl (λ_=>Jl _) rfl (by decide) λbu jf V A=>?_
   replace A:=A.pushM0 (Zz (ZJh 2 (eI.tr)) ([]:List (List Int)) [] []) (Xn _ _) rfl;replace A:=A.gather (c:=ZCn (ZJh 22 (ZJh 2 (eI.tr))) [] [.slice (some ⟨bu,0,none⟩) 0 0] ((ZDa (Fe (.slice (some ⟨bu,0,none⟩) 0 0)))++([]:List (List Nat)).flatten)) (λx_ ai=>(Ch.1 ai).symm) (λaj ak al=>Xj ak aj (λb_ aq bb=>al b_ bb aq))
   refine Zd (v:=bd) rfl (Zd (v:=.slice (some ⟨bu,0,none⟩) 0 0) rfl (dn (ZB9 (sr (Zd (v:=vI 0) rfl (dn (ZCf ?_)))))))
   have f8:a7.length<=9223372036854775807:=Yz (A.Iw 0 rfl);refine Yh (S:=(List (List Int))) _ _ (λaw a8 e_ w_=>∃ (ar:Value),∃ (be:List Nat),Zt e_ [(9,O),(10,aa),(18,bd),(19,ar),(20,vI (aw:Int))]/\Ctx Nox w0 w_ [ZCn (ZJh 22 (ZJh 2 (eI.tr))) a8 [ar] be,own 136 8 aa I.length ((EA .u8).encs I),own 136 8 O B.length ((EA .u8).encs B)] [ZB8 (ZFf.sl) a7 [bd] c9,ZB8 ZCv.sl a0.images [Ic] Ib,ZB8 TInts a0.degrees [Ia] Ib,ZB8 TAlg a0 [Ia,Ic] Ib]) a7.length ?_ ?_ (s0:=[]) ?_ h
   ·clear A h;rintro aw a8 e_ jg h6 ht bh ⟨ar,be,an,A⟩ h f9;rw [ue an];refine ZB9 (sr (Za (v:=vI (aw:Int)) rfl (Za (v:=bd) rfl (Zu A 0 rfl ZKd rfl (Zl rfl rfl (dn (Z8 rfl (decide_eq_true (by omega)) (ZCd (Ze (ZB9 (ZCf (Zh (Za (v:=ar) rfl (Za (v:=bd) rfl (Za (v:=vI (aw:Int)) rfl ?_)))))))))))))))
    obtain ⟨h7,jh,db⟩:=Zx (A.Iw 0 rfl) aw bh;refine Yn (len:=a7.length) ZKd If.size (tr rfl db) rfl (ZCq _) (ZC9.2 bh) ?_
    obtain ⟨dy,dc,ga,dd⟩:=Xb (A.Iw 0 rfl) db aw bh;obtain ⟨de,rfl⟩:=ZC7.1 dc;clear dc;rw [Y9 _ _ bh] at dd
    replace A:=A.I0 0 rfl (ZB8 TInts (a7.getD aw Ci) [de] c9) (λ_=>dd) (λ_ aq=>aq)
    refine Ye (de) ga If rfl (Za (v:=O) rfl (Zf [de,O] _ ZOj rfl rfl rfl (Zb9 (a7.getD aw Ci) B h _ (A.Iw 0 rfl) (Yu (A.Ix 2 rfl))) ?_))
    rintro _ ji ⟨ax,bm,hu,rfl,h,gb,gc,gf⟩;refine rt ?_
    replace A:=A.push gf (ZCn (Y0 162) ax [bm] hu) gb gc;obtain ⟨gg,gh⟩:=X7 (A.Ix 0 rfl);subst gh;replace A:=A.Iz (c:=own 162 9 bm ax.terms.length (ZCa.encs ax.terms)) (λ_ h_=>h_) (λ_=>gg)
    refine Za (v:=aa) rfl (Zf [.agg #[bm],aa] _ ZOc rfl rfl rfl (S2 ax I h _ (Y1 (Yu (A.Ix 0 rfl))) (Yu (A.Ix 2 rfl))) ?_)
    rintro _ jj ⟨ay,ao,hv,rfl,h,gi,gj,gk⟩;refine rt ?_
    replace A:=A.push gk (ZCn (ZJh 2 (eI.tr)) ay [ao] hv) gi gj;obtain ⟨gl,gm⟩:=Yx (A.Ix 0 rfl).1;subst gm;replace A:=A.Iz (c:=own 2 1 ao ay.length (eI.encs ay)) (λ_ h_=>h_) (λ_=>gl)
    refine Yd (sz:=1) A [(0,ao)] [ao] rfl (λ_=>Wc ao (Va (A.Ix 0 rfl)) _) rfl (by decide) λbn jk V A=>?_
    replace A:=A.pushM0 (Zz (ZJh 2 (eI.tr)) [] [] []) (Xn _ _) rfl;replace A:=A.sM [2,0,1,3,4,5,6] (M':=[own 2 1 ao ay.length (eI.encs ay),Zz (ZJh 2 (eI.tr)) [] [] [],own 22 1 (.slice (some ⟨bn,0,none⟩) 1 1) 1 [ao],own 162 9 bm ax.terms.length (ZCa.encs ax.terms),ZCn (ZJh 22 (ZJh 2 (eI.tr))) a8 [ar] be,own 136 8 aa I.length ((EA .u8).encs I),own 136 8 O B.length ((EA .u8).encs B)]) (by decide) rfl
    replace A:=A.gather (c:=Zz (ZJh 2 (eI.tr)) [ay] [ao] [(ZDa (Fe ao))]) (λx_ ai=>Vf ai) (λaj ak al=>W9 (c:=[ao]) (id (Xi aj)) ak al)
    replace A:=A.sM [1,0,2,3,4,5] (M':=[own 22 1 (.slice (some ⟨bn,0,none⟩) 1 1) 1 [ao],Zz (ZJh 2 (eI.tr)) [ay] [ao] [(ZDa (Fe ao))],own 162 9 bm ax.terms.length (ZCa.encs ax.terms),ZCn (ZJh 22 (ZJh 2 (eI.tr))) a8 [ar] be,own 136 8 aa I.length ((EA .u8).encs I),own 136 8 O B.length ((EA .u8).encs B)]) (by decide) rfl
    replace A:=A.gather (c:=ZCn (ZJh 22 (ZJh 2 (eI.tr))) [ay] [.slice (some ⟨bn,0,none⟩) 1 1] ((ZDa (Fe (.slice (some ⟨bn,0,none⟩) 1 1)))++([(ZDa (Fe ao))]:List (List Nat)).flatten)) (λx_ ai=>Ch.1 ai) (λaj ak al=>Xj aj ak al)
    replace A:=A.sM [2,0,1,3,4] (M':=[ZCn (ZJh 22 (ZJh 2 (eI.tr))) a8 [ar] be,ZCn (ZJh 22 (ZJh 2 (eI.tr))) [ay] [.slice (some ⟨bn,0,none⟩) 1 1] ((ZDa (Fe (.slice (some ⟨bn,0,none⟩) 1 1)))++([(ZDa (Fe ao))]:List (List Nat)).flatten),own 162 9 bm ax.terms.length (ZCa.encs ax.terms),own 136 8 aa I.length ((EA .u8).encs I),own 136 8 O B.length ((EA .u8).encs B)]) (by decide) rfl
    obtain ⟨gn,h⟩:=h;refine W1 A ZKd J0 rfl (by decide) (by decide) rfl rfl gn λd0 hw jl A=>Zd (v:=d0) rfl (done (Zr (Ze (Zh (Za (v:=vI (aw:Int)) rfl (Zm rfl rfl (Zd (v:=vI (Zwt.wrap ((aw:Int)+1))) rfl (done ?_))))))))
    exact f9 (a8++[ay]) _ _ ⟨d0,hw,(sl ⟨rfl,rfl,rfl,rfl,(tr rfl (I1 _ (Z2 bh f8))),trivial⟩),((A.xM [0,2,3] rfl).sP [1,2,3,4] rfl)⟩ h
   ·clear A h;rintro a8 e_ jm ht ⟨ar,be,an,A⟩ h;rw [ue an];refine ZB9 (sr (Za (v:=vI (a7.length:Int)) rfl (Za (v:=bd) rfl (Zu A 0 rfl ZKd rfl (Zl rfl rfl (dn (Z4 rfl (decide_eq_false (by omega)) ?_)))))))
    refine ZCo (Zi (Zi (Zy ?_)))
    refine Ze (sr (Za (v:=ar) rfl (Zd (v:=ar) rfl (dn (ZCi ?_)))))
    exact Zj rfl (Zg rfl) ⟨a8,ar,be,rfl,h,(A.Ix 0 rfl),(J9 A 0 rfl),A.below⟩ (.inl rfl)
   ·skip;exact⟨.slice (some ⟨bu,0,none⟩) 0 0,((ZDa (Fe (.slice (some ⟨bu,0,none⟩) 0 0)))++([]:List (List Nat)).flatten),(slq rfl),((A.xM [0,2,3] rfl).sP [0,3,4,5] rfl)⟩
  ·replace h:=Zk h (cf b9);refine ZCd (Ze (sr (Za (v:=ah) rfl (Za (v:=vI 0) rfl (Zf [ah,vI 0] _ ZOo rfl rfl rfl (Zb8 ab 0 h _ (ZJu _ (A.Ix 0 rfl).1)) ?_)))))
   rintro _ jn ⟨a9,bi,dg,rfl,h,go,dh,gp⟩;refine rt ?_
   have h8:=Ta A.size dh;replace A:=A.pushR gp (ZB8 (ZFf.sl) a9 [bi] dg) go (λb hb=>.inl (dh b hb))
   refine Yd (sz:=1) A [] [] rfl (λ_=>Jl _) rfl (by decide) λbv jo V A=>?_
   replace A:=A.pushM0 (Zz (ZJh 2 (eI.tr)) ([]:List (List Int)) [] []) (Xn _ _) rfl;replace A:=A.gather (c:=ZCn (ZJh 22 (ZJh 2 (eI.tr))) [] [.slice (some ⟨bv,0,none⟩) 0 0] ((ZDa (Fe (.slice (some ⟨bv,0,none⟩) 0 0)))++([]:List (List Nat)).flatten)) (λx_ ai=>(Ch.1 ai).symm) (λaj ak al=>Xj ak aj (λb_ aq bb=>al b_ bb aq))
   refine Zd (v:=bi) rfl (Zd (v:=.slice (some ⟨bv,0,none⟩) 0 0) rfl (dn (ZB9 (sr (Zd (v:=vI 0) rfl (dn (ZCf ?_)))))))
   have gq:a9.length<=9223372036854775807:=Yz (A.Iw 0 rfl);refine Yh (S:=(List (List Int))) _ _ (λaz ba e_ w_=>∃ (au:Value),∃ (bj:List Nat),Zt e_ [(9,O),(10,aa),(18,bi),(19,au),(20,vI (az:Int))]/\Ctx Nox w0 w_ [ZCn (ZJh 22 (ZJh 2 (eI.tr))) ba [au] bj,own 136 8 aa I.length ((EA .u8).encs I),own 136 8 O B.length ((EA .u8).encs B)] [ZB8 (ZFf.sl) a9 [bi] dg,ZB8 ZCv.sl a0.images [Ic] Ib,ZB8 TInts a0.degrees [Ia] Ib,ZB8 TAlg a0 [Ia,Ic] Ib]) a9.length ?_ ?_ (s0:=[]) ?_ h
   ·clear A h;rintro az ba e_ jp h9 hx bk ⟨au,bj,an,A⟩ h gr;rw [ue an];refine ZB9 (sr (Za (v:=vI (az:Int)) rfl (Za (v:=bi) rfl (Zu A 0 rfl ZKd rfl (Zl rfl rfl (dn (Z8 rfl (decide_eq_true (by omega)) (ZCd (Ze (ZB9 (ZCf (Zh (Za (v:=au) rfl (Za (v:=bi) rfl (Za (v:=vI (az:Int)) rfl ?_)))))))))))))))
    obtain ⟨ia,jq,di⟩:=Zx (A.Iw 0 rfl) az bk;refine Yn (len:=a9.length) ZKd If.size (tr rfl di) rfl (ZCq _) (ZC9.2 bk) ?_
    obtain ⟨dy,dj,gs,dk⟩:=Xb (A.Iw 0 rfl) di az bk;obtain ⟨dm,rfl⟩:=ZC7.1 dj;clear dj;rw [Y9 _ _ bk] at dk
    replace A:=A.I0 0 rfl (ZB8 TInts (a9.getD az Ci) [dm] dg) (λ_=>dk) (λ_ aq=>aq)
    refine Ye (dm) gs If rfl (Za (v:=O) rfl (Zf [dm,O] _ ZOj rfl rfl rfl (Zb9 (a9.getD az Ci) B h _ (A.Iw 0 rfl) (Yu (A.Ix 2 rfl))) ?_))
    rintro _ jr ⟨a4,bo,hy,rfl,h,gu,gv,gw⟩;refine rt ?_
    replace A:=A.push gw (ZCn (Y0 162) a4 [bo] hy) gu gv;obtain ⟨gx,gy⟩:=X7 (A.Ix 0 rfl);subst gy;replace A:=A.Iz (c:=own 162 9 bo a4.terms.length (ZCa.encs a4.terms)) (λ_ h_=>h_) (λ_=>gx)
    refine Za (v:=aa) rfl (Zf [.agg #[bo],aa] _ ZOc rfl rfl rfl (S2 a4 I h _ (Y1 (Yu (A.Ix 0 rfl))) (Yu (A.Ix 2 rfl))) ?_)
    rintro _ js ⟨a5,ap,hz,rfl,h,gz,g0,g1⟩;refine rt ?_
    replace A:=A.push g1 (ZCn (ZJh 2 (eI.tr)) a5 [ap] hz) gz g0;obtain ⟨g2,g3⟩:=Yx (A.Ix 0 rfl).1;subst g3;replace A:=A.Iz (c:=own 2 1 ap a5.length (eI.encs a5)) (λ_ h_=>h_) (λ_=>g2)
    refine Yd (sz:=1) A [(0,ap)] [ap] rfl (λ_=>Wc ap (Va (A.Ix 0 rfl)) _) rfl (by decide) λbp ju V A=>?_
    replace A:=A.pushM0 (Zz (ZJh 2 (eI.tr)) [] [] []) (Xn _ _) rfl;replace A:=A.sM [2,0,1,3,4,5,6] (M':=[own 2 1 ap a5.length (eI.encs a5),Zz (ZJh 2 (eI.tr)) [] [] [],own 22 1 (.slice (some ⟨bp,0,none⟩) 1 1) 1 [ap],own 162 9 bo a4.terms.length (ZCa.encs a4.terms),ZCn (ZJh 22 (ZJh 2 (eI.tr))) ba [au] bj,own 136 8 aa I.length ((EA .u8).encs I),own 136 8 O B.length ((EA .u8).encs B)]) (by decide) rfl
    replace A:=A.gather (c:=Zz (ZJh 2 (eI.tr)) [a5] [ap] [(ZDa (Fe ap))]) (λx_ ai=>Vf ai) (λaj ak al=>W9 (c:=[ap]) (id (Xi aj)) ak al)
    replace A:=A.sM [1,0,2,3,4,5] (M':=[own 22 1 (.slice (some ⟨bp,0,none⟩) 1 1) 1 [ap],Zz (ZJh 2 (eI.tr)) [a5] [ap] [(ZDa (Fe ap))],own 162 9 bo a4.terms.length (ZCa.encs a4.terms),ZCn (ZJh 22 (ZJh 2 (eI.tr))) ba [au] bj,own 136 8 aa I.length ((EA .u8).encs I),own 136 8 O B.length ((EA .u8).encs B)]) (by decide) rfl
    replace A:=A.gather (c:=ZCn (ZJh 22 (ZJh 2 (eI.tr))) [a5] [.slice (some ⟨bp,0,none⟩) 1 1] ((ZDa (Fe (.slice (some ⟨bp,0,none⟩) 1 1)))++([(ZDa (Fe ap))]:List (List Nat)).flatten)) (λx_ ai=>Ch.1 ai) (λaj ak al=>Xj aj ak al)
    replace A:=A.sM [2,0,1,3,4] (M':=[ZCn (ZJh 22 (ZJh 2 (eI.tr))) ba [au] bj,ZCn (ZJh 22 (ZJh 2 (eI.tr))) [a5] [.slice (some ⟨bp,0,none⟩) 1 1] ((ZDa (Fe (.slice (some ⟨bp,0,none⟩) 1 1)))++([(ZDa (Fe ap))]:List (List Nat)).flatten),own 162 9 bo a4.terms.length (ZCa.encs a4.terms),own 136 8 aa I.length ((EA .u8).encs I),own 136 8 O B.length ((EA .u8).encs B)]) (by decide) rfl
    obtain ⟨g4,h⟩:=h;refine W1 A ZKd J0 rfl (by decide) (by decide) rfl rfl g4 λd1 h0 jv A=>Zd (v:=d1) rfl (done (Zr (Ze (Zh (Za (v:=vI (az:Int)) rfl (Zm rfl rfl (Zd (v:=vI (Zwt.wrap ((az:Int)+1))) rfl (done ?_))))))))
    exact gr (ba++[a5]) _ _ ⟨d1,h0,(sl ⟨rfl,rfl,rfl,rfl,(tr rfl (I1 _ (Z2 bk gq))),trivial⟩),((A.xM [0,2,3] rfl).sP [1,2,3,4] rfl)⟩ h
   ·clear A h;rintro ba e_ jw hx ⟨au,bj,an,A⟩ h;rw [ue an];refine ZB9 (sr (Za (v:=vI (a9.length:Int)) rfl (Za (v:=bi) rfl (Zu A 0 rfl ZKd rfl (Zl rfl rfl (dn (Z4 rfl (decide_eq_false (by omega)) ?_)))))))
    refine ZCo (Zi (Zi (Zy ?_)))
    refine Ze (sr (Za (v:=au) rfl (Zd (v:=au) rfl (dn (ZCi ?_)))))
    exact Zj rfl (Zg rfl) ⟨ba,au,bj,rfl,h,(A.Ix 0 rfl),(J9 A 0 rfl),A.below⟩ (.inl rfl)
   ·skip;exact⟨.slice (some ⟨bv,0,none⟩) 0 0,((ZDa (Fe (.slice (some ⟨bv,0,none⟩) 0 0)))++([]:List (List Nat)).flatten),(slq rfl),(A.xM [0,3,4] rfl)⟩
 ·skip;exact⟨.slice (some ⟨br,0,none⟩) 0 0,((ZDa (Fe (.slice (some ⟨br,0,none⟩) 0 0)))++([]:List (List Nat)).flatten),(slq rfl),A⟩
def Hs (B:Alg) (a1:List (List Int)) (I:Int) (K:List (List Int)->Prop):Prop :=
 Uj B 0 I (λL=>Uj B 0 (Zwt.wrap (I+1)) (λO=>Z1 (λU (h:(List (List Int))) A=>Tl (a1.getD U Ci) L (λV=>Uy (⟨B.degrees,B.images⟩:Alg) V (λaa=>Vu aa O (λab=>(Zw (h.length+1) 24/\A (h++[ab])))))) (λ(h:(List (List Int)))=>K h) a1.length 0 []))
theorem Zp7 (a0:Alg) (a1:List (List Int)) (a2:Int)  {K:List (List Int)->Prop} (h:Hs a0 a1 a2 K) (w0:World) (q0:TAlg.rep a0 [Ia,Ic] Ib w0) (q1:(ZFf.sl).rep a1 [Ie] Ig w0) :
  Calls ZCc 111 #[.agg #[Ia,Ic],Ie,vI a2] w0 λe w'=>∃ (r0:List (List Int)) (Ih:Value) (bm:List Nat),
   e=.returned (Ih)/\K r0/\(ZCn (ZJh 22 (ZJh 2 (eI.tr))) r0 [Ih] bm).holds w'/\(∀ b,b∈bm->w0.heap.size<=b)/\Bel w0 w':=by
 unfold Hs at h
 refine cof Tryz.func111 rfl 39 Tryz.ntmps111 ?_
 have A:=ZCu (X:=Nox) w0 [ZB8 TAlg a0 [Ia,Ic] Ib,ZB8 (ZFf.sl) a1 [Ie] Ig] (alc q0 (al1 q1));replace A:=A.dAlg 0 rfl;refine sr (Yg (v:=.agg #[Ia,Ic]) A [Ia,Ic] rfl rfl λb5 w7 B A=>Zd (v:=.slice none 0 0) rfl (dn (ZB9 ?_)))
 refine cwd 10 Ym [0,0,3,0,0,16,63,0,127,383,1023] [0,3] [1,4,5,8,9] (λhM9 aa w8 B=>?_)
 replace A:=A.Iy B;refine bL 0 (.agg #[Ia,Ic]) rfl rfl hM9 (λ_ B=>by exact Y6 (A.Iy B) 0 [Ia,Ic] rfl ag32 rfl rfl rfl) (Zc 11 1) (bM 1 (vI a2) rfl aa (Zc 11 3) (bL 3 (.agg #[Ia,Ic]) rfl rfl hM9 (λ_ B=>by exact Y6 (A.Iy B) 0 [Ia,Ic] rfl ag32 rfl rfl rfl) (Zc 11 11) (bM 4 (vI a2) rfl aa (Zc 11 27) (bF 5 (vI (Zwt.wrap (a2+1))) rfl rfl aa (λ_=>by exact Vn rfl rfl) (Zc 11 59) ?_))))
 refine U8 (λe_ w_=>∃ (ar:Nat),∃ (ag:Value),∃ (L:List A8),∃ (ah:Value),∃ (O:List A8),Zt e_ [(1,Ie),(3,vQ b5),(7,ah),(8,ag),(9,.slice (some ⟨ar,0,none⟩) 0 0)]/\Ctx Nox w0 w_ [ZCn (ZJh 22 (ZJh 2 (eI.tr))) [] [.slice (some ⟨ar,0,none⟩) 0 0] ((ZDa (Fe (.slice (some ⟨ar,0,none⟩) 0 0)))++([]:List (List Nat)).flatten),own 136 8 ag L.length ((EA .u8).encs L),own 136 8 ah O.length ((EA .u8).encs O),blk b5 32 [Ia,Ic]] [ZB8 ZCv.sl a0.images [Ic] Ib,ZB8 TInts a0.degrees [Ia] Ib,ZB8 TAlg a0 [Ia,Ic] Ib,ZB8 (ZFf.sl) a1 [Ie] Ig]/\(Z1 (λU (V:(List (List Int))) bi=>Tl (a1.getD U Ci) O (λab=>Uy (⟨a0.degrees,a0.images⟩:Alg) ab (λac=>Vu ac L (λad=>(Zw (V.length+1) 24/\bi (V++[ad])))))) (λ(V:(List (List Int)))=>K V) a1.length 0 [])) ?_ ?_
 ·clear A h;rintro e_ dv ⟨ar,ag,L,ah,O,ay,A,h⟩;rw [ue ay];refine Ze (ZB9 (sr (Zd (v:=vI 0) rfl (dn (ZCf ?_)))))
  have bo:a1.length<=9223372036854775807:=Yz (A.Iw 3 rfl);refine Yh (S:=(List (List Int))) _ _ (λU V e_ w_=>∃ (ae:Value),∃ (am:List Nat),Zt e_ [(1,Ie),(3,vQ b5),(7,ah),(8,ag),(9,ae),(10,vI (U:Int))]/\Ctx Nox w0 w_ [ZCn (ZJh 22 (ZJh 2 (eI.tr))) V [ae] am,own 136 8 ag L.length ((EA .u8).encs L),own 136 8 ah O.length ((EA .u8).encs O),blk b5 32 [Ia,Ic]] [ZB8 ZCv.sl a0.images [Ic] Ib,ZB8 TInts a0.degrees [Ia] Ib,ZB8 TAlg a0 [Ia,Ic] Ib,ZB8 (ZFf.sl) a1 [Ie] Ig]) a1.length ?_ ?_ (s0:=[]) ?_ h
  ·clear A h;rintro U V e_ dw bi dh an ⟨ae,am,ay,A⟩ h bp;rw [ue ay];refine ZB9 (sr (Za (v:=vI (U:Int)) rfl (Za (v:=Ie) rfl (Zu A 3 rfl ZKd rfl (Zl rfl rfl (dn (Z8 rfl (decide_eq_true (by omega)) (ZCd (Ze (ZB9 (ZCf ?_)))))))))))
   refine cwd 12 Ym [0,0,0,0,12,28,0,124,254,0,1022,2046,4095,8191] [1,4,5] [0,2,3,6,9] (λa3 ao dx B=>?_)
   replace A:=A.Iy B;refine bM 0 (ae) rfl ao (Zc 14 1) (bL 1 (.agg #[Ia,Ic]) rfl rfl a3 (λ_ B=>by exact Y6 (A.Iy B) 3 [Ia,Ic] rfl ag32 rfl rfl rfl) (Zc 14 3) (bM 2 (Ie) rfl ao (Zc 14 7) (bM 3 (vI (U:Int)) rfl ao (Zc 14 15) ?_)))
   obtain ⟨bq,dy,bj⟩:=Zx (A.Iw 3 rfl) U an;refine bL 4 (.pointer (some (bq.add (U * 1)))) rfl rfl a3 (λ_ B=>by exact Y3 (len:=a1.length) ZKd If.size (by exact tr rfl bj) rfl (ZCq _) (ZC9.2 an)) (Zc 14 31) ?_
   obtain ⟨dz,bk,br,bl⟩:=Xb (A.Iw 3 rfl) bj U an;obtain ⟨a4,rfl⟩:=ZC7.1 bk;clear bk;rw [Y9 _ _ an] at bl
   replace A:=A.I0 3 rfl (ZB8 TInts (a1.getD U Ci) [a4] Ig) (λ_=>bl) (λ_ ap=>ap)
   refine bL 5 (a4) rfl rfl a3 (λ_ B=>by exact Xp (a4) (Vd B br) If rfl) (Zc 14 63) (bM 6 (ah) rfl ao (Zc 14 127) (bM 9 (ag) rfl ao (Zc 14 639) (aO 7 rfl (Zf [a4,ah] _ ZOj rfl rfl rfl (Zb9 (a1.getD U Ci) O h _ (A.Iw 0 rfl) (Yu (A.Ix 2 rfl))) ?_))))
   rintro _ d0 ⟨ab,au,di,rfl,h,bs,bt,bu⟩;refine rt ?_
   replace A:=A.push bu (ZCn (Y0 162) ab [au] di) bs bt;obtain ⟨bv,bw⟩:=X7 (A.Ix 0 rfl);subst bw;replace A:=A.Iz (c:=own 162 9 au ab.terms.length (ZCa.encs ab.terms)) (λ_ h_=>h_) (λ_=>bv)
   refine done (aK (by assumption) (Zc 14 767) (aO 8 rfl (Zf [.agg #[Ia,Ic],.agg #[au]] _ ZOk rfl rfl rfl (Ml (⟨a0.degrees,a0.images⟩:Alg) ab h _ (Yf (A.Iw 2 rfl) (A.Iw 1 rfl)) (Y1 (Yu (A.Ix 0 rfl)))) ?_)))
   rintro _ d1 ⟨ac,av,dj,rfl,h,bx,bz,b8⟩;refine rt ?_
   replace A:=A.push b8 (ZCn (Y0 162) ac [av] dj) bx bz;obtain ⟨b9,ca⟩:=X7 (A.Ix 0 rfl);subst ca;replace A:=A.Iz (c:=own 162 9 av ac.terms.length (ZCa.encs ac.terms)) (λ_ h_=>h_) (λ_=>b9)
   refine done (aK (by assumption) (Zc 14 1023) (aO 10 rfl (Zf [.agg #[av],ag] _ ZOc rfl rfl rfl (S2 ac L h _ (Y1 (Yu (A.Ix 0 rfl))) (Yu (A.Ix 3 rfl))) ?_)))
   rintro _ d2 ⟨ad,I,dk,rfl,h,cb,cc,ce⟩;refine rt ?_
   replace A:=A.push ce (ZCn (ZJh 2 (eI.tr)) ad [I] dk) cb cc;obtain ⟨cg,ch⟩:=Yx (A.Ix 0 rfl).1;subst ch;replace A:=A.Iz (c:=own 2 1 I ad.length (eI.encs ad)) (λ_ h_=>h_) (λ_=>cg)
   refine done (aK (by assumption) (Zc 14 2047) (aO 11 rfl (Yd (sz:=1) A [(0,I)] [I] rfl (λ_=>Wc I (Va (A.Ix 0 rfl)) _) rfl (by decide) λaw d3 B A=>?_)))
   replace A:=A.pushM0 (Zz (ZJh 2 (eI.tr)) [] [] []) (Xn _ _) rfl;replace A:=A.sM [2,0,1,3,4,5,6,7,8] (M':=[own 2 1 I ad.length (eI.encs ad),Zz (ZJh 2 (eI.tr)) [] [] [],own 22 1 (.slice (some ⟨aw,0,none⟩) 1 1) 1 [I],own 162 9 av ac.terms.length (ZCa.encs ac.terms),own 162 9 au ab.terms.length (ZCa.encs ab.terms),ZCn (ZJh 22 (ZJh 2 (eI.tr))) V [ae] am,own 136 8 ag L.length ((EA .u8).encs L),own 136 8 ah O.length ((EA .u8).encs O),blk b5 32 [Ia,Ic]]) (by decide) rfl
   replace A:=A.gather (c:=Zz (ZJh 2 (eI.tr)) [ad] [I] [(ZDa (Fe I))]) (λx_ ai=>Vf ai) (λaj ak al=>W9 (c:=[I]) (id (Xi aj)) ak al)
   replace A:=A.sM [1,0,2,3,4,5,6,7] (M':=[own 22 1 (.slice (some ⟨aw,0,none⟩) 1 1) 1 [I],Zz (ZJh 2 (eI.tr)) [ad] [I] [(ZDa (Fe I))],own 162 9 av ac.terms.length (ZCa.encs ac.terms),own 162 9 au ab.terms.length (ZCa.encs ab.terms),ZCn (ZJh 22 (ZJh 2 (eI.tr))) V [ae] am,own 136 8 ag L.length ((EA .u8).encs L),own 136 8 ah O.length ((EA .u8).encs O),blk b5 32 [Ia,Ic]]) (by decide) rfl
   replace A:=A.gather (c:=ZCn (ZJh 22 (ZJh 2 (eI.tr))) [ad] [.slice (some ⟨aw,0,none⟩) 1 1] ((ZDa (Fe (.slice (some ⟨aw,0,none⟩) 1 1)))++([(ZDa (Fe I))]:List (List Nat)).flatten)) (λx_ ai=>Ch.1 ai) (λaj ak al=>Xj aj ak al)
   refine done (aK (by assumption) (Zc 14 4095) (Z5 12 (by decide) (by decide) (by kernel_rfl) (by kernel_rfl) rfl ?_))
   replace A:=A.sM [3,0,1,2,4,5,6] (M':=[ZCn (ZJh 22 (ZJh 2 (eI.tr))) V [ae] am,ZCn (ZJh 22 (ZJh 2 (eI.tr))) [ad] [.slice (some ⟨aw,0,none⟩) 1 1] ((ZDa (Fe (.slice (some ⟨aw,0,none⟩) 1 1)))++([(ZDa (Fe I))]:List (List Nat)).flatten),own 162 9 av ac.terms.length (ZCa.encs ac.terms),own 162 9 au ab.terms.length (ZCa.encs ab.terms),own 136 8 ag L.length ((EA .u8).encs L),own 136 8 ah O.length ((EA .u8).encs O),blk b5 32 [Ia,Ic]]) (by decide) rfl
   obtain ⟨ci,h⟩:=h;refine W1 A ZKd J0 rfl (by decide) (by decide) rfl rfl ci λbn dm d4 A=>Zd (v:=bn) rfl (done (Z6 (Zr (Ze (Zh (Za (v:=vI (U:Int)) rfl (Zm rfl rfl (Zd (v:=vI (Zwt.wrap ((U:Int)+1))) rfl (done ?_)))))))))
   exact bp (V++[ad]) _ _ ⟨bn,dm,(sl ⟨rfl,rfl,rfl,rfl,rfl,(tr rfl (I1 _ (Z2 an bo))),trivial⟩),((A.xM [0,3,4,5] rfl).sP [1,2,3,4] rfl)⟩ h
  ·clear A h;rintro V e_ d5 dh ⟨ae,am,ay,A⟩ h;rw [ue ay];refine ZB9 (sr (Za (v:=vI (a1.length:Int)) rfl (Za (v:=Ie) rfl (Zu A 3 rfl ZKd rfl (Zl rfl rfl (dn (Z4 rfl (decide_eq_false (by omega)) ?_)))))))
   refine ZCo (Zi (Zi (Zy ?_)))
   refine Ze (sr (Za (v:=ae) rfl (Zd (v:=ae) rfl (dn (ZCi ?_)))))
   exact Zj rfl (Zg rfl) ⟨V,ae,am,rfl,h,(A.Ix 0 rfl),(J9 A 0 rfl),A.below⟩ (.inl rfl)
  ·skip;exact⟨.slice (some ⟨ar,0,none⟩) 0 0,((ZDa (Fe (.slice (some ⟨ar,0,none⟩) 0 0)))++([]:List (List Nat)).flatten),(slq rfl),A⟩
 refine Jp 2 7 rfl rfl (by kernel_rfl) ?_ ?_
 ·skip;refine Zf [.agg #[Ia,Ic],vI 0,vI a2] _ ZN9 rfl rfl rfl (U2 a0 0 a2 h _ (Yf (A.Iw 1 rfl) (A.Iw 0 rfl))) ?_
  rintro _ d6 ⟨az,ax,dp,rfl,h,cj,ck,cl⟩;refine rt ?_
  replace A:=A.push cl (ZCn (ZJh 136 ((EA .u8).tr)) az [ax] dp) cj ck;obtain ⟨cm,cn⟩:=Yx (A.Ix 0 rfl).1;subst cn;replace A:=A.Iz (c:=own 136 8 ax az.length ((EA .u8).encs az)) (λ_ h_=>h_) (λ_=>cm)
  refine done (aK (by assumption) (Zc 11 63) ?_)
  refine Jp 6 7 rfl rfl (by kernel_rfl) ?_ ?_
  ·skip;refine Zf [.agg #[Ia,Ic],vI 0,vI (Zwt.wrap (a2+1))] _ ZN9 rfl rfl rfl (U2 a0 0 (Zwt.wrap (a2+1)) h _ (Yf (A.Iw 1 rfl) (A.Iw 0 rfl))) ?_
   rintro _ d7 ⟨a5,a6,dq,rfl,h,cp,cq,cr⟩;refine rt ?_
   replace A:=A.push cr (ZCn (ZJh 136 ((EA .u8).tr)) a5 [a6] dq) cp cq;obtain ⟨cu,cv⟩:=Yx (A.Ix 0 rfl).1;subst cv;replace A:=A.Iz (c:=own 136 8 a6 a5.length ((EA .u8).encs a5)) (λ_ h_=>h_) (λ_=>cu)
   refine done (aK (by assumption) (Zc 11 127) (bA 8 (ax) rfl aa (Zc 11 383) (bA 9 (a6) rfl aa (Zc 11 895) (aO 7 rfl (Yd (sz:=1) A [] [] rfl (λ_=>Jl _) rfl (by decide) λa7 d8 B A=>?_)))))
   replace A:=A.pushM0 (Zz (ZJh 2 (eI.tr)) ([]:List (List Int)) [] []) (Xn _ _) rfl;replace A:=A.gather (c:=ZCn (ZJh 22 (ZJh 2 (eI.tr))) [] [.slice (some ⟨a7,0,none⟩) 0 0] ((ZDa (Fe (.slice (some ⟨a7,0,none⟩) 0 0)))++([]:List (List Nat)).flatten)) (λx_ ai=>(Ch.1 ai).symm) (λaj ak al=>Xj ak aj (λb_ ap aq=>al b_ aq ap))
   refine done (aK (by assumption) (Zc 11 1023) (Z5 10 (by decide) (by decide) (by kernel_rfl) (by kernel_rfl) rfl (Zd (v:=.slice (some ⟨a7,0,none⟩) 0 0) rfl (done (Z6 ?_)))))
   exact⟨rfl,_,rfl,⟨a7,a6,a5,ax,az,(slq rfl),A,h⟩⟩
  ·skip;refine Yd (sz:=1) A [] [] rfl (λ_=>Jl _) rfl (by decide) λa8 d9 B A=>?_
   replace A:=A.pushM0 (Zz (ZJh 2 (eI.tr)) ([]:List (List Int)) [] []) (Xn _ _) rfl;replace A:=A.gather (c:=ZCn (ZJh 22 (ZJh 2 (eI.tr))) [] [.slice (some ⟨a8,0,none⟩) 0 0] ((ZDa (Fe (.slice (some ⟨a8,0,none⟩) 0 0)))++([]:List (List Nat)).flatten)) (λx_ ai=>(Ch.1 ai).symm) (λaj ak al=>Xj ak aj (λb_ ap aq=>al b_ aq ap))
   refine done (aK (by assumption) (Zc 11 191) (aO 6 rfl (Zf [.agg #[Ia,Ic],vI 0,vI (Zwt.wrap (a2+1))] _ ZN9 rfl rfl rfl (U2 a0 0 (Zwt.wrap (a2+1)) h _ (Yf (A.Iw 1 rfl) (A.Iw 0 rfl))) ?_)))
   rintro _ ea ⟨a9,ba,dr,rfl,h,cw,cx,cy⟩;refine rt ?_
   replace A:=A.push cy (ZCn (ZJh 136 ((EA .u8).tr)) a9 [ba] dr) cw cx;obtain ⟨cz,c0⟩:=Yx (A.Ix 0 rfl).1;subst c0;replace A:=A.Iz (c:=own 136 8 ba a9.length ((EA .u8).encs a9)) (λ_ h_=>h_) (λ_=>cz)
   refine done (aK (by assumption) (Zc 11 255) (bA 8 (ax) rfl aa (Zc 11 511) (bA 9 (ba) rfl aa (Zc 11 1023) (Z5 10 (by decide) (by decide) (by kernel_rfl) (by kernel_rfl) rfl (Zd (v:=.slice (some ⟨a8,0,none⟩) 0 0) rfl (done (Z6 ?_)))))))
   exact⟨rfl,_,rfl,⟨a8,ba,a9,ax,az,(slq rfl),(A.xM [1,0,2,3] rfl),h⟩⟩
 ·skip;refine Yd (sz:=1) A [] [] rfl (λ_=>Jl _) rfl (by decide) λbb eb B A=>?_
  replace A:=A.pushM0 (Zz (ZJh 2 (eI.tr)) ([]:List (List Int)) [] []) (Xn _ _) rfl;replace A:=A.gather (c:=ZCn (ZJh 22 (ZJh 2 (eI.tr))) [] [.slice (some ⟨bb,0,none⟩) 0 0] ((ZDa (Fe (.slice (some ⟨bb,0,none⟩) 0 0)))++([]:List (List Nat)).flatten)) (λx_ ai=>(Ch.1 ai).symm) (λaj ak al=>Xj ak aj (λb_ ap aq=>al b_ aq ap))
  refine done (aK (by assumption) (Zc 11 187) (aO 2 rfl (Zf [.agg #[Ia,Ic],vI 0,vI a2] _ ZN9 rfl rfl rfl (U2 a0 0 a2 h _ (Yf (A.Iw 1 rfl) (A.Iw 0 rfl))) ?_)))
  rintro _ ec ⟨bc,bd,dt,rfl,h,c6,c7,c8⟩;refine rt ?_
  replace A:=A.push c8 (ZCn (ZJh 136 ((EA .u8).tr)) bc [bd] dt) c6 c7;obtain ⟨c9,da⟩:=Yx (A.Ix 0 rfl).1;subst da;replace A:=A.Iz (c:=own 136 8 bd bc.length ((EA .u8).encs bc)) (λ_ h_=>h_) (λ_=>c9)
  refine done (aK (by assumption) (Zc 11 191) (aO 6 rfl (Zf [.agg #[Ia,Ic],vI 0,vI (Zwt.wrap (a2+1))] _ ZN9 rfl rfl rfl (U2 a0 0 (Zwt.wrap (a2+1)) h _ (Yf (A.Iw 1 rfl) (A.Iw 0 rfl))) ?_)))
  rintro _ ed ⟨be,bh,du,rfl,h,db,dc,dd⟩;refine rt ?_
  replace A:=A.push dd (ZCn (ZJh 136 ((EA .u8).tr)) be [bh] du) db dc;obtain ⟨de,dg⟩:=Yx (A.Ix 0 rfl).1;subst dg;replace A:=A.Iz (c:=own 136 8 bh be.length ((EA .u8).encs be)) (λ_ h_=>h_) (λ_=>de)
  refine done (aK (by assumption) (Zc 11 255) (bA 8 (bd) rfl aa (Zc 11 511) (bA 9 (bh) rfl aa (Zc 11 1023) (Z5 10 (by decide) (by decide) (by kernel_rfl) (by kernel_rfl) rfl (Zd (v:=.slice (some ⟨bb,0,none⟩) 0 0) rfl (done (Z6 ?_)))))))
  exact⟨rfl,_,rfl,⟨bb,bh,be,bd,bc,(slq rfl),(A.xM [2,0,1,3] rfl),h⟩⟩
def Ht (A:Alg) (B:Int) (I:Int) (h:Int) (K:Int->Prop):Prop :=
 (if B=0 then Uj A I h (λU=>Uj A (Zwt.wrap (I+1)) h (λV=>K (Zwt.wrap ((U.length:Int) - (V.length:Int))))) else Sd A (Zwt.wrap (B - 1)) (Zwt.wrap (I+1)) h (λL=>(if h > 0 then Sd A (Zwt.wrap (B - 1)) (Zwt.wrap ((Zwt.wrap (I - B))+1)) (Zwt.wrap (h - 1)) (λaa=>Hs A aa (Zwt.wrap (h - 1)) (λO=>(Zw (L.length+O.length) 24/\Sd A B I h (λab=>V5 ab (λac=>V5 (L++O) (λad=>K (Zwt.wrap ((ac.length:Int) - (ad.length:Int))))))))) else Sd A B I h (λae=>V5 ae (λag=>V5 L (λah=>K (Zwt.wrap ((ag.length:Int) - (ah.length:Int)))))))))
theorem Zp8 (a0:Alg) (U:Int) (L:Int) (B:Int)  {K:Int->Prop} (h:Ht a0 U L B K) (w0:World) (q0:TAlg.rep a0 [Ia,Ic] Ib w0) :
  Calls ZCc 61 #[.agg #[Ia,Ic],vI U,vI L,vI B] w0 λe w'=>∃ (r0:Int),
   e=.returned (vI r0)/\K r0/\Bel w0 w':=by
 unfold Ht at h
 refine cof Tryz.func61 rfl 60 Tryz.ntmps61 ?_
 have A:=ZCu (X:=Nox) w0 [ZB8 TAlg a0 [Ia,Ic] Ib] (al1 q0);replace A:=A.dAlg 0 rfl;refine sr (Yg (v:=.agg #[Ia,Ic]) A [Ia,Ic] rfl rfl λb4 w6 I A=>Zd (v:=vI 0) rfl (dn (ZB9 (sr (Za (v:=vI U) rfl (X6 rfl rfl (dn ?_)))))))
 refine Zs rfl (λak=>?_) (λak=>?_)
 ·replace h:=ift h (ct ak);refine ZB9 ?_
  refine cwd 11 Ym [0,0,0,7,15,0,0,64,0,495,1007,2047,4095] [0,4,5,10] [1,2,6,7,8] (λhM9 aa w8 I=>?_)
  replace A:=A.Iy I;refine bL 0 (.agg #[Ia,Ic]) rfl rfl hM9 (λ_ I=>by exact Y6 (A.Iy I) 0 [Ia,Ic] rfl ag32 rfl rfl rfl) (Zc 13 1) (bM 1 (vI L) rfl aa (Zc 13 3) (bM 2 (vI B) rfl aa (Zc 13 7) (bL 5 (.agg #[Ia,Ic]) rfl rfl hM9 (λ_ I=>by exact Y6 (A.Iy I) 0 [Ia,Ic] rfl ag32 rfl rfl rfl) (Zc 13 39) (bM 6 (vI L) rfl aa (Zc 13 103) (bF 7 (vI (Zwt.wrap (L+1))) rfl rfl aa (λ_=>by exact Vn rfl rfl) (Zc 13 231) (bM 8 (vI B) rfl aa (Zc 13 487) (aO 3 rfl (Zf [.agg #[Ia,Ic],vI L,vI B] _ ZN9 rfl rfl rfl (U2 a0 L B h _ (Yf (A.Iw 1 rfl) (A.Iw 0 rfl))) ?_))))))))
  rintro _ dh ⟨ad,a7,c0,rfl,h,bk,bl,bm⟩;refine rt ?_
  replace A:=A.push bm (ZCn (ZJh 136 ((EA .u8).tr)) ad [a7] c0) bk bl;obtain ⟨bn,bo⟩:=Yx (A.Ix 0 rfl).1;subst bo;replace A:=A.Iz (c:=own 136 8 a7 ad.length ((EA .u8).encs ad)) (λ_ V=>V) (λ_=>bn)
  refine done (aK (by assumption) (Zc 13 495) (bL 4 (vI (ad.length:Int)) rfl rfl hM9 (λ_ I=>by exact Er (A.Iy I) 0 rfl ZN8 rfl) (Zc 13 511) (aO 9 rfl (Zf [.agg #[Ia,Ic],vI (Zwt.wrap (L+1)),vI B] _ ZN9 rfl rfl rfl (U2 a0 (Zwt.wrap (L+1)) B h _ (Yf (A.Iw 1 rfl) (A.Iw 0 rfl))) ?_))))
  rintro _ di ⟨ae,a8,c6,rfl,h,bp,bq,br⟩;refine rt ?_
  replace A:=A.push br (ZCn (ZJh 136 ((EA .u8).tr)) ae [a8] c6) bp bq;obtain ⟨bs,bt⟩:=Yx (A.Ix 0 rfl).1;subst bt;replace A:=A.Iz (c:=own 136 8 a8 ae.length ((EA .u8).encs ae)) (λ_ V=>V) (λ_=>bs)
  refine done (aK (by assumption) (Zc 13 1023) (bL 10 (vI (ae.length:Int)) rfl rfl hM9 (λ_ I=>by exact Er (A.Iy I) 0 rfl ZN8 rfl) (Zc 13 2047) (Z5 11 (by decide) (by decide) (by kernel_rfl) (by kernel_rfl) rfl (X5 rfl rfl (Zd (v:=vI (Zwt.wrap ((ad.length:Int) - (ae.length:Int)))) rfl (done (Z6 (Ze ?_))))))))
  refine ZCi (Zn ?_)
  exact Zj rfl (Zg rfl) ⟨Zwt.wrap ((ad.length:Int) - (ae.length:Int)),rfl,h,A.below⟩ (.inl rfl)
 ·replace h:=Zk h (cf ak);refine ZCd (Ze (sr (Yr A 0 [Ia,Ic] rfl ag32 rfl rfl rfl (Za (v:=vI U) rfl (X5 rfl rfl (Za (v:=vI L) rfl (Zm rfl rfl (Za (v:=vI B) rfl (Zf [.agg #[Ia,Ic],vI (Zwt.wrap (U - 1)),vI (Zwt.wrap (L+1)),vI B] _ ZOg rfl rfl rfl (Dk a0 (Zwt.wrap (U - 1)) (Zwt.wrap (L+1)) B h _ (Yf (A.Iw 1 rfl) (A.Iw 0 rfl))) ?_)))))))))
  rintro _ dj ⟨ag,ab,al,rfl,h,bu,bv,bw⟩;refine rt ?_
  replace A:=A.push bw (ZCn (ZJh 22 (ZJh 2 (eI.tr))) ag [ab] al) bu bv;refine Zd (v:=ab) rfl (dn (ZB9 (sr (Za (v:=vI B) rfl (Jn rfl rfl (dn ?_))))))
  refine Zs rfl (λah=>?_) (λah=>?_)
  ·replace h:=ift h (ct ah);refine cwd 15 Ym [0,0,0,0,8,0,0,96,224,0,512,2044,0,4096,16382,32767,65535] [1,2] [0,3,4,5,6,7,8,9,10,12,13] (λam O dk I=>?_)
   replace A:=A.Iy I;refine bM 0 (ab) rfl O (Zc 17 1) (bL 1 (.agg #[Ia,Ic]) rfl rfl am (λ_ I=>by exact Y6 (A.Iy I) 1 [Ia,Ic] rfl ag32 rfl rfl rfl) (Zc 17 3) (bL 2 (.agg #[Ia,Ic]) rfl rfl am (λ_ I=>by exact Y6 (A.Iy I) 1 [Ia,Ic] rfl ag32 rfl rfl rfl) (Zc 17 7) (bM 3 (vI U) rfl O (Zc 17 15) (bF 4 (vI (Zwt.wrap (U - 1))) rfl rfl O (λ_=>by exact Tu rfl rfl) (Zc 17 31) (bM 5 (vI L) rfl O (Zc 17 63) (bM 6 (vI U) rfl O (Zc 17 127) (bF 7 (vI (Zwt.wrap (L - U))) rfl rfl O (λ_=>by exact Tu rfl rfl) (Zc 17 255) (bF 8 (vI (Zwt.wrap ((Zwt.wrap (L - U))+1))) rfl rfl O (λ_=>by exact Vn rfl rfl) (Zc 17 511) (bM 9 (vI B) rfl O (Zc 17 1023) (bF 10 (vI (Zwt.wrap (B - 1))) rfl rfl O (λ_=>by exact Tu rfl rfl) (Zc 17 2047) (bM 12 (vI B) rfl O (Zc 17 6143) (bF 13 (vI (Zwt.wrap (B - 1))) rfl rfl O (λ_=>by exact Tu rfl rfl) (Zc 17 14335) (aO 11 rfl (Zf [.agg #[Ia,Ic],vI (Zwt.wrap (U - 1)),vI (Zwt.wrap ((Zwt.wrap (L - U))+1)),vI (Zwt.wrap (B - 1))] _ ZOg rfl rfl rfl (Dk a0 (Zwt.wrap (U - 1)) (Zwt.wrap ((Zwt.wrap (L - U))+1)) (Zwt.wrap (B - 1)) h _ (Yf (A.Iw 1 rfl) (A.Iw 0 rfl))) ?_))))))))))))))
   rintro _ dm ⟨an,ao,a9,rfl,h,bx,bz,b8⟩;refine rt ?_
   replace A:=A.push b8 (ZCn (ZJh 22 (ZJh 2 (eI.tr))) an [ao] a9) bx bz;refine done (aK (by assumption) (Zc 17 16383) (aO 14 rfl (Zf [.agg #[Ia,Ic],ao,vI (Zwt.wrap (B - 1))] _ Tryz.func111 rfl rfl rfl (Zp7 a0 an (Zwt.wrap (B - 1)) h _ (Yf (A.Iw 1 rfl) (A.Iw 0 rfl)) (ZJu _ (A.Ix 0 rfl).1)) ?_)))
   rintro _ dp ⟨ai,ba,bb,rfl,h,b9,ca,cb⟩;refine rt ?_
   replace A:=A.push cb (ZCn (ZJh 22 (ZJh 2 (eI.tr))) ai [ba] bb) b9 ca;refine done (aK (by assumption) (Zc 17 32767) (Z5 15 (by decide) (by decide) (by kernel_rfl) (by kernel_rfl) rfl ?_))
   replace A:=A.sM [2,0,1,3] (M':=[ZCn (ZJh 22 (ZJh 2 (eI.tr))) ag [ab] al,ZCn (ZJh 22 (ZJh 2 (eI.tr))) ai [ba] bb,ZCn (ZJh 22 (ZJh 2 (eI.tr))) an [ao] a9,blk b4 32 [Ia,Ic]]) (by decide) rfl
   obtain ⟨cc,h⟩:=h;refine W1 A ZKd J0 rfl (by decide) (by decide) rfl rfl cc λaj c7 dq A=>Zd (v:=aj) rfl (done (Z6 (Ze (sr (Yr A 2 [Ia,Ic] rfl ag32 rfl rfl rfl (Za (v:=vI U) rfl (Za (v:=vI L) rfl (Za (v:=vI B) rfl (Zf [.agg #[Ia,Ic],vI U,vI L,vI B] _ ZOg rfl rfl rfl (Dk a0 U L B h _ (Yf (A.Iw 1 rfl) (A.Iw 0 rfl))) ?_)))))))))
   rintro _ dr ⟨ap,aq,bc,rfl,h,ce,cg,ch⟩;refine rt ?_
   replace A:=A.push ch (ZCn (ZJh 22 (ZJh 2 (eI.tr))) ap [aq] bc) ce cg;have ci:=J9 A 0 rfl;replace A:=A.thaw 0 rfl (ZB8 (ZFf.sl) ap [aq] bc) (λV=>ZJu _ V.1) (λ_ ac=>ac)
   refine Zf [aq] _ ZOd rfl rfl rfl (Nk ap h _ (A.Iw 0 rfl)) ?_
   rintro _ dt ⟨ar,c8,bd,rfl,h,cj,au,ck⟩;refine rt ?_
   have dc:∀ b,b∈bd->w0.heap.size<=b:=(λb hb=>(au b hb).elim (λV=>Cj A.size V) (λhb=>ci b hb))
   replace A:=A.pushR ck (ZB8 (ZFf.sl) ar [c8] bd) cj (λb hb=>(au b hb).elim .inl (λhb=>.inr (⟨_,mg 0 rfl,hb⟩)))
   refine Zu A 0 rfl ZKd rfl (Za (v:=aj) rfl ?_)
   have cl:=J9 A 0 rfl;replace A:=A.thaw 0 rfl (ZB8 (ZFf.sl) (ag++ai) [aj] c7) (λV=>ZJu _ V.1) (λ_ ac=>ac)
   refine Zf [aj] _ ZOd rfl rfl rfl (Nk (ag++ai) h _ (A.Iw 0 rfl)) ?_
   rintro _ du ⟨av,c9,be,rfl,h,cm,aw,cn⟩;refine rt ?_
   have dd:∀ b,b∈be->w0.heap.size<=b:=(λb hb=>(aw b hb).elim (λV=>Cj A.size V) (λhb=>cl b hb))
   replace A:=A.pushR cn (ZB8 (ZFf.sl) av [c9] be) cm (λb hb=>(aw b hb).elim .inl (λhb=>.inr (⟨_,mg 0 rfl,hb⟩)))
   refine Zu A 0 rfl ZKd rfl (X5 rfl rfl (Zd (v:=vI (Zwt.wrap ((ar.length:Int) - (av.length:Int)))) rfl (dn (ZCi ?_))))
   exact Zj rfl (Zg rfl) ⟨Zwt.wrap ((ar.length:Int) - (av.length:Int)),rfl,h,A.below⟩ (.inl rfl)
  ·replace h:=Zk h (cf ah);refine ZCd (Ze (sr (Yr A 1 [Ia,Ic] rfl ag32 rfl rfl rfl (Za (v:=vI U) rfl (Za (v:=vI L) rfl (Za (v:=vI B) rfl (Zf [.agg #[Ia,Ic],vI U,vI L,vI B] _ ZOg rfl rfl rfl (Dk a0 U L B h _ (Yf (A.Iw 1 rfl) (A.Iw 0 rfl))) ?_)))))))
   rintro _ dv ⟨ax,ay,bh,rfl,h,cp,cq,cr⟩;refine rt ?_
   replace A:=A.push cr (ZCn (ZJh 22 (ZJh 2 (eI.tr))) ax [ay] bh) cp cq;have cu:=J9 A 0 rfl;replace A:=A.thaw 0 rfl (ZB8 (ZFf.sl) ax [ay] bh) (λV=>ZJu _ V.1) (λ_ ac=>ac)
   refine Zf [ay] _ ZOd rfl rfl rfl (Nk ax h _ (A.Iw 0 rfl)) ?_
   rintro _ dw ⟨az,da,bi,rfl,h,cv,a4,cw⟩;refine rt ?_
   have de:∀ b,b∈bi->w0.heap.size<=b:=(λb hb=>(a4 b hb).elim (λV=>Cj A.size V) (λhb=>cu b hb))
   replace A:=A.pushR cw (ZB8 (ZFf.sl) az [da] bi) cv (λb hb=>(a4 b hb).elim .inl (λhb=>.inr (⟨_,mg 0 rfl,hb⟩)))
   refine Zu A 0 rfl ZKd rfl (Za (v:=ab) rfl ?_)
   have cx:=J9 A 0 rfl;replace A:=A.thaw 0 rfl (ZB8 (ZFf.sl) ag [ab] al) (λV=>ZJu _ V.1) (λ_ ac=>ac)
   refine Zf [ab] _ ZOd rfl rfl rfl (Nk ag h _ (A.Iw 0 rfl)) ?_
   rintro _ dx ⟨a5,db,bj,rfl,h,cy,a6,cz⟩;refine rt ?_
   have dg:∀ b,b∈bj->w0.heap.size<=b:=(λb hb=>(a6 b hb).elim (λV=>Cj A.size V) (λhb=>cx b hb))
   replace A:=A.pushR cz (ZB8 (ZFf.sl) a5 [db] bj) cy (λb hb=>(a6 b hb).elim .inl (λhb=>.inr (⟨_,mg 0 rfl,hb⟩)))
   refine Zu A 0 rfl ZKd rfl (X5 rfl rfl (Zd (v:=vI (Zwt.wrap ((az.length:Int) - (a5.length:Int)))) rfl (dn (ZCi ?_))))
   exact Zj rfl (Zg rfl) ⟨Zwt.wrap ((az.length:Int) - (a5.length:Int)),rfl,h,A.below⟩ (.inl rfl)
def Hu (O:Alg) (U:Int) (K:Int->Prop):Prop :=
 Uj O 0 U (λA=>Z1 (λL (h:Int) I=>Ui (A.getD L Ci) (λB=>I (if h < B then B else h))) (λ(h:Int)=>K h) A.length 0 0)
theorem Zp9 (a0:Alg) (a1:Int)  {K:Int->Prop} (h:Hu a0 a1 K) (w0:World) (q0:TAlg.rep a0 [Ia,Ic] Ib w0) :
  Calls ZCc 119 #[.agg #[Ia,Ic],vI a1] w0 λe w'=>∃ (r0:Int),
   e=.returned (vI r0)/\K r0/\Bel w0 w':=by
 unfold Hu at h
 refine cof Tryz.func119 rfl 25 Tryz.ntmps119 ?_
 have A:=ZCu (X:=Nox) w0 [ZB8 TAlg a0 [Ia,Ic] Ib] (al1 q0);replace A:=A.dAlg 0 rfl;refine sr (Yg (v:=.agg #[Ia,Ic]) A [Ia,Ic] rfl rfl λb4 w6 ap A=>Zd (v:=vI 0) rfl (dn (sr (Yr A 0 [Ia,Ic] rfl ag32 rfl rfl rfl (Za (v:=vI a1) rfl (Zf [.agg #[Ia,Ic],vI 0,vI a1] _ ZN9 rfl rfl rfl (U2 a0 0 a1 h _ (Yf (A.Iw 1 rfl) (A.Iw 0 rfl))) ?_))))))
 rintro _ w9 ⟨B,O,al,rfl,h,ac,ad,ae⟩;refine rt ?_
 replace A:=A.push ae (ZCn (ZJh 136 ((EA .u8).tr)) B [O] al) ac ad;obtain ⟨ag,ah⟩:=Yx (A.Ix 0 rfl).1;subst ah;replace A:=A.Iz (c:=own 136 8 O B.length ((EA .u8).encs B)) (λ_ h_=>h_) (λ_=>ag)
 refine Zd (v:=O) rfl (Zd (v:=vI 0) rfl (dn (ZB9 (sr (Zd (v:=vI 0) rfl (dn (ZCf ?_)))))))
 have ai:B.length<=9223372036854775807:=Uv (A.Ix 0 rfl);refine Yh (S:=Int) _ _ (λI L e_ w_=>Zt e_ [(5,O),(6,vI L),(7,vI (I:Int))]/\Ctx Nox w0 w_ [own 136 8 O B.length ((EA .u8).encs B)] [ZB8 ZCv.sl a0.images [Ic] Ib,ZB8 TInts a0.degrees [Ia] Ib,ZB8 TAlg a0 [Ia,Ic] Ib]) B.length ?_ ?_ (s0:=0) ?_ h
 ·clear A h;rintro I L e_ aq an am U ⟨aa,A⟩ h aj;rw [ue aa];refine ZB9 (sr (Za (v:=vI (I:Int)) rfl (Za (v:=O) rfl (J3 A 0 rfl ZN8 rfl (Zl rfl rfl (dn (Z8 rfl (decide_eq_true (by omega)) (ZCd (Ze (ZB9 (ZCf (Zh (Za (v:=vI L) rfl (Za (v:=O) rfl (Za (v:=vI (I:Int)) rfl ?_)))))))))))))))
  obtain ⟨ao,ar,ab⟩:=Xx (A.Ix 0 rfl) (ZFu (Fq _) U);refine X4 (I * 8) ZN8 ag136.size (tr rfl ab) rfl (ZCq _) (ZC9.2 U) rfl (Ji (ZB6 .u8 (B.getD I Ci)) (J7 (A.Ix 0 rfl) ab I U) ag136 rfl rfl (Zf [.agg (ZB7 (ZB6 .u8 (B.getD I Ci)))] _ ZOe rfl rfl rfl (Hr (B.getD I Ci) h _) ?_))
  rintro _ au ⟨V,rfl,h,ak⟩;refine rt ?_
  replace A:=A.Iy ak;refine Zbr rfl rfl (Zd (v:=vI (if L < V then V else L)) rfl (done (Zr (Ze (Zh (Za (v:=vI (I:Int)) rfl (Zm rfl rfl (Zd (v:=vI (Zwt.wrap ((I:Int)+1))) rfl (done ?_)))))))))
  exact aj (if L < V then V else L) _ _ ⟨(sl ⟨rfl,rfl,(tr rfl (I1 _ (Z2 U ai))),trivial⟩),A⟩ h
 ·clear A h;rintro L e_ av am ⟨aa,A⟩ h;rw [ue aa];refine ZB9 (sr (Za (v:=vI (B.length:Int)) rfl (Za (v:=O) rfl (J3 A 0 rfl ZN8 rfl (Zl rfl rfl (dn (Z4 rfl (decide_eq_false (by omega)) ?_)))))))
  refine ZCo (Zi (Zi (Zy ?_)))
  refine Ze (sr (Za (v:=vI L) rfl (Zd (v:=vI L) rfl (dn (ZCi ?_)))))
  exact Zj rfl (Zg rfl) ⟨L,rfl,h,A.below⟩ (.inl rfl)
 ·skip;exact⟨(slq rfl),(A.xM [0] rfl)⟩
def M5 (U:Alg) (O:Int) (B:Int) (K:List Int->Prop):Prop :=
 Xv (λ(h:(List Int)×Int) A=>Hu (⟨U.degrees,U.images⟩:Alg) B (λI=>(if h.2<=I then Ht (⟨U.degrees,U.images⟩:Alg) O h.2 B (λL=>(Zw (h.1.length+1) 8/\A (h.1++[L],Zwt.wrap (h.2+1)))) else K h.1))) ([],0)
theorem Zqa (a0:Alg) (V:Int) (O:Int)  {K:List Int->Prop} (h:M5 a0 V O K) (w0:World) (q0:TAlg.rep a0 [Ia,Ic] Ib w0) :
  Calls ZCc 65 #[.agg #[Ia,Ic],vI V,vI O] w0 λe w'=>∃ (r0:List Int) (Ih:Value) (aa:List Nat),
   e=.returned (Ih)/\K r0/\(ZCn (ZJh 2 (eI.tr)) r0 [Ih] aa).holds w'/\(∀ b,b∈aa->w0.heap.size<=b)/\Bel w0 w':=by
 unfold M5 at h
 refine cof Tryz.func65 rfl 26 Tryz.ntmps65 ?_
 have A:=ZCu (X:=Nox) w0 [ZB8 TAlg a0 [Ia,Ic] Ib] (al1 q0);replace A:=A.dAlg 0 rfl;refine sr (Yg (v:=.agg #[Ia,Ic]) A [Ia,Ic] rfl rfl λb4 w6 ab A=>Zd (v:=.slice none 0 0) rfl (dn (sr (Yd (sz:=1) A [] (eI.encs []) rfl (λ_=>U1  _) rfl (by decide) λb7 w8 ab A=>Zd (v:=.slice (some ⟨b7,0,none⟩) 0 0) rfl (dn (ZB9 (sr (Zd (v:=vI 0) rfl (dn (ZCf ?_))))))))))
 refine Jb (S:=(List Int)×Int) _ (λB e_ w_=>∃ (I:Value),Zt e_ [(1,vI V),(2,vI O),(3,vQ b4),(7,I),(8,vI B.2)]/\Ctx Nox w0 w_ [own 2 1 I B.1.length (eI.encs B.1),blk b4 32 [Ia,Ic]] [ZB8 ZCv.sl a0.images [Ic] Ib,ZB8 TInts a0.degrees [Ia] Ib,ZB8 TAlg a0 [Ia,Ic] Ib]) ?_ (s0:=([],0)) ?_ h
 ·clear A h;rintro B e_ ak aj al ⟨I,ai,A⟩ h ad;rw [ue ai];refine ZB9 (sr (Za (v:=vI B.2) rfl (Yr A 1 [Ia,Ic] rfl ag32 rfl rfl rfl (Za (v:=vI O) rfl (Zf [.agg #[Ia,Ic],vI O] _ Tryz.func119 rfl rfl rfl (Zp9 (⟨a0.degrees,a0.images⟩:Alg) O h _ (Yf (A.Iw 1 rfl) (A.Iw 0 rfl))) ?_)))))
  rintro _ am ⟨an,rfl,h,ae⟩;refine rt ?_
  replace A:=A.Iy ae;refine Ut rfl rfl (dn ?_)
  refine Zs rfl (λU=>?_) (λU=>?_)
  ·replace h:=ift h (ct U);refine ZCd (Ze (ZB9 (ZCf (Zh (Za (v:=I) rfl (Yr A 1 [Ia,Ic] rfl ag32 rfl rfl rfl (Za (v:=vI V) rfl (Za (v:=vI B.2) rfl (Za (v:=vI O) rfl (Zf [.agg #[Ia,Ic],vI V,vI B.2,vI O] _ Tryz.func61 rfl rfl rfl (Zp8 (⟨a0.degrees,a0.images⟩:Alg) V B.2 O h _ (Yf (A.Iw 1 rfl) (A.Iw 0 rfl))) ?_))))))))))
   rintro _ ao ⟨L,rfl,h,ag⟩;refine rt ?_
   replace A:=A.Iy ag;refine Yd (sz:=1) A [(0,vI L)] (eI.encs [L]) rfl (λ_=>M4 L _) rfl (by decide) λap aq ab A=>?_
   obtain ⟨ah,h⟩:=h;refine Jg A 1 ZCs el2 rfl (by decide) (by decide) rfl (Wl (A.Ix 0 rfl)) (λq hq=>ZDf (E:=eI) _ q hq) rfl rfl ah λac ar A=>?_
   replace A:=Y7 A 1 ((B.1++[L]).length) (eI.encs (B.1++[L])) rfl (by simp) (by first | (simp [ZC1]; done) | simp [ZC1,ZJw])
   refine Zd (v:=ac) rfl (done (Zr (Ze (Zh (Za (v:=vI B.2) rfl (Zm rfl rfl (Zd (v:=vI (Zwt.wrap (B.2+1))) rfl (done ?_))))))))
   exact ad (B.1++[L],Zwt.wrap (B.2+1)) _ _ ⟨ac,(slq rfl),(A.xM [1,2] rfl)⟩ h
  ·replace h:=Zk h (cf U);refine ZCo (Zi (Zi (Zy ?_)))
   refine Ze (sr (Za (v:=I) rfl (Zd (v:=I) rfl (dn (ZCi ?_)))))
   exact Zj rfl (Zg rfl) ⟨B.1,I,(ZDa (Fe I)),rfl,h,(Xi (A.Ix 0 rfl)),(Xg A 0 rfl),A.below⟩ (.inl rfl)
 ·skip;exact⟨.slice (some ⟨b7,0,none⟩) 0 0,(slq rfl),A⟩
def Hv (I:ZCb) (K:Int->Prop):Prop :=
 Xv (λ(h:Int×Int) A=>(if h.2 < (I.terms.length:Int) then((0<=h.2/\h.2 < (I.terms.length:Int))/\Ui ((I.terms.getD h.2.toNat Ci).mono) (λB=>(if h.2=0 then A (B,Zwt.wrap (h.2+1)) else(if B < h.1 then A (B,Zwt.wrap (h.2+1)) else A (h.1,Zwt.wrap (h.2+1)))))) else K h.1)) (0,0)
theorem Zqb (a0:ZCb)  {K:Int->Prop} (h:Hv a0 K) (w0:World) (q0:ZCv.rep a0 [Ia] Ib w0) :
  Calls ZCc 122 #[.agg #[Ia]] w0 λe w'=>∃ (r0:Int),
   e=.returned (vI r0)/\K r0/\Bel w0 w':=by
 unfold Hv at h
 refine cof Tryz.func122 rfl 29 Tryz.ntmps122 ?_
 have I:=ZCu (X:=Nox) w0 [ZB8 TForm a0 [Ia] Ib] (al1 q0);have ac:=(I.Iw 0 rfl);replace I:=I.I0 0 rfl (ZB8 ZCa.ty.sl a0.terms [Ia] Ib) (λ_=>(Xq ac)) (λ_ ad=>ad)
 refine sr (Yg (v:=.agg #[Ia]) I [Ia] rfl rfl λb4 w6 ak I=>Zd (v:=vI 0) rfl (dn (sr (Zd (v:=vI 0) rfl (dn (ZB9 (sr (Zd (v:=vI 0) rfl (dn (ZCf ?_))))))))))
 refine Jb (S:=Int×Int) _ (λA e_ w_=>Zt e_ [(1,vQ b4),(3,vI A.1),(4,vI A.2)]/\Ctx Nox w0 w_ [blk b4 55 [Ia]] [ZB8 ZCa.ty.sl a0.terms [Ia] Ib,ZB8 TForm a0 [Ia] Ib]) ?_ (s0:=(0,0)) ?_ h
 ·clear I h;rintro A e_ al ai am ⟨ae,I⟩ h O;rw [ue ae];refine ZB9 (sr (Za (v:=vI A.2) rfl (Z0 0 ZCg rfl Ii.size rfl rfl (Yc I 0 (Ia) rfl Ii rfl rfl (Zu I 0 rfl ZCj rfl (Zl rfl rfl (dn ?_)))))))
  refine Zs rfl (λU=>?_) (λU=>?_)
  ·replace h:=ift h (ct U);refine ZCd (Ze (ZB9 (ZCf (sr (Z0 0 ZCg rfl Ii.size rfl rfl (Yc I 0 (Ia) rfl Ii rfl rfl (Za (v:=vI A.2) rfl ?_)))))))
   obtain ⟨⟨ag,ah⟩,h⟩:=h;obtain ⟨aj,an,aa⟩:=Zx (I.Iw 0 rfl) A.2.toNat (show A.2.toNat < a0.terms.length by omega)
   refine Yn (len:=a0.terms.length) ZCj ag162.size (tr rfl aa) rfl ag ah (Qm (A.2.toNat * 9+0) ZCp rfl ag136.size rfl rfl (Ji (ZB6 .u8 ((a0.terms.getD A.2.toNat Ci).mono)) (Wg (o:=0) (k:=8) (Yi (I.Iw 0 rfl) aa A.2.toNat (show A.2.toNat < a0.terms.length by omega)) rfl) ag136 rfl rfl (Zf [.agg (ZB7 (ZB6 .u8 ((a0.terms.getD A.2.toNat Ci).mono)))] _ ZOe rfl rfl rfl (Hr ((a0.terms.getD A.2.toNat Ci).mono) h _) ?_)))
   rintro _ ao ⟨L,rfl,h,ab⟩;refine rt ?_
   replace I:=I.Iy ab;refine Zd (v:=vI L) rfl (dn (sr (Za (v:=vI A.2) rfl (X6 rfl rfl (Za (v:=.bool (decide (A.2=0))) rfl ?_)))))
   refine Xm (decide (A.2=0)) (λB=>?_) (λB=>?_)
   ·replace h:=ift h (ct B);refine Zp (b:=true) 2 22 rfl (tr rfl (I1 _ B)) (by decide) (Zp (b:=true) 2 22 rfl (tr rfl (I1 _ B)) (by decide) (Zp (b:=true) 2 22 rfl (tr rfl (I1 _ B)) (by decide) (Ya (v:=.bool true) (b:=true) (tr rfl (I1 _ B)) rfl (dn (Z8 rfl rfl (Zh (Za (v:=vI L) rfl (Zd (v:=vI L) rfl (done (Zr (Ze (Zh (Za (v:=vI A.2) rfl (Zm rfl rfl (Zd (v:=vI (Zwt.wrap (A.2+1))) rfl (done ?_))))))))))))))))
    exact O (L,Zwt.wrap (A.2+1)) _ _ ⟨(slq rfl),I⟩ h
   ·replace h:=Zk h (cf B);refine Zq 2 22 rfl rfl B (Za (v:=vI L) rfl (Zq 2 22 rfl rfl B (Za (v:=vI A.1) rfl (Zq 2 22 rfl rfl B (Zl rfl rfl (Ya (v:=.bool (decide (L < A.1))) (b:=false) (tr rfl (I1 _ B)) rfl (dn ?_)))))))
    refine Zs rfl (λV=>?_) (λV=>?_)
    ·replace h:=ift h (ct V);refine Zh (Za (v:=vI L) rfl (Zd (v:=vI L) rfl (done (Zr (Ze (Zh (Za (v:=vI A.2) rfl (Zm rfl rfl (Zd (v:=vI (Zwt.wrap (A.2+1))) rfl (done ?_))))))))))
     exact O (L,Zwt.wrap (A.2+1)) _ _ ⟨(slq rfl),I⟩ h
    ·replace h:=Zk h (cf V);refine ZCd (Zr (Ze (Zh (Za (v:=vI A.2) rfl (Zm rfl rfl (Zd (v:=vI (Zwt.wrap (A.2+1))) rfl (done ?_)))))))
     exact O (A.1,Zwt.wrap (A.2+1)) _ _ ⟨(slq rfl),I⟩ h
  ·replace h:=Zk h (cf U);refine ZCo (Zi (Zi (Zy ?_)))
   refine Ze (sr (Za (v:=vI A.1) rfl (Zd (v:=vI A.1) rfl (dn (ZCi ?_)))))
   exact Zj rfl (Zg rfl) ⟨A.1,rfl,h,I.below⟩ (.inl rfl)
 ·skip;exact⟨(slq rfl),I⟩
def Hw (I:Alg) (K:Bool->Prop):Prop :=
 Xv (λ(h:Int) A=>(if h < (I.images.length:Int) then((0<=h/\h < (I.images.length:Int))/\Hv (I.images.getD h.toNat Ci) (λB=>(if B=1 then K false else A (Zwt.wrap (h+1))))) else K true)) 0
theorem Zqc (a0:Alg)  {K:Bool->Prop} (h:Hw a0 K) (w0:World) (q0:TAlg.rep a0 [Ia,Ic] Ib w0) :
  Calls ZCc 70 #[.agg #[Ia,Ic]] w0 λe w'=>∃ (r0:Bool),
   e=.returned (.bool r0)/\K r0/\Bel w0 w':=by
 unfold Hw at h
 refine cof Tryz.func70 rfl 18 Tryz.ntmps70 ?_
 have B:=ZCu (X:=Nox) w0 [ZB8 TAlg a0 [Ia,Ic] Ib] (al1 q0);replace B:=B.dAlg 0 rfl;refine sr (Yg (v:=.agg #[Ia,Ic]) B [Ia,Ic] rfl rfl λb4 w6 am B=>Zd (v:=.bool false) rfl (dn (ZB9 (sr (Zd (v:=vI 0) rfl (dn (ZCf ?_)))))))
 refine Jb (S:=Int) _ (λA e_ w_=>Zt e_ [(1,vQ b4),(3,vI A)]/\Ctx Nox w0 w_ [blk b4 32 [Ia,Ic]] [ZB8 ZCv.sl a0.images [Ic] Ib,ZB8 TInts a0.degrees [Ia] Ib,ZB8 TAlg a0 [Ia,Ic] Ib]) ?_ (s0:=0) ?_ h
 ·clear B h;rintro A e_ an ak ao ⟨ag,B⟩ h ab;rw [ue ag];refine ZB9 (sr (Za (v:=vI A) rfl (Z0 1 ZCt rfl Il.size rfl rfl (Yc B 0 (Ic) rfl Il rfl rfl (Zu B 0 rfl Tryz.underlying30 rfl (Zl rfl rfl (dn ?_)))))))
  refine Zs rfl (λI=>?_) (λI=>?_)
  ·replace h:=ift h (ct I);refine ZCd (Ze (ZB9 (ZCf (sr (Z0 1 ZCt rfl Il.size rfl rfl (Yc B 0 (Ic) rfl Il rfl rfl (Za (v:=vI A) rfl ?_)))))))
   obtain ⟨⟨ah,ai⟩,h⟩:=h;obtain ⟨al,ap,O⟩:=Zx (B.Iw 0 rfl) A.toNat (show A.toNat < a0.images.length by omega)
   refine Yn (len:=a0.images.length) Tryz.underlying30 ag55.size (tr rfl O) rfl ah ai ?_
   obtain ⟨aq,U,ac,V⟩:=Xb (B.Iw 0 rfl) O A.toNat (show A.toNat < a0.images.length by omega)
   obtain ⟨aa,rfl⟩:=ZC7.1 U;clear U;rw [Y9 _ _ (show A.toNat < a0.images.length by omega)] at V
   have ad:=V;replace B:=B.I0 0 rfl (ZB8 ZCa.ty.sl ((a0.images.getD A.toNat Ci).terms) [aa] Ib) (λ_=>(Xq ad)) (λ_ aj=>aj)
   refine Ji [aa] ac ag55 rfl rfl (Zf [.agg #[aa]] _ Tryz.func122 rfl rfl rfl (Zqb (a0.images.getD A.toNat Ci) h _ (Y1 (B.Iw 0 rfl))) ?_)
   rintro _ ar ⟨au,rfl,h,ae⟩;refine rt ?_
   replace B:=B.Iy ae;refine X6 rfl rfl (dn ?_)
   refine Zs rfl (λL=>?_) (λL=>?_)
   ·replace h:=ift h (ct L);refine sr (Zd (v:=.bool false) rfl (dn ?_))
    refine ZCi (Z9 (Zn (Zn (Z9 (Zn ?_)))))
    exact Zj rfl (Zg rfl) ⟨false,rfl,h,B.below⟩ (.inl rfl)
   ·replace h:=Zk h (cf L);refine ZCd (Zr (Ze (Zh (Za (v:=vI A) rfl (Zm rfl rfl (Zd (v:=vI (Zwt.wrap (A+1))) rfl (done ?_)))))))
    exact ab (Zwt.wrap (A+1)) _ _ ⟨(slq rfl),(B.sP [1,2,3] rfl)⟩ h
  ·replace h:=Zk h (cf I);refine ZCo (Zi (Zi (Zy ?_)))
   refine Ze (sr (Zd (v:=.bool true) rfl (dn (ZCi ?_))))
   exact Zj rfl (Zg rfl) ⟨true,rfl,h,B.below⟩ (.inl rfl)
 ·skip;exact⟨(slq rfl),B⟩
def Hx (h:Alg) (K:Int->Prop):Prop :=
 Mm h (λA=>(if¬ (A=true) then K 1 else Hw h (λB=>(if¬ (B=true) then K 5 else K 0))))
theorem Zqd (L:Alg)  {K:Int->Prop} (h:Hx L K) (w0:World) (q0:TAlg.rep L [Ia,Ic] Ib w0) :
  Calls ZCc 58 #[.agg #[Ia,Ic]] w0 λe w'=>∃ (V:Int),
   e=.returned (vI V)/\K V/\Bel w0 w':=by
 unfold Hx at h
 refine cof Tryz.func58 rfl 11 Tryz.ntmps58 ?_
 have A:=ZCu (X:=Nox) w0 [ZB8 TAlg L [Ia,Ic] Ib] (al1 q0);replace A:=A.dAlg 0 rfl;refine sr (Yg (v:=.agg #[Ia,Ic]) A [Ia,Ic] rfl rfl λb4 w6 ac A=>Zd (v:=vI 0) rfl (dn (ZB9 (ZCf (sr (Yr A 0 [Ia,Ic] rfl ag32 rfl rfl rfl (Zf [.agg #[Ia,Ic]] _ Tryz.func92 rfl rfl rfl (Zfl L h _ (Yf (A.Iw 1 rfl) (A.Iw 0 rfl))) ?_)))))))
 rintro _ w9 ⟨aa,rfl,h,O⟩;refine rt ?_
 replace A:=A.Iy O;refine Xo rfl (Zd (v:=.bool (!aa)) rfl (dn ?_))
 refine Zs rfl (λB=>?_) (λB=>?_)
 ·replace h:=ift h (Xe (X1 B));refine sr (Zd (v:=vI 1) rfl (dn ?_))
  refine ZCi (Z9 (Zn ?_))
  exact Zj rfl (Zg rfl) ⟨1,rfl,h,A.below⟩ (.inl rfl)
 ·replace h:=Zk h (not_not_intro ((X2 B)));refine sr (Yr A 0 [Ia,Ic] rfl ag32 rfl rfl rfl (Zf [.agg #[Ia,Ic]] _ Tryz.func70 rfl rfl rfl (Zqc L h _ (Yf (A.Iw 1 rfl) (A.Iw 0 rfl))) ?_))
  rintro _ ad ⟨ab,rfl,h,U⟩;refine rt ?_
  replace A:=A.Iy U;refine Xo rfl (Zd (v:=.bool (!ab)) rfl (dn ?_))
  refine Zs rfl (λI=>?_) (λI=>?_)
  ·replace h:=ift h (Xe (X1 I));refine sr (Zd (v:=vI 5) rfl (dn ?_))
   refine ZCi (Z9 (Zn ?_))
   exact Zj rfl (Zg rfl) ⟨5,rfl,h,A.below⟩ (.inl rfl)
  ·replace h:=Zk h (not_not_intro ((X2 I)));refine ZCd (Zr (Ze (sr (Zd (v:=vI 0) rfl (dn (ZCi ?_))))))
   exact Zj rfl (Zg rfl) ⟨0,rfl,h,A.below⟩ (.inl rfl)
def Hy (O:Alg) (B:Int) (L:Int) (K:Bool->Prop):Prop :=
 Xv (λ(h:Int) A=>(if h<=L then Sc O.degrees h (λI=>(if(I.length:Int) > 120 then K false else A (Zwt.wrap (h+1)))) else K true)) (if B < 0 then 0 else B)
theorem Zqe (V:Alg) (I:Int) (a2:Int)  {K:Bool->Prop} (h:Hy V I a2 K) (w0:World) (q0:TAlg.rep V [Ia,Ic] Ib w0) :
  Calls ZCc 108 #[.agg #[Ia,Ic],vI I,vI a2] w0 λe w'=>∃ (r0:Bool),
   e=.returned (.bool r0)/\K r0/\Bel w0 w':=by
 unfold Hy at h
 refine cof Tryz.func108 rfl 21 Tryz.ntmps108 ?_
 have A:=ZCu (X:=Nox) w0 [ZB8 TAlg V [Ia,Ic] Ib] (al1 q0);replace A:=A.dAlg 0 rfl;refine sr (Yg (v:=.agg #[Ia,Ic]) A [Ia,Ic] rfl rfl λb4 w6 al A=>Zd (v:=.bool false) rfl (dn (ZB9 (sr (Za (v:=vI I) rfl (Zbr rfl rfl (Zd (v:=vI (if I < 0 then 0 else I)) rfl (dn (ZCf ?_)))))))))
 refine Jb (S:=Int) _ (λB e_ w_=>Zt e_ [(2,vI a2),(3,vQ b4),(7,vI B)]/\Ctx Nox w0 w_ [blk b4 32 [Ia,Ic]] [ZB8 ZCv.sl V.images [Ic] Ib,ZB8 TInts V.degrees [Ia] Ib,ZB8 TAlg V [Ia,Ic] Ib]) ?_ (s0:=(if I < 0 then 0 else I)) ?_ h
 ·clear A h;rintro B e_ am ak an ⟨ai,A⟩ h ab;rw [ue ai];refine ZB9 (sr (Za (v:=vI B) rfl (Za (v:=vI a2) rfl (Ut rfl rfl (dn ?_)))))
  refine Zs rfl (λL=>?_) (λL=>?_)
  ·replace h:=ift h (ct L);refine ZCd (Ze (ZB9 (ZCf (sr (Z0 0 ZCt rfl If.size rfl rfl (Yc A 0 (Ia) rfl If rfl rfl (Za (v:=vI B) rfl (Zf [Ia,vI B] _ Tryz.func94 rfl rfl rfl (S1 V.degrees B h _ (A.Iw 1 rfl)) ?_))))))))
   rintro _ ao ⟨U,aa,aj,rfl,h,ac,ad,ae⟩;refine rt ?_
   replace A:=A.push ae (ZCn (ZJh 136 ((EA .u8).tr)) U [aa] aj) ac ad;obtain ⟨ag,ah⟩:=Yx (A.Ix 0 rfl).1;subst ah;replace A:=A.Iz (c:=own 136 8 aa U.length ((EA .u8).encs U)) (λ_ h_=>h_) (λ_=>ag)
   refine J3 A 0 rfl ZN8 rfl (Jn rfl rfl (dn ?_))
   refine Zs rfl (λO=>?_) (λO=>?_)
   ·replace h:=ift h (ct O);refine sr (Zd (v:=.bool false) rfl (dn ?_))
    refine ZCi (Z9 (Zn (Zn (Z9 (Zn ?_)))))
    exact Zj rfl (Zg rfl) ⟨false,rfl,h,A.below⟩ (.inl rfl)
   ·replace h:=Zk h (cf O);refine ZCd (Zr (Ze (Zh (Za (v:=vI B) rfl (Zm rfl rfl (Zd (v:=vI (Zwt.wrap (B+1))) rfl (done ?_)))))))
    exact ab (Zwt.wrap (B+1)) _ _ ⟨(slq rfl),(A.xM [1] rfl)⟩ h
  ·replace h:=Zk h (cf L);refine ZCo (Zi (Zi (Zy ?_)))
   refine Ze (sr (Zd (v:=.bool true) rfl (dn (ZCi ?_))))
   exact Zj rfl (Zg rfl) ⟨true,rfl,h,A.below⟩ (.inl rfl)
 ·skip;exact⟨(slq rfl),A⟩
def Hz (A:Alg) (h:Int) (K:Int->Prop):Prop :=
 Mm A (λB=>(if¬ (B=true) then K 1 else Qt h 0 20 (λI=>(if¬ (I=true) then K 2 else Hy A (Zwt.wrap (h - 1)) (Zwt.wrap (h+1)) (λL=>(if¬ (L=true) then K 3 else K 0))))))
theorem Zqf (U:Alg) (B:Int)  {K:Int->Prop} (h:Hz U B K) (w0:World) (q0:TAlg.rep U [Ia,Ic] Ib w0) :
  Calls ZCc 60 #[.agg #[Ia,Ic],vI B] w0 λe w'=>∃ (r0:Int),
   e=.returned (vI r0)/\K r0/\Bel w0 w':=by
 unfold Hz at h
 refine cof Tryz.func60 rfl 21 Tryz.ntmps60 ?_
 have A:=ZCu (X:=Nox) w0 [ZB8 TAlg U [Ia,Ic] Ib] (al1 q0);replace A:=A.dAlg 0 rfl;refine sr (Yg (v:=.agg #[Ia,Ic]) A [Ia,Ic] rfl rfl λb4 w6 ag A=>Zd (v:=vI 0) rfl (dn (ZB9 (ZCf (sr (Yr A 0 [Ia,Ic] rfl ag32 rfl rfl rfl (Zf [.agg #[Ia,Ic]] _ Tryz.func92 rfl rfl rfl (Zfl U h _ (Yf (A.Iw 1 rfl) (A.Iw 0 rfl))) ?_)))))))
 rintro _ w9 ⟨ac,rfl,h,V⟩;refine rt ?_
 replace A:=A.Iy V;refine Xo rfl (Zd (v:=.bool (!ac)) rfl (dn ?_))
 refine Zs rfl (λI=>?_) (λI=>?_)
 ·replace h:=ift h (Xe (X1 I));refine sr (Zd (v:=vI 1) rfl (dn ?_))
  refine ZCi (Z9 (Zn ?_))
  exact Zj rfl (Zg rfl) ⟨1,rfl,h,A.below⟩ (.inl rfl)
 ·replace h:=Zk h (not_not_intro ((X2 I)));refine sr (Za (v:=vI B) rfl (Zf [vI B,vI 0,vI 20] _ Tryz.func59 rfl rfl rfl (Za3 B 0 20 h _) ?_))
  rintro _ ah ⟨ad,rfl,h,aa⟩;refine rt ?_
  replace A:=A.Iy aa;refine Xo rfl (Zd (v:=.bool (!ad)) rfl (dn ?_))
  refine Zs rfl (λL=>?_) (λL=>?_)
  ·replace h:=ift h (Xe (X1 L));refine sr (Zd (v:=vI 2) rfl (dn ?_))
   refine ZCi (Z9 (Zn ?_))
   exact Zj rfl (Zg rfl) ⟨2,rfl,h,A.below⟩ (.inl rfl)
  ·replace h:=Zk h (not_not_intro ((X2 L)));refine sr (Yr A 0 [Ia,Ic] rfl ag32 rfl rfl rfl (Za (v:=vI B) rfl (X5 rfl rfl (Za (v:=vI B) rfl (Zm rfl rfl (Zf [.agg #[Ia,Ic],vI (Zwt.wrap (B - 1)),vI (Zwt.wrap (B+1))] _ Tryz.func108 rfl rfl rfl (Zqe U (Zwt.wrap (B - 1)) (Zwt.wrap (B+1)) h _ (Yf (A.Iw 1 rfl) (A.Iw 0 rfl))) ?_))))))
   rintro _ ai ⟨ae,rfl,h,ab⟩;refine rt ?_
   replace A:=A.Iy ab;refine Xo rfl (Zd (v:=.bool (!ae)) rfl (dn ?_))
   refine Zs rfl (λO=>?_) (λO=>?_)
   ·replace h:=ift h (Xe (X1 O));refine sr (Zd (v:=vI 3) rfl (dn ?_))
    refine ZCi (Z9 (Zn ?_))
    exact Zj rfl (Zg rfl) ⟨3,rfl,h,A.below⟩ (.inl rfl)
   ·replace h:=Zk h (not_not_intro ((X2 O)));refine ZCd (Zr (Ze (sr (Zd (v:=vI 0) rfl (dn (ZCi ?_))))))
    exact Zj rfl (Zg rfl) ⟨0,rfl,h,A.below⟩ (.inl rfl)
def Dl (A:Alg) (I:Int) (K:Int->Prop):Prop :=
 Hx A (λh=>(if h≠0 then K h else Hz A I (λB=>K B)))
theorem Zqg (L:Alg) (O:Int)  {K:Int->Prop} (h:Dl L O K) (w0:World) (q0:TAlg.rep L [Ia,Ic] Ib w0) :
  Calls ZCc 90 #[.agg #[Ia,Ic],vI O] w0 λe w'=>∃ (r0:Int),
   e=.returned (vI r0)/\K r0/\Bel w0 w':=by
 unfold Dl at h
 refine cof Tryz.func90 rfl 14 Tryz.ntmps90 ?_
 have A:=ZCu (X:=Nox) w0 [ZB8 TAlg L [Ia,Ic] Ib] (al1 q0);replace A:=A.dAlg 0 rfl;refine sr (Yg (v:=.agg #[Ia,Ic]) A [Ia,Ic] rfl rfl λb4 w6 ab A=>Zd (v:=vI 0) rfl (dn (ZB9 (sr (Yr A 0 [Ia,Ic] rfl ag32 rfl rfl rfl (Zf [.agg #[Ia,Ic]] _ Tryz.func58 rfl rfl rfl (Zqd L h _ (Yf (A.Iw 1 rfl) (A.Iw 0 rfl))) ?_))))))
 rintro _ w9 ⟨B,rfl,h,V⟩;refine rt ?_
 replace A:=A.Iy V;refine Zd (v:=vI B) rfl (dn (sr (Za (v:=vI B) rfl (Xl rfl rfl (dn ?_)))))
 refine Zs rfl (λI=>?_) (λI=>?_)
 ·replace h:=ift h (ct I);refine sr (Za (v:=vI B) rfl (Zd (v:=vI B) rfl (dn ?_)))
  refine ZCi (Zn ?_)
  exact Zj rfl (Zg rfl) ⟨B,rfl,h,A.below⟩ (.inl rfl)
 ·replace h:=Zk h (cf I);refine ZCd (Ze (sr (Yr A 0 [Ia,Ic] rfl ag32 rfl rfl rfl (Za (v:=vI O) rfl (Zf [.agg #[Ia,Ic],vI O] _ Tryz.func60 rfl rfl rfl (Zqf L O h _ (Yf (A.Iw 1 rfl) (A.Iw 0 rfl))) ?_)))))
  rintro _ ac ⟨U,rfl,h,aa⟩;refine rt ?_
  replace A:=A.Iy aa;refine Zd (v:=vI U) rfl (dn (ZCi ?_))
  exact Zj rfl (Zg rfl) ⟨U,rfl,h,A.below⟩ (.inl rfl)
end Go.Proofs.YtaagfepgbofmlaaGreat
