import Derived.Test.YtaagfepgbofmlaaGreatQ4
set_option linter.unusedSectionVars false
set_option linter.unusedSimpArgs false
set_option linter.unusedVariables false
open Go renaming wp_seq→ZMu,wp_ret→ZM3,wp_skip→ZMy,wp_block→ZM0,wp_exit→ZM9
open Go.Instr renaming buildSlice→ZUr
open Go.IntKind renaming i64→ZHf,u8→ZM6
open Go.Proofs.Tryz renaming prog→ZMx,underlying85→ZUw,underlying22→ZNd,underlying132→ZYn,underlying32→ZNe,func94→ZYp,func163→ZYq,func128→ZYr,underlying55→ZM1,underlying53→ZM4,func55→ZYs,func126→ZYt,underlying136→ZNc,underlying5→ZNw,func150→ZYu,func168→ZYv,underlying30→ZNi,func125→ZNk,underlying2→ZN3,underlying162→ZNa,func127→ZYy,func164→ZYz,func129→ZY0,func109→ZY1
open Go.Value renaming ownBlock→ZFo,int→ZP4
open Inhabited renaming default→ZEu
open Int renaming tdiv→ZT1,natCast_nonneg→ZNb,ofNat_lt→ZNt,tmod→ZFl,toNat_of_nonneg→ZP5
open List renaming mem_append→ZEt,toArray→ZHu,replicate→ZEp,length_eq_one_iff→ZJj,mem_cons→ZEn,not_mem_nil→ZGz,length_nil→ZYw,mem_singleton_self→ZT7,pairwise_singleton→ZVj,mem_append_left→ZE7,mem_singleton→ZFn
open Nat renaming lt_of_le_of_lt→ZQe,zero_le→ZFz,le_trans→ZEv,le_of_ble_eq_true→ZM2
open Option renaming toList→ZNu
open Vc renaming TInts→ZPz,ETerm→ZMv,Form→ZMw,TForm→ZNg
open Vc.A8 renaming enc→ZMs,zero→ZMz
open Vc.Ctx renaming start→ZNf
open Vc.Enc renaming encs_append→ZNm,encs_one'→ZNz,encs→ZUf
open Vc.Tr renaming sl→ZT0,item→ZM8
open Vc.Ty renaming item→ZMt,allItem→ZXm
set_option maxRecDepth 4000
set_option maxHeartbeats 4000000
namespace Go.Proofs.YtaagfepgbofmlaaGreat
open Go Go.RowKit Vc
variable {b0 bp0 b1 bp1 b2 bp2 b3 bp3 b4 bp4 b5 bp5 b6 bp6 b7 bp7 mb0:Nat} {u0_0 u0_1 u0_2 u0_3 u0_4 u0_5 u1_0 u1_1 u1_2 u1_3 u1_4 u1_5 u2_0 u2_1 u2_2 u2_3 u2_4 u2_5 u3_0 u3_1 u3_2 u3_3 u3_4 u3_5 u4_0 u4_1 u4_2 u4_3 u4_4 u4_5 u5_0 u5_1 u5_2 u5_3 u5_4 u5_5 u6_0 u6_1 u6_2 u6_3 u6_4 u6_5 u7_0 u7_1 u7_2 u7_3 u7_4 u7_5:Value} {fp0 fp1 fp2 fp3 fp4 fp5 fp6 fp7 fp0_0 fp0_1 fp0_2 fp0_3 fp0_4 fp0_5 fp1_0 fp1_1 fp1_2 fp1_3 fp1_4 fp1_5 F0:List Nat} {D0:List Lev}
theorem Zno (x0:A8) (w:World):(ZUr 132 1 #[(0,.agg (ZHu (ZMs .u8 x0)))]).run ZMx w=.ok (.slice (some ⟨w.heap.size,0,none⟩) 1 1) (w.alloc (.cells (ZHu ((EA .u8).encs [x0])) 136)):=by kernel_rfl
theorem Znp:Zah ZMx 136 (.agg (ZHu (ZMs .u8 ZMz))) 8 8:=by unfold Zah; kernel_rfl
theorem Zz8:ZMx.eqGuardType ZMx.depth 136=false:=by kernel_rfl
theorem Zz9:KeyT ZMx 136 (kvA .u8):=Zmd ZNc ZNw sc5
theorem Zr5  (w:World):(ZUr 132 0 #[]).run ZMx w=.ok (.slice (some ⟨w.heap.size,0,none⟩) 0 0) (w.alloc (.cells (ZHu ((EA .u8).encs [])) 136)):=by kernel_rfl
theorem Znq (x0:Int) (w:World):(ZUr 22 1 #[(0,.int .i64 x0)]).run ZMx w=.ok (.slice (some ⟨w.heap.size,0,none⟩) 1 1) (w.alloc (.cells (ZHu ((EI .i64).encs [x0])) 2)):=by kernel_rfl
theorem Zk2 (x0:Int) (x1:Int) (w:World):(ZUr 22 2 #[(0,.int .i64 x0),(1,.int .i64 x1)]).run ZMx w=.ok (.slice (some ⟨w.heap.size,0,none⟩) 2 2) (w.alloc (.cells (ZHu ((EI .i64).encs [x0,x1])) 2)):=by kernel_rfl
theorem sc4:ScaT ZMx 4:=⟨⟨_,Tryz.underlying4,rfl⟩,by kernel_rfl⟩
theorem Zr6 (x0:Value) (h:Zdv x0) (w:World):(ZUr 30 1 #[(0,.agg #[x0])]).run ZMx w=.ok (.slice (some ⟨w.heap.size,0,none⟩) 1 1) (w.alloc (.cells (ZHu [x0]) 55)):=by obtain ⟨_,_,_,rfl⟩:=h; kernel_rfl
theorem ZAa (x0:Nat) (x1:Nat) (w:World):(Instr.build 198 #[(0,.pointer (some ⟨x0,0,none⟩)),(1,.map (some x1))]).run ZMx w=.ok (.agg #[.pointer (some ⟨x0,0,none⟩),.map (some x1)]) w:=by kernel_rfl
theorem Zk3:AggT ZMx 25 2:=⟨⟨_,Tryz.underlying25,rfl⟩,by kernel_rfl⟩
def f_spec_l01Fill (I:Nat) (a0:List Int) (O:A8) (B:Int) (G:Int) (L:List A8) (K:List A8→Prop):Prop :=
 match I with
 | 0=>False
 | I+1=>(if B=(a0.length:Int) then(if G=0 then(Z4 (L.length+1) 8∧K (L++[O])) else K L) else((0≤B∧B < (a0.length:Int))∧((a0.getD B.toNat ZEu)≠0∧((0≤B∧B < (a0.length:Int))∧(if ZFl (a0.getD B.toNat ZEu) 2≠0 then Xt (λ(h:A8×(List A8)×Int) U=>(if h.2.2≥0 then(if(h.2.1.length:Int)≤400 then((0≤B∧B < 8)∧((0≤B∧B < (a0.length:Int))∧f_spec_l01Fill I a0 (h.1.set B.toNat (ZM6.wrap h.2.2)) (ZHf.wrap (B+1)) (ZHf.wrap (G - (ZHf.wrap (h.2.2 * (a0.getD B.toNat ZEu))))) h.2.1 (λaa=>U (h.1.set B.toNat (ZM6.wrap h.2.2),aa,ZHf.wrap (h.2.2 - 1))))) else K h.2.1) else K h.2.1)) (O,L,(if 20 < (if 1 < ZHf.wrap (ZT1 G (a0.getD B.toNat ZEu)) then 1 else ZHf.wrap (ZT1 G (a0.getD B.toNat ZEu))) then 20 else(if 1 < ZHf.wrap (ZT1 G (a0.getD B.toNat ZEu)) then 1 else ZHf.wrap (ZT1 G (a0.getD B.toNat ZEu))))) else Xt (λ(A:A8×(List A8)×Int) V=>(if A.2.2≥0 then(if(A.2.1.length:Int)≤400 then((0≤B∧B < 8)∧((0≤B∧B < (a0.length:Int))∧f_spec_l01Fill I a0 (A.1.set B.toNat (ZM6.wrap A.2.2)) (ZHf.wrap (B+1)) (ZHf.wrap (G - (ZHf.wrap (A.2.2 * (a0.getD B.toNat ZEu))))) A.2.1 (λab=>V (A.1.set B.toNat (ZM6.wrap A.2.2),ab,ZHf.wrap (A.2.2 - 1))))) else K A.2.1) else K A.2.1)) (O,L,(if 20 < ZHf.wrap (ZT1 G (a0.getD B.toNat ZEu)) then 20 else ZHf.wrap (ZT1 G (a0.getD B.toNat ZEu)))))))))
theorem ZAb (am:Nat):∀ (a0:List Int) (a1:A8) (a2:Int) (I:Int) (a4:List A8) {u4_0:Value} {u0_0:Value} {fp0:List Nat} {K:List A8→Prop} (h:f_spec_l01Fill am a0 a1 a2 I a4 K) (w0:World) (q0:ZPz.rep a0 [u0_0] fp0 w0) (an:(own 136 8 u4_0 a4.length ((EA .u8).encs a4)).holds w0) (ao:∀ b,b∈fp0→b∉ZNu (ZFo u4_0)),
  Calls ZMx 150 #[u0_0,.agg (ZHu (ZMs .u8 a1)),vI a2,vI I,u4_0] w0 λe w'=>∃ (r0:List A8) (z0_0:Value),
   e=.returned (z0_0)∧K r0∧(own 136 8 z0_0 r0.length ((EA .u8).encs r0)).holds w'∧(∀ b,b∈ZNu (ZFo z0_0)→b∈ZNu (ZFo u4_0)∨w0.heap.size≤b)∧BelO (ZNu (ZFo u4_0)) w0 w':=by
 induction am with
 | zero =>
  intro a0 a1 a2 I a4 u4_0 u0_0 fp0 K h w0 q0 an ao;exact False.elim h
 | succ am ax =>
  intro a0 a1 a2 I a4 u4_0 u0_0 fp0 K h w0 q0 an ao;rw [f_spec_l01Fill.eq_2] at h
  refine cof ZYu rfl 68 Tryz.ntmps150 ?_
  have A:=Ctx.startL w0 (ZNu (ZFo u4_0)) [own 136 8 u4_0 a4.length ((EA .u8).encs a4)] [ZMt TInts a0 [u0_0] fp0] (by simp only [ZEn,ZGz,or_false,forall_eq_or_imp,forall_eq]; exact an) (by simp only [ZEn,ZGz,or_false,forall_eq_or_imp,forall_eq]; exact q0) (by simp only [ZEn,ZGz,or_false,forall_eq_or_imp,forall_eq]; exact(λb_ L=>L)) (ZVj _ _) (by simp only [ZEn,ZGz,or_false,forall_eq_or_imp,forall_eq]; exact ao)
  refine sr (Ya (v:=.agg (ZHu (ZMs .u8 a1))) A (ZMs .u8 a1) rfl rfl λb3 w5 O A=>Zc (v:=.slice none 0 0) rfl (dn (ZMu (sr (Za (v:=vI a2) rfl (Za (v:=u0_0) rfl (Zw A 0 rfl ZNd rfl (Xg rfl rfl (dn ?_)))))))))
  refine Zp rfl (λap=>?_) (λap=>?_)
  ·replace h:=ift h (ct ap);refine ZMu (sr (Za (v:=vI I) rfl (Xg rfl rfl (dn ?_))))
   refine Zp rfl (λae=>?_) (λae=>?_)
   ·replace h:=ift h (ct ae);refine sr (Za (v:=u4_0) rfl (Yb A 0 (ZMs .u8 a1) rfl ag136 rfl rfl rfl (Yn (sz:=8) A [(0,.agg (ZHu (ZMs .u8 a1)))] ((EA .u8).encs [a1]) rfl (λ_=>Zno a1 _) rfl (by decide) λcb cc O A=>?_)))
    obtain ⟨a6,h⟩:=h;refine X1 A 2 ZYn Znp rfl (by decide) (by decide) rfl (Zav (A.getM 0 rfl)) (λq hq=>ZNz (E:=(EA .u8)) _ q hq) rfl rfl a6 λay ce A=>?_
    replace A:=Y7 A 2 ((a4++[a1]).length) ((EA .u8).encs (a4++[a1])) rfl (by simp) (by first | (simp [ZNm]; done) | simp [ZNm,ZUf])
    refine Zc (v:=ay) rfl (dn ?_)
    refine ZM3 (Zl (Zl ?_))
    exact Zi rfl (Ze rfl) ⟨a4++[a1],ay,rfl,h,(A.getM 2 rfl),(λb_ L=>(A.mfk 2 rfl b_ L).symm),A.belO⟩ (.inl rfl)
   ·replace h:=Zm h (cf ae);refine ZMy (Zd (sr (Za (v:=u4_0) rfl (Zc (v:=u4_0) rfl (dn ?_)))))
    refine ZM3 (Zl ?_)
    exact Zi rfl (Ze rfl) ⟨a4,u4_0,rfl,h,(A.getM 1 rfl),(λb_ L=>(A.mfk 1 rfl b_ L).symm),A.belO⟩ (.inl rfl)
  ·replace h:=Zm h (cf ap);refine ZMy (Zd (sr (Za (v:=vI I) rfl (Za (v:=u0_0) rfl (Za (v:=vI a2) rfl ?_)))))
   obtain ⟨⟨bj,bk⟩,h⟩:=h;obtain ⟨bz,cg,aq⟩:=Zx (A.getP 0 rfl) a2.toNat (show a2.toNat < a0.length by omega)
   refine Ys (len:=a0.length) ZNd sc2.size (tr rfl aq) rfl bj bk (Yr (vI (a0.getD a2.toNat ZEu)) (Ye (A.getP 0 rfl) aq a2.toNat (show a2.toNat < a0.length by omega)) sc2 rfl ?_)
   obtain ⟨bl,h⟩:=h;refine Zfn rfl rfl bl (Zc (v:=vI (ZHf.wrap (ZT1 I (a0.getD a2.toNat ZEu)))) rfl (dn (ZMu (sr (Za (v:=u0_0) rfl (Za (v:=vI a2) rfl ?_))))))
   obtain ⟨⟨bm,bn⟩,h⟩:=h;obtain ⟨b8,ch,ar⟩:=Zx (A.getP 0 rfl) a2.toNat (show a2.toNat < a0.length by omega)
   refine Ys (len:=a0.length) ZNd sc2.size (tr rfl ar) rfl bm bn (Yr (vI (a0.getD a2.toNat ZEu)) (Ye (A.getP 0 rfl) ar a2.toNat (show a2.toNat < a0.length by omega)) sc2 rfl (X3 rfl rfl (by decide) (Y2 rfl rfl (dn ?_))))
   refine Zp rfl (λag=>?_) (λag=>?_)
   ·replace h:=ift h (ct ag);refine Zj (Za (v:=vI (ZHf.wrap (ZT1 I (a0.getD a2.toNat ZEu)))) rfl (Zil rfl rfl (Zc (v:=vI (if 1 < ZHf.wrap (ZT1 I (a0.getD a2.toNat ZEu)) then 1 else ZHf.wrap (ZT1 I (a0.getD a2.toNat ZEu)))) rfl (dn (ZMu (sr (Za (v:=vI (if 1 < ZHf.wrap (ZT1 I (a0.getD a2.toNat ZEu)) then 1 else ZHf.wrap (ZT1 I (a0.getD a2.toNat ZEu)))) rfl (Zil rfl rfl (Zc (v:=vI (if 20 < (if 1 < ZHf.wrap (ZT1 I (a0.getD a2.toNat ZEu)) then 1 else ZHf.wrap (ZT1 I (a0.getD a2.toNat ZEu))) then 20 else(if 1 < ZHf.wrap (ZT1 I (a0.getD a2.toNat ZEu)) then 1 else ZHf.wrap (ZT1 I (a0.getD a2.toNat ZEu))))) rfl (dn (ZM0 ?_)))))))))))
    refine X6 (S:=A8×(List A8)×Int) _ (λB e_ w_=>∃ (ac:Value),Zt e_ [(0,u0_0),(2,vI a2),(3,vI I),(4,ac),(6,vQ b3),(12,vI B.2.2)]∧Ctx (λc_=>c_∈ZNu (ZFo u4_0)) w0 w_ [blk b3 136 (ZMs .u8 B.1),own 136 8 ac B.2.1.length ((EA .u8).encs B.2.1)] [ZMt TInts a0 [u0_0] fp0]) ?_ (s0:=(a1,a4,(if 20 < (if 1 < ZHf.wrap (ZT1 I (a0.getD a2.toNat ZEu)) then 1 else ZHf.wrap (ZT1 I (a0.getD a2.toNat ZEu))) then 20 else(if 1 < ZHf.wrap (ZT1 I (a0.getD a2.toNat ZEu)) then 1 else ZHf.wrap (ZT1 I (a0.getD a2.toNat ZEu)))))) ?_ h
    ·clear A h;rintro B e_ ci b9 cj ⟨ac,au,A⟩ h a7;rw [ue au];refine ZMu (sr (Za (v:=vI B.2.2) rfl (Zae rfl rfl (Za (v:=.bool (decide (B.2.2≥0))) rfl ?_))))
     refine Y6 (decide (B.2.2≥0)) (λU=>?_) (λU=>?_)
     ·replace h:=ift h (ct U);refine Zh 2 42 rfl rfl U (Za (v:=ac) rfl (Zh 2 42 rfl rfl U (Za4 A 1 rfl ZYn rfl (Zh 2 42 rfl rfl U (Zcd rfl rfl (Zs (v:=.bool (decide ((B.2.1.length:Int)≤400))) (b:=true) (tr rfl (congrArg _ U)) rfl (dn ?_)))))))
      refine Zp rfl (λah=>?_) (λah=>?_)
      ·replace h:=ift h (ct ah);refine ZMy (Zd (ZMu (ZM0 (sr (Za (v:=vI a2) rfl (Za (v:=vI B.2.2) rfl (Zjr ZN3 ZNw rfl ?_)))))))
       obtain ⟨⟨bo,bp⟩,h⟩:=h;refine Xs a2.toNat ZNc sc5.size rfl rfl bo bp (by omega) (Zz (v:=.int .u8 (ZM6.wrap B.2.2)) A 0 [.int .u8 (ZM6.wrap B.2.2)] (ZMs .u8 (B.1.set a2.toNat (ZM6.wrap B.2.2))) rfl sc5.size rfl rfl rfl rfl rfl (show a2.toNat < 8 by omega) (A8.enc_set _ _ _ (show a2.toNat < 8 by omega)) λck A=>dn ?_)
       refine cwd 13 Yh [0,0,0,4,0,0,0,0,192,448,992,2032,0,8191,16383] [1,8,9] [0,2,3,4,5,6,7,10,11,12] (λai aa cl O=>?_)
       replace A:=A.grow O;refine bM 0 (u0_0) rfl aa (Zb 15 1) (bL 1 (.agg (ZHu (ZMs .u8 (B.1.set a2.toNat (ZM6.wrap B.2.2))))) rfl rfl ai (λ_ O=>by exact Xa (A.grow O) 0 (ZMs .u8 (B.1.set a2.toNat (ZM6.wrap B.2.2))) rfl ag136 rfl rfl rfl) (Zb 15 3) (bM 2 (vI a2) rfl aa (Zb 15 7) (bF 3 (vI (ZHf.wrap (a2+1))) rfl rfl aa (λ_=>by exact Zdm rfl rfl) (Zb 15 15) (bM 4 (vI I) rfl aa (Zb 15 31) (bM 5 (vI B.2.2) rfl aa (Zb 15 63) (bM 6 (u0_0) rfl aa (Zb 15 127) (bM 7 (vI a2) rfl aa (Zb 15 255) ?_)))))))
       obtain ⟨⟨bq,br⟩,h⟩:=h;obtain ⟨a8,cm,av⟩:=Zx (A.getP 0 rfl) a2.toNat (show a2.toNat < a0.length by omega)
       refine bL 8 (.pointer (some (a8.add (a2.toNat * 1)))) rfl rfl ai (λ_ O=>by exact Y1 (len:=a0.length) ZNd sc2.size (by exact tr rfl av) rfl bq br) (Zb 15 511) (bL 9 (vI (a0.getD a2.toNat ZEu)) rfl rfl ai (λ_ O=>by exact Xh (vI (a0.getD a2.toNat ZEu)) (Ye ((A.grow O).getP 0 rfl) av a2.toNat (show a2.toNat < a0.length by omega)) sc2 rfl) (Zb 15 1023) (bF 10 (vI (ZHf.wrap (B.2.2 * (a0.getD a2.toNat ZEu)))) rfl rfl aa (λ_=>by exact Zcy rfl rfl) (Zb 15 2047) (bF 11 (vI (ZHf.wrap (I - (ZHf.wrap (B.2.2 * (a0.getD a2.toNat ZEu)))))) rfl rfl aa (λ_=>by exact Zha rfl rfl) (Zb 15 4095) (bM 12 (ac) rfl aa (Zb 15 8191) (Z0 13 (by decide) (by decide) (by kernel_rfl) (by kernel_rfl) rfl (Zf [u0_0,.agg (ZHu (ZMs .u8 (B.1.set a2.toNat (ZM6.wrap B.2.2)))),vI (ZHf.wrap (a2+1)),vI (ZHf.wrap (I - (ZHf.wrap (B.2.2 * (a0.getD a2.toNat ZEu))))),ac] _ ZYu rfl rfl rfl (ax a0 (B.1.set a2.toNat (ZM6.wrap B.2.2)) (ZHf.wrap (a2+1)) (ZHf.wrap (I - (ZHf.wrap (B.2.2 * (a0.getD a2.toNat ZEu))))) B.2.1 h _ (A.getP 0 rfl) (A.getM 1 rfl) (λb_ L aj=>A.pdk 0 1 rfl rfl b_ L aj)) ?_))))))
       rintro _ cn ⟨bs,az,rfl,h,a9,ba,bb⟩;refine rt ?_
       replace A:=A.turnO 1 rfl bb a9 ba;refine Zc (v:=az) rfl (done (Z1 (Zq (Zd (Zj (Za (v:=vI B.2.2) rfl (J4 rfl rfl (Zc (v:=vI (ZHf.wrap (B.2.2 - 1))) rfl (done ?_)))))))))
       exact a7 (B.1.set a2.toNat (ZM6.wrap B.2.2),bs,ZHf.wrap (B.2.2 - 1)) _ _ ⟨az,(slq rfl),A⟩ h
      ·replace h:=Zm h (cf ah);refine ZM9 (Zk (Zk (Zy ?_)))
       refine Zd (sr (Za (v:=ac) rfl (Zc (v:=ac) rfl (dn (ZM3 ?_)))))
       exact Zi rfl (Ze rfl) ⟨B.2.1,ac,rfl,h,(A.getM 1 rfl),(λb_ L=>(A.mfk 1 rfl b_ L).symm),A.belO⟩ (.inl rfl)
     ·replace h:=Zm h (cf U);refine Zg (b:=false) 2 42 rfl (tr rfl (congrArg _ U)) (by decide) (Zg (b:=false) 2 42 rfl (tr rfl (congrArg _ U)) (by decide) (Zg (b:=false) 2 42 rfl (tr rfl (congrArg _ U)) (by decide) (Zs (v:=.bool false) (b:=false) (tr rfl (congrArg _ U)) rfl (dn (Z2 rfl rfl ?_)))))
      refine ZM9 (Zk (Zk (Zy ?_)))
      refine Zd (sr (Za (v:=ac) rfl (Zc (v:=ac) rfl (dn (ZM3 ?_)))))
      exact Zi rfl (Ze rfl) ⟨B.2.1,ac,rfl,h,(A.getM 1 rfl),(λb_ L=>(A.mfk 1 rfl b_ L).symm),A.belO⟩ (.inl rfl)
    ·skip;exact⟨u4_0,(slq rfl),A⟩
   ·replace h:=Zm h (cf ag);refine ZMy (Zd (ZMu (sr (Za (v:=vI (ZHf.wrap (ZT1 I (a0.getD a2.toNat ZEu)))) rfl (Zil rfl rfl (Zc (v:=vI (if 20 < ZHf.wrap (ZT1 I (a0.getD a2.toNat ZEu)) then 20 else ZHf.wrap (ZT1 I (a0.getD a2.toNat ZEu)))) rfl (dn (ZM0 ?_))))))))
    refine X6 (S:=A8×(List A8)×Int) _ (λG e_ w_=>∃ (ad:Value),Zt e_ [(0,u0_0),(2,vI a2),(3,vI I),(4,ad),(6,vQ b3),(12,vI G.2.2)]∧Ctx (λc_=>c_∈ZNu (ZFo u4_0)) w0 w_ [blk b3 136 (ZMs .u8 G.1),own 136 8 ad G.2.1.length ((EA .u8).encs G.2.1)] [ZMt TInts a0 [u0_0] fp0]) ?_ (s0:=(a1,a4,(if 20 < ZHf.wrap (ZT1 I (a0.getD a2.toNat ZEu)) then 20 else ZHf.wrap (ZT1 I (a0.getD a2.toNat ZEu))))) ?_ h
    ·clear A h;rintro G e_ cp ca cq ⟨ad,au,A⟩ h bc;rw [ue au];refine ZMu (sr (Za (v:=vI G.2.2) rfl (Zae rfl rfl (Za (v:=.bool (decide (G.2.2≥0))) rfl ?_))))
     refine Y6 (decide (G.2.2≥0)) (λV=>?_) (λV=>?_)
     ·replace h:=ift h (ct V);refine Zh 2 42 rfl rfl V (Za (v:=ad) rfl (Zh 2 42 rfl rfl V (Za4 A 1 rfl ZYn rfl (Zh 2 42 rfl rfl V (Zcd rfl rfl (Zs (v:=.bool (decide ((G.2.1.length:Int)≤400))) (b:=true) (tr rfl (congrArg _ V)) rfl (dn ?_)))))))
      refine Zp rfl (λak=>?_) (λak=>?_)
      ·replace h:=ift h (ct ak);refine ZMy (Zd (ZMu (ZM0 (sr (Za (v:=vI a2) rfl (Za (v:=vI G.2.2) rfl (Zjr ZN3 ZNw rfl ?_)))))))
       obtain ⟨⟨bt,bu⟩,h⟩:=h;refine Xs a2.toNat ZNc sc5.size rfl rfl bt bu (by omega) (Zz (v:=.int .u8 (ZM6.wrap G.2.2)) A 0 [.int .u8 (ZM6.wrap G.2.2)] (ZMs .u8 (G.1.set a2.toNat (ZM6.wrap G.2.2))) rfl sc5.size rfl rfl rfl rfl rfl (show a2.toNat < 8 by omega) (A8.enc_set _ _ _ (show a2.toNat < 8 by omega)) λcr A=>dn ?_)
       refine cwd 13 Yh [0,0,0,4,0,0,0,0,192,448,992,2032,0,8191,16383] [1,8,9] [0,2,3,4,5,6,7,10,11,12] (λal ab cu O=>?_)
       replace A:=A.grow O;refine bM 0 (u0_0) rfl ab (Zb 15 1) (bL 1 (.agg (ZHu (ZMs .u8 (G.1.set a2.toNat (ZM6.wrap G.2.2))))) rfl rfl al (λ_ O=>by exact Xa (A.grow O) 0 (ZMs .u8 (G.1.set a2.toNat (ZM6.wrap G.2.2))) rfl ag136 rfl rfl rfl) (Zb 15 3) (bM 2 (vI a2) rfl ab (Zb 15 7) (bF 3 (vI (ZHf.wrap (a2+1))) rfl rfl ab (λ_=>by exact Zdm rfl rfl) (Zb 15 15) (bM 4 (vI I) rfl ab (Zb 15 31) (bM 5 (vI G.2.2) rfl ab (Zb 15 63) (bM 6 (u0_0) rfl ab (Zb 15 127) (bM 7 (vI a2) rfl ab (Zb 15 255) ?_)))))))
       obtain ⟨⟨bv,bw⟩,h⟩:=h;obtain ⟨bd,cv,aw⟩:=Zx (A.getP 0 rfl) a2.toNat (show a2.toNat < a0.length by omega)
       refine bL 8 (.pointer (some (bd.add (a2.toNat * 1)))) rfl rfl al (λ_ O=>by exact Y1 (len:=a0.length) ZNd sc2.size (by exact tr rfl aw) rfl bv bw) (Zb 15 511) (bL 9 (vI (a0.getD a2.toNat ZEu)) rfl rfl al (λ_ O=>by exact Xh (vI (a0.getD a2.toNat ZEu)) (Ye ((A.grow O).getP 0 rfl) aw a2.toNat (show a2.toNat < a0.length by omega)) sc2 rfl) (Zb 15 1023) (bF 10 (vI (ZHf.wrap (G.2.2 * (a0.getD a2.toNat ZEu)))) rfl rfl ab (λ_=>by exact Zcy rfl rfl) (Zb 15 2047) (bF 11 (vI (ZHf.wrap (I - (ZHf.wrap (G.2.2 * (a0.getD a2.toNat ZEu)))))) rfl rfl ab (λ_=>by exact Zha rfl rfl) (Zb 15 4095) (bM 12 (ad) rfl ab (Zb 15 8191) (Z0 13 (by decide) (by decide) (by kernel_rfl) (by kernel_rfl) rfl (Zf [u0_0,.agg (ZHu (ZMs .u8 (G.1.set a2.toNat (ZM6.wrap G.2.2)))),vI (ZHf.wrap (a2+1)),vI (ZHf.wrap (I - (ZHf.wrap (G.2.2 * (a0.getD a2.toNat ZEu))))),ad] _ ZYu rfl rfl rfl (ax a0 (G.1.set a2.toNat (ZM6.wrap G.2.2)) (ZHf.wrap (a2+1)) (ZHf.wrap (I - (ZHf.wrap (G.2.2 * (a0.getD a2.toNat ZEu))))) G.2.1 h _ (A.getP 0 rfl) (A.getM 1 rfl) (λb_ L aj=>A.pdk 0 1 rfl rfl b_ L aj)) ?_))))))
       rintro _ cw ⟨bx,a5,rfl,h,be,bh,bi⟩;refine rt ?_
       replace A:=A.turnO 1 rfl bi be bh;refine Zc (v:=a5) rfl (done (Z1 (Zq (Zd (Zj (Za (v:=vI G.2.2) rfl (J4 rfl rfl (Zc (v:=vI (ZHf.wrap (G.2.2 - 1))) rfl (done ?_)))))))))
       exact bc (G.1.set a2.toNat (ZM6.wrap G.2.2),bx,ZHf.wrap (G.2.2 - 1)) _ _ ⟨a5,(slq rfl),A⟩ h
      ·replace h:=Zm h (cf ak);refine ZM9 (Zk (Zk (Zy ?_)))
       refine Zd (sr (Za (v:=ad) rfl (Zc (v:=ad) rfl (dn (ZM3 ?_)))))
       exact Zi rfl (Ze rfl) ⟨G.2.1,ad,rfl,h,(A.getM 1 rfl),(λb_ L=>(A.mfk 1 rfl b_ L).symm),A.belO⟩ (.inl rfl)
     ·replace h:=Zm h (cf V);refine Zg (b:=false) 2 42 rfl (tr rfl (congrArg _ V)) (by decide) (Zg (b:=false) 2 42 rfl (tr rfl (congrArg _ V)) (by decide) (Zg (b:=false) 2 42 rfl (tr rfl (congrArg _ V)) (by decide) (Zs (v:=.bool false) (b:=false) (tr rfl (congrArg _ V)) rfl (dn (Z2 rfl rfl ?_)))))
      refine ZM9 (Zk (Zk (Zy ?_)))
      refine Zd (sr (Za (v:=ad) rfl (Zc (v:=ad) rfl (dn (ZM3 ?_)))))
      exact Zi rfl (Ze rfl) ⟨G.2.1,ad,rfl,h,(A.getM 1 rfl),(λb_ L=>(A.mfk 1 rfl b_ L).symm),A.belO⟩ (.inl rfl)
    ·skip;exact⟨u4_0,(slq rfl),A⟩
def Zdg (h:List Int) (A:Int) (K:List A8→Prop):Prop :=
 f_spec_l01Fill 9 h ZMz 0 A [] (λB=>K B)
theorem Zec (G:List Int) (B:Int)  {K:List A8→Prop} (h:Zdg G B K) (w0:World) (q0:ZPz.rep G [u0_0] fp0 w0) :
  Calls ZMx 94 #[u0_0,vI B] w0 λe w'=>∃ (V:List A8) (z0_0:Value) (I:List Nat),
   e=.returned (z0_0)∧K V∧(ZM8 (ZT0 136 ((EA .u8).tr)) V [z0_0] I).holds w'∧(∀ b,b∈I→w0.heap.size≤b)∧Bel w0 w':=by
 unfold Zdg at h
 refine cof ZYp rfl 9 Tryz.ntmps94 ?_
 have A:=ZNf (X:=Nox) w0 [ZMt TInts G [u0_0] fp0] (al1 q0);refine sr (Zc (v:=.slice none 0 0) rfl (dn (sr (Za (v:=u0_0) rfl (J8 [] rfl (Zmq   _) (Za (v:=vI B) rfl ?_))))))
 replace A:=A.pushNil 136 8;refine Zf [u0_0,.agg (ZHu (ZMs .u8 ZMz)),vI 0,vI B,.slice none 0 0] _ ZYu rfl rfl rfl (ZAb 9 G ZMz 0 B [] h _ (A.getP 0 rfl) (A.getM 0 rfl) (λb_ aa L=>A.pdk 0 0 rfl rfl b_ aa L)) ?_
 rintro _ w5 ⟨r6,O,rfl,h,ab,ac,U⟩;refine rt ?_
 replace A:=A.turnO 0 rfl U ab ac;refine Zc (v:=O) rfl (dn (ZM3 ?_))
 exact Zi rfl (Ze rfl) ⟨r6,O,(ZNu (ZFo O)),rfl,h,(Xx (A.getM 0 rfl)),(Yt A 0 rfl),A.below⟩ (.inl rfl)
def Ziv (L:Alg) (B:Int) (I:Int) (K:Bool→Prop):Prop :=
 Xt (λ(h:Int) A=>(if h≤I then Zdg L.degrees h (λG=>(if(G.length:Int) > 120 then K false else A (ZHf.wrap (h+1)))) else K true)) (if B < 0 then 0 else B)
theorem ZAc (U:Alg) (G:Int) (V:Int)  {K:Bool→Prop} (h:Ziv U G V K) (w0:World) (q0:TAlg.rep U [u0_0,u0_1] fp0 w0) :
  Calls ZMx 108 #[.agg #[u0_0,u0_1],vI G,vI V] w0 λe w'=>∃ (r0:Bool),
   e=.returned (.bool r0)∧K r0∧Bel w0 w':=by
 unfold Ziv at h
 refine cof Tryz.func108 rfl 21 Tryz.ntmps108 ?_
 have A:=ZNf (X:=Nox) w0 [ZMt TAlg U [u0_0,u0_1] fp0] (al1 q0);replace A:=A.dAlg 0 rfl;refine sr (Ya (v:=.agg #[u0_0,u0_1]) A [u0_0,u0_1] rfl rfl λb4 w6 al A=>Zc (v:=.bool false) rfl (dn (ZMu (sr (Za (v:=vI G) rfl (Zq9 rfl rfl (Zc (v:=vI (if G < 0 then 0 else G)) rfl (dn (ZM0 ?_)))))))))
 refine X6 (S:=Int) _ (λB e_ w_=>Zt e_ [(2,vI V),(3,vQ b4),(7,vI B)]∧Ctx Nox w0 w_ [blk b4 32 [u0_0,u0_1]] [ZMt ZNg.sl U.images [u0_1] fp0,ZMt TInts U.degrees [u0_0] fp0,ZMt TAlg U [u0_0,u0_1] fp0]) ?_ (s0:=(if G < 0 then 0 else G)) ?_ h
 ·clear A h;rintro B e_ am ak an ⟨ai,A⟩ h ab;rw [ue ai];refine ZMu (sr (Za (v:=vI B) rfl (Za (v:=vI V) rfl (Zcd rfl rfl (dn ?_)))))
  refine Zp rfl (λI=>?_) (λI=>?_)
  ·replace h:=ift h (ct I);refine ZMy (Zd (ZMu (ZM0 (sr (Zu 0 ZNe rfl sc22.size rfl rfl (Z5 A 0 (u0_0) rfl sc22 rfl rfl (Za (v:=vI B) rfl (Zf [u0_0,vI B] _ ZYp rfl rfl rfl (Zec U.degrees B h _ (A.getP 1 rfl)) ?_))))))))
   rintro _ ao ⟨O,aa,aj,rfl,h,ac,ad,ae⟩;refine rt ?_
   replace A:=A.push ae (ZM8 (ZT0 136 ((EA .u8).tr)) O [aa] aj) ac ad;obtain ⟨ag,ah⟩:=Y4 (A.getM 0 rfl).1;subst ah;replace A:=A.recast (c:=own 136 8 aa O.length ((EA .u8).encs O)) (λ_ h_=>h_) (λ_=>ag)
   refine Za4 A 0 rfl ZYn rfl (Ja rfl rfl (dn ?_))
   refine Zp rfl (λL=>?_) (λL=>?_)
   ·replace h:=ift h (ct L);refine sr (Zc (v:=.bool false) rfl (dn ?_))
    refine ZM3 (Z8 (Zl (Zl (Z8 (Zl ?_)))))
    exact Zi rfl (Ze rfl) ⟨false,rfl,h,A.below⟩ (.inl rfl)
   ·replace h:=Zm h (cf L);refine ZMy (Zq (Zd (Zj (Za (v:=vI B) rfl (Zo rfl rfl (Zc (v:=vI (ZHf.wrap (B+1))) rfl (done ?_)))))))
    exact ab (ZHf.wrap (B+1)) _ _ ⟨(slq rfl),(A.xM [1] rfl)⟩ h
  ·replace h:=Zm h (cf I);refine ZM9 (Zk (Zk (Zy ?_)))
   refine Zd (sr (Zc (v:=.bool true) rfl (dn (ZM3 ?_))))
   exact Zi rfl (Ze rfl) ⟨true,rfl,h,A.below⟩ (.inl rfl)
 ·skip;exact⟨(slq rfl),A⟩
def Zgi (A:Alg) (h:Int) (K:Int→Prop):Prop :=
 Zfz A (λB=>(if¬ (B=true) then K 1 else Zes h 0 20 (λG=>(if¬ (G=true) then K 2 else Ziv A (ZHf.wrap (h - 1)) (ZHf.wrap (h+1)) (λI=>(if¬ (I=true) then K 3 else K 0))))))
theorem ZAd (O:Alg) (B:Int)  {K:Int→Prop} (h:Zgi O B K) (w0:World) (q0:TAlg.rep O [u0_0,u0_1] fp0 w0) :
  Calls ZMx 60 #[.agg #[u0_0,u0_1],vI B] w0 λe w'=>∃ (r0:Int),
   e=.returned (vI r0)∧K r0∧Bel w0 w':=by
 unfold Zgi at h
 refine cof Tryz.func60 rfl 21 Tryz.ntmps60 ?_
 have A:=ZNf (X:=Nox) w0 [ZMt TAlg O [u0_0,u0_1] fp0] (al1 q0);replace A:=A.dAlg 0 rfl;refine sr (Ya (v:=.agg #[u0_0,u0_1]) A [u0_0,u0_1] rfl rfl λb4 w6 ae A=>Zc (v:=vI 0) rfl (dn (ZMu (ZM0 (sr (Yb A 0 [u0_0,u0_1] rfl ag32 rfl rfl rfl (Zf [.agg #[u0_0,u0_1]] _ Tryz.func92 rfl rfl rfl (Zqh O h _ (Y3 (A.getP 1 rfl) (A.getP 0 rfl))) ?_)))))))
 rintro _ w9 ⟨ab,rfl,h,U⟩;refine rt ?_
 replace A:=A.grow U;refine Xe rfl (Zc (v:=.bool (!ab)) rfl (dn ?_))
 refine Zp rfl (λG=>?_) (λG=>?_)
 ·replace h:=ift h (Yz (Xi G));refine sr (Zc (v:=vI 1) rfl (dn ?_))
  refine ZM3 (Z8 (Zl ?_))
  exact Zi rfl (Ze rfl) ⟨1,rfl,h,A.below⟩ (.inl rfl)
 ·replace h:=Zm h (not_not_intro ((Xj G)));refine sr (Za (v:=vI B) rfl (Zf [vI B,vI 0,vI 20] _ Tryz.func59 rfl rfl rfl (Zms B 0 20 h _) ?_))
  rintro _ ag ⟨ac,rfl,h,V⟩;refine rt ?_
  replace A:=A.grow V;refine Xe rfl (Zc (v:=.bool (!ac)) rfl (dn ?_))
  refine Zp rfl (λI=>?_) (λI=>?_)
  ·replace h:=ift h (Yz (Xi I));refine sr (Zc (v:=vI 2) rfl (dn ?_))
   refine ZM3 (Z8 (Zl ?_))
   exact Zi rfl (Ze rfl) ⟨2,rfl,h,A.below⟩ (.inl rfl)
  ·replace h:=Zm h (not_not_intro ((Xj I)));refine sr (Yb A 0 [u0_0,u0_1] rfl ag32 rfl rfl rfl (Za (v:=vI B) rfl (J4 rfl rfl (Za (v:=vI B) rfl (Zo rfl rfl (Zf [.agg #[u0_0,u0_1],vI (ZHf.wrap (B - 1)),vI (ZHf.wrap (B+1))] _ Tryz.func108 rfl rfl rfl (ZAc O (ZHf.wrap (B - 1)) (ZHf.wrap (B+1)) h _ (Y3 (A.getP 1 rfl) (A.getP 0 rfl))) ?_))))))
   rintro _ ah ⟨ad,rfl,h,aa⟩;refine rt ?_
   replace A:=A.grow aa;refine Xe rfl (Zc (v:=.bool (!ad)) rfl (dn ?_))
   refine Zp rfl (λL=>?_) (λL=>?_)
   ·replace h:=ift h (Yz (Xi L));refine sr (Zc (v:=vI 3) rfl (dn ?_))
    refine ZM3 (Z8 (Zl ?_))
    exact Zi rfl (Ze rfl) ⟨3,rfl,h,A.below⟩ (.inl rfl)
   ·replace h:=Zm h (not_not_intro ((Xj L)));refine ZMy (Zq (Zd (sr (Zc (v:=vI 0) rfl (dn (ZM3 ?_))))))
    exact Zi rfl (Ze rfl) ⟨0,rfl,h,A.below⟩ (.inl rfl)
def Ziw (B:Alg) (G:ZMw) (K:Int→Prop):Prop :=
 Zfz B (λh=>(if¬ (h=true) then K 1 else Zfx B.degrees G (λA=>(if¬ (A=true) then K 1 else K 0))))
theorem ZAe (I:Alg) (L:ZMw)  {K:Int→Prop} (h:Ziw I L K) (w0:World) (q0:TAlg.rep I [u0_0,u0_1] fp0 w0) (q1:ZNg.rep L [u1_0] fp1 w0) :
  Calls ZMx 68 #[.agg #[u0_0,u0_1],.agg #[u1_0]] w0 λe w'=>∃ (r0:Int),
   e=.returned (vI r0)∧K r0∧Bel w0 w':=by
 unfold Ziw at h
 refine cof Tryz.func68 rfl 15 Tryz.ntmps68 ?_
 have B:=ZNf (X:=Nox) w0 [ZMt TAlg I [u0_0,u0_1] fp0,ZMt TForm L [u1_0] fp1] (alc q0 (al1 q1));replace B:=B.dAlg 0 rfl;have aa:=(B.getP 3 rfl);replace B:=B.derive 3 rfl (ZMt ZMv.ty.sl L.terms [u1_0] fp1) (λ_=>(Y9 aa)) (λ_ ab=>ab)
 refine sr (Ya (v:=.agg #[u0_0,u0_1]) B [u0_0,u0_1] rfl rfl λb7 w9 ac B=>Ya (v:=.agg #[u1_0]) B [u1_0] rfl rfl λae ag ac B=>Zc (v:=vI 0) rfl (dn (ZMu (sr (Yb B 1 [u0_0,u0_1] rfl ag32 rfl rfl rfl (Zf [.agg #[u0_0,u0_1]] _ Tryz.func92 rfl rfl rfl (Zqh I h _ (Y3 (B.getP 2 rfl) (B.getP 1 rfl))) ?_))))))
 rintro _ ah ⟨O,rfl,h,U⟩;refine rt ?_
 replace B:=B.grow U;refine Xe rfl (Za (v:=.bool (!O)) rfl ?_)
 refine Y6 (!O) (λA=>?_) (λA=>?_)
 ·replace h:=ift h (Yz (Xi A));refine Zg (b:=true) 3 8 rfl (tr rfl (congrArg _ A)) (by decide) (Zg (b:=true) 3 8 rfl (tr rfl (congrArg _ A)) (by decide) (Zg (b:=true) 3 8 rfl (tr rfl (congrArg _ A)) (by decide) (Zg (b:=true) 3 8 rfl (tr rfl (congrArg _ A)) (by decide) (Zg (b:=true) 3 8 rfl (tr rfl (congrArg _ A)) (by decide) (Zs (v:=.bool true) (b:=true) (tr rfl (congrArg _ A)) rfl (dn (Z3 rfl rfl (sr (Zc (v:=vI 1) rfl (dn ?_))))))))))
  refine ZM3 (Zl ?_)
  exact Zi rfl (Ze rfl) ⟨1,rfl,h,B.below⟩ (.inl rfl)
 ·replace h:=Zm h (not_not_intro ((Xj A)));refine Zh 3 8 rfl rfl A (Zu 0 ZNe rfl sc22.size rfl rfl (Zh 3 8 rfl rfl A (Z5 B 1 (u0_0) rfl sc22 rfl rfl (Zh 3 8 rfl rfl A (Yb B 0 [u1_0] rfl ag55 rfl rfl rfl (Zh 3 8 rfl rfl A (Zf [u0_0,.agg #[u1_0]] _ Tryz.func120 rfl rfl rfl (Zqf I.degrees L h _ (B.getP 2 rfl) (Yi (B.getP 0 rfl))) ?_)))))))
  rintro _ ai ⟨ad,rfl,h,V⟩;refine rt ?_
  replace B:=B.grow V;refine Zh 3 8 rfl rfl A (Xe rfl (Zs (v:=.bool (!ad)) (b:=false) (tr rfl (congrArg _ A)) rfl (dn ?_)))
  refine Zp rfl (λG=>?_) (λG=>?_)
  ·replace h:=ift h (Yz (Xi G));refine sr (Zc (v:=vI 1) rfl (dn ?_))
   refine ZM3 (Zl ?_)
   exact Zi rfl (Ze rfl) ⟨1,rfl,h,B.below⟩ (.inl rfl)
  ·replace h:=Zm h (not_not_intro ((Xj G)));refine ZMy (Zd (sr (Zc (v:=vI 0) rfl (dn (ZM3 ?_)))))
   exact Zi rfl (Ze rfl) ⟨0,rfl,h,B.below⟩ (.inl rfl)
def Ze7 (G:A8) (K:Int→Prop):Prop :=
 Z9 (λB (h:Int) A=>A (ZHf.wrap (h+(ZHf.wrap (G.get B))))) (λ(h:Int)=>K h) 8 0 0
theorem Znr (I:A8)  {K:Int→Prop} (h:Ze7 I K) (w0:World)  :
  Calls ZMx 168 #[.agg (ZHu (ZMs .u8 I))] w0 λe w'=>∃ (r0:Int),
   e=.returned (vI r0)∧K r0∧Bel w0 w':=by
 unfold Ze7 at h
 refine cof ZYv rfl 16 Tryz.ntmps168 ?_
 have G:=ZNf (X:=Nox) w0 [] (by simp)
 refine sr (Ya (v:=.agg (ZHu (ZMs .u8 I))) G (ZMs .u8 I) rfl rfl λb1 w3 ac G=>Zc (v:=vI 0) rfl (dn (sr (Zc (v:=vI 0) rfl (dn (ZMu (sr (Zc (v:=vI 0) rfl (dn (ZM0 ?_))))))))))
 refine Yp (S:=Int) _ _ (λA B U w_=>Zt U [(1,vQ b1),(3,vI B),(4,vI (A:Int))]∧Ctx Nox w0 w_ [blk b1 136 (ZMs .u8 I)] []) 8 ?_ ?_ (s0:=0) ?_ h
 ·clear G h;rintro A B U ad ab aa L ⟨O,G⟩ h V;rw [ue O];refine ZMu (sr (Za (v:=vI (A:Int)) rfl (Zn rfl rfl (dn (Z3 rfl (decide_eq_true (by omega)) (ZMy (Zd (ZMu (ZM0 (Zj (Za (v:=vI B) rfl (Za (v:=vI (A:Int)) rfl (Xs A ZNc sc5.size rfl rfl (ZNb _) (by omega) (by omega) (Z5 G 0 (.int .u8 (I.get A)) rfl sc5 rfl (A8.enc_get _ _ L) (Zjr ZNw ZN3 rfl (Zo rfl rfl (Zc (v:=vI (ZHf.wrap (B+(ZHf.wrap (I.get A))))) rfl (done (Zq (Zd (Zj (Za (v:=vI (A:Int)) rfl (Zo rfl rfl (Zc (v:=vI (ZHf.wrap ((A:Int)+1))) rfl (done ?_)))))))))))))))))))))))))
  exact V (ZHf.wrap (B+(ZHf.wrap (I.get A)))) _ _ ⟨(sl ⟨rfl,rfl,(tr rfl (congrArg _ (Z7 L (by decide)))),trivial⟩),G⟩ h
 ·clear G h;rintro B U ae aa ⟨O,G⟩ h;rw [ue O];refine ZMu (sr (Za (v:=vI 8) rfl (Zn rfl rfl (dn (Z2 rfl (decide_eq_false (by omega)) ?_)))))
  refine ZM9 (Zk (Zk (Zy ?_)))
  refine Zd (sr (Za (v:=vI B) rfl (Zc (v:=vI B) rfl (dn (ZM3 ?_)))))
  exact Zi rfl (Ze rfl) ⟨B,rfl,h,G.below⟩ (.inl rfl)
 ·skip;exact⟨(slq rfl),G⟩
def Zix (G:ZMw) (K:Int→Prop):Prop :=
 Xt (λ(h:Int×Int) A=>(if h.2 < (G.terms.length:Int) then((0≤h.2∧h.2 < (G.terms.length:Int))∧Ze7 ((G.terms.getD h.2.toNat ZEu).mono) (λB=>(if h.2=0 then A (B,ZHf.wrap (h.2+1)) else(if B < h.1 then A (B,ZHf.wrap (h.2+1)) else A (h.1,ZHf.wrap (h.2+1)))))) else K h.1)) (0,0)
theorem ZAf (a0:ZMw)  {K:Int→Prop} (h:Zix a0 K) (w0:World) (q0:ZNg.rep a0 [u0_0] fp0 w0) :
  Calls ZMx 122 #[.agg #[u0_0]] w0 λe w'=>∃ (r0:Int),
   e=.returned (vI r0)∧K r0∧Bel w0 w':=by
 unfold Zix at h
 refine cof Tryz.func122 rfl 29 Tryz.ntmps122 ?_
 have G:=ZNf (X:=Nox) w0 [ZMt TForm a0 [u0_0] fp0] (al1 q0);have ab:=(G.getP 0 rfl);replace G:=G.derive 0 rfl (ZMt ZMv.ty.sl a0.terms [u0_0] fp0) (λ_=>(Y9 ab)) (λ_ ac=>ac)
 refine sr (Ya (v:=.agg #[u0_0]) G [u0_0] rfl rfl λb4 w6 aj G=>Zc (v:=vI 0) rfl (dn (sr (Zc (v:=vI 0) rfl (dn (ZMu (sr (Zc (v:=vI 0) rfl (dn (ZM0 ?_))))))))))
 refine X6 (S:=Int×Int) _ (λA e_ w_=>Zt e_ [(1,vQ b4),(3,vI A.1),(4,vI A.2)]∧Ctx Nox w0 w_ [blk b4 55 [u0_0]] [ZMt ZMv.ty.sl a0.terms [u0_0] fp0,ZMt TForm a0 [u0_0] fp0]) ?_ (s0:=(0,0)) ?_ h
 ·clear G h;rintro A e_ ak ah al ⟨ad,G⟩ h L;rw [ue ad];refine ZMu (sr (Za (v:=vI A.2) rfl (Zu 0 ZM1 rfl sc53.size rfl rfl (Z5 G 0 (u0_0) rfl sc53 rfl rfl (Zw G 0 rfl ZM4 rfl (Zn rfl rfl (dn ?_)))))))
  refine Zp rfl (λO=>?_) (λO=>?_)
  ·replace h:=ift h (ct O);refine ZMy (Zd (ZMu (ZM0 (sr (Zu 0 ZM1 rfl sc53.size rfl rfl (Z5 G 0 (u0_0) rfl sc53 rfl rfl (Za (v:=vI A.2) rfl ?_)))))))
   obtain ⟨⟨ae,ag⟩,h⟩:=h;obtain ⟨ai,am,V⟩:=Zx (G.getP 0 rfl) A.2.toNat (show A.2.toNat < a0.terms.length by omega)
   refine Ys (len:=a0.terms.length) ZM4 ag162.size (tr rfl V) rfl ae ag (Zei (A.2.toNat * 9+0) ZNa rfl ag136.size rfl rfl (Je (ZMs .u8 ((a0.terms.getD A.2.toNat ZEu).mono)) (Jz (o:=0) (k:=8) (Ye (G.getP 0 rfl) V A.2.toNat (show A.2.toNat < a0.terms.length by omega)) rfl) ag136 rfl rfl (Zf [.agg (ZHu (ZMs .u8 ((a0.terms.getD A.2.toNat ZEu).mono)))] _ ZYv rfl rfl rfl (Znr ((a0.terms.getD A.2.toNat ZEu).mono) h _) ?_)))
   rintro _ an ⟨I,rfl,h,aa⟩;refine rt ?_
   replace G:=G.grow aa;refine Zc (v:=vI I) rfl (dn (sr (Za (v:=vI A.2) rfl (Xg rfl rfl (Za (v:=.bool (decide (A.2=0))) rfl ?_)))))
   refine Y6 (decide (A.2=0)) (λB=>?_) (λB=>?_)
   ·replace h:=ift h (ct B);refine Zg (b:=true) 2 22 rfl (tr rfl (congrArg _ B)) (by decide) (Zg (b:=true) 2 22 rfl (tr rfl (congrArg _ B)) (by decide) (Zg (b:=true) 2 22 rfl (tr rfl (congrArg _ B)) (by decide) (Zs (v:=.bool true) (b:=true) (tr rfl (congrArg _ B)) rfl (dn (Z3 rfl rfl (Zj (Za (v:=vI I) rfl (Zc (v:=vI I) rfl (done (Zq (Zd (Zj (Za (v:=vI A.2) rfl (Zo rfl rfl (Zc (v:=vI (ZHf.wrap (A.2+1))) rfl (done ?_))))))))))))))))
    exact L (I,ZHf.wrap (A.2+1)) _ _ ⟨(slq rfl),G⟩ h
   ·replace h:=Zm h (cf B);refine Zh 2 22 rfl rfl B (Za (v:=vI I) rfl (Zh 2 22 rfl rfl B (Za (v:=vI A.1) rfl (Zh 2 22 rfl rfl B (Zn rfl rfl (Zs (v:=.bool (decide (I < A.1))) (b:=false) (tr rfl (congrArg _ B)) rfl (dn ?_)))))))
    refine Zp rfl (λU=>?_) (λU=>?_)
    ·replace h:=ift h (ct U);refine Zj (Za (v:=vI I) rfl (Zc (v:=vI I) rfl (done (Zq (Zd (Zj (Za (v:=vI A.2) rfl (Zo rfl rfl (Zc (v:=vI (ZHf.wrap (A.2+1))) rfl (done ?_))))))))))
     exact L (I,ZHf.wrap (A.2+1)) _ _ ⟨(slq rfl),G⟩ h
    ·replace h:=Zm h (cf U);refine ZMy (Zq (Zd (Zj (Za (v:=vI A.2) rfl (Zo rfl rfl (Zc (v:=vI (ZHf.wrap (A.2+1))) rfl (done ?_)))))))
     exact L (A.1,ZHf.wrap (A.2+1)) _ _ ⟨(slq rfl),G⟩ h
  ·replace h:=Zm h (cf O);refine ZM9 (Zk (Zk (Zy ?_)))
   refine Zd (sr (Za (v:=vI A.1) rfl (Zc (v:=vI A.1) rfl (dn (ZM3 ?_)))))
   exact Zi rfl (Ze rfl) ⟨A.1,rfl,h,G.below⟩ (.inl rfl)
 ·skip;exact⟨(slq rfl),G⟩
def Ziy (G:Alg) (K:Bool→Prop):Prop :=
 Xt (λ(h:Int) A=>(if h < (G.images.length:Int) then((0≤h∧h < (G.images.length:Int))∧Zix (G.images.getD h.toNat ZEu) (λB=>(if B=1 then K false else A (ZHf.wrap (h+1))))) else K true)) 0
theorem ZAg (a0:Alg)  {K:Bool→Prop} (h:Ziy a0 K) (w0:World) (q0:TAlg.rep a0 [u0_0,u0_1] fp0 w0) :
  Calls ZMx 70 #[.agg #[u0_0,u0_1]] w0 λe w'=>∃ (r0:Bool),
   e=.returned (.bool r0)∧K r0∧Bel w0 w':=by
 unfold Ziy at h
 refine cof Tryz.func70 rfl 18 Tryz.ntmps70 ?_
 have B:=ZNf (X:=Nox) w0 [ZMt TAlg a0 [u0_0,u0_1] fp0] (al1 q0);replace B:=B.dAlg 0 rfl;refine sr (Ya (v:=.agg #[u0_0,u0_1]) B [u0_0,u0_1] rfl rfl λb4 w6 al B=>Zc (v:=.bool false) rfl (dn (ZMu (sr (Zc (v:=vI 0) rfl (dn (ZM0 ?_)))))))
 refine X6 (S:=Int) _ (λA e_ w_=>Zt e_ [(1,vQ b4),(3,vI A)]∧Ctx Nox w0 w_ [blk b4 32 [u0_0,u0_1]] [ZMt ZNg.sl a0.images [u0_1] fp0,ZMt TInts a0.degrees [u0_0] fp0,ZMt TAlg a0 [u0_0,u0_1] fp0]) ?_ (s0:=0) ?_ h
 ·clear B h;rintro A e_ am aj an ⟨ae,B⟩ h aa;rw [ue ae];refine ZMu (sr (Za (v:=vI A) rfl (Zu 1 ZNe rfl sc30.size rfl rfl (Z5 B 0 (u0_1) rfl sc30 rfl rfl (Zw B 0 rfl ZNi rfl (Zn rfl rfl (dn ?_)))))))
  refine Zp rfl (λG=>?_) (λG=>?_)
  ·replace h:=ift h (ct G);refine ZMy (Zd (ZMu (ZM0 (sr (Zu 1 ZNe rfl sc30.size rfl rfl (Z5 B 0 (u0_1) rfl sc30 rfl rfl (Za (v:=vI A) rfl ?_)))))))
   obtain ⟨⟨ag,ah⟩,h⟩:=h;obtain ⟨ak,ao,L⟩:=Zx (B.getP 0 rfl) A.toNat (show A.toNat < a0.images.length by omega)
   refine Ys (len:=a0.images.length) ZNi ag55.size (tr rfl L) rfl ag ah ?_
   obtain ⟨ap,O,ab,U⟩:=Xp (B.getP 0 rfl) L A.toNat (show A.toNat < a0.images.length by omega)
   obtain ⟨V,rfl⟩:=ZJj.1 O;clear O;rw [Xm _ _ (show A.toNat < a0.images.length by omega)] at U
   have ac:=U;replace B:=B.derive 0 rfl (ZMt ZMv.ty.sl ((a0.images.getD A.toNat ZEu).terms) [V] fp0) (λ_=>(Y9 ac)) (λ_ ai=>ai)
   refine Je [V] ab ag55 rfl rfl (Zf [.agg #[V]] _ Tryz.func122 rfl rfl rfl (ZAf (a0.images.getD A.toNat ZEu) h _ (Yi (B.getP 0 rfl))) ?_)
   rintro _ aq ⟨ar,rfl,h,ad⟩;refine rt ?_
   replace B:=B.grow ad;refine Xg rfl rfl (dn ?_)
   refine Zp rfl (λI=>?_) (λI=>?_)
   ·replace h:=ift h (ct I);refine sr (Zc (v:=.bool false) rfl (dn ?_))
    refine ZM3 (Z8 (Zl (Zl (Z8 (Zl ?_)))))
    exact Zi rfl (Ze rfl) ⟨false,rfl,h,B.below⟩ (.inl rfl)
   ·replace h:=Zm h (cf I);refine ZMy (Zq (Zd (Zj (Za (v:=vI A) rfl (Zo rfl rfl (Zc (v:=vI (ZHf.wrap (A+1))) rfl (done ?_)))))))
    exact aa (ZHf.wrap (A+1)) _ _ ⟨(slq rfl),(B.sP [1,2,3] rfl)⟩ h
  ·replace h:=Zm h (cf G);refine ZM9 (Zk (Zk (Zy ?_)))
   refine Zd (sr (Zc (v:=.bool true) rfl (dn (ZM3 ?_))))
   exact Zi rfl (Ze rfl) ⟨true,rfl,h,B.below⟩ (.inl rfl)
 ·skip;exact⟨(slq rfl),B⟩
def Zbe (G:List Int) (K:Int→Prop):Prop :=
 Z9 (λh (B:Unit) A=>(if G.getD h ZEu≠0 then K (h:Int) else A ())) (λ(B:Unit)=>K (-1)) G.length 0 ()
theorem Zk4 (U:List Int)  {K:Int→Prop} (h:Zbe U K) (w0:World) (q0:ZPz.rep U [u0_0] fp0 w0) :
  Calls ZMx 126 #[u0_0] w0 λe w'=>∃ (r0:Int),
   e=.returned (vI r0)∧K r0∧Bel w0 w':=by
 unfold Zbe at h
 refine cof ZYt rfl 16 Tryz.ntmps126 ?_
 have B:=ZNf (X:=Nox) w0 [ZMt TInts U [u0_0] fp0] (al1 q0);refine sr (Zc (v:=vI 0) rfl (dn (ZMu (sr (Zc (v:=vI 0) rfl (dn (ZM0 ?_)))))))
 have aa:U.length≤9223372036854775807:=Y5 (B.getP 0 rfl);refine Yp (S:=Unit) _ _ (λA V e_ w_=>Zt e_ [(0,u0_0),(3,vI (A:Int))]∧Ctx Nox w0 w_ [] [ZMt TInts U [u0_0] fp0]) U.length ?_ ?_ (s0:=()) ?_ h
 ·clear B h;rintro A V e_ ag ad ac G ⟨L,B⟩ h ab;rw [ue L];refine ZMu (sr (Za (v:=vI (A:Int)) rfl (Za (v:=u0_0) rfl (Zw B 0 rfl ZNd rfl (Zn rfl rfl (dn (Z3 rfl (decide_eq_true (by omega)) (ZMy (Zd (ZMu (ZM0 (sr (Za (v:=u0_0) rfl (Za (v:=vI (A:Int)) rfl ?_))))))))))))))
  obtain ⟨ae,ah,O⟩:=Zx (B.getP 0 rfl) A G;refine Ys (len:=U.length) ZNd sc2.size (tr rfl O) rfl (ZNb _) (ZNt.2 G) (Yr (vI (U.getD A ZEu)) (Ye (B.getP 0 rfl) O A G) sc2 rfl (Y2 rfl rfl (dn ?_)))
  refine Zp rfl (λI=>?_) (λI=>?_)
  ·replace h:=ift h (ct I);refine sr (Za (v:=vI (A:Int)) rfl (Zc (v:=vI (A:Int)) rfl (dn ?_)))
   refine ZM3 (Z8 (Zl (Zl (Z8 (Zl ?_)))))
   exact Zi rfl (Ze rfl) ⟨(A:Int),rfl,h,B.below⟩ (.inl rfl)
  ·replace h:=Zm h (cf I);refine ZMy (Zq (Zd (Zj (Za (v:=vI (A:Int)) rfl (Zo rfl rfl (Zc (v:=vI (ZHf.wrap ((A:Int)+1))) rfl (done ?_)))))))
   exact ab () _ _ ⟨(sl ⟨rfl,(tr rfl (congrArg _ (Z7 G aa))),trivial⟩),B⟩ h
 ·clear B h;rintro V e_ ai ac ⟨L,B⟩ h;rw [ue L];refine ZMu (sr (Za (v:=vI (U.length:Int)) rfl (Za (v:=u0_0) rfl (Zw B 0 rfl ZNd rfl (Zn rfl rfl (dn (Z2 rfl (decide_eq_false (by omega)) ?_)))))))
  refine ZM9 (Zk (Zk (Zy ?_)))
  refine Zd (sr (Zc (v:=vI (-1)) rfl (dn (ZM3 ?_))))
  exact Zi rfl (Ze rfl) ⟨(-1),rfl,h,B.below⟩ (.inl rfl)
 ·skip;exact⟨(slq rfl),B⟩
def Jj (L:List Int) (O:List Int) (I:Int) (K:List Int→Prop):Prop :=
 ((0≤(L.length:Int)∧(L.length:Int) * 8≤281474976710656)∧Z9 (λh (A:(List Int)) B=>((0≤(h:Int)∧(h:Int) < (O.length:Int))∧X8 (ZHf.wrap ((L.getD h ZEu) - (ZHf.wrap (I * (O.getD h ZEu))))) (λG=>((0≤(h:Int)∧(h:Int) < (A.length:Int))∧B (A.set h G))))) (λ(A:(List Int))=>K A) L.length 0 (ZEp ((L.length:Int).toNat) (0:Int)))
theorem Ze8 (a0:List Int) (a1:List Int) (a2:Int)  {K:List Int→Prop} (h:Jj a0 a1 a2 K) (w0:World) (q0:ZPz.rep a0 [u0_0] fp0 w0) (q1:ZPz.rep a1 [u1_0] fp1 w0) :
  Calls ZMx 163 #[u0_0,u1_0,vI a2] w0 λe w'=>∃ (r0:List Int) (z0_0:Value) (ag:List Nat),
   e=.returned (z0_0)∧K r0∧(ZM8 (ZT0 2 (eI.tr)) r0 [z0_0] ag).holds w'∧(∀ b,b∈ag→w0.heap.size≤b)∧Bel w0 w':=by
 unfold Jj at h
 refine cof ZYq rfl 34 Tryz.ntmps163 ?_
 have B:=ZNf (X:=Nox) w0 [ZMt TInts a0 [u0_0] fp0,ZMt TInts a1 [u1_0] fp1] (alc q0 (al1 q1));refine sr (Zc (v:=.slice none 0 0) rfl (dn (sr (Za (v:=u0_0) rfl (Zw B 0 rfl ZNd rfl ?_)))))
 obtain ⟨av,h⟩:=h;refine Zcf (sz:=1) B (eI.encs (ZEp ((a0.length:Int).toNat) (0:Int))) ZNd el2 (tr rfl (congrArg (ZP4 .i64) (ZP5 av.1).symm)) (tr rfl (congrArg (ZP4 .i64) (ZP5 av.1).symm)) (by omega) (by omega) (Zb4 (E:=eI) _ _) λv6 w7 O B=>?_
 replace B:=Y7 B 0 ((ZEp ((a0.length:Int).toNat) (0:Int)).length) (eI.encs (ZEp ((a0.length:Int).toNat) (0:Int))) rfl (by simp) rfl
 refine Zc (v:=v6) rfl (dn (ZMu (sr (Zc (v:=vI 0) rfl (dn (ZM0 ?_))))))
 have ah:a0.length≤9223372036854775807:=Y5 (B.getP 0 rfl);refine Yp (S:=(List Int)) _ _ (λA I e_ w_=>∃ (L:Value),Zt e_ [(0,u0_0),(1,u1_0),(2,vI a2),(7,L),(8,vI (A:Int))]∧Ctx Nox w0 w_ [own 2 1 L I.length (eI.encs I)] [ZMt TInts a0 [u0_0] fp0,ZMt TInts a1 [u1_0] fp1]) a0.length ?_ ?_ (s0:=(ZEp ((a0.length:Int).toNat) (0:Int))) ?_ h
 ·clear B h;rintro A I e_ aw ar am V ⟨L,ab,B⟩ h ai;rw [ue ab];refine ZMu (sr (Za (v:=vI (A:Int)) rfl (Za (v:=u0_0) rfl (Zw B 0 rfl ZNd rfl (Zn rfl rfl (dn (Z3 rfl (decide_eq_true (by omega)) (ZMy (Zd (ZMu (ZM0 ?_)))))))))))
  refine cwd 14 Yh [0,0,0,0,12,28,0,0,0,384,896,1984,4092,8188,16383,32767] [4,5,9,10] [0,1,2,3,6,7,8,11,12] (λaa G ax O=>?_)
  replace B:=B.grow O;refine bM 0 (L) rfl G (Zb 16 1) (bM 1 (vI (A:Int)) rfl G (Zb 16 3) (bM 2 (u0_0) rfl G (Zb 16 7) (bM 3 (vI (A:Int)) rfl G (Zb 16 15) ?_)))
  obtain ⟨aj,ay,ac⟩:=Zx (B.getP 0 rfl) A V;refine bL 4 (.pointer (some (aj.add (A * 1)))) rfl rfl aa (λ_ O=>by exact Y1 (len:=a0.length) ZNd sc2.size (by exact tr rfl ac) rfl (ZNb _) (ZNt.2 V)) (Zb 16 31) (bL 5 (vI (a0.getD A ZEu)) rfl rfl aa (λ_ O=>by exact Xh (vI (a0.getD A ZEu)) (Ye ((B.grow O).getP 0 rfl) ac A V) sc2 rfl) (Zb 16 63) (bM 6 (vI a2) rfl G (Zb 16 127) (bM 7 (u1_0) rfl G (Zb 16 255) (bM 8 (vI (A:Int)) rfl G (Zb 16 511) ?_))))
  obtain ⟨⟨an,ao⟩,h⟩:=h;obtain ⟨ak,az,ad⟩:=Zx (B.getP 1 rfl) A (show A < a1.length by omega)
  refine bL 9 (.pointer (some (ak.add (A * 1)))) rfl rfl aa (λ_ O=>by exact Y1 (len:=a1.length) ZNd sc2.size (by exact tr rfl ad) rfl an ao) (Zb 16 1023) (bL 10 (vI (a1.getD A ZEu)) rfl rfl aa (λ_ O=>by exact Xh (vI (a1.getD A ZEu)) (Ye ((B.grow O).getP 1 rfl) ad A (show A < a1.length by omega)) sc2 rfl) (Zb 16 2047) (bF 11 (vI (ZHf.wrap (a2 * (a1.getD A ZEu)))) rfl rfl G (λ_=>by exact Zcy rfl rfl) (Zb 16 4095) (bF 12 (vI (ZHf.wrap ((a0.getD A ZEu) - (ZHf.wrap (a2 * (a1.getD A ZEu)))))) rfl rfl G (λ_=>by exact Zha rfl rfl) (Zb 16 8191) (aO 13 rfl (Zf [vI (ZHf.wrap ((a0.getD A ZEu) - (ZHf.wrap (a2 * (a1.getD A ZEu)))))] _ ZNk rfl rfl rfl (Zbo (ZHf.wrap ((a0.getD A ZEu) - (ZHf.wrap (a2 * (a1.getD A ZEu))))) h _) ?_)))))
  rintro _ a3 ⟨U,rfl,h,al⟩;refine rt ?_
  replace B:=B.grow al;refine done (aK (by assumption) (Zb 16 16383) (Z0 14 (by decide) (by decide) (by kernel_rfl) (by kernel_rfl) rfl ?_))
  obtain ⟨⟨ap,aq⟩,h⟩:=h;obtain ⟨au,a4,ae⟩:=Jf (B.getM 0 rfl) (ZQe (ZFz _) (show A < I.length by omega))
  refine Js (A * 1) ZNd sc2.size (tr rfl ae) rfl ap aq rfl (Zdo (v:=vI U) B 0 [vI U] (eI.encs (I.set A U)) rfl ae sc2.size rfl rfl rfl rfl rfl (by rw [Enc.encs_len]; exact Za3 (sz:=1) (show A < I.length by omega)) (Zdp _ _ _ (show A < I.length by omega)) λa5 B=>?_)
  replace B:=Y7 B 0 ((I.set A U).length) (eI.encs (I.set A U)) rfl (by simp) rfl
  refine done (Z1 (Zq (Zd (Zj (Za (v:=vI (A:Int)) rfl (Zo rfl rfl (Zc (v:=vI (ZHf.wrap ((A:Int)+1))) rfl (done ?_))))))))
  exact ai (I.set A U) _ _ ⟨L,(sl ⟨rfl,rfl,rfl,rfl,(tr rfl (congrArg _ (Z7 V ah))),trivial⟩),B⟩ h
 ·clear B h;rintro I e_ a6 am ⟨L,ab,B⟩ h;rw [ue ab];refine ZMu (sr (Za (v:=vI (a0.length:Int)) rfl (Za (v:=u0_0) rfl (Zw B 0 rfl ZNd rfl (Zn rfl rfl (dn (Z2 rfl (decide_eq_false (by omega)) ?_)))))))
  refine ZM9 (Zk (Zk (Zy ?_)))
  refine Zd (sr (Za (v:=L) rfl (Zc (v:=L) rfl (dn (ZM3 ?_)))))
  exact Zi rfl (Ze rfl) ⟨I,L,(ZNu (ZFo L)),rfl,h,(Xx (B.getM 0 rfl)),(Yt B 0 rfl),B.below⟩ (.inl rfl)
 ·skip;exact⟨v6,(slq rfl),B⟩
def Zgj (L:List Int) (O:List (List Int)) (K:List Int→Prop):Prop :=
 Z9 (λG (h:(List Int)) B=>Zbe (O.getD G ZEu) (λA=>((0≤A∧A < (h.length:Int))∧(if h.getD A.toNat ZEu≠0 then((0≤A∧A < (h.length:Int))∧Jj h (O.getD G ZEu) (h.getD A.toNat ZEu) (λI=>B I)) else B h)))) (λ(h:(List Int))=>K h) O.length 0 L
theorem Zr7 (a0:List Int) (a1:List (List Int))  {K:List Int→Prop} (h:Zgj a0 a1 K) (w0:World) (q0:ZPz.rep a0 [u0_0] fp0 w0) (q1:(ZPz.sl).rep a1 [u1_0] fp1 w0) :
  Calls ZMx 127 #[u0_0,u1_0] w0 λe w'=>∃ (r0:List Int) (z0_0:Value) (ax:List Nat),
   e=.returned (z0_0)∧K r0∧ZPz.rep r0 [z0_0] ax w'∧(∀ b,b∈ax→w0.heap.size≤b∨b∈(fp0++(fp1)))∧Bel w0 w':=by
 unfold Zgj at h
 refine cof ZYy rfl 34 Tryz.ntmps127 ?_
 have A:=ZNf (X:=Nox) w0 [ZMt TInts a0 [u0_0] fp0,ZMt (ZPz.sl) a1 [u1_0] fp1] (alc q0 (al1 q1));refine sr (Zc (v:=.slice none 0 0) rfl (dn (ZMu (sr (Zc (v:=vI 0) rfl (dn (ZM0 ?_)))))))
 have aj:a1.length≤9223372036854775807:=Y5 (A.getP 1 rfl);refine Yp (S:=(List Int)) _ _ (λB G e_ w_=>∃ (O:Value),∃ (ab:List Nat),Zt e_ [(0,O),(1,u1_0),(5,vI (B:Int))]∧(∀ b,b∈ab→w0.heap.size≤b∨b∈(fp0++(fp1)))∧Ctx Nox w0 w_ [] [ZMt TInts G [O] ab,ZMt TInts a0 [u0_0] fp0,ZMt (ZPz.sl) a1 [u1_0] fp1]) a1.length ?_ ?_ (s0:=a0) ?_ h
 ·clear A h;rintro B G e_ bn bk bb L ⟨O,ab,ak,ag,A⟩ h al;rw [ue ak];refine ZMu (sr (Za (v:=vI (B:Int)) rfl (Za (v:=u1_0) rfl (Zw A 2 rfl ZUw rfl (Zn rfl rfl (dn (Z3 rfl (decide_eq_true (by omega)) (ZMy (Zd (ZMu (ZM0 (sr (Za (v:=u1_0) rfl (Za (v:=vI (B:Int)) rfl ?_))))))))))))))
  obtain ⟨bl,bo,am⟩:=Zx (A.getP 2 rfl) B L;refine Ys (len:=a1.length) ZUw sc22.size (tr rfl am) rfl (ZNb _) (ZNt.2 L) ?_
  obtain ⟨bc,an,ay,ao⟩:=Xp (A.getP 2 rfl) am B L;obtain ⟨ap,rfl⟩:=ZJj.1 an;clear an;rw [Xm _ _ L] at ao
  replace A:=A.derive 2 rfl (ZMt TInts (a1.getD B ZEu) [ap] fp1) (λ_=>ao) (λ_ ad=>ad)
  refine Yr (ap) ay sc22 rfl (Zf [ap] _ ZYt rfl rfl rfl (Zk4 (a1.getD B ZEu) h _ (A.getP 0 rfl)) ?_)
  rintro _ bp ⟨I,rfl,h,az⟩;refine rt ?_
  replace A:=A.grow az;refine Zc (v:=vI I) rfl (dn (sr (Za (v:=O) rfl (Za (v:=vI I) rfl ?_))))
  obtain ⟨⟨bd,be⟩,h⟩:=h;obtain ⟨bm,bq,aq⟩:=Zx (A.getP 1 rfl) I.toNat (show I.toNat < G.length by omega)
  refine Ys (len:=G.length) ZNd sc2.size (tr rfl aq) rfl bd be (Yr (vI (G.getD I.toNat ZEu)) (Ye (A.getP 1 rfl) aq I.toNat (show I.toNat < G.length by omega)) sc2 rfl (Y2 rfl rfl (dn ?_)))
  refine Zp rfl (λah=>?_) (λah=>?_)
  ·replace h:=ift h (ct ah);refine cwd 9 Yh [0,0,0,6,14,0,0,96,224,511,1023] [3,4,7,8] [0,1,2,5,6] (λac U br V=>?_)
   replace A:=A.grow V;refine bM 0 (O) rfl U (Zb 11 1) (bM 1 (u1_0) rfl U (Zb 11 3) (bM 2 (vI (B:Int)) rfl U (Zb 11 7) ?_))
   obtain ⟨a2,bs,ar⟩:=Zx (A.getP 3 rfl) B L;refine bL 3 (.pointer (some (a2.add (B * 1)))) rfl rfl ac (λ_ V=>by exact Y1 (len:=a1.length) ZUw sc22.size (by exact tr rfl ar) rfl (ZNb _) (ZNt.2 L)) (Zb 11 15) ?_
   obtain ⟨bc,au,a3,av⟩:=Xp (A.getP 3 rfl) ar B L;obtain ⟨ai,rfl⟩:=ZJj.1 au;clear au;rw [Xm _ _ L] at av
   replace A:=A.derive 3 rfl (ZMt TInts (a1.getD B ZEu) [ai] fp1) (λ_=>av) (λ_ ad=>ad)
   refine bL 4 (ai) rfl rfl ac (λ_ V=>by exact Xh (ai) (Zaw V a3) sc22 rfl) (Zb 11 31) (bM 5 (O) rfl U (Zb 11 63) (bM 6 (vI I) rfl U (Zb 11 127) ?_))
   obtain ⟨⟨bh,bi⟩,h⟩:=h;obtain ⟨a4,bt,aw⟩:=Zx (A.getP 2 rfl) I.toNat (show I.toNat < G.length by omega)
   refine bL 7 (.pointer (some (a4.add (I.toNat * 1)))) rfl rfl ac (λ_ V=>by exact Y1 (len:=G.length) ZNd sc2.size (by exact tr rfl aw) rfl bh bi) (Zb 11 255) (bL 8 (vI (G.getD I.toNat ZEu)) rfl rfl ac (λ_ V=>by exact Xh (vI (G.getD I.toNat ZEu)) (Ye ((A.grow V).getP 2 rfl) aw I.toNat (show I.toNat < G.length by omega)) sc2 rfl) (Zb 11 511) (Z0 9 (by decide) (by decide) (by kernel_rfl) (by kernel_rfl) rfl (Zf [O,ai,vI (G.getD I.toNat ZEu)] _ ZYq rfl rfl rfl (Ze8 G (a1.getD B ZEu) (G.getD I.toNat ZEu) h _ (A.getP 2 rfl) (A.getP 0 rfl)) ?_)))
   rintro _ bu ⟨ae,aa,bj,rfl,h,a5,a6,a7⟩;refine rt ?_
   replace A:=A.push a7 (ZM8 (ZT0 2 (eI.tr)) ae [aa] bj) a5 a6;obtain ⟨a8,a9⟩:=Y4 (A.getM 0 rfl).1;subst a9;replace A:=A.recast (c:=own 2 1 aa ae.length (eI.encs ae)) (λ_ h_=>h_) (λ_=>a8)
   refine Zc (v:=aa) rfl (done (Z1 (Zq (Zd (Zj (Za (v:=vI (B:Int)) rfl (Zo rfl rfl (Zc (v:=vI (ZHf.wrap ((B:Int)+1))) rfl (done ?_)))))))))
   have ba:=Yt A 0 rfl;replace A:=A.thaw 0 rfl (ZMt TInts ae [aa] (ZNu (ZFo aa))) Ym (λ_ ad=>ad)
   exact al ae _ _ ⟨aa,(ZNu (ZFo aa)),(sl ⟨rfl,rfl,(tr rfl (congrArg _ (Z7 L aj))),trivial⟩),(λb hb=>.inl (ba b hb)),(A.sP [0,4,5] rfl)⟩ h
  ·replace h:=Zm h (cf ah);refine ZMy (Zq (Zd (Zj (Za (v:=vI (B:Int)) rfl (Zo rfl rfl (Zc (v:=vI (ZHf.wrap ((B:Int)+1))) rfl (done ?_)))))))
   exact al G _ _ ⟨O,ab,(sl ⟨rfl,rfl,(tr rfl (congrArg _ (Z7 L aj))),trivial⟩),ag,(A.sP [1,2,3] rfl)⟩ h
 ·clear A h;rintro G e_ bv bb ⟨O,ab,ak,ag,A⟩ h;rw [ue ak];refine ZMu (sr (Za (v:=vI (a1.length:Int)) rfl (Za (v:=u1_0) rfl (Zw A 2 rfl ZUw rfl (Zn rfl rfl (dn (Z2 rfl (decide_eq_false (by omega)) ?_)))))))
  refine ZM9 (Zk (Zk (Zy ?_)))
  refine Zd (sr (Za (v:=O) rfl (Zc (v:=O) rfl (dn (ZM3 ?_)))))
  exact Zi rfl (Ze rfl) ⟨G,O,ab,rfl,h,(A.getP 0 rfl),(λb hb=>ag b hb),A.below⟩ (.inl rfl)
 ·skip;exact⟨u0_0,fp0,(slq rfl),(λb hb=>.inr (ZE7 _ hb)),(A.sP [0,0,1] rfl)⟩
def Zca (B:ZMw) (G:List A8) (K:List Int→Prop):Prop :=
 ((0≤(G.length:Int)∧(G.length:Int) * 8≤281474976710656)∧Xt (λ(h:(List Int)×Int×Int) A=>(if h.2.2 < (G.length:Int) then(if h.2.1 < (B.terms.length:Int) then((0≤h.2.1∧h.2.1 < (B.terms.length:Int))∧((0≤h.2.2∧h.2.2 < (G.length:Int))∧(if(B.terms.getD h.2.1.toNat ZEu).mono=G.getD h.2.2.toNat ZEu then((0≤h.2.1∧h.2.1 < (B.terms.length:Int))∧((0≤h.2.2∧h.2.2 < (h.1.length:Int))∧A (h.1.set h.2.2.toNat ((B.terms.getD h.2.1.toNat ZEu).factor),ZHf.wrap (h.2.1+1),ZHf.wrap (h.2.2+1)))) else A (h.1,h.2.1,ZHf.wrap (h.2.2+1))))) else K h.1) else K h.1)) (ZEp ((G.length:Int).toNat) (0:Int),0,0))
theorem Zgk (a0:ZMw) (a1:List A8)  {K:List Int→Prop} (h:Zca a0 a1 K) (w0:World) (q0:ZNg.rep a0 [u0_0] fp0 w0) (q1:((EA .u8).ty.sl).rep a1 [u1_0] fp1 w0) :
  Calls ZMx 128 #[.agg #[u0_0],u1_0] w0 λe w'=>∃ (r0:List Int) (z0_0:Value) (aj:List Nat),
   e=.returned (z0_0)∧K r0∧(ZM8 (ZT0 2 (eI.tr)) r0 [z0_0] aj).holds w'∧(∀ b,b∈aj→w0.heap.size≤b)∧Bel w0 w':=by
 unfold Zca at h
 refine cof ZYr rfl 47 Tryz.ntmps128 ?_
 have B:=ZNf (X:=Nox) w0 [ZMt TForm a0 [u0_0] fp0,ZMt ((EA .u8).ty.sl) a1 [u1_0] fp1] (alc q0 (al1 q1));have am:=(B.getP 0 rfl);replace B:=B.derive 0 rfl (ZMt ZMv.ty.sl a0.terms [u0_0] fp0) (λ_=>(Y9 am)) (λ_ an=>an)
 refine sr (Ya (v:=.agg #[u0_0]) B [u0_0] rfl rfl λb5 w7 L B=>Zc (v:=.slice none 0 0) rfl (dn (sr (Za (v:=u1_0) rfl (Zw B 2 rfl ZYn rfl ?_)))))
 obtain ⟨ab,h⟩:=h;refine Zcf (sz:=1) B (eI.encs (ZEp ((a1.length:Int).toNat) (0:Int))) ZNd el2 (tr rfl (congrArg (ZP4 .i64) (ZP5 ab.1).symm)) (tr rfl (congrArg (ZP4 .i64) (ZP5 ab.1).symm)) (by omega) (by omega) (Zb4 (E:=eI) _ _) λak a4 L B=>?_
 replace B:=Y7 B 0 ((ZEp ((a1.length:Int).toNat) (0:Int)).length) (eI.encs (ZEp ((a1.length:Int).toNat) (0:Int))) rfl (by simp) rfl
 refine Zc (v:=ak) rfl (Zc (v:=vI 0) rfl (dn (ZMu (sr (Zc (v:=vI 0) rfl (dn (ZM0 ?_)))))))
 refine X6 (S:=(List Int)×Int×Int) _ (λA e_ w_=>∃ (I:Value),Zt e_ [(1,u1_0),(2,vQ b5),(5,I),(6,vI A.2.1),(7,vI A.2.2)]∧Ctx Nox w0 w_ [own 2 1 I A.1.length (eI.encs A.1),blk b5 55 [u0_0]] [ZMt ZMv.ty.sl a0.terms [u0_0] fp0,ZMt TForm a0 [u0_0] fp0,ZMt ((EA .u8).ty.sl) a1 [u1_0] fp1]) ?_ (s0:=(ZEp ((a1.length:Int).toNat) (0:Int),0,0)) ?_ h
 ·clear B h;rintro A e_ a5 az a6 ⟨I,ao,B⟩ h ac;rw [ue ao];refine ZMu (sr (Za (v:=vI A.2.2) rfl (Za (v:=u1_0) rfl (Zw B 2 rfl ZYn rfl (Zn rfl rfl (Za (v:=.bool (decide (A.2.2 < (a1.length:Int)))) rfl ?_))))))
  refine Y6 (decide (A.2.2 < (a1.length:Int))) (λG=>?_) (λG=>?_)
  ·replace h:=ift h (ct G);refine Zh 4 15 rfl rfl G (Za (v:=vI A.2.1) rfl (Zh 4 15 rfl rfl G (Zu 0 ZM1 rfl sc53.size rfl rfl (Zh 4 15 rfl rfl G (Z5 B 1 (u0_0) rfl sc53 rfl rfl (Zh 4 15 rfl rfl G (Zw B 0 rfl ZM4 rfl (Zh 4 15 rfl rfl G (Zn rfl rfl (Zs (v:=.bool (decide (A.2.1 < (a0.terms.length:Int)))) (b:=true) (tr rfl (congrArg _ G)) rfl (dn ?_)))))))))))
   refine Zp rfl (λV=>?_) (λV=>?_)
   ·replace h:=ift h (ct V);refine ZMy (Zd (ZMu (ZM0 (ZMu ?_))))
    refine cwd 10 Yh [0,1,0,7,15,31,0,0,192,448,1023] [1,3,5,8,9] [0,2,4,6,7] (λO U a7 L=>?_)
    replace B:=B.grow L;refine bF 0 (vQ b5) rfl rfl U (λ_=>by exact Yk 0 ZM1 rfl sc53.size rfl rfl) (Zb 11 1) (bL 1 (u0_0) rfl rfl O (λ_ L=>by exact Yc (B.grow L) 1 (u0_0) rfl sc53 rfl rfl) (Zb 11 3) (bM 2 (vI A.2.1) rfl U (Zb 11 7) ?_))
    obtain ⟨⟨ap,aq⟩,h⟩:=h;obtain ⟨ad,a8,ae⟩:=Zx (B.getP 0 rfl) A.2.1.toNat (show A.2.1.toNat < a0.terms.length by omega)
    refine bL 3 (.pointer (some (ad.add (A.2.1.toNat * 9)))) rfl rfl O (λ_ L=>by exact Y1 (len:=a0.terms.length) ZM4 ag162.size (by exact tr rfl ae) rfl ap aq) (Zb 11 15) (bF 4 (.pointer (some (ad.add (A.2.1.toNat * 9+0)))) rfl rfl U (λ_=>by exact Za1 (A.2.1.toNat * 9+0) ZNa rfl ag136.size rfl rfl) (Zb 11 31) (bL 5 (.agg (ZHu (ZMs .u8 ((a0.terms.getD A.2.1.toNat ZEu).mono)))) rfl rfl O (λ_ L=>by exact Jr (ZMs .u8 ((a0.terms.getD A.2.1.toNat ZEu).mono)) (Jz (o:=0) (k:=8) (Ye ((B.grow L).getP 0 rfl) ae A.2.1.toNat (show A.2.1.toNat < a0.terms.length by omega)) rfl) ag136 rfl rfl) (Zb 11 63) (bM 6 (u1_0) rfl U (Zb 11 127) (bM 7 (vI A.2.2) rfl U (Zb 11 255) ?_))))
    obtain ⟨⟨ar,au⟩,h⟩:=h;obtain ⟨al,a9,ag⟩:=Zx (B.getP 2 rfl) A.2.2.toNat (show A.2.2.toNat < a1.length by omega)
    refine bL 8 (.pointer (some (al.add (A.2.2.toNat * 8)))) rfl rfl O (λ_ L=>by exact Y1 (len:=a1.length) ZYn ag136.size (by exact tr rfl ag) rfl ar au) (Zb 11 511) (bL 9 (.agg (ZHu (ZMs .u8 (a1.getD A.2.2.toNat ZEu)))) rfl rfl O (λ_ L=>by exact Jr (ZMs .u8 (a1.getD A.2.2.toNat ZEu)) (Ye ((B.grow L).getP 2 rfl) ag A.2.2.toNat (show A.2.2.toNat < a1.length by omega)) ag136 rfl rfl) (Zb 11 1023) (Z0 10 (by decide) (by decide) (by kernel_rfl) (by kernel_rfl) rfl (Zyl Zz9 Zz8 rfl rfl (done (Z1 (Zd ?_))))))
    refine Zp rfl (λaa=>?_) (λaa=>?_)
    ·replace h:=ift h (ct aa);refine sr (Za (v:=I) rfl (Za (v:=vI A.2.2) rfl (Zu 0 ZM1 rfl sc53.size rfl rfl (Z5 B 1 (u0_0) rfl sc53 rfl rfl (Za (v:=vI A.2.1) rfl ?_)))))
     obtain ⟨⟨av,aw⟩,h⟩:=h;obtain ⟨a2,ba,ah⟩:=Zx (B.getP 0 rfl) A.2.1.toNat (show A.2.1.toNat < a0.terms.length by omega)
     refine Ys (len:=a0.terms.length) ZM4 ag162.size (tr rfl ah) rfl av aw (Zei (A.2.1.toNat * 9+8) ZNa rfl sc2.size rfl rfl (Yr (vI ((a0.terms.getD A.2.1.toNat ZEu).factor)) (Jz (o:=8) (k:=1) (Ye (B.getP 0 rfl) ah A.2.1.toNat (show A.2.1.toNat < a0.terms.length by omega)) rfl) sc2 rfl ?_))
     obtain ⟨⟨ax,ay⟩,h⟩:=h;obtain ⟨a3,bb,ai⟩:=Jf (B.getM 0 rfl) (ZQe (ZFz _) (show A.2.2.toNat < A.1.length by omega))
     refine Js (A.2.2.toNat * 1) ZNd sc2.size (tr rfl ai) rfl ax ay rfl (Zdo (v:=vI ((a0.terms.getD A.2.1.toNat ZEu).factor)) B 0 [vI ((a0.terms.getD A.2.1.toNat ZEu).factor)] (eI.encs (A.1.set A.2.2.toNat ((a0.terms.getD A.2.1.toNat ZEu).factor))) rfl ai sc2.size rfl rfl rfl rfl rfl (by rw [Enc.encs_len]; exact Za3 (sz:=1) (show A.2.2.toNat < A.1.length by omega)) (Zdp _ _ _ (show A.2.2.toNat < A.1.length by omega)) λbc B=>?_)
     replace B:=Y7 B 0 ((A.1.set A.2.2.toNat ((a0.terms.getD A.2.1.toNat ZEu).factor)).length) (eI.encs (A.1.set A.2.2.toNat ((a0.terms.getD A.2.1.toNat ZEu).factor))) rfl (by simp) rfl
     refine dn (Zj (Za (v:=vI A.2.1) rfl (Zo rfl rfl (Zc (v:=vI (ZHf.wrap (A.2.1+1))) rfl (done (Zq (Zd (Zj (Za (v:=vI A.2.2) rfl (Zo rfl rfl (Zc (v:=vI (ZHf.wrap (A.2.2+1))) rfl (done ?_))))))))))))
     exact ac (A.1.set A.2.2.toNat ((a0.terms.getD A.2.1.toNat ZEu).factor),ZHf.wrap (A.2.1+1),ZHf.wrap (A.2.2+1)) _ _ ⟨I,(slq rfl),B⟩ h
    ·replace h:=Zm h (cf aa);refine ZMy (Zq (Zd (Zj (Za (v:=vI A.2.2) rfl (Zo rfl rfl (Zc (v:=vI (ZHf.wrap (A.2.2+1))) rfl (done ?_)))))))
     exact ac (A.1,A.2.1,ZHf.wrap (A.2.2+1)) _ _ ⟨I,(slq rfl),B⟩ h
   ·replace h:=Zm h (cf V);refine ZM9 (Zk (Zk (Zy ?_)))
    refine Zd (sr (Za (v:=I) rfl (Zc (v:=I) rfl (dn (ZM3 ?_)))))
    exact Zi rfl (Ze rfl) ⟨A.1,I,(ZNu (ZFo I)),rfl,h,(Xx (B.getM 0 rfl)),(Yt B 0 rfl),B.below⟩ (.inl rfl)
  ·replace h:=Zm h (cf G);refine Zg (b:=false) 4 15 rfl (tr rfl (congrArg _ G)) (by decide) (Zg (b:=false) 4 15 rfl (tr rfl (congrArg _ G)) (by decide) (Zg (b:=false) 4 15 rfl (tr rfl (congrArg _ G)) (by decide) (Zg (b:=false) 4 15 rfl (tr rfl (congrArg _ G)) (by decide) (Zg (b:=false) 4 15 rfl (tr rfl (congrArg _ G)) (by decide) (Zs (v:=.bool false) (b:=false) (tr rfl (congrArg _ G)) rfl (dn (Z2 rfl rfl ?_)))))))
   refine ZM9 (Zk (Zk (Zy ?_)))
   refine Zd (sr (Za (v:=I) rfl (Zc (v:=I) rfl (dn (ZM3 ?_)))))
   exact Zi rfl (Ze rfl) ⟨A.1,I,(ZNu (ZFo I)),rfl,h,(Xx (B.getM 0 rfl)),(Yt B 0 rfl),B.below⟩ (.inl rfl)
 ·skip;exact⟨ak,(slq rfl),B⟩
def Ze9 (h:Int) (K:Int→Prop):Prop :=
 Xt (λ(A:Int×Int×Int) next7=>(if A.2.2 > 0 then(if ZFl A.2.2 2=1 then next7 (ZFl (ZHf.wrap (A.1 * A.2.1)) 10007,ZFl (ZHf.wrap (A.2.1 * A.2.1)) 10007,ZHf.wrap (ZT1 A.2.2 2)) else next7 (A.1,ZFl (ZHf.wrap (A.2.1 * A.2.1)) 10007,ZHf.wrap (ZT1 A.2.2 2))) else K A.1)) (1,h,10005)
theorem Zr8 (I:Int)  {K:Int→Prop} (h:Ze9 I K) (w0:World)  :
  Calls ZMx 164 #[vI I] w0 λe w'=>∃ (L:Int),
   e=.returned (vI L)∧K L∧Bel w0 w':=by
 unfold Ze9 at h
 refine cof ZYz rfl 23 Tryz.ntmps164 ?_
 have G:=ZNf (X:=Nox) w0 [] (by simp)
 refine sr (Zc (v:=vI 0) rfl (dn (sr (Za (v:=vI I) rfl (Zc (v:=vI 1) rfl (Zc (v:=vI I) rfl (dn (ZMu (sr (Zc (v:=vI 10005) rfl (dn (ZM0 ?_))))))))))))
 refine X6 (S:=Int×Int×Int) _ (λV O w_=>Zt O [(3,vI V.1),(4,vI V.2.1),(5,vI V.2.2)]∧Ctx Nox w0 w_ [] []) ?_ (s0:=(1,I,10005)) ?_ h
 ·clear G h;rintro V O aa next7 K8 ⟨U,G⟩ h hK9;rw [ue U];refine ZMu (sr (Za (v:=vI V.2.2) rfl (Ja rfl rfl (dn ?_))))
  refine Zp rfl (λA=>?_) (λA=>?_)
  ·replace h:=ift h (ct A);refine ZMy (Zd (ZMu (ZM0 (ZMu (sr (Za (v:=vI V.2.2) rfl (X3 rfl rfl (by decide) (Xg rfl rfl (dn ?_)))))))))
   refine Zp rfl (λB=>?_) (λB=>?_)
   ·replace h:=ift h (ct B);refine Zj (Za (v:=vI V.1) rfl (Za (v:=vI V.2.1) rfl (Zal rfl rfl (X3 rfl rfl (by decide) (Zc (v:=vI (ZFl (ZHf.wrap (V.1 * V.2.1)) 10007)) rfl (dn (Zj (Za (v:=vI V.2.1) rfl (Za (v:=vI V.2.1) rfl (Zal rfl rfl (X3 rfl rfl (by decide) (Zc (v:=vI (ZFl (ZHf.wrap (V.2.1 * V.2.1)) 10007)) rfl (done (Zq (Zd (Zj (Za (v:=vI V.2.2) rfl (Zfn rfl rfl (by decide) (Zc (v:=vI (ZHf.wrap (ZT1 V.2.2 2))) rfl (done ?_))))))))))))))))))))
    exact hK9 (ZFl (ZHf.wrap (V.1 * V.2.1)) 10007,ZFl (ZHf.wrap (V.2.1 * V.2.1)) 10007,ZHf.wrap (ZT1 V.2.2 2)) _ _ ⟨(slq rfl),G⟩ h
   ·replace h:=Zm h (cf B);refine ZMy (Zd (Zj (Za (v:=vI V.2.1) rfl (Za (v:=vI V.2.1) rfl (Zal rfl rfl (X3 rfl rfl (by decide) (Zc (v:=vI (ZFl (ZHf.wrap (V.2.1 * V.2.1)) 10007)) rfl (done (Zq (Zd (Zj (Za (v:=vI V.2.2) rfl (Zfn rfl rfl (by decide) (Zc (v:=vI (ZHf.wrap (ZT1 V.2.2 2))) rfl (done ?_)))))))))))))))
    exact hK9 (V.1,ZFl (ZHf.wrap (V.2.1 * V.2.1)) 10007,ZHf.wrap (ZT1 V.2.2 2)) _ _ ⟨(slq rfl),G⟩ h
  ·replace h:=Zm h (cf A);refine ZM9 (Zk (Zk (Zy ?_)))
   refine Zd (sr (Za (v:=vI V.1) rfl (Zc (v:=vI V.1) rfl (dn (ZM3 ?_)))))
   exact Zi rfl (Ze rfl) ⟨V.1,rfl,h,G.below⟩ (.inl rfl)
 ·skip;exact⟨(slq rfl),G⟩
def Ziz (a0:List (List Int)) (a1:List Int) (K:List (List Int)→Prop):Prop :=
 Zgj a1 a0 (λr6=>Zbe r6 (λA=>(if A < 0 then K a0 else((0≤A∧A < (r6.length:Int))∧(((0≤(r6.length:Int)∧(r6.length:Int) * 8≤281474976710656)∧Ze9 (r6.getD A.toNat ZEu) (λad=>X8 (ZHf.wrap (0 - ad)) (λae=>Jj (ZEp ((r6.length:Int).toNat) (0:Int)) r6 ae (λI=>Z9 (λB (h:(List (List Int))×Bool) G=>(if¬ (h.2=true) then Zbe (a0.getD B ZEu) (λU=>(if U > A then(Z4 (h.1.length+1) 24∧((0≤A∧A < ((a0.getD B ZEu).length:Int))∧Jj (a0.getD B ZEu) I ((a0.getD B ZEu).getD A.toNat ZEu) (λV=>(Z4 ((h.1++[I]).length+1) 24∧G ((h.1++[I])++[V],true))))) else((0≤A∧A < ((a0.getD B ZEu).length:Int))∧Jj (a0.getD B ZEu) I ((a0.getD B ZEu).getD A.toNat ZEu) (λaa=>(Z4 (h.1.length+1) 24∧G (h.1++[aa],h.2)))))) else((0≤A∧A < ((a0.getD B ZEu).length:Int))∧Jj (a0.getD B ZEu) I ((a0.getD B ZEu).getD A.toNat ZEu) (λab=>(Z4 (h.1.length+1) 24∧G (h.1++[ab],h.2)))))) (λ(h:(List (List Int))×Bool)=>(if¬ (h.2=true) then(Z4 (h.1.length+1) 24∧K (h.1++[I])) else K h.1)) a0.length 0 ([],false)))))∧Ze9 (r6.getD A.toNat ZEu) (λac=>(((0≤(r6.length:Int)∧(r6.length:Int) * 8≤281474976710656)∧X8 (ZHf.wrap (0 - ac)) (λag=>Jj (ZEp ((r6.length:Int).toNat) (0:Int)) r6 ag (λL=>Z9 (λB (h:(List (List Int))×Bool) G=>(if¬ (h.2=true) then Zbe (a0.getD B ZEu) (λU=>(if U > A then(Z4 (h.1.length+1) 24∧((0≤A∧A < ((a0.getD B ZEu).length:Int))∧Jj (a0.getD B ZEu) L ((a0.getD B ZEu).getD A.toNat ZEu) (λV=>(Z4 ((h.1++[L]).length+1) 24∧G ((h.1++[L])++[V],true))))) else((0≤A∧A < ((a0.getD B ZEu).length:Int))∧Jj (a0.getD B ZEu) L ((a0.getD B ZEu).getD A.toNat ZEu) (λaa=>(Z4 (h.1.length+1) 24∧G (h.1++[aa],h.2)))))) else((0≤A∧A < ((a0.getD B ZEu).length:Int))∧Jj (a0.getD B ZEu) L ((a0.getD B ZEu).getD A.toNat ZEu) (λab=>(Z4 (h.1.length+1) 24∧G (h.1++[ab],h.2)))))) (λ(h:(List (List Int))×Bool)=>(if¬ (h.2=true) then(Z4 (h.1.length+1) 24∧K (h.1++[L])) else K h.1)) a0.length 0 ([],false))))∧X8 (ZHf.wrap (0 - ac)) (λah=>((0≤(r6.length:Int)∧(r6.length:Int) * 8≤281474976710656)∧Jj (ZEp ((r6.length:Int).toNat) (0:Int)) r6 ah (λO=>Z9 (λB (h:(List (List Int))×Bool) G=>(if¬ (h.2=true) then Zbe (a0.getD B ZEu) (λU=>(if U > A then(Z4 (h.1.length+1) 24∧((0≤A∧A < ((a0.getD B ZEu).length:Int))∧Jj (a0.getD B ZEu) O ((a0.getD B ZEu).getD A.toNat ZEu) (λV=>(Z4 ((h.1++[O]).length+1) 24∧G ((h.1++[O])++[V],true))))) else((0≤A∧A < ((a0.getD B ZEu).length:Int))∧Jj (a0.getD B ZEu) O ((a0.getD B ZEu).getD A.toNat ZEu) (λaa=>(Z4 (h.1.length+1) 24∧G (h.1++[aa],h.2)))))) else((0≤A∧A < ((a0.getD B ZEu).length:Int))∧Jj (a0.getD B ZEu) O ((a0.getD B ZEu).getD A.toNat ZEu) (λab=>(Z4 (h.1.length+1) 24∧G (h.1++[ab],h.2)))))) (λ(h:(List (List Int))×Bool)=>(if¬ (h.2=true) then(Z4 (h.1.length+1) 24∧K (h.1++[O])) else K h.1)) a0.length 0 ([],false)))))))))))
theorem ZAh (a0:List (List Int)) (a1:List Int)  {K:List (List Int)→Prop} (h:Ziz a0 a1 K) (w0:World) (q0:(ZPz.sl).rep a0 [u0_0] fp0 w0) (q1:ZPz.rep a1 [u1_0] fp1 w0) :
  Calls ZMx 106 #[u0_0,u1_0] w0 λe w'=>∃ (r0:List (List Int)) (z0_0:Value) (dp:List Nat),
   e=.returned (z0_0)∧K r0∧(ZPz.sl).rep r0 [z0_0] dp w'∧(∀ b,b∈dp→w0.heap.size≤b∨b∈(fp0++(fp1)))∧Bel w0 w':=by
 unfold Ziz at h
 refine cof Tryz.func106 rfl 74 Tryz.ntmps106 ?_
 have A:=ZNf (X:=Nox) w0 [ZMt (ZPz.sl) a0 [u0_0] fp0,ZMt TInts a1 [u1_0] fp1] (alc q0 (al1 q1));refine sr (Zc (v:=.slice none 0 0) rfl (dn (sr (Za (v:=u1_0) rfl (Za (v:=u0_0) rfl (Zf [u1_0,u0_0] _ ZYy rfl rfl rfl (Zr7 a1 a0 h _ (A.getP 1 rfl) (A.getP 0 rfl)) ?_))))))
 rintro _ w5 ⟨r6,u7,f8,rfl,h,go,bw,dz⟩;refine rt ?_
 have g8:∀ b,b∈f8→w0.heap.size≤b∨b∈(fp0++(fp1)):=(λb hb=>(bw b hb).elim (λh_=>.inl (ZEv A.size h_)) (λhb=>(ZEt.1 hb).elim (λhb=>.inr (List.mem_append_right _ hb)) (λhb=>.inr (ZE7 _ hb))))
 replace A:=A.pushR dz (ZMt TInts r6 [u7] f8) go (λb hb=>(bw b hb).elim .inl (λhb=>.inr ((ZEt.1 hb).elim (λhb=>⟨_,mg 1 rfl,hb⟩) (λhb=>⟨_,mg 0 rfl,hb⟩))))
 refine Zc (v:=u7) rfl (dn (sr (Za (v:=u7) rfl (Zf [u7] _ ZYt rfl rfl rfl (Zk4 r6 h _ (A.getP 0 rfl)) ?_))))
 rintro _ ha ⟨G,rfl,h,d0⟩;refine rt ?_
 replace A:=A.grow d0;refine Zc (v:=vI G) rfl (dn (ZMu (sr (Za (v:=vI G) rfl (Zn rfl rfl (dn ?_))))))
 refine Zp rfl (λbh=>?_) (λbh=>?_)
 ·replace h:=ift h (ct bh);refine sr (Za (v:=u0_0) rfl (Zc (v:=u0_0) rfl (dn ?_)))
  refine ZM3 (Zl ?_)
  exact Zi rfl (Ze rfl) ⟨a0,u0_0,fp0,rfl,h,(A.getP 1 rfl),(λb hb=>.inr (ZE7 _ hb)),A.below⟩ (.inl rfl)
 ·replace h:=Zm h (cf bh);refine ZMy (Zd (ZMu ?_))
  refine cwd 11 Yh [0,1,3,0,0,0,48,112,240,496,1008,2047,4095] [1,6,7] [0,3,4,5,9] (λbi aw hc I=>?_)
  replace A:=A.grow I;refine bM 0 (u7) rfl aw (Zb 13 1) (bL 1 (vI (r6.length:Int)) rfl rfl bi (λ_ I=>by exact Zka (A.grow I) 0 rfl ZNd rfl) (Zb 13 3) (bM 3 (u7) rfl aw (Zb 13 11) (bM 4 (u7) rfl aw (Zb 13 27) (bM 5 (vI G) rfl aw (Zb 13 59) ?_))))
  obtain ⟨⟨gp,gq⟩,h⟩:=h;obtain ⟨d1,he,bx⟩:=Zx (A.getP 0 rfl) G.toNat (show G.toNat < r6.length by omega)
  refine bL 6 (.pointer (some (d1.add (G.toNat * 1)))) rfl rfl bi (λ_ I=>by exact Y1 (len:=r6.length) ZNd sc2.size (by exact tr rfl bx) rfl gp gq) (Zb 13 123) (bL 7 (vI (r6.getD G.toNat ZEu)) rfl rfl bi (λ_ I=>by exact Xh (vI (r6.getD G.toNat ZEu)) (Ye ((A.grow I).getP 0 rfl) bx G.toNat (show G.toNat < r6.length by omega)) sc2 rfl) (Zb 13 251) ?_)
  refine Zdr (λe_ w_=>∃ (U:Value),∃ (aa:List Int),Zt e_ [(0,u0_0),(1,U),(5,vI G)]∧Ctx Nox w0 w_ [own 2 1 U aa.length (eI.encs aa)] [ZMt (ZPz.sl) a0 [u0_0] fp0,ZMt TInts a1 [u1_0] fp1]∧(Z9 (λB (L:(List (List Int))×Bool) a8=>(if¬ (L.2=true) then Zbe (a0.getD B ZEu) (λbz=>(if bz > G then(Z4 (L.1.length+1) 24∧((0≤G∧G < ((a0.getD B ZEu).length:Int))∧Jj (a0.getD B ZEu) aa ((a0.getD B ZEu).getD G.toNat ZEu) (λak=>(Z4 ((L.1++[aa]).length+1) 24∧a8 ((L.1++[aa])++[ak],true))))) else((0≤G∧G < ((a0.getD B ZEu).length:Int))∧Jj (a0.getD B ZEu) aa ((a0.getD B ZEu).getD G.toNat ZEu) (λal=>(Z4 (L.1.length+1) 24∧a8 (L.1++[al],L.2)))))) else((0≤G∧G < ((a0.getD B ZEu).length:Int))∧Jj (a0.getD B ZEu) aa ((a0.getD B ZEu).getD G.toNat ZEu) (λam=>(Z4 (L.1.length+1) 24∧a8 (L.1++[am],L.2)))))) (λ(L:(List (List Int))×Bool)=>(if¬ (L.2=true) then(Z4 (L.1.length+1) 24∧K (L.1++[aa])) else K L.1)) a0.length 0 ([],false))) ?_ ?_
  ·clear A h;rintro e_ hf ⟨U,aa,bd,A,h⟩;rw [ue bd];refine Zd (sr (Yn (sz:=1) A [] [] rfl (λ_=>Zao _) rfl (by decide) λdq hg I A=>?_))
   replace A:=A.pushE (ZXm TInts [] [] []) (Zgb _ _) rfl;refine Zc (v:=.slice (some ⟨dq,0,none⟩) 0 0) rfl (Zc (v:=.bool false) rfl (dn (ZMu (sr (Zc (v:=vI 0) rfl (dn (ZM0 ?_)))))))
   have b8:=Yt A 1 rfl;replace A:=A.thaw 1 rfl (ZMt TInts aa [U] (ZNu (ZFo U))) Ym (λ_ V=>V)
   have bj:a0.length≤9223372036854775807:=Y5 (A.getP 2 rfl);refine Yp (S:=(List (List Int))×Bool) _ _ (λB L e_ w_=>∃ (ag:Value),∃ (ab:List Value),∃ (ad:List Nat),Zt e_ [(0,u0_0),(1,U),(5,vI G),(6,ag),(7,.bool L.2),(8,vI (B:Int))]∧(∀ b,b∈ad→w0.heap.size≤b∨b∈(fp0++(fp1)))∧Ctx Nox w0 w_ [own 22 1 ag L.1.length ab] [ZXm TInts L.1 ab ad,ZMt TInts aa [U] (ZNu (ZFo U)),ZMt (ZPz.sl) a0 [u0_0] fp0,ZMt TInts a1 [u1_0] fp1]) a0.length ?_ ?_ (s0:=([],false)) ?_ h
   ·clear A h;rintro B L e_ hh a8 gr O ⟨ag,ab,ad,bd,ax,A⟩ h bk;rw [ue bd];refine ZMu (sr (Za (v:=vI (B:Int)) rfl (Za (v:=u0_0) rfl (Zw A 2 rfl ZUw rfl (Zn rfl rfl (dn (Z3 rfl (decide_eq_true (by omega)) (ZMy (Zd (ZMu (ZM0 (ZMu (sr (Za (v:=.bool L.2) rfl (Xe rfl (Za (v:=.bool (!L.2)) rfl ?_))))))))))))))))
    refine Y6 (!L.2) (λac=>?_) (λac=>?_)
    ·replace h:=ift h (Yz (Xi ac));refine Zh 2 38 rfl rfl ac (Za (v:=u0_0) rfl (Zh 2 38 rfl rfl ac (Za (v:=vI (B:Int)) rfl (Zh 2 38 rfl rfl ac ?_))))
     obtain ⟨g9,hk,b9⟩:=Zx (A.getP 2 rfl) B O;refine Ys (len:=a0.length) ZUw sc22.size (tr rfl b9) rfl (ZNb _) (ZNt.2 O) (Zh 2 38 rfl rfl ac ?_)
     obtain ⟨a7,ca,d2,cb⟩:=Xp (A.getP 2 rfl) b9 B O;obtain ⟨cc,rfl⟩:=ZJj.1 ca;clear ca;rw [Xm _ _ O] at cb
     replace A:=A.derive 2 rfl (ZMt TInts (a0.getD B ZEu) [cc] fp0) (λ_=>cb) (λ_ V=>V)
     refine Yr (cc) d2 sc22 rfl (Zh 2 38 rfl rfl ac (Zf [cc] _ ZYt rfl rfl rfl (Zk4 (a0.getD B ZEu) h _ (A.getP 0 rfl)) ?_))
     rintro _ hl ⟨bz,rfl,h,d3⟩;refine rt ?_
     replace A:=A.grow d3;refine Zh 2 38 rfl rfl ac (Za (v:=vI G) rfl (Zh 2 38 rfl rfl ac (Ja rfl rfl (Zs (v:=.bool (decide (bz > G))) (b:=true) (tr rfl (congrArg _ ac)) rfl (dn ?_)))))
     refine Zp rfl (λbl=>?_) (λbl=>?_)
     ·replace h:=ift h (ct bl);refine sr (Za (v:=ag) rfl (Za (v:=U) rfl (Yn (sz:=1) A [(0,U)] [U] rfl (λ_=>Zaj U (Zat (A.getP 2 rfl)) _) rfl (by decide) λan hm I A=>?_)))
      have d4:=Yt A 0 rfl;replace A:=A.thaw 0 rfl (own 22 1 (.slice (some ⟨an,0,none⟩) 1 1) 1 [U]) id (λ_ V=>V)
      replace A:=A.joinP 0 3 rfl rfl (ZMt (ZPz.sl) [aa] [.slice (some ⟨an,0,none⟩) 1 1] ((ZNu (ZFo (.slice (some ⟨an,0,none⟩) 1 1)))++(ZNu (ZFo U)))) (λa_ b_=>Jl a_ (Za6 b_)) (λc_ ae=>ZEt.1 ae)
      have d5:∀ b,b∈((ZNu (ZFo (.slice (some ⟨an,0,none⟩) 1 1)))++(ZNu (ZFo U)))→w0.heap.size≤b:=(λb hb=>(ZEt.1 hb).elim (λhb=>d4 b hb) (λhb=>b8 b hb))
      obtain ⟨ay,d6,ce⟩:=Zax (A.getP 0 rfl);replace A:=A.derive 0 rfl (ZXm TInts [aa] ay ((ZNu (ZFo (.slice (some ⟨an,0,none⟩) 1 1)))++(ZNu (ZFo U)))) (λ_=>ce) (λ_ h_=>h_)
      obtain ⟨d7,h⟩:=h;refine X1 A 0 ZUw Jw rfl (by decide) (by decide) rfl d6 (λq_ au=>ce.2.2.1 q_ au) rfl rfl d7 λdr hn A=>?_
      replace A:=Y7 A 0 ((L.1++[aa]).length) (ab++ay) rfl (by simp) (by simp)
      have d8:∀ b,b∈(ad++((ZNu (ZFo (.slice (some ⟨an,0,none⟩) 1 1)))++(ZNu (ZFo U))))→w0.heap.size≤b∨b∈(fp0++(fp1)):=(λb hb=>(ZEt.1 hb).elim (λhb=>ax b hb) (λhb=>.inl (d5 b hb)))
      replace A:=A.joinP 4 0 rfl rfl (ZXm TInts (L.1++[aa]) (ab++ay) (ad++((ZNu (ZFo (.slice (some ⟨an,0,none⟩) 1 1)))++(ZNu (ZFo U))))) (λa_ b_=>Zay a_ b_) (λc_ ae=>ZEt.1 ae)
      refine Zc (v:=dr) rfl (dn (Zj (Zc (v:=.bool true) rfl (dn ?_))))
      refine cwd 15 Yh [0,0,0,6,14,0,0,0,192,448,0,1984,4032,8190,16382,32767,65535] [3,4,8,9,11,12] [0,1,2,5,6,7,10] (λaz ap ho I=>?_)
      replace A:=A.grow I;refine bM 0 (dr) rfl ap (Zb 17 1) (bM 1 (u0_0) rfl ap (Zb 17 3) (bM 2 (vI (B:Int)) rfl ap (Zb 17 7) ?_))
      obtain ⟨d9,hp,cg⟩:=Zx (A.getP 7 rfl) B O;refine bL 3 (.pointer (some (d9.add (B * 1)))) rfl rfl az (λ_ I=>by exact Y1 (len:=a0.length) ZUw sc22.size (by exact tr rfl cg) rfl (ZNb _) (ZNt.2 O)) (Zb 17 15) ?_
      obtain ⟨a7,ch,ea,ci⟩:=Xp (A.getP 7 rfl) cg B O;obtain ⟨bn,rfl⟩:=ZJj.1 ch;clear ch;rw [Xm _ _ O] at ci
      replace A:=A.derive 7 rfl (ZMt TInts (a0.getD B ZEu) [bn] fp0) (λ_=>ci) (λ_ V=>V)
      refine bL 4 (bn) rfl rfl az (λ_ I=>by exact Xh (bn) (Zaw I ea) sc22 rfl) (Zb 17 31) (bM 5 (U) rfl ap (Zb 17 63) (bM 6 (u0_0) rfl ap (Zb 17 127) (bM 7 (vI (B:Int)) rfl ap (Zb 17 255) ?_)))
      obtain ⟨eb,hq,cj⟩:=Zx (A.getP 8 rfl) B O;refine bL 8 (.pointer (some (eb.add (B * 1)))) rfl rfl az (λ_ I=>by exact Y1 (len:=a0.length) ZUw sc22.size (by exact tr rfl cj) rfl (ZNb _) (ZNt.2 O)) (Zb 17 511) ?_
      obtain ⟨a7,ck,ec,cl⟩:=Xp (A.getP 8 rfl) cj B O;obtain ⟨cm,rfl⟩:=ZJj.1 ck;clear ck;rw [Xm _ _ O] at cl
      replace A:=A.derive 8 rfl (ZMt TInts (a0.getD B ZEu) [cm] fp0) (λ_=>cl) (λ_ V=>V)
      refine bL 9 (cm) rfl rfl az (λ_ I=>by exact Xh (cm) (Zaw I ec) sc22 rfl) (Zb 17 1023) (bM 10 (vI G) rfl ap (Zb 17 2047) ?_)
      obtain ⟨⟨gs,gu⟩,h⟩:=h;obtain ⟨ed,hr,cn⟩:=Zx (A.getP 0 rfl) G.toNat (show G.toNat < (a0.getD B ZEu).length by omega)
      refine bL 11 (.pointer (some (ed.add (G.toNat * 1)))) rfl rfl az (λ_ I=>by exact Y1 (len:=(a0.getD B ZEu).length) ZNd sc2.size (by exact tr rfl cn) rfl gs gu) (Zb 17 4095) (bL 12 (vI ((a0.getD B ZEu).getD G.toNat ZEu)) rfl rfl az (λ_ I=>by exact Xh (vI ((a0.getD B ZEu).getD G.toNat ZEu)) (Ye ((A.grow I).getP 0 rfl) cn G.toNat (show G.toNat < (a0.getD B ZEu).length by omega)) sc2 rfl) (Zb 17 8191) (aO 13 rfl (Zf [bn,U,vI ((a0.getD B ZEu).getD G.toNat ZEu)] _ ZYq rfl rfl rfl (Ze8 (a0.getD B ZEu) aa ((a0.getD B ZEu).getD G.toNat ZEu) h _ (A.getP 1 rfl) (A.getP 8 rfl)) ?_)))
      rintro _ hs ⟨ak,ah,gv,rfl,h,ee,ef,eg⟩;refine rt ?_
      replace A:=A.push eg (ZM8 (ZT0 2 (eI.tr)) ak [ah] gv) ee ef;obtain ⟨eh,ei⟩:=Y4 (A.getM 0 rfl).1;subst ei;replace A:=A.recast (c:=own 2 1 ah ak.length (eI.encs ak)) (λ_ h_=>h_) (λ_=>eh)
      refine done (aK (by assumption) (Zb 17 16383) (aO 14 rfl ?_))
      have ej:=Yt A 0 rfl;replace A:=A.thaw 0 rfl (ZMt TInts ak [ah] (ZNu (ZFo ah))) Ym (λ_ V=>V)
      refine Yn (sz:=1) A [(0,ah)] [ah] rfl (λ_=>Zaj ah (Zat (A.getP 0 rfl)) _) rfl (by decide) λa4 ht I A=>?_
      have ek:=Yt A 0 rfl;replace A:=A.thaw 0 rfl (own 22 1 (.slice (some ⟨a4,0,none⟩) 1 1) 1 [ah]) id (λ_ V=>V)
      replace A:=A.joinP 0 1 rfl rfl (ZMt (ZPz.sl) [ak] [.slice (some ⟨a4,0,none⟩) 1 1] ((ZNu (ZFo (.slice (some ⟨a4,0,none⟩) 1 1)))++(ZNu (ZFo ah)))) (λa_ b_=>Jl a_ (Za6 b_)) (λc_ ae=>ZEt.1 ae)
      have en:∀ b,b∈((ZNu (ZFo (.slice (some ⟨a4,0,none⟩) 1 1)))++(ZNu (ZFo ah)))→w0.heap.size≤b:=(λb hb=>(ZEt.1 hb).elim (λhb=>ek b hb) (λhb=>ej b hb))
      refine done (aK (by assumption) (Zb 17 32767) (Z0 15 (by decide) (by decide) (by kernel_rfl) (by kernel_rfl) rfl ?_))
      obtain ⟨a9,eo,cp⟩:=Zax (A.getP 0 rfl);replace A:=A.derive 0 rfl (ZXm TInts [ak] a9 ((ZNu (ZFo (.slice (some ⟨a4,0,none⟩) 1 1)))++(ZNu (ZFo ah)))) (λ_=>cp) (λ_ h_=>h_)
      obtain ⟨ep,h⟩:=h;refine X1 A 0 ZUw Jw rfl (by decide) (by decide) rfl eo (λq_ au=>cp.2.2.1 q_ au) rfl rfl ep λdt hu A=>?_
      replace A:=Y7 A 0 (((L.1++[aa])++[ak]).length) ((ab++ay)++a9) rfl (by simp) (by simp)
      have er:∀ b,b∈((ad++((ZNu (ZFo (.slice (some ⟨an,0,none⟩) 1 1)))++(ZNu (ZFo U))))++((ZNu (ZFo (.slice (some ⟨a4,0,none⟩) 1 1)))++(ZNu (ZFo ah))))→w0.heap.size≤b∨b∈(fp0++(fp1)):=(λb hb=>(ZEt.1 hb).elim (λhb=>d8 b hb) (λhb=>.inl (en b hb)))
      replace A:=A.joinP 6 0 rfl rfl (ZXm TInts ((L.1++[aa])++[ak]) ((ab++ay)++a9) ((ad++((ZNu (ZFo (.slice (some ⟨an,0,none⟩) 1 1)))++(ZNu (ZFo U))))++((ZNu (ZFo (.slice (some ⟨a4,0,none⟩) 1 1)))++(ZNu (ZFo ah))))) (λa_ b_=>Zay a_ b_) (λc_ ae=>ZEt.1 ae)
      refine Zc (v:=dt) rfl (done (Z1 (Zq (Zd (Zj (Za (v:=vI (B:Int)) rfl (Zo rfl rfl (Zc (v:=vI (ZHf.wrap ((B:Int)+1))) rfl (done ?_)))))))))
      exact bk ((L.1++[aa])++[ak],true) _ _ ⟨dt,(ab++ay)++a9,((ad++((ZNu (ZFo (.slice (some ⟨an,0,none⟩) 1 1)))++(ZNu (ZFo U))))++((ZNu (ZFo (.slice (some ⟨a4,0,none⟩) 1 1)))++(ZNu (ZFo ah)))),(sl ⟨rfl,rfl,rfl,rfl,rfl,(tr rfl (congrArg _ (Z7 O bj))),trivial⟩),er,(A.sP [0,13,14,15] rfl)⟩ h
     ·replace h:=Zm h (cf bl);refine ZMy (Zd ?_)
      refine cwd 15 Yh [0,0,0,6,14,0,0,0,192,448,0,1984,4032,8190,16382,32767,65535] [3,4,8,9,11,12] [0,1,2,5,6,7,10] (λa2 aq hv I=>?_)
      replace A:=A.grow I;refine bM 0 (ag) rfl aq (Zb 17 1) (bM 1 (u0_0) rfl aq (Zb 17 3) (bM 2 (vI (B:Int)) rfl aq (Zb 17 7) ?_))
      obtain ⟨es,hw,cq⟩:=Zx (A.getP 3 rfl) B O;refine bL 3 (.pointer (some (es.add (B * 1)))) rfl rfl a2 (λ_ I=>by exact Y1 (len:=a0.length) ZUw sc22.size (by exact tr rfl cq) rfl (ZNb _) (ZNt.2 O)) (Zb 17 15) ?_
      obtain ⟨a7,cr,et,cu⟩:=Xp (A.getP 3 rfl) cq B O;obtain ⟨bo,rfl⟩:=ZJj.1 cr;clear cr;rw [Xm _ _ O] at cu
      replace A:=A.derive 3 rfl (ZMt TInts (a0.getD B ZEu) [bo] fp0) (λ_=>cu) (λ_ V=>V)
      refine bL 4 (bo) rfl rfl a2 (λ_ I=>by exact Xh (bo) (Zaw I et) sc22 rfl) (Zb 17 31) (bM 5 (U) rfl aq (Zb 17 63) (bM 6 (u0_0) rfl aq (Zb 17 127) (bM 7 (vI (B:Int)) rfl aq (Zb 17 255) ?_)))
      obtain ⟨eu,hx,cv⟩:=Zx (A.getP 4 rfl) B O;refine bL 8 (.pointer (some (eu.add (B * 1)))) rfl rfl a2 (λ_ I=>by exact Y1 (len:=a0.length) ZUw sc22.size (by exact tr rfl cv) rfl (ZNb _) (ZNt.2 O)) (Zb 17 511) ?_
      obtain ⟨a7,cw,ew,cx⟩:=Xp (A.getP 4 rfl) cv B O;obtain ⟨cy,rfl⟩:=ZJj.1 cw;clear cw;rw [Xm _ _ O] at cx
      replace A:=A.derive 4 rfl (ZMt TInts (a0.getD B ZEu) [cy] fp0) (λ_=>cx) (λ_ V=>V)
      refine bL 9 (cy) rfl rfl a2 (λ_ I=>by exact Xh (cy) (Zaw I ew) sc22 rfl) (Zb 17 1023) (bM 10 (vI G) rfl aq (Zb 17 2047) ?_)
      obtain ⟨⟨gw,gx⟩,h⟩:=h;obtain ⟨ex,hy,cz⟩:=Zx (A.getP 0 rfl) G.toNat (show G.toNat < (a0.getD B ZEu).length by omega)
      refine bL 11 (.pointer (some (ex.add (G.toNat * 1)))) rfl rfl a2 (λ_ I=>by exact Y1 (len:=(a0.getD B ZEu).length) ZNd sc2.size (by exact tr rfl cz) rfl gw gx) (Zb 17 4095) (bL 12 (vI ((a0.getD B ZEu).getD G.toNat ZEu)) rfl rfl a2 (λ_ I=>by exact Xh (vI ((a0.getD B ZEu).getD G.toNat ZEu)) (Ye ((A.grow I).getP 0 rfl) cz G.toNat (show G.toNat < (a0.getD B ZEu).length by omega)) sc2 rfl) (Zb 17 8191) (aO 13 rfl (Zf [bo,U,vI ((a0.getD B ZEu).getD G.toNat ZEu)] _ ZYq rfl rfl rfl (Ze8 (a0.getD B ZEu) aa ((a0.getD B ZEu).getD G.toNat ZEu) h _ (A.getP 1 rfl) (A.getP 4 rfl)) ?_)))
      rintro _ hz ⟨al,ai,gy,rfl,h,ey,ez,e1⟩;refine rt ?_
      replace A:=A.push e1 (ZM8 (ZT0 2 (eI.tr)) al [ai] gy) ey ez;obtain ⟨e2,e3⟩:=Y4 (A.getM 0 rfl).1;subst e3;replace A:=A.recast (c:=own 2 1 ai al.length (eI.encs al)) (λ_ h_=>h_) (λ_=>e2)
      refine done (aK (by assumption) (Zb 17 16383) (aO 14 rfl ?_))
      have e4:=Yt A 0 rfl;replace A:=A.thaw 0 rfl (ZMt TInts al [ai] (ZNu (ZFo ai))) Ym (λ_ V=>V)
      refine Yn (sz:=1) A [(0,ai)] [ai] rfl (λ_=>Zaj ai (Zat (A.getP 0 rfl)) _) rfl (by decide) λa5 h0 I A=>?_
      have e5:=Yt A 0 rfl;replace A:=A.thaw 0 rfl (own 22 1 (.slice (some ⟨a5,0,none⟩) 1 1) 1 [ai]) id (λ_ V=>V)
      replace A:=A.joinP 0 1 rfl rfl (ZMt (ZPz.sl) [al] [.slice (some ⟨a5,0,none⟩) 1 1] ((ZNu (ZFo (.slice (some ⟨a5,0,none⟩) 1 1)))++(ZNu (ZFo ai)))) (λa_ b_=>Jl a_ (Za6 b_)) (λc_ ae=>ZEt.1 ae)
      have e6:∀ b,b∈((ZNu (ZFo (.slice (some ⟨a5,0,none⟩) 1 1)))++(ZNu (ZFo ai)))→w0.heap.size≤b:=(λb hb=>(ZEt.1 hb).elim (λhb=>e5 b hb) (λhb=>e4 b hb))
      refine done (aK (by assumption) (Zb 17 32767) (Z0 15 (by decide) (by decide) (by kernel_rfl) (by kernel_rfl) rfl ?_))
      obtain ⟨ba,e7,c0⟩:=Zax (A.getP 0 rfl);replace A:=A.derive 0 rfl (ZXm TInts [al] ba ((ZNu (ZFo (.slice (some ⟨a5,0,none⟩) 1 1)))++(ZNu (ZFo ai)))) (λ_=>c0) (λ_ h_=>h_)
      obtain ⟨e8,h⟩:=h;refine X1 A 0 ZUw Jw rfl (by decide) (by decide) rfl e7 (λq_ au=>c0.2.2.1 q_ au) rfl rfl e8 λdu h1 A=>?_
      replace A:=Y7 A 0 ((L.1++[al]).length) (ab++ba) rfl (by simp) (by simp)
      have e9:∀ b,b∈(ad++((ZNu (ZFo (.slice (some ⟨a5,0,none⟩) 1 1)))++(ZNu (ZFo ai))))→w0.heap.size≤b∨b∈(fp0++(fp1)):=(λb hb=>(ZEt.1 hb).elim (λhb=>ax b hb) (λhb=>.inl (e6 b hb)))
      replace A:=A.joinP 7 0 rfl rfl (ZXm TInts (L.1++[al]) (ab++ba) (ad++((ZNu (ZFo (.slice (some ⟨a5,0,none⟩) 1 1)))++(ZNu (ZFo ai))))) (λa_ b_=>Zay a_ b_) (λc_ ae=>ZEt.1 ae)
      refine Zc (v:=du) rfl (done (Z1 (Zq (Zd (Zj (Za (v:=vI (B:Int)) rfl (Zo rfl rfl (Zc (v:=vI (ZHf.wrap ((B:Int)+1))) rfl (done ?_)))))))))
      exact bk (L.1++[al],L.2) _ _ ⟨du,ab++ba,(ad++((ZNu (ZFo (.slice (some ⟨a5,0,none⟩) 1 1)))++(ZNu (ZFo ai)))),(sl ⟨rfl,rfl,rfl,rfl,rfl,(tr rfl (congrArg _ (Z7 O bj))),trivial⟩),e9,(A.sP [0,9,10,11] rfl)⟩ h
    ·replace h:=Zm h (not_not_intro ((Xj ac)));refine Zg (b:=false) 2 38 rfl (tr rfl (congrArg _ ac)) (by decide) (Zg (b:=false) 2 38 rfl (tr rfl (congrArg _ ac)) (by decide) (Zg (b:=false) 2 38 rfl (tr rfl (congrArg _ ac)) (by decide) (Zg (b:=false) 2 38 rfl (tr rfl (congrArg _ ac)) (by decide) (Zg (b:=false) 2 38 rfl (tr rfl (congrArg _ ac)) (by decide) (Zg (b:=false) 2 38 rfl (tr rfl (congrArg _ ac)) (by decide) (Zg (b:=false) 2 38 rfl (tr rfl (congrArg _ ac)) (by decide) (Zs (v:=.bool false) (b:=false) (tr rfl (congrArg _ ac)) rfl (dn (Z2 rfl rfl (ZMy (Zd ?_)))))))))))
     refine cwd 15 Yh [0,0,0,6,14,0,0,0,192,448,0,1984,4032,8190,16382,32767,65535] [3,4,8,9,11,12] [0,1,2,5,6,7,10] (λa3 ar h2 I=>?_)
     replace A:=A.grow I;refine bM 0 (ag) rfl ar (Zb 17 1) (bM 1 (u0_0) rfl ar (Zb 17 3) (bM 2 (vI (B:Int)) rfl ar (Zb 17 7) ?_))
     obtain ⟨fa,h3,c6⟩:=Zx (A.getP 2 rfl) B O;refine bL 3 (.pointer (some (fa.add (B * 1)))) rfl rfl a3 (λ_ I=>by exact Y1 (len:=a0.length) ZUw sc22.size (by exact tr rfl c6) rfl (ZNb _) (ZNt.2 O)) (Zb 17 15) ?_
     obtain ⟨a7,c7,fb,c8⟩:=Xp (A.getP 2 rfl) c6 B O;obtain ⟨bp,rfl⟩:=ZJj.1 c7;clear c7;rw [Xm _ _ O] at c8
     replace A:=A.derive 2 rfl (ZMt TInts (a0.getD B ZEu) [bp] fp0) (λ_=>c8) (λ_ V=>V)
     refine bL 4 (bp) rfl rfl a3 (λ_ I=>by exact Xh (bp) (Zaw I fb) sc22 rfl) (Zb 17 31) (bM 5 (U) rfl ar (Zb 17 63) (bM 6 (u0_0) rfl ar (Zb 17 127) (bM 7 (vI (B:Int)) rfl ar (Zb 17 255) ?_)))
     obtain ⟨fc,h4,c9⟩:=Zx (A.getP 3 rfl) B O;refine bL 8 (.pointer (some (fc.add (B * 1)))) rfl rfl a3 (λ_ I=>by exact Y1 (len:=a0.length) ZUw sc22.size (by exact tr rfl c9) rfl (ZNb _) (ZNt.2 O)) (Zb 17 511) ?_
     obtain ⟨a7,da,fd,db⟩:=Xp (A.getP 3 rfl) c9 B O;obtain ⟨dc,rfl⟩:=ZJj.1 da;clear da;rw [Xm _ _ O] at db
     replace A:=A.derive 3 rfl (ZMt TInts (a0.getD B ZEu) [dc] fp0) (λ_=>db) (λ_ V=>V)
     refine bL 9 (dc) rfl rfl a3 (λ_ I=>by exact Xh (dc) (Zaw I fd) sc22 rfl) (Zb 17 1023) (bM 10 (vI G) rfl ar (Zb 17 2047) ?_)
     obtain ⟨⟨gz,g0⟩,h⟩:=h;obtain ⟨fe,h5,dd⟩:=Zx (A.getP 0 rfl) G.toNat (show G.toNat < (a0.getD B ZEu).length by omega)
     refine bL 11 (.pointer (some (fe.add (G.toNat * 1)))) rfl rfl a3 (λ_ I=>by exact Y1 (len:=(a0.getD B ZEu).length) ZNd sc2.size (by exact tr rfl dd) rfl gz g0) (Zb 17 4095) (bL 12 (vI ((a0.getD B ZEu).getD G.toNat ZEu)) rfl rfl a3 (λ_ I=>by exact Xh (vI ((a0.getD B ZEu).getD G.toNat ZEu)) (Ye ((A.grow I).getP 0 rfl) dd G.toNat (show G.toNat < (a0.getD B ZEu).length by omega)) sc2 rfl) (Zb 17 8191) (aO 13 rfl (Zf [bp,U,vI ((a0.getD B ZEu).getD G.toNat ZEu)] _ ZYq rfl rfl rfl (Ze8 (a0.getD B ZEu) aa ((a0.getD B ZEu).getD G.toNat ZEu) h _ (A.getP 1 rfl) (A.getP 3 rfl)) ?_)))
     rintro _ h6 ⟨am,aj,g1,rfl,h,ff,fg,fh⟩;refine rt ?_
     replace A:=A.push fh (ZM8 (ZT0 2 (eI.tr)) am [aj] g1) ff fg;obtain ⟨fi,fj⟩:=Y4 (A.getM 0 rfl).1;subst fj;replace A:=A.recast (c:=own 2 1 aj am.length (eI.encs am)) (λ_ h_=>h_) (λ_=>fi)
     refine done (aK (by assumption) (Zb 17 16383) (aO 14 rfl ?_))
     have fk:=Yt A 0 rfl;replace A:=A.thaw 0 rfl (ZMt TInts am [aj] (ZNu (ZFo aj))) Ym (λ_ V=>V)
     refine Yn (sz:=1) A [(0,aj)] [aj] rfl (λ_=>Zaj aj (Zat (A.getP 0 rfl)) _) rfl (by decide) λa6 h7 I A=>?_
     have fl:=Yt A 0 rfl;replace A:=A.thaw 0 rfl (own 22 1 (.slice (some ⟨a6,0,none⟩) 1 1) 1 [aj]) id (λ_ V=>V)
     replace A:=A.joinP 0 1 rfl rfl (ZMt (ZPz.sl) [am] [.slice (some ⟨a6,0,none⟩) 1 1] ((ZNu (ZFo (.slice (some ⟨a6,0,none⟩) 1 1)))++(ZNu (ZFo aj)))) (λa_ b_=>Jl a_ (Za6 b_)) (λc_ ae=>ZEt.1 ae)
     have fm:∀ b,b∈((ZNu (ZFo (.slice (some ⟨a6,0,none⟩) 1 1)))++(ZNu (ZFo aj)))→w0.heap.size≤b:=(λb hb=>(ZEt.1 hb).elim (λhb=>fl b hb) (λhb=>fk b hb))
     refine done (aK (by assumption) (Zb 17 32767) (Z0 15 (by decide) (by decide) (by kernel_rfl) (by kernel_rfl) rfl ?_))
     obtain ⟨bb,fo,de⟩:=Zax (A.getP 0 rfl);replace A:=A.derive 0 rfl (ZXm TInts [am] bb ((ZNu (ZFo (.slice (some ⟨a6,0,none⟩) 1 1)))++(ZNu (ZFo aj)))) (λ_=>de) (λ_ h_=>h_)
     obtain ⟨fq,h⟩:=h;refine X1 A 0 ZUw Jw rfl (by decide) (by decide) rfl fo (λq_ au=>de.2.2.1 q_ au) rfl rfl fq λdv h8 A=>?_
     replace A:=Y7 A 0 ((L.1++[am]).length) (ab++bb) rfl (by simp) (by simp)
     have fr:∀ b,b∈(ad++((ZNu (ZFo (.slice (some ⟨a6,0,none⟩) 1 1)))++(ZNu (ZFo aj))))→w0.heap.size≤b∨b∈(fp0++(fp1)):=(λb hb=>(ZEt.1 hb).elim (λhb=>ax b hb) (λhb=>.inl (fm b hb)))
     replace A:=A.joinP 6 0 rfl rfl (ZXm TInts (L.1++[am]) (ab++bb) (ad++((ZNu (ZFo (.slice (some ⟨a6,0,none⟩) 1 1)))++(ZNu (ZFo aj))))) (λa_ b_=>Zay a_ b_) (λc_ ae=>ZEt.1 ae)
     refine Zc (v:=dv) rfl (done (Z1 (Zq (Zd (Zj (Za (v:=vI (B:Int)) rfl (Zo rfl rfl (Zc (v:=vI (ZHf.wrap ((B:Int)+1))) rfl (done ?_)))))))))
     exact bk (L.1++[am],L.2) _ _ ⟨dv,ab++bb,(ad++((ZNu (ZFo (.slice (some ⟨a6,0,none⟩) 1 1)))++(ZNu (ZFo aj)))),(sl ⟨rfl,rfl,rfl,rfl,rfl,(tr rfl (congrArg _ (Z7 O bj))),trivial⟩),fr,(A.sP [0,8,9,10] rfl)⟩ h
   ·clear A h;rintro L e_ h9 gr ⟨ag,ab,ad,bd,ax,A⟩ h;rw [ue bd];refine ZMu (sr (Za (v:=vI (a0.length:Int)) rfl (Za (v:=u0_0) rfl (Zw A 2 rfl ZUw rfl (Zn rfl rfl (dn (Z2 rfl (decide_eq_false (by omega)) ?_)))))))
    refine ZM9 (Zk (Zk (Zy ?_)))
    refine Zd (ZMu (sr (Za (v:=.bool L.2) rfl (Xe rfl (dn ?_)))))
    refine Zp rfl (λbm=>?_) (λbm=>?_)
    ·replace h:=ift h (Yz (Xi bm));refine Zj (Za (v:=ag) rfl (Za (v:=U) rfl (Yn (sz:=1) A [(0,U)] [U] rfl (λ_=>Zaj U (Zat (A.getP 1 rfl)) _) rfl (by decide) λao ia I A=>?_)))
     have fs:=Yt A 0 rfl;replace A:=A.thaw 0 rfl (own 22 1 (.slice (some ⟨ao,0,none⟩) 1 1) 1 [U]) id (λ_ V=>V)
     replace A:=A.joinP 0 2 rfl rfl (ZMt (ZPz.sl) [aa] [.slice (some ⟨ao,0,none⟩) 1 1] ((ZNu (ZFo (.slice (some ⟨ao,0,none⟩) 1 1)))++(ZNu (ZFo U)))) (λa_ b_=>Jl a_ (Za6 b_)) (λc_ ae=>ZEt.1 ae)
     have ft:∀ b,b∈((ZNu (ZFo (.slice (some ⟨ao,0,none⟩) 1 1)))++(ZNu (ZFo U)))→w0.heap.size≤b:=(λb hb=>(ZEt.1 hb).elim (λhb=>fs b hb) (λhb=>b8 b hb))
     obtain ⟨bc,fu,dh⟩:=Zax (A.getP 0 rfl);replace A:=A.derive 0 rfl (ZXm TInts [aa] bc ((ZNu (ZFo (.slice (some ⟨ao,0,none⟩) 1 1)))++(ZNu (ZFo U)))) (λ_=>dh) (λ_ h_=>h_)
     obtain ⟨fv,h⟩:=h;refine X1 A 0 ZUw Jw rfl (by decide) (by decide) rfl fu (λq_ au=>dh.2.2.1 q_ au) rfl rfl fv λav ib A=>?_
     replace A:=Y7 A 0 ((L.1++[aa]).length) (ab++bc) rfl (by simp) (by simp)
     have fw:∀ b,b∈(ad++((ZNu (ZFo (.slice (some ⟨ao,0,none⟩) 1 1)))++(ZNu (ZFo U))))→w0.heap.size≤b∨b∈(fp0++(fp1)):=(λb hb=>(ZEt.1 hb).elim (λhb=>ax b hb) (λhb=>.inl (ft b hb)))
     replace A:=A.joinP 3 0 rfl rfl (ZXm TInts (L.1++[aa]) (ab++bc) (ad++((ZNu (ZFo (.slice (some ⟨ao,0,none⟩) 1 1)))++(ZNu (ZFo U))))) (λa_ b_=>Zay a_ b_) (λc_ ae=>ZEt.1 ae)
     refine Zc (v:=av) rfl (dn (sr (Za (v:=av) rfl (Zc (v:=av) rfl (dn (ZM3 ?_))))))
     have fx:=Yt A 0 rfl;replace A:=A.thaw 0 rfl (own 22 1 av ((L.1++[aa]).length) (ab++bc)) id (λ_ V=>V)
     replace A:=A.joinP 0 1 rfl rfl (ZMt (ZPz.sl) (L.1++[aa]) [av] ((ZNu (ZFo av))++(ad++((ZNu (ZFo (.slice (some ⟨ao,0,none⟩) 1 1)))++(ZNu (ZFo U)))))) (λa_ b_=>Jl a_ b_) (λc_ ae=>ZEt.1 ae)
     have fy:∀ b,b∈((ZNu (ZFo av))++(ad++((ZNu (ZFo (.slice (some ⟨ao,0,none⟩) 1 1)))++(ZNu (ZFo U)))))→w0.heap.size≤b∨b∈(fp0++(fp1)):=(λb hb=>(ZEt.1 hb).elim (λhb=>.inl (fx b hb)) (λhb=>fw b hb))
     exact Zi rfl (Ze rfl) ⟨L.1++[aa],av,((ZNu (ZFo av))++(ad++((ZNu (ZFo (.slice (some ⟨ao,0,none⟩) 1 1)))++(ZNu (ZFo U))))),rfl,h,(A.getP 0 rfl),(λb hb=>fy b hb),A.below⟩ (.inl rfl)
    ·replace h:=Zm h (not_not_intro ((Xj bm)));refine ZMy (Zd (sr (Za (v:=ag) rfl (Zc (v:=ag) rfl (dn (ZM3 ?_))))))
     have fz:=Yt A 0 rfl;replace A:=A.thaw 0 rfl (own 22 1 ag L.1.length ab) id (λ_ V=>V)
     replace A:=A.joinP 0 1 rfl rfl (ZMt (ZPz.sl) L.1 [ag] ((ZNu (ZFo ag))++ad)) (λa_ b_=>Jl a_ b_) (λc_ ae=>ZEt.1 ae)
     have f0:∀ b,b∈((ZNu (ZFo ag))++ad)→w0.heap.size≤b∨b∈(fp0++(fp1)):=(λb hb=>(ZEt.1 hb).elim (λhb=>.inl (fz b hb)) (λhb=>ax b hb))
     exact Zi rfl (Ze rfl) ⟨L.1,ag,((ZNu (ZFo ag))++ad),rfl,h,(A.getP 0 rfl),(λb hb=>f0 b hb),A.below⟩ (.inl rfl)
   ·skip;exact⟨.slice (some ⟨dq,0,none⟩) 0 0,[],[],(slq rfl),(λb hb=>.inl ((λb hb=>absurd hb (by simp)) b hb)),(A.sP [1,0,2,3] rfl)⟩
  refine Jy 2 8 rfl rfl (by kernel_rfl) ?_ ?_
  ·skip;replace h:=h.1;obtain ⟨di,h⟩:=h;refine Zcf (sz:=1) A (eI.encs (ZEp ((r6.length:Int).toNat) (0:Int))) ZNd el2 (tr rfl (congrArg (ZP4 .i64) (ZP5 di.1).symm)) (tr rfl (congrArg (ZP4 .i64) (ZP5 di.1).symm)) (by omega) (by omega) (Zb4 (E:=eI) _ _) λg2 ic I A=>?_
   replace A:=Y7 A 0 ((ZEp ((r6.length:Int).toNat) (0:Int)).length) (eI.encs (ZEp ((r6.length:Int).toNat) (0:Int))) rfl (by simp) rfl
   refine done (aK (by assumption) (Zb 13 255) (aO 8 rfl (Zf [vI (r6.getD G.toNat ZEu)] _ ZYz rfl rfl rfl (Zr8 (r6.getD G.toNat ZEu) h _) ?_)))
   rintro _ ie ⟨dj,rfl,h,f1⟩;refine rt ?_
   replace A:=A.grow f1;refine done (aK (by assumption) (Zb 13 511) (bF 9 (vI (ZHf.wrap (0 - dj))) rfl rfl aw (λ_=>by exact Zpb rfl) (Zb 13 1023) (aO 10 rfl (Zf [vI (ZHf.wrap (0 - dj))] _ ZNk rfl rfl rfl (Zbo (ZHf.wrap (0 - dj)) h _) ?_))))
   rintro _ ig ⟨dw,rfl,h,f2⟩;refine rt ?_
   replace A:=A.grow f2;refine done (aK (by assumption) (Zb 13 2047) (Z0 11 (by decide) (by decide) (by kernel_rfl) (by kernel_rfl) rfl (Zf [g2,u7,vI dw] _ ZYq rfl rfl rfl (Ze8 (ZEp ((r6.length:Int).toNat) (0:Int)) r6 dw h _ (Ym (A.getM 0 rfl)) (A.getP 0 rfl)) ?_)))
   rintro _ ih ⟨bq,br,g3,rfl,h,f3,f4,f5⟩;refine rt ?_
   replace A:=A.push f5 (ZM8 (ZT0 2 (eI.tr)) bq [br] g3) f3 f4;obtain ⟨f6,f7⟩:=Y4 (A.getM 0 rfl).1;subst f7;replace A:=A.recast (c:=own 2 1 br bq.length (eI.encs bq)) (λ_ h_=>h_) (λ_=>f6)
   refine Zc (v:=br) rfl (done (Z1 ?_))
   exact⟨rfl,_,rfl,⟨br,bq,(slq rfl),((A.xM [0] rfl).sP [1,2] rfl),h⟩⟩
  ·skip;replace h:=h.2;refine Zf [vI (r6.getD G.toNat ZEu)] _ ZYz rfl rfl rfl (Zr8 (r6.getD G.toNat ZEu) h _) ?_
   rintro _ ii ⟨be,rfl,h,f9⟩;refine rt ?_
   replace A:=A.grow f9;refine done (aK (by assumption) (Zb 13 507) (bF 9 (vI (ZHf.wrap (0 - be))) rfl rfl aw (λ_=>by exact Zpb rfl) (Zb 13 1019) ?_))
   refine Jy 2 10 rfl rfl (by kernel_rfl) ?_ ?_
   ·skip;replace h:=h.1;obtain ⟨dk,h⟩:=h;refine Zcf (sz:=1) A (eI.encs (ZEp ((r6.length:Int).toNat) (0:Int))) ZNd el2 (tr rfl (congrArg (ZP4 .i64) (ZP5 dk.1).symm)) (tr rfl (congrArg (ZP4 .i64) (ZP5 dk.1).symm)) (by omega) (by omega) (Zb4 (E:=eI) _ _) λg4 ij I A=>?_
    replace A:=Y7 A 0 ((ZEp ((r6.length:Int).toNat) (0:Int)).length) (eI.encs (ZEp ((r6.length:Int).toNat) (0:Int))) rfl (by simp) rfl
    refine done (aK (by assumption) (Zb 13 1023) (aO 10 rfl (Zf [vI (ZHf.wrap (0 - be))] _ ZNk rfl rfl rfl (Zbo (ZHf.wrap (0 - be)) h _) ?_)))
    rintro _ il ⟨dx,rfl,h,ga⟩;refine rt ?_
    replace A:=A.grow ga;refine done (aK (by assumption) (Zb 13 2047) (Z0 11 (by decide) (by decide) (by kernel_rfl) (by kernel_rfl) rfl (Zf [g4,u7,vI dx] _ ZYq rfl rfl rfl (Ze8 (ZEp ((r6.length:Int).toNat) (0:Int)) r6 dx h _ (Ym (A.getM 0 rfl)) (A.getP 0 rfl)) ?_)))
    rintro _ im ⟨bs,bt,g5,rfl,h,gb,gc,gf⟩;refine rt ?_
    replace A:=A.push gf (ZM8 (ZT0 2 (eI.tr)) bs [bt] g5) gb gc;obtain ⟨gg,gh⟩:=Y4 (A.getM 0 rfl).1;subst gh;replace A:=A.recast (c:=own 2 1 bt bs.length (eI.encs bs)) (λ_ h_=>h_) (λ_=>gg)
    refine Zc (v:=bt) rfl (done (Z1 ?_))
    exact⟨rfl,_,rfl,⟨bt,bs,(slq rfl),((A.xM [0] rfl).sP [1,2] rfl),h⟩⟩
   ·skip;replace h:=h.2;refine Zf [vI (ZHf.wrap (0 - be))] _ ZNk rfl rfl rfl (Zbo (ZHf.wrap (0 - be)) h _) ?_
    rintro _ io ⟨dy,rfl,h,gi⟩;refine rt ?_
    replace A:=A.grow gi;refine done (aK (by assumption) (Zb 13 2043) (aO 2 rfl ?_))
    obtain ⟨dm,h⟩:=h;refine Zcf (sz:=1) A (eI.encs (ZEp ((r6.length:Int).toNat) (0:Int))) ZNd el2 (tr rfl (congrArg (ZP4 .i64) (ZP5 dm.1).symm)) (tr rfl (congrArg (ZP4 .i64) (ZP5 dm.1).symm)) (by omega) (by omega) (Zb4 (E:=eI) _ _) λg6 ip I A=>?_
    replace A:=Y7 A 0 ((ZEp ((r6.length:Int).toNat) (0:Int)).length) (eI.encs (ZEp ((r6.length:Int).toNat) (0:Int))) rfl (by simp) rfl
    refine done (aK (by assumption) (Zb 13 2047) (Z0 11 (by decide) (by decide) (by kernel_rfl) (by kernel_rfl) rfl (Zf [g6,u7,vI dy] _ ZYq rfl rfl rfl (Ze8 (ZEp ((r6.length:Int).toNat) (0:Int)) r6 dy h _ (Ym (A.getM 0 rfl)) (A.getP 0 rfl)) ?_)))
    rintro _ iq ⟨bu,bv,g7,rfl,h,gj,gk,gl⟩;refine rt ?_
    replace A:=A.push gl (ZM8 (ZT0 2 (eI.tr)) bu [bv] g7) gj gk;obtain ⟨gm,gn⟩:=Y4 (A.getM 0 rfl).1;subst gn;replace A:=A.recast (c:=own 2 1 bv bu.length (eI.encs bu)) (λ_ h_=>h_) (λ_=>gm)
    refine Zc (v:=bv) rfl (done (Z1 ?_))
    exact⟨rfl,_,rfl,⟨bv,bu,(slq rfl),((A.xM [0] rfl).sP [1,2] rfl),h⟩⟩
def Zfa (I:List (List Int)) (K:List (List Int)→Prop):Prop :=
 Z9 (λB (h:(List (List Int))) A=>Ziz h (I.getD B ZEu) (λG=>A G)) (λ(h:(List (List Int)))=>K h) I.length 0 []
theorem Zi0 (a0:List (List Int))  {K:List (List Int)→Prop} (h:Zfa a0 K) (w0:World) (q0:(ZPz.sl).rep a0 [u0_0] fp0 w0) :
  Calls ZMx 55 #[u0_0] w0 λe w'=>∃ (r0:List (List Int)) (z0_0:Value) (aj:List Nat),
   e=.returned (z0_0)∧K r0∧(ZPz.sl).rep r0 [z0_0] aj w'∧(∀ b,b∈aj→w0.heap.size≤b∨b∈(fp0))∧Bel w0 w':=by
 unfold Zfa at h
 refine cof ZYs rfl 19 Tryz.ntmps55 ?_
 have A:=ZNf (X:=Nox) w0 [ZMt (ZPz.sl) a0 [u0_0] fp0] (al1 q0);refine sr (Zc (v:=.slice none 0 0) rfl (dn (sr (Yn (sz:=1) A [] [] rfl (λ_=>Zao _) rfl (by decide) λb2 w3 a3 A=>?_))))
 replace A:=A.pushM0 (Yf (ZT0 2 (eI.tr)) ([]:List (List Int)) [] []) (Zaa _ _) rfl;replace A:=A.gather (c:=ZM8 (ZT0 22 (ZT0 2 (eI.tr))) [] [.slice (some ⟨b2,0,none⟩) 0 0] ((ZNu (ZFo (.slice (some ⟨b2,0,none⟩) 0 0)))++([]:List (List Nat)).flatten)) (λx_ au=>(ZEt.1 au).symm) (λav aw ax=>J0 aw av (λb_ L al=>ax b_ al L))
 refine Zc (v:=.slice (some ⟨b2,0,none⟩) 0 0) rfl (dn (ZMu (sr (Zc (v:=vI 0) rfl (dn (ZM0 ?_))))))
 have ay:=Zb6 A 0 rfl;replace A:=A.thaw 0 rfl (ZMt (ZPz.sl) [] [.slice (some ⟨b2,0,none⟩) 0 0] ((ZNu (ZFo (.slice (some ⟨b2,0,none⟩) 0 0)))++([]:List (List Nat)).flatten)) (λh_=>Tr.trep _ h_.1) (λ_ L=>L)
 have am:a0.length≤9223372036854775807:=Y5 (A.getP 1 rfl);refine Yp (S:=(List (List Int))) _ _ (λB O e_ w_=>∃ (G:Value),∃ (U:List Nat),Zt e_ [(0,u0_0),(3,G),(4,vI (B:Int))]∧(∀ b,b∈U→w0.heap.size≤b∨b∈(fp0))∧Ctx Nox w0 w_ [] [ZMt (ZPz.sl) O [G] U,ZMt (ZPz.sl) a0 [u0_0] fp0]) a0.length ?_ ?_ (s0:=[]) ?_ h
 ·clear A h;rintro B O e_ a4 a1 az I ⟨G,U,aa,V,A⟩ h an;rw [ue aa];refine ZMu (sr (Za (v:=vI (B:Int)) rfl (Za (v:=u0_0) rfl (Zw A 1 rfl ZUw rfl (Zn rfl rfl (dn (Z3 rfl (decide_eq_true (by omega)) (ZMy (Zd (ZMu (ZM0 (Zj (Za (v:=G) rfl (Za (v:=u0_0) rfl (Za (v:=vI (B:Int)) rfl ?_)))))))))))))))
  obtain ⟨a2,a5,ab⟩:=Zx (A.getP 1 rfl) B I;refine Ys (len:=a0.length) ZUw sc22.size (tr rfl ab) rfl (ZNb _) (ZNt.2 I) ?_
  obtain ⟨a6,ac,ao,ad⟩:=Xp (A.getP 1 rfl) ab B I;obtain ⟨ae,rfl⟩:=ZJj.1 ac;clear ac;rw [Xm _ _ I] at ad
  replace A:=A.derive 1 rfl (ZMt TInts (a0.getD B ZEu) [ae] fp0) (λ_=>ad) (λ_ L=>L)
  refine Yr (ae) ao sc22 rfl (Zf [G,ae] _ Tryz.func106 rfl rfl rfl (ZAh O (a0.getD B ZEu) h _ (A.getP 1 rfl) (A.getP 0 rfl)) ?_)
  rintro _ a7 ⟨ak,ag,ah,rfl,h,ap,ai,aq⟩;refine rt ?_
  have ar:∀ b,b∈ah→w0.heap.size≤b∨b∈(fp0):=(λb hb=>(ai b hb).elim (λh_=>.inl (ZEv A.size h_)) (λhb=>(ZEt.1 hb).elim (λhb=>V b hb) (λhb=>.inr hb)))
  replace A:=A.pushR aq (ZMt (ZPz.sl) ak [ag] ah) ap (λb hb=>(ai b hb).elim .inl (λhb=>.inr ((ZEt.1 hb).elim (λhb=>⟨_,mg 1 rfl,hb⟩) (λhb=>⟨_,mg 0 rfl,hb⟩))))
  refine Zc (v:=ag) rfl (done (Zq (Zd (Zj (Za (v:=vI (B:Int)) rfl (Zo rfl rfl (Zc (v:=vI (ZHf.wrap ((B:Int)+1))) rfl (done ?_))))))))
  exact an ak _ _ ⟨ag,ah,(sl ⟨rfl,rfl,(tr rfl (congrArg _ (Z7 I am))),trivial⟩),ar,(A.sP [0,3] rfl)⟩ h
 ·clear A h;rintro O e_ a8 az ⟨G,U,aa,V,A⟩ h;rw [ue aa];refine ZMu (sr (Za (v:=vI (a0.length:Int)) rfl (Za (v:=u0_0) rfl (Zw A 1 rfl ZUw rfl (Zn rfl rfl (dn (Z2 rfl (decide_eq_false (by omega)) ?_)))))))
  refine ZM9 (Zk (Zk (Zy ?_)))
  refine Zd (sr (Za (v:=G) rfl (Zc (v:=G) rfl (dn (ZM3 ?_)))))
  exact Zi rfl (Ze rfl) ⟨O,G,U,rfl,h,(A.getP 0 rfl),(λb hb=>V b hb),A.below⟩ (.inl rfl)
 ·skip;exact⟨.slice (some ⟨b2,0,none⟩) 0 0,((ZNu (ZFo (.slice (some ⟨b2,0,none⟩) 0 0)))++([]:List (List Nat)).flatten),(slq rfl),(λb hb=>.inl (ay b hb)),A⟩
def Zi1 (a0:Alg) (G:Int) (K:List (List Int)→Prop):Prop :=
 Zdg a0.degrees G (λA=>Zdg a0.degrees (ZHf.wrap (G+1)) (λI=>Z9 (λL (h:(List (List Int))) B=>J1 (A.getD L ZEu) 1 (λO=>Zc7 (⟨a0.degrees,a0.images⟩:Alg) O (λU=>Zca U I (λV=>(Z4 (h.length+1) 24∧B (h++[V])))))) (λ(h:(List (List Int)))=>K h) A.length 0 []))
theorem ZAi (a0:Alg) (a1:Int)  {K:List (List Int)→Prop} (h:Zi1 a0 a1 K) (w0:World) (q0:TAlg.rep a0 [u0_0,u0_1] fp0 w0) :
  Calls ZMx 176 #[.agg #[u0_0,u0_1],vI a1] w0 λe w'=>∃ (r0:List (List Int)) (z0_0:Value) (be:List Nat),
   e=.returned (z0_0)∧K r0∧(ZM8 (ZT0 22 (ZT0 2 (eI.tr))) r0 [z0_0] be).holds w'∧(∀ b,b∈be→w0.heap.size≤b)∧Bel w0 w':=by
 unfold Zi1 at h
 refine cof Tryz.func176 rfl 38 Tryz.ntmps176 ?_
 have A:=ZNf (X:=Nox) w0 [ZMt TAlg a0 [u0_0,u0_1] fp0] (al1 q0);replace A:=A.dAlg 0 rfl;refine sr (Ya (v:=.agg #[u0_0,u0_1]) A [u0_0,u0_1] rfl rfl λb4 w6 G A=>Zc (v:=.slice none 0 0) rfl (dn (ZMu ?_)))
 refine cwd 12 Yh [0,1,0,7,0,16,0,64,255,0,511,1535,4095] [1,5] [0,2,4,6,7,10,11] (λhM8 hM9 w7 G=>?_)
 replace A:=A.grow G;refine bF 0 (vQ b4) rfl rfl hM9 (λ_=>by exact Yk 0 ZNe rfl sc22.size rfl rfl) (Zb 13 1) (bL 1 (u0_0) rfl rfl hM8 (λ_ G=>by exact Yc (A.grow G) 0 (u0_0) rfl sc22 rfl rfl) (Zb 13 3) (bM 2 (vI a1) rfl hM9 (Zb 13 7) (bF 4 (vQ b4) rfl rfl hM9 (λ_=>by exact Yk 0 ZNe rfl sc22.size rfl rfl) (Zb 13 23) (bL 5 (u0_0) rfl rfl hM8 (λ_ G=>by exact Yc (A.grow G) 0 (u0_0) rfl sc22 rfl rfl) (Zb 13 55) (bM 6 (vI a1) rfl hM9 (Zb 13 119) (bF 7 (vI (ZHf.wrap (a1+1))) rfl rfl hM9 (λ_=>by exact Zdm rfl rfl) (Zb 13 247) ?_))))))
 refine Zdr (λe_ w_=>∃ (am:Nat),∃ (ae:Value),∃ (O:List A8),∃ (ac:Value),∃ (B:List A8),Zt e_ [(2,vQ b4),(5,ac),(6,ae),(7,.slice (some ⟨am,0,none⟩) 0 0)]∧Ctx Nox w0 w_ [ZM8 (ZT0 22 (ZT0 2 (eI.tr))) [] [.slice (some ⟨am,0,none⟩) 0 0] ((ZNu (ZFo (.slice (some ⟨am,0,none⟩) 0 0)))++([]:List (List Nat)).flatten),own 136 8 ae O.length ((EA .u8).encs O),own 136 8 ac B.length ((EA .u8).encs B),blk b4 32 [u0_0,u0_1]] [ZMt ZNg.sl a0.images [u0_1] fp0,ZMt TInts a0.degrees [u0_0] fp0,ZMt TAlg a0 [u0_0,u0_1] fp0]∧(Z9 (λI (U:(List (List Int))) bc=>J1 (B.getD I ZEu) 1 (λV=>Zc7 (⟨a0.degrees,a0.images⟩:Alg) V (λaa=>Zca aa O (λab=>(Z4 (U.length+1) 24∧bc (U++[ab])))))) (λ(U:(List (List Int)))=>K U) B.length 0 [])) ?_ ?_
 ·clear A h;rintro e_ dm ⟨am,ae,O,ac,B,av,A,h⟩;rw [ue av];refine Zd (ZMu (sr (Zc (v:=vI 0) rfl (dn (ZM0 ?_)))))
  have bi:B.length≤9223372036854775807:=Zfp (A.getM 2 rfl);refine Yp (S:=(List (List Int))) _ _ (λI U e_ w_=>∃ (ad:Value),∃ (ak:List Nat),Zt e_ [(2,vQ b4),(5,ac),(6,ae),(7,ad),(8,vI (I:Int))]∧Ctx Nox w0 w_ [ZM8 (ZT0 22 (ZT0 2 (eI.tr))) U [ad] ak,own 136 8 ae O.length ((EA .u8).encs O),own 136 8 ac B.length ((EA .u8).encs B),blk b4 32 [u0_0,u0_1]] [ZMt ZNg.sl a0.images [u0_1] fp0,ZMt TInts a0.degrees [u0_0] fp0,ZMt TAlg a0 [u0_0,u0_1] fp0]) B.length ?_ ?_ (s0:=[]) ?_ h
  ·clear A h;rintro I U e_ dp bc c9 ar ⟨ad,ak,av,A⟩ h bj;rw [ue av];refine ZMu (sr (Za (v:=vI (I:Int)) rfl (Za (v:=ac) rfl (Za4 A 2 rfl ZYn rfl (Zn rfl rfl (dn (Z3 rfl (decide_eq_true (by omega)) (ZMy (Zd (ZMu (ZM0 ?_)))))))))))
   refine cwd 11 Yh [0,0,0,0,12,28,60,126,0,510,1022,2047,4095] [1,4,5] [0,2,3,8] (λay au dq G=>?_)
   replace A:=A.grow G;refine bM 0 (ad) rfl au (Zb 13 1) (bL 1 (.agg #[u0_0,u0_1]) rfl rfl ay (λ_ G=>by exact Xa (A.grow G) 3 [u0_0,u0_1] rfl ag32 rfl rfl rfl) (Zb 13 3) (bM 2 (ac) rfl au (Zb 13 7) (bM 3 (vI (I:Int)) rfl au (Zb 13 15) ?_)))
   obtain ⟨bk,dr,bd⟩:=Jf (A.getM 2 rfl) (ZQe (ZFz _) ar);refine bL 4 (.pointer (some ⟨bk,I * 8,none⟩)) rfl rfl ay (λ_ G=>by exact Zbm (I * 8) ZYn ag136.size (by exact tr rfl bd) rfl (ZNb _) (ZNt.2 ar) rfl) (Zb 13 31) (bL 5 (.agg (ZHu (ZMs .u8 (B.getD I ZEu)))) rfl rfl ay (λ_ G=>by exact Jr (ZMs .u8 (B.getD I ZEu)) (Za2 ((A.grow G).getM 2 rfl) bd I ar) ag136 rfl rfl) (Zb 13 63) (bM 8 (ae) rfl au (Zb 13 319) (aO 6 rfl (Zf [.agg (ZHu (ZMs .u8 (B.getD I ZEu))),vI 1] _ Tryz.func95 rfl rfl rfl (Zdz (B.getD I ZEu) 1 h _) ?_))))
   rintro _ dt ⟨V,an,da,rfl,h,bl,bm,bn⟩;refine rt ?_
   replace A:=A.push bn (ZM8 (Y0 162) V [an] da) bl bm;obtain ⟨bo,bp⟩:=X7 (A.getM 0 rfl);subst bp;replace A:=A.recast (c:=own 162 9 an V.terms.length (ZMv.encs V.terms)) (λ_ h_=>h_) (λ_=>bo)
   refine done (aK (by assumption) (Zb 13 383) (aO 7 rfl (Zf [.agg #[u0_0,u0_1],.agg #[an]] _ Tryz.func71 rfl rfl rfl (Zmw (⟨a0.degrees,a0.images⟩:Alg) V h _ (Y3 (A.getP 1 rfl) (A.getP 0 rfl)) (Yi (Ym (A.getM 0 rfl)))) ?_)))
   rintro _ du ⟨aa,ao,db,rfl,h,bq,br,bs⟩;refine rt ?_
   replace A:=A.push bs (ZM8 (Y0 162) aa [ao] db) bq br;obtain ⟨bt,bu⟩:=X7 (A.getM 0 rfl);subst bu;replace A:=A.recast (c:=own 162 9 ao aa.terms.length (ZMv.encs aa.terms)) (λ_ h_=>h_) (λ_=>bt)
   refine done (aK (by assumption) (Zb 13 511) (aO 9 rfl (Zf [.agg #[ao],ae] _ ZYr rfl rfl rfl (Zgk aa O h _ (Yi (Ym (A.getM 0 rfl))) (Ym (A.getM 3 rfl))) ?_)))
   rintro _ dv ⟨ab,L,dc,rfl,h,bv,bw,bx⟩;refine rt ?_
   replace A:=A.push bx (ZM8 (ZT0 2 (eI.tr)) ab [L] dc) bv bw;obtain ⟨bz,b8⟩:=Y4 (A.getM 0 rfl).1;subst b8;replace A:=A.recast (c:=own 2 1 L ab.length (eI.encs ab)) (λ_ h_=>h_) (λ_=>bz)
   refine done (aK (by assumption) (Zb 13 1023) (aO 10 rfl (Yn (sz:=1) A [(0,L)] [L] rfl (λ_=>Zaj L (Zdw (A.getM 0 rfl)) _) rfl (by decide) λap dw G A=>?_)))
   replace A:=A.pushM0 (Yf (ZT0 2 (eI.tr)) [] [] []) (Zaa _ _) rfl;replace A:=A.sM [2,0,1,3,4,5,6,7,8] (M':=[own 2 1 L ab.length (eI.encs ab),Yf (ZT0 2 (eI.tr)) [] [] [],own 22 1 (.slice (some ⟨ap,0,none⟩) 1 1) 1 [L],own 162 9 ao aa.terms.length (ZMv.encs aa.terms),own 162 9 an V.terms.length (ZMv.encs V.terms),ZM8 (ZT0 22 (ZT0 2 (eI.tr))) U [ad] ak,own 136 8 ae O.length ((EA .u8).encs O),own 136 8 ac B.length ((EA .u8).encs B),blk b4 32 [u0_0,u0_1]]) (by decide) rfl
   replace A:=A.gather (c:=Yf (ZT0 2 (eI.tr)) [ab] [L] [(ZNu (ZFo L))]) (λx_ ag=>Zer ag) (λah ai aj=>Zdu (c:=[L]) (id (Xx ah)) ai aj)
   replace A:=A.sM [1,0,2,3,4,5,6,7] (M':=[own 22 1 (.slice (some ⟨ap,0,none⟩) 1 1) 1 [L],Yf (ZT0 2 (eI.tr)) [ab] [L] [(ZNu (ZFo L))],own 162 9 ao aa.terms.length (ZMv.encs aa.terms),own 162 9 an V.terms.length (ZMv.encs V.terms),ZM8 (ZT0 22 (ZT0 2 (eI.tr))) U [ad] ak,own 136 8 ae O.length ((EA .u8).encs O),own 136 8 ac B.length ((EA .u8).encs B),blk b4 32 [u0_0,u0_1]]) (by decide) rfl
   replace A:=A.gather (c:=ZM8 (ZT0 22 (ZT0 2 (eI.tr))) [ab] [.slice (some ⟨ap,0,none⟩) 1 1] ((ZNu (ZFo (.slice (some ⟨ap,0,none⟩) 1 1)))++([(ZNu (ZFo L))]:List (List Nat)).flatten)) (λx_ ag=>ZEt.1 ag) (λah ai aj=>J0 ah ai aj)
   refine done (aK (by assumption) (Zb 13 2047) (Z0 11 (by decide) (by decide) (by kernel_rfl) (by kernel_rfl) rfl ?_))
   replace A:=A.sM [3,0,1,2,4,5,6] (M':=[ZM8 (ZT0 22 (ZT0 2 (eI.tr))) U [ad] ak,ZM8 (ZT0 22 (ZT0 2 (eI.tr))) [ab] [.slice (some ⟨ap,0,none⟩) 1 1] ((ZNu (ZFo (.slice (some ⟨ap,0,none⟩) 1 1)))++([(ZNu (ZFo L))]:List (List Nat)).flatten),own 162 9 ao aa.terms.length (ZMv.encs aa.terms),own 162 9 an V.terms.length (ZMv.encs V.terms),own 136 8 ae O.length ((EA .u8).encs O),own 136 8 ac B.length ((EA .u8).encs B),blk b4 32 [u0_0,u0_1]]) (by decide) rfl
   obtain ⟨b9,h⟩:=h;refine Zeq A ZUw Jw rfl (by decide) (by decide) rfl rfl b9 λbh dd dx A=>Zc (v:=bh) rfl (done (Z1 (Zq (Zd (Zj (Za (v:=vI (I:Int)) rfl (Zo rfl rfl (Zc (v:=vI (ZHf.wrap ((I:Int)+1))) rfl (done ?_)))))))))
   exact bj (U++[ab]) _ _ ⟨bh,dd,(sl ⟨rfl,rfl,rfl,rfl,(tr rfl (congrArg _ (Z7 ar bi))),trivial⟩),(A.xM [0,3,4,5] rfl)⟩ h
  ·clear A h;rintro U e_ dy c9 ⟨ad,ak,av,A⟩ h;rw [ue av];refine ZMu (sr (Za (v:=vI (B.length:Int)) rfl (Za (v:=ac) rfl (Za4 A 2 rfl ZYn rfl (Zn rfl rfl (dn (Z2 rfl (decide_eq_false (by omega)) ?_)))))))
   refine ZM9 (Zk (Zk (Zy ?_)))
   refine Zd (sr (Za (v:=ad) rfl (Zc (v:=ad) rfl (dn (ZM3 ?_)))))
   exact Zi rfl (Ze rfl) ⟨U,ad,ak,rfl,h,(A.getM 0 rfl),(Zb6 A 0 rfl),A.below⟩ (.inl rfl)
  ·skip;exact⟨.slice (some ⟨am,0,none⟩) 0 0,((ZNu (ZFo (.slice (some ⟨am,0,none⟩) 0 0)))++([]:List (List Nat)).flatten),(slq rfl),A⟩
 refine Jy 3 9 rfl rfl (by kernel_rfl) ?_ ?_
 ·skip;refine Zf [u0_0,vI a1] _ ZYp rfl rfl rfl (Zec a0.degrees a1 h _ (A.getP 1 rfl)) ?_
  rintro _ dz ⟨aw,aq,de,rfl,h,ca,cb,cc⟩;refine rt ?_
  replace A:=A.push cc (ZM8 (ZT0 136 ((EA .u8).tr)) aw [aq] de) ca cb;obtain ⟨ce,cg⟩:=Y4 (A.getM 0 rfl).1;subst cg;replace A:=A.recast (c:=own 136 8 aq aw.length ((EA .u8).encs aw)) (λ_ h_=>h_) (λ_=>ce)
  refine done (aK (by assumption) (Zb 13 255) ?_)
  refine Jy 8 9 rfl rfl (by kernel_rfl) ?_ ?_
  ·skip;refine Zf [u0_0,vI (ZHf.wrap (a1+1))] _ ZYp rfl rfl rfl (Zec a0.degrees (ZHf.wrap (a1+1)) h _ (A.getP 1 rfl)) ?_
   rintro _ d0 ⟨az,a2,dh,rfl,h,ch,ci,cj⟩;refine rt ?_
   replace A:=A.push cj (ZM8 (ZT0 136 ((EA .u8).tr)) az [a2] dh) ch ci;obtain ⟨ck,cl⟩:=Y4 (A.getM 0 rfl).1;subst cl;replace A:=A.recast (c:=own 136 8 a2 az.length ((EA .u8).encs az)) (λ_ h_=>h_) (λ_=>ck)
   refine done (aK (by assumption) (Zb 13 511) (bA 10 (aq) rfl hM9 (Zb 13 1535) (bA 11 (a2) rfl hM9 (Zb 13 3583) (aO 9 rfl (Yn (sz:=1) A [] [] rfl (λ_=>Zao _) rfl (by decide) λa3 d1 G A=>?_)))))
   replace A:=A.pushM0 (Yf (ZT0 2 (eI.tr)) ([]:List (List Int)) [] []) (Zaa _ _) rfl;replace A:=A.gather (c:=ZM8 (ZT0 22 (ZT0 2 (eI.tr))) [] [.slice (some ⟨a3,0,none⟩) 0 0] ((ZNu (ZFo (.slice (some ⟨a3,0,none⟩) 0 0)))++([]:List (List Nat)).flatten)) (λx_ ag=>(ZEt.1 ag).symm) (λah ai aj=>J0 ai ah (λb_ ax al=>aj b_ al ax))
   refine done (aK (by assumption) (Zb 13 4095) (Z0 12 (by decide) (by decide) (by kernel_rfl) (by kernel_rfl) rfl (Zc (v:=.slice (some ⟨a3,0,none⟩) 0 0) rfl (done (Z1 ?_)))))
   exact⟨rfl,_,rfl,⟨a3,a2,az,aq,aw,(slq rfl),A,h⟩⟩
  ·skip;refine Yn (sz:=1) A [] [] rfl (λ_=>Zao _) rfl (by decide) λa4 d2 G A=>?_
   replace A:=A.pushM0 (Yf (ZT0 2 (eI.tr)) ([]:List (List Int)) [] []) (Zaa _ _) rfl;replace A:=A.gather (c:=ZM8 (ZT0 22 (ZT0 2 (eI.tr))) [] [.slice (some ⟨a4,0,none⟩) 0 0] ((ZNu (ZFo (.slice (some ⟨a4,0,none⟩) 0 0)))++([]:List (List Nat)).flatten)) (λx_ ag=>(ZEt.1 ag).symm) (λah ai aj=>J0 ai ah (λb_ ax al=>aj b_ al ax))
   refine done (aK (by assumption) (Zb 13 767) (aO 8 rfl (Zf [u0_0,vI (ZHf.wrap (a1+1))] _ ZYp rfl rfl rfl (Zec a0.degrees (ZHf.wrap (a1+1)) h _ (A.getP 1 rfl)) ?_)))
   rintro _ d3 ⟨a5,a6,di,rfl,h,cm,cn,cp⟩;refine rt ?_
   replace A:=A.push cp (ZM8 (ZT0 136 ((EA .u8).tr)) a5 [a6] di) cm cn;obtain ⟨cq,cr⟩:=Y4 (A.getM 0 rfl).1;subst cr;replace A:=A.recast (c:=own 136 8 a6 a5.length ((EA .u8).encs a5)) (λ_ h_=>h_) (λ_=>cq)
   refine done (aK (by assumption) (Zb 13 1023) (bA 10 (aq) rfl hM9 (Zb 13 2047) (bA 11 (a6) rfl hM9 (Zb 13 4095) (Z0 12 (by decide) (by decide) (by kernel_rfl) (by kernel_rfl) rfl (Zc (v:=.slice (some ⟨a4,0,none⟩) 0 0) rfl (done (Z1 ?_)))))))
   exact⟨rfl,_,rfl,⟨a4,a6,a5,aq,aw,(slq rfl),(A.xM [1,0,2,3] rfl),h⟩⟩
 ·skip;refine Yn (sz:=1) A [] [] rfl (λ_=>Zao _) rfl (by decide) λa7 d4 G A=>?_
  replace A:=A.pushM0 (Yf (ZT0 2 (eI.tr)) ([]:List (List Int)) [] []) (Zaa _ _) rfl;replace A:=A.gather (c:=ZM8 (ZT0 22 (ZT0 2 (eI.tr))) [] [.slice (some ⟨a7,0,none⟩) 0 0] ((ZNu (ZFo (.slice (some ⟨a7,0,none⟩) 0 0)))++([]:List (List Nat)).flatten)) (λx_ ag=>(ZEt.1 ag).symm) (λah ai aj=>J0 ai ah (λb_ ax al=>aj b_ al ax))
  refine done (aK (by assumption) (Zb 13 759) (aO 3 rfl (Zf [u0_0,vI a1] _ ZYp rfl rfl rfl (Zec a0.degrees a1 h _ (A.getP 1 rfl)) ?_)))
  rintro _ d5 ⟨a8,a9,dj,rfl,h,cu,cv,cw⟩;refine rt ?_
  replace A:=A.push cw (ZM8 (ZT0 136 ((EA .u8).tr)) a8 [a9] dj) cu cv;obtain ⟨cx,cy⟩:=Y4 (A.getM 0 rfl).1;subst cy;replace A:=A.recast (c:=own 136 8 a9 a8.length ((EA .u8).encs a8)) (λ_ h_=>h_) (λ_=>cx)
  refine done (aK (by assumption) (Zb 13 767) (aO 8 rfl (Zf [u0_0,vI (ZHf.wrap (a1+1))] _ ZYp rfl rfl rfl (Zec a0.degrees (ZHf.wrap (a1+1)) h _ (A.getP 1 rfl)) ?_)))
  rintro _ d6 ⟨ba,bb,dk,rfl,h,cz,c0,c6⟩;refine rt ?_
  replace A:=A.push c6 (ZM8 (ZT0 136 ((EA .u8).tr)) ba [bb] dk) cz c0;obtain ⟨c7,c8⟩:=Y4 (A.getM 0 rfl).1;subst c8;replace A:=A.recast (c:=own 136 8 bb ba.length ((EA .u8).encs ba)) (λ_ h_=>h_) (λ_=>c7)
  refine done (aK (by assumption) (Zb 13 1023) (bA 10 (a9) rfl hM9 (Zb 13 2047) (bA 11 (bb) rfl hM9 (Zb 13 4095) (Z0 12 (by decide) (by decide) (by kernel_rfl) (by kernel_rfl) rfl (Zc (v:=.slice (some ⟨a7,0,none⟩) 0 0) rfl (done (Z1 ?_)))))))
  exact⟨rfl,_,rfl,⟨a7,bb,ba,a9,a8,(slq rfl),(A.xM [2,0,1,3] rfl),h⟩⟩
def Zgl (G:Alg) (h:Int) (K:List (List Int)→Prop):Prop :=
 (if h=0 then K [] else Zi1 G (ZHf.wrap (h - 1)) (λA=>Zfa A (λB=>K B)))
theorem Zr9 (a0:Alg) (B:Int)  {K:List (List Int)→Prop} (h:Zgl a0 B K) (w0:World) (q0:TAlg.rep a0 [u0_0,u0_1] fp0 w0) :
  Calls ZMx 129 #[.agg #[u0_0,u0_1],vI B] w0 λe w'=>∃ (r0:List (List Int)) (z0_0:Value) (ac:List Nat),
   e=.returned (z0_0)∧K r0∧(ZPz.sl).rep r0 [z0_0] ac w'∧(∀ b,b∈ac→w0.heap.size≤b)∧Bel w0 w':=by
 unfold Zgl at h
 refine cof ZY0 rfl 13 Tryz.ntmps129 ?_
 have A:=ZNf (X:=Nox) w0 [ZMt TAlg a0 [u0_0,u0_1] fp0] (al1 q0);replace A:=A.dAlg 0 rfl;refine sr (Ya (v:=.agg #[u0_0,u0_1]) A [u0_0,u0_1] rfl rfl λb4 w6 ao A=>Zc (v:=.slice none 0 0) rfl (dn (ZMu (sr (Za (v:=vI B) rfl (Xg rfl rfl (dn ?_)))))))
 refine Zp rfl (λG=>?_) (λG=>?_)
 ·replace h:=ift h (ct G);refine sr (Yn (sz:=1) A [] [] rfl (λ_=>Zao _) rfl (by decide) λI w9 ao A=>?_)
  replace A:=A.pushM0 (Yf (ZT0 2 (eI.tr)) ([]:List (List Int)) [] []) (Zaa _ _) rfl;replace A:=A.gather (c:=ZM8 (ZT0 22 (ZT0 2 (eI.tr))) [] [.slice (some ⟨I,0,none⟩) 0 0] ((ZNu (ZFo (.slice (some ⟨I,0,none⟩) 0 0)))++([]:List (List Nat)).flatten)) (λx_ ap=>(ZEt.1 ap).symm) (λaq ar au=>J0 ar aq (λb_ L ag=>au b_ ag L))
  refine Zc (v:=.slice (some ⟨I,0,none⟩) 0 0) rfl (dn ?_)
  refine ZM3 (Zl ?_)
  exact Zi rfl (Ze rfl) ⟨[],.slice (some ⟨I,0,none⟩) 0 0,((ZNu (ZFo (.slice (some ⟨I,0,none⟩) 0 0)))++([]:List (List Nat)).flatten),rfl,h,(Tr.trep _ (A.getM 0 rfl).1),(λb hb=>(Zb6 A 0 rfl) b hb),A.below⟩ (.inl rfl)
 ·replace h:=Zm h (cf G);refine ZMy (Zd (sr (Yb A 0 [u0_0,u0_1] rfl ag32 rfl rfl rfl (Za (v:=vI B) rfl (J4 rfl rfl (Zf [.agg #[u0_0,u0_1],vI (ZHf.wrap (B - 1))] _ Tryz.func176 rfl rfl rfl (ZAi a0 (ZHf.wrap (B - 1)) h _ (Y3 (A.getP 1 rfl) (A.getP 0 rfl))) ?_))))))
  rintro _ av ⟨O,U,ad,rfl,h,ah,ai,aj⟩;refine rt ?_
  replace A:=A.push aj (ZM8 (ZT0 22 (ZT0 2 (eI.tr))) O [U] ad) ah ai;have ak:=Zb6 A 0 rfl;replace A:=A.thaw 0 rfl (ZMt (ZPz.sl) O [U] ad) (λh_=>Tr.trep _ h_.1) (λ_ L=>L)
  refine Zf [U] _ ZYs rfl rfl rfl (Zi0 O h _ (A.getP 0 rfl)) ?_
  rintro _ aw ⟨ae,V,aa,rfl,h,al,ab,am⟩;refine rt ?_
  have an:∀ b,b∈aa→w0.heap.size≤b:=(λb hb=>(ab b hb).elim (λh_=>ZEv A.size h_) (λhb=>ak b hb))
  replace A:=A.pushR am (ZMt (ZPz.sl) ae [V] aa) al (λb hb=>(ab b hb).elim .inl (λhb=>.inr (⟨_,mg 0 rfl,hb⟩)))
  refine Zc (v:=V) rfl (dn (ZM3 ?_))
  exact Zi rfl (Ze rfl) ⟨ae,V,aa,rfl,h,(A.getP 0 rfl),(λb hb=>an b hb),A.below⟩ (.inl rfl)
def Zi2 (O:Alg) (h:Int) (U:ZMw) (K:Bool→Prop):Prop :=
 Zdg O.degrees h (λA=>Zca U A (λB=>Zgl O h (λG=>Zgj B G (λI=>Zbe I (λL=>K (decide (L < 0)))))))
theorem ZAj (a0:Alg) (G:Int) (a2:ZMw)  {K:Bool→Prop} (h:Zi2 a0 G a2 K) (w0:World) (q0:TAlg.rep a0 [u0_0,u0_1] fp0 w0) (q2:ZNg.rep a2 [u2_0] fp2 w0) :
  Calls ZMx 72 #[.agg #[u0_0,u0_1],vI G,.agg #[u2_0]] w0 λe w'=>∃ (r0:Bool),
   e=.returned (.bool r0)∧K r0∧Bel w0 w':=by
 unfold Zi2 at h
 refine cof Tryz.func72 rfl 19 Tryz.ntmps72 ?_
 have A:=ZNf (X:=Nox) w0 [ZMt TAlg a0 [u0_0,u0_1] fp0,ZMt TForm a2 [u2_0] fp2] (alc q0 (al1 q2));replace A:=A.dAlg 0 rfl;have a7:=(A.getP 3 rfl);replace A:=A.derive 3 rfl (ZMt ZMv.ty.sl a2.terms [u2_0] fp2) (λ_=>(Y9 a7)) (λ_ aa=>aa)
 refine sr (Ya (v:=.agg #[u0_0,u0_1]) A [u0_0,u0_1] rfl rfl λb7 w9 B A=>Ya (v:=.agg #[u2_0]) A [u2_0] rfl rfl λbc bd B A=>Zc (v:=.bool false) rfl (dn (ZMu ?_)))
 refine cwd 8 Yh [0,0,2,0,14,31,0,0,255,511,1023,2047,4095] [0,2,6] [1,3,7] (λO U be B=>?_)
 replace A:=A.grow B;refine bL 0 (.agg #[u2_0]) rfl rfl O (λ_ B=>by exact Xa (A.grow B) 0 [u2_0] rfl ag55 rfl rfl rfl) (Zb 13 1) (bF 1 (vQ b7) rfl rfl U (λ_=>by exact Yk 0 ZNe rfl sc22.size rfl rfl) (Zb 13 3) (bL 2 (u0_0) rfl rfl O (λ_ B=>by exact Yc (A.grow B) 1 (u0_0) rfl sc22 rfl rfl) (Zb 13 7) (bM 3 (vI G) rfl U (Zb 13 15) (bL 6 (.agg #[u0_0,u0_1]) rfl rfl O (λ_ B=>by exact Xa (A.grow B) 1 [u0_0,u0_1] rfl ag32 rfl rfl rfl) (Zb 13 79) (bM 7 (vI G) rfl U (Zb 13 207) (aO 4 rfl (Zf [u0_0,vI G] _ ZYp rfl rfl rfl (Zec a0.degrees G h _ (A.getP 2 rfl)) ?_)))))))
 rintro _ bh ⟨V,ab,a8,rfl,h,al,am,an⟩;refine rt ?_
 replace A:=A.push an (ZM8 (ZT0 136 ((EA .u8).tr)) V [ab] a8) al am;obtain ⟨ao,ap⟩:=Y4 (A.getM 0 rfl).1;subst ap;replace A:=A.recast (c:=own 136 8 ab V.length ((EA .u8).encs V)) (λ_ h_=>h_) (λ_=>ao)
 refine done (aK (by assumption) (Zb 13 223) (aO 5 rfl (Zf [.agg #[u2_0],ab] _ ZYr rfl rfl rfl (Zgk a2 V h _ (Yi (A.getP 0 rfl)) (Ym (A.getM 0 rfl))) ?_)))
 rintro _ bi ⟨I,L,a9,rfl,h,aq,ar,au⟩;refine rt ?_
 replace A:=A.push au (ZM8 (ZT0 2 (eI.tr)) I [L] a9) aq ar;obtain ⟨av,aw⟩:=Y4 (A.getM 0 rfl).1;subst aw;replace A:=A.recast (c:=own 2 1 L I.length (eI.encs I)) (λ_ h_=>h_) (λ_=>av)
 refine done (aK (by assumption) (Zb 13 255) (Z0 8 (by decide) (by decide) (by kernel_rfl) (by kernel_rfl) rfl (Zf [.agg #[u0_0,u0_1],vI G] _ ZY0 rfl rfl rfl (Zr9 a0 G h _ (Y3 (A.getP 2 rfl) (A.getP 1 rfl))) ?_)))
 rintro _ bj ⟨ae,ag,ba,rfl,h,ax,ac,ay⟩;refine rt ?_
 have az:=Zmb A.size ac;replace A:=A.pushR ay (ZMt (ZPz.sl) ae [ag] ba) ax (λb hb=>.inl (ac b hb))
 have a3:=Yt A 0 rfl;replace A:=A.thaw 0 rfl (ZMt TInts I [L] (ZNu (ZFo L))) Ym (λ_ aa=>aa)
 refine Zf [L,ag] _ ZYy rfl rfl rfl (Zr7 I ae h _ (A.getP 0 rfl) (A.getP 1 rfl)) ?_
 rintro _ bk ⟨ah,ai,aj,rfl,h,a4,ad,a5⟩;refine rt ?_
 have bb:∀ b,b∈aj→w0.heap.size≤b:=(λb hb=>(ad b hb).elim (λh_=>ZEv A.size h_) (λhb=>(ZEt.1 hb).elim (λhb=>a3 b hb) (λhb=>az b hb)))
 replace A:=A.pushR a5 (ZMt TInts ah [ai] aj) a4 (λb hb=>(ad b hb).elim .inl (λhb=>.inr ((ZEt.1 hb).elim (λhb=>⟨_,mg 0 rfl,hb⟩) (λhb=>⟨_,mg 1 rfl,hb⟩))))
 refine Zf [ai] _ ZYt rfl rfl rfl (Zk4 ah h _ (A.getP 0 rfl)) ?_
 rintro _ bl ⟨ak,rfl,h,a6⟩;refine rt ?_
 replace A:=A.grow a6;refine Zn rfl rfl (Zc (v:=.bool (decide (ak < 0))) rfl (done (Z1 (Zd (ZM3 ?_)))))
 exact Zi rfl (Ze rfl) ⟨decide (ak < 0),rfl,h,A.below⟩ (.inl rfl)
def Zgm (a0:Alg) (U:Int) (V:Int) (K:List A8→Prop):Prop :=
 (if V≥0 then Zdg a0.degrees V (λB=>Z9 (λL (h:(List A8)) G=>Ze7 (B.getD L ZEu) (λaa=>(if aa≥U then(Z4 (h.length+1) 8∧G (h++[B.getD L ZEu])) else G h))) (λ(h:(List A8))=>K h) B.length 0 []) else Z9 (λO (A:(List A8)) I=>Ze7 ([].getD O ZEu) (λab=>(if ab≥U then(Z4 (A.length+1) 8∧I (A++[[].getD O ZEu])) else I A))) (λ(A:(List A8))=>K A) (([]:List A8).length) 0 [])
theorem Zsa (a0:Alg) (a1:Int) (a2:Int)  {K:List A8→Prop} (h:Zgm a0 a1 a2 K) (w0:World) (q0:TAlg.rep a0 [u0_0,u0_1] fp0 w0) :
  Calls ZMx 109 #[.agg #[u0_0,u0_1],vI a1,vI a2] w0 λe w'=>∃ (r0:List A8) (z0_0:Value) (au:List Nat),
   e=.returned (z0_0)∧K r0∧(ZM8 (ZT0 136 ((EA .u8).tr)) r0 [z0_0] au).holds w'∧(∀ b,b∈au→w0.heap.size≤b)∧Bel w0 w':=by
 unfold Zgm at h
 refine cof ZY1 rfl 39 Tryz.ntmps109 ?_
 have A:=ZNf (X:=Nox) w0 [ZMt TAlg a0 [u0_0,u0_1] fp0] (al1 q0);replace A:=A.dAlg 0 rfl;refine sr (Ya (v:=.agg #[u0_0,u0_1]) A [u0_0,u0_1] rfl rfl λb4 w6 ai A=>Zc (v:=.slice none 0 0) rfl (dn (sr (Yn (sz:=8) A [] ((EA .u8).encs []) rfl (λ_=>Zr5  _) rfl (by decide) λb7 w8 ai A=>Yn (sz:=8) A [] ((EA .u8).encs []) rfl (λ_=>Zr5  _) rfl (by decide) λaj bk ai A=>Zc (v:=.slice (some ⟨b7,0,none⟩) 0 0) rfl (Zc (v:=.slice (some ⟨aj,0,none⟩) 0 0) rfl (dn (ZMu (sr (Za (v:=vI a2) rfl (Zae rfl rfl (dn ?_)))))))))))
 refine Zp rfl (λae=>?_) (λae=>?_)
 ·replace h:=ift h (ct ae);refine Zj (Zu 0 ZNe rfl sc22.size rfl rfl (Z5 A 2 (u0_0) rfl sc22 rfl rfl (Za (v:=vI a2) rfl (Zf [u0_0,vI a2] _ ZYp rfl rfl rfl (Zec a0.degrees a2 h _ (A.getP 1 rfl)) ?_))))
  rintro _ bl ⟨I,aa,a9,rfl,h,ax,ay,az⟩;refine rt ?_
  replace A:=A.push az (ZM8 (ZT0 136 ((EA .u8).tr)) I [aa] a9) ax ay;obtain ⟨a3,a4⟩:=Y4 (A.getM 0 rfl).1;subst a4;replace A:=A.recast (c:=own 136 8 aa I.length ((EA .u8).encs I)) (λ_ h_=>h_) (λ_=>a3)
  refine Zc (v:=aa) rfl (dn (ZMu (sr (Zc (v:=vI 0) rfl (dn (ZM0 ?_))))))
  have ak:I.length≤9223372036854775807:=Zfp (A.getM 0 rfl);refine Yp (S:=(List A8)) _ _ (λB ab e_ w_=>∃ (U:Value),Zt e_ [(1,vI a1),(7,aa),(8,U),(9,vI (B:Int))]∧Ctx Nox w0 w_ [own 136 8 aa I.length ((EA .u8).encs I),own 136 8 U ab.length ((EA .u8).encs ab)] [ZMt ZNg.sl a0.images [u0_1] fp0,ZMt TInts a0.degrees [u0_0] fp0,ZMt TAlg a0 [u0_0,u0_1] fp0]) I.length ?_ ?_ (s0:=[]) ?_ h
  ·clear A h;rintro B ab e_ bm bc ba L ⟨U,ad,A⟩ h al;rw [ue ad];refine ZMu (sr (Za (v:=vI (B:Int)) rfl (Za (v:=aa) rfl (Za4 A 0 rfl ZYn rfl (Zn rfl rfl (dn (Z3 rfl (decide_eq_true (by first | omega | (simp only [ZYw] at *; omega))) (ZMy (Zd (ZMu (ZM0 (sr (Za (v:=aa) rfl (Za (v:=vI (B:Int)) rfl ?_))))))))))))))
   obtain ⟨bd,bn,am⟩:=Jf (A.getM 0 rfl) (ZQe (ZFz _) L);refine Js (B * 8) ZYn ag136.size (tr rfl am) rfl (ZNb _) (ZNt.2 L) rfl (Je (ZMs .u8 (I.getD B ZEu)) (Za2 (A.getM 0 rfl) am B L) ag136 rfl rfl (Zf [.agg (ZHu (ZMs .u8 (I.getD B ZEu)))] _ ZYv rfl rfl rfl (Znr (I.getD B ZEu) h _) ?_))
   rintro _ bo ⟨bp,rfl,h,a5⟩;refine rt ?_
   replace A:=A.grow a5;refine Za (v:=vI a1) rfl (Zae rfl rfl (dn ?_))
   refine Zp rfl (λag=>?_) (λag=>?_)
   ·replace h:=ift h (ct ag);refine Zj (Za (v:=U) rfl (Za (v:=aa) rfl (Za (v:=vI (B:Int)) rfl ?_)))
    obtain ⟨be,bq,an⟩:=Jf (A.getM 0 rfl) (ZQe (ZFz _) L);refine Js (B * 8) ZYn ag136.size (tr rfl an) rfl (ZNb _) (ZNt.2 L) rfl (Je (ZMs .u8 (I.getD B ZEu)) (Za2 (A.getM 0 rfl) an B L) ag136 rfl rfl (Yn (sz:=8) A [(0,.agg (ZHu (ZMs .u8 (I.getD B ZEu))))] ((EA .u8).encs [I.getD B ZEu]) rfl (λ_=>Zno (I.getD B ZEu) _) rfl (by decide) λbr bs ai A=>?_))
    obtain ⟨a6,h⟩:=h;refine X1 A 2 ZYn Znp rfl (by decide) (by decide) rfl (Zav (A.getM 0 rfl)) (λq hq=>ZNz (E:=(EA .u8)) _ q hq) rfl rfl a6 λav bt A=>?_
    replace A:=Y7 A 2 ((ab++[I.getD B ZEu]).length) ((EA .u8).encs (ab++[I.getD B ZEu])) rfl (by simp) (by first | (simp [ZNm]; done) | simp [ZNm,ZUf])
    refine Zc (v:=av) rfl (done (Zq (Zd (Zj (Za (v:=vI (B:Int)) rfl (Zo rfl rfl (Zc (v:=vI (ZHf.wrap ((B:Int)+1))) rfl (done ?_))))))))
    exact al (ab++[I.getD B ZEu]) _ _ ⟨av,(sl ⟨rfl,rfl,rfl,(tr rfl (congrArg _ (Z7 L ak))),trivial⟩),(A.xM [1,2] rfl)⟩ h
   ·replace h:=Zm h (cf ag);refine ZMy (Zq (Zd (Zj (Za (v:=vI (B:Int)) rfl (Zo rfl rfl (Zc (v:=vI (ZHf.wrap ((B:Int)+1))) rfl (done ?_)))))))
    exact al ab _ _ ⟨U,(sl ⟨rfl,rfl,rfl,(tr rfl (congrArg _ (Z7 L ak))),trivial⟩),A⟩ h
  ·clear A h;rintro ab e_ bu ba ⟨U,ad,A⟩ h;rw [ue ad];refine ZMu (sr (Za (v:=vI (I.length:Int)) rfl (Za (v:=aa) rfl (Za4 A 0 rfl ZYn rfl (Zn rfl rfl (dn (Z2 rfl (decide_eq_false (by first | omega | (simp only [ZYw] at *; omega))) ?_)))))))
   refine ZM9 (Zk (Zk (Zy ?_)))
   refine Zd (sr (Za (v:=U) rfl (Zc (v:=U) rfl (dn (ZM3 ?_)))))
   exact Zi rfl (Ze rfl) ⟨ab,U,(ZNu (ZFo U)),rfl,h,(Xx (A.getM 1 rfl)),(Yt A 1 rfl),A.below⟩ (.inl rfl)
  ·skip;exact⟨.slice (some ⟨aj,0,none⟩) 0 0,(slq rfl),(A.xM [0,1] rfl)⟩
 ·replace h:=Zm h (cf ae);refine ZMy (Zd (ZMu (sr (Zc (v:=vI 0) rfl (dn (ZM0 ?_))))))
  have ao:([]:List A8).length≤9223372036854775807:=Zfp (A.getM 1 rfl);refine Yp (S:=(List A8)) _ _ (λG ac e_ w_=>∃ (V:Value),Zt e_ [(1,vI a1),(7,.slice (some ⟨b7,0,none⟩) 0 0),(8,V),(9,vI (G:Int))]∧Ctx Nox w0 w_ [own 136 8 V ac.length ((EA .u8).encs ac),own 136 8 (.slice (some ⟨b7,0,none⟩) 0 0) 0 ((EA .u8).encs [])] [ZMt ZNg.sl a0.images [u0_1] fp0,ZMt TInts a0.degrees [u0_0] fp0,ZMt TAlg a0 [u0_0,u0_1] fp0]) (([]:List A8).length) ?_ ?_ (s0:=[]) ?_ h
  ·clear A h;rintro G ac e_ bv bh bb O ⟨V,ad,A⟩ h ap;rw [ue ad];refine ZMu (sr (Za (v:=vI (G:Int)) rfl (Za (v:=.slice (some ⟨b7,0,none⟩) 0 0) rfl (Za4 A 1 rfl ZYn rfl (Zn rfl rfl (dn (Z3 rfl (decide_eq_true (by first | omega | (simp only [ZYw] at *; omega))) (ZMy (Zd (ZMu (ZM0 (sr (Za (v:=.slice (some ⟨b7,0,none⟩) 0 0) rfl (Za (v:=vI (G:Int)) rfl ?_))))))))))))))
   obtain ⟨bi,bw,aq⟩:=Jf (A.getM 1 rfl) (ZQe (ZFz _) O);refine Js (G * 8) ZYn ag136.size (tr rfl aq) rfl (ZNb _) (ZNt.2 O) rfl (Je (ZMs .u8 ([].getD G ZEu)) (Za2 (A.getM 1 rfl) aq G O) ag136 rfl rfl (Zf [.agg (ZHu (ZMs .u8 ([].getD G ZEu)))] _ ZYv rfl rfl rfl (Znr ([].getD G ZEu) h _) ?_))
   rintro _ bx ⟨bz,rfl,h,a7⟩;refine rt ?_
   replace A:=A.grow a7;refine Za (v:=vI a1) rfl (Zae rfl rfl (dn ?_))
   refine Zp rfl (λah=>?_) (λah=>?_)
   ·replace h:=ift h (ct ah);refine Zj (Za (v:=V) rfl (Za (v:=.slice (some ⟨b7,0,none⟩) 0 0) rfl (Za (v:=vI (G:Int)) rfl ?_)))
    obtain ⟨bj,b8,ar⟩:=Jf (A.getM 1 rfl) (ZQe (ZFz _) O);refine Js (G * 8) ZYn ag136.size (tr rfl ar) rfl (ZNb _) (ZNt.2 O) rfl (Je (ZMs .u8 ([].getD G ZEu)) (Za2 (A.getM 1 rfl) ar G O) ag136 rfl rfl (Yn (sz:=8) A [(0,.agg (ZHu (ZMs .u8 ([].getD G ZEu))))] ((EA .u8).encs [[].getD G ZEu]) rfl (λ_=>Zno ([].getD G ZEu) _) rfl (by decide) λb9 ca ai A=>?_))
    obtain ⟨a8,h⟩:=h;refine X1 A 1 ZYn Znp rfl (by decide) (by decide) rfl (Zav (A.getM 0 rfl)) (λq hq=>ZNz (E:=(EA .u8)) _ q hq) rfl rfl a8 λaw cb A=>?_
    replace A:=Y7 A 1 ((ac++[[].getD G ZEu]).length) ((EA .u8).encs (ac++[[].getD G ZEu])) rfl (by simp) (by first | (simp [ZNm]; done) | simp [ZNm,ZUf])
    refine Zc (v:=aw) rfl (done (Zq (Zd (Zj (Za (v:=vI (G:Int)) rfl (Zo rfl rfl (Zc (v:=vI (ZHf.wrap ((G:Int)+1))) rfl (done ?_))))))))
    exact ap (ac++[[].getD G ZEu]) _ _ ⟨aw,(sl ⟨rfl,rfl,rfl,(tr rfl (congrArg _ (Z7 O ao))),trivial⟩),(A.xM [1,2] rfl)⟩ h
   ·replace h:=Zm h (cf ah);refine ZMy (Zq (Zd (Zj (Za (v:=vI (G:Int)) rfl (Zo rfl rfl (Zc (v:=vI (ZHf.wrap ((G:Int)+1))) rfl (done ?_)))))))
    exact ap ac _ _ ⟨V,(sl ⟨rfl,rfl,rfl,(tr rfl (congrArg _ (Z7 O ao))),trivial⟩),A⟩ h
  ·clear A h;rintro ac e_ cc bb ⟨V,ad,A⟩ h;rw [ue ad];refine ZMu (sr (Za (v:=vI (([]:List A8).length:Int)) rfl (Za (v:=.slice (some ⟨b7,0,none⟩) 0 0) rfl (Za4 A 1 rfl ZYn rfl (Zn rfl rfl (dn (Z2 rfl (decide_eq_false (by first | omega | (simp only [ZYw] at *; omega))) ?_)))))))
   refine ZM9 (Zk (Zk (Zy ?_)))
   refine Zd (sr (Za (v:=V) rfl (Zc (v:=V) rfl (dn (ZM3 ?_)))))
   exact Zi rfl (Ze rfl) ⟨ac,V,(ZNu (ZFo V)),rfl,h,(Xx (A.getM 0 rfl)),(Yt A 0 rfl),A.below⟩ (.inl rfl)
  ·skip;exact⟨.slice (some ⟨aj,0,none⟩) 0 0,(slq rfl),(A.xM [0,1] rfl)⟩
def Zgn (L:Alg) (a1:ZMw) (a2:Int) (O:Int) (K:Bool→Prop):Prop :=
 Zgm L 0 O (λB=>Zgm L a2 O (λG=>Zgl L O (λI=>(Z4 (0+I.length) 24∧Z9 (λV (h:(List (List Int))) U=>J1 (G.getD V ZEu) 1 (λaa=>Zca aa B (λab=>(Z4 (h.length+1) 24∧U (h++[ab]))))) (λ(h:(List (List Int)))=>Zfa h (λA=>(Z4 (0+A.length) 24∧Zca (⟨a1.terms⟩:ZMw) B (λac=>(Z4 (A.length+1) 24∧Zfa (A++[ac]) (λad=>K (decide ((ad.length:Int)=(A.length:Int))))))))) G.length 0 I))))
theorem ZAk (a0:Alg) (a1:ZMw) (a2:Int) (a3:Int)  {K:Bool→Prop} (h:Zgn a0 a1 a2 a3 K) (w0:World) (q0:TAlg.rep a0 [u0_0,u0_1] fp0 w0) (q1:ZNg.rep a1 [u1_0] fp1 w0) :
  Calls ZMx 73 #[.agg #[u0_0,u0_1],.agg #[u1_0],vI a2,vI a3] w0 λe w'=>∃ (r0:Bool),
   e=.returned (.bool r0)∧K r0∧Bel w0 w':=by
 unfold Zgn at h
 refine cof Tryz.func73 rfl 57 Tryz.ntmps73 ?_
 have A:=ZNf (X:=Nox) w0 [ZMt TAlg a0 [u0_0,u0_1] fp0,ZMt TForm a1 [u1_0] fp1] (alc q0 (al1 q1));replace A:=A.dAlg 0 rfl;have fy:=(A.getP 3 rfl);replace A:=A.derive 3 rfl (ZMt ZMv.ty.sl a1.terms [u1_0] fp1) (λ_=>(Y9 fy)) (λ_ I=>I)
 refine sr (Ya (v:=.agg #[u0_0,u0_1]) A [u0_0,u0_1] rfl rfl λb7 w9 aa A=>Ya (v:=.agg #[u1_0]) A [u1_0] rfl rfl λcm gk aa A=>Zc (v:=.bool false) rfl (dn (ZMu ?_)))
 refine cwd 6 Yh [0,0,3,0,0,0,63,127,255] [0,3] [1,4,5] (λbs bm gl aa=>?_)
 replace A:=A.grow aa;refine bL 0 (.agg #[u0_0,u0_1]) rfl rfl bs (λ_ aa=>by exact Xa (A.grow aa) 1 [u0_0,u0_1] rfl ag32 rfl rfl rfl) (Zb 9 1) (bM 1 (vI a3) rfl bm (Zb 9 3) (bL 3 (.agg #[u0_0,u0_1]) rfl rfl bs (λ_ aa=>by exact Xa (A.grow aa) 1 [u0_0,u0_1] rfl ag32 rfl rfl rfl) (Zb 9 11) (bM 4 (vI a2) rfl bm (Zb 9 27) (bM 5 (vI a3) rfl bm (Zb 9 59) (aO 2 rfl (Zf [.agg #[u0_0,u0_1],vI 0,vI a3] _ ZY1 rfl rfl rfl (Zsa a0 0 a3 h _ (Y3 (A.getP 2 rfl) (A.getP 1 rfl))) ?_))))))
 rintro _ gm ⟨aq,ah,fz,rfl,h,cv,cw,cx⟩;refine rt ?_
 replace A:=A.push cx (ZM8 (ZT0 136 ((EA .u8).tr)) aq [ah] fz) cv cw;obtain ⟨cy,cz⟩:=Y4 (A.getM 0 rfl).1;subst cz;replace A:=A.recast (c:=own 136 8 ah aq.length ((EA .u8).encs aq)) (λ_ L=>L) (λ_=>cy)
 refine done (aK (by assumption) (Zb 9 63) (Z0 6 (by decide) (by decide) (by kernel_rfl) (by kernel_rfl) rfl (Zf [.agg #[u0_0,u0_1],vI a2,vI a3] _ ZY1 rfl rfl rfl (Zsa a0 a2 a3 h _ (Y3 (A.getP 2 rfl) (A.getP 1 rfl))) ?_)))
 rintro _ gn ⟨ai,a5,f0,rfl,h,c0,c6,c7⟩;refine rt ?_
 replace A:=A.push c7 (ZM8 (ZT0 136 ((EA .u8).tr)) ai [a5] f0) c0 c6;obtain ⟨c8,c9⟩:=Y4 (A.getM 0 rfl).1;subst c9;replace A:=A.recast (c:=own 136 8 a5 ai.length ((EA .u8).encs ai)) (λ_ L=>L) (λ_=>c8)
 refine Zc (v:=ah) rfl (Zc (v:=a5) rfl (done (Z1 (Zd (sr (Yn (sz:=1) A [] [] rfl (λ_=>Zao _) rfl (by decide) λgo gp aa A=>?_))))))
 replace A:=A.pushE (ZXm TInts [] [] []) (Zgb _ _) rfl;refine Yb A 4 [u0_0,u0_1] rfl ag32 rfl rfl rfl (Za (v:=vI a3) rfl (Zf [.agg #[u0_0,u0_1],vI a3] _ ZY0 rfl rfl rfl (Zr9 a0 a3 h _ (Y3 (A.getP 3 rfl) (A.getP 2 rfl))) ?_))
 rintro _ gq ⟨be,f1,bh,rfl,h,da,bt,db⟩;refine rt ?_
 have dc:=Zmb A.size bt;replace A:=A.pushR db (ZMt (ZPz.sl) be [f1] bh) da (λb hb=>.inl (bt b hb))
 obtain ⟨a7,dd,bu⟩:=Zax (A.getP 0 rfl);replace A:=A.derive 0 rfl (ZXm TInts be a7 bh) (λ_=>bu) (λ_ L=>L)
 obtain ⟨de,h⟩:=h;refine X1 A 0 ZUw Jw rfl (by decide) (by decide) rfl dd (λq_ ab=>bu.2.2.1 q_ ab) rfl rfl de λcn gr A=>?_
 replace A:=Y7 A 0 (be.length) a7 rfl (by simp) (by simp)
 have dh:∀ b,b∈([]++bh)→w0.heap.size≤b:=(λb hb=>(ZEt.1 hb).elim (λhb=>absurd hb (by simp)) (λhb=>dc b hb))
 replace A:=A.joinP 2 0 rfl rfl (ZXm TInts be a7 ([]++bh)) (λU V=>Zay U V) (λc_ G=>ZEt.1 G)
 refine Zc (v:=cn) rfl (dn (ZMu (sr (Zc (v:=vI 0) rfl (dn (ZM0 ?_))))))
 have di:ai.length≤9223372036854775807:=Zfp (A.getM 1 rfl);refine Yp (S:=(List (List Int))) _ _ (λaj ap e_ w_=>∃ (ak:Value),∃ (al:List Value),∃ (ar:List Nat),Zt e_ [(5,vQ cm),(9,ah),(10,a5),(11,ak),(12,vI (aj:Int))]∧(∀ b,b∈ar→w0.heap.size≤b)∧Ctx Nox w0 w_ [own 22 1 ak ap.length al,own 136 8 a5 ai.length ((EA .u8).encs ai),own 136 8 ah aq.length ((EA .u8).encs aq),blk cm 55 [u1_0]] [ZXm TInts ap al ar,ZMt ZMv.ty.sl a1.terms [u1_0] fp1,ZMt ZNg.sl a0.images [u0_1] fp0,ZMt TInts a0.degrees [u0_0] fp0,ZMt TAlg a0 [u0_0,u0_1] fp0,ZMt TForm a1 [u1_0] fp1]) ai.length ?_ ?_ (s0:=be) ?_ h
 ·clear A h;rintro aj ap e_ gs gb f2 a8 ⟨ak,al,ar,bi,bn,A⟩ h dj;rw [ue bi];refine ZMu (sr (Za (v:=vI (aj:Int)) rfl (Za (v:=a5) rfl (Za4 A 1 rfl ZYn rfl (Zn rfl rfl (dn (Z3 rfl (decide_eq_true (by omega)) (ZMy (Zd (ZMu (ZM0 (Zj (Za (v:=ak) rfl (Za (v:=a5) rfl (Za (v:=vI (aj:Int)) rfl ?_)))))))))))))))
  obtain ⟨gc,gu,bv⟩:=Jf (A.getM 1 rfl) (ZQe (ZFz _) a8);refine Js (aj * 8) ZYn ag136.size (tr rfl bv) rfl (ZNb _) (ZNt.2 a8) rfl (Je (ZMs .u8 (ai.getD aj ZEu)) (Za2 (A.getM 1 rfl) bv aj a8) ag136 rfl rfl (Zf [.agg (ZHu (ZMs .u8 (ai.getD aj ZEu))),vI 1] _ Tryz.func95 rfl rfl rfl (Zdz (ai.getD aj ZEu) 1 h _) ?_))
  rintro _ gv ⟨bp,bw,f3,rfl,h,dk,dm,dp⟩;refine rt ?_
  replace A:=A.push dp (ZM8 (Y0 162) bp [bw] f3) dk dm;obtain ⟨dq,dr⟩:=X7 (A.getM 0 rfl);subst dr;replace A:=A.recast (c:=own 162 9 bw bp.terms.length (ZMv.encs bp.terms)) (λ_ L=>L) (λ_=>dq)
  refine Za (v:=ah) rfl (Zf [.agg #[bw],ah] _ ZYr rfl rfl rfl (Zgk bp aq h _ (Yi (Ym (A.getM 0 rfl))) (Ym (A.getM 3 rfl))) ?_)
  rintro _ gw ⟨au,ag,f4,rfl,h,dt,du,dv⟩;refine rt ?_
  replace A:=A.push dv (ZM8 (ZT0 2 (eI.tr)) au [ag] f4) dt du;obtain ⟨dw,dx⟩:=Y4 (A.getM 0 rfl).1;subst dx;replace A:=A.recast (c:=own 2 1 ag au.length (eI.encs au)) (λ_ L=>L) (λ_=>dw)
  have dy:=Yt A 0 rfl;replace A:=A.thaw 0 rfl (ZMt TInts au [ag] (ZNu (ZFo ag))) Ym (λ_ I=>I)
  refine Yn (sz:=1) A [(0,ag)] [ag] rfl (λ_=>Zaj ag (Zat (A.getP 0 rfl)) _) rfl (by decide) λa6 gx aa A=>?_
  have dz:=Yt A 0 rfl;replace A:=A.thaw 0 rfl (own 22 1 (.slice (some ⟨a6,0,none⟩) 1 1) 1 [ag]) id (λ_ I=>I)
  replace A:=A.joinP 0 1 rfl rfl (ZMt (ZPz.sl) [au] [.slice (some ⟨a6,0,none⟩) 1 1] ((ZNu (ZFo (.slice (some ⟨a6,0,none⟩) 1 1)))++(ZNu (ZFo ag)))) (λU V=>Jl U (Za6 V)) (λc_ G=>ZEt.1 G)
  have d0:∀ b,b∈((ZNu (ZFo (.slice (some ⟨a6,0,none⟩) 1 1)))++(ZNu (ZFo ag)))→w0.heap.size≤b:=(λb hb=>(ZEt.1 hb).elim (λhb=>dz b hb) (λhb=>dy b hb))
  obtain ⟨a9,d1,bx⟩:=Zax (A.getP 0 rfl);replace A:=A.derive 0 rfl (ZXm TInts [au] a9 ((ZNu (ZFo (.slice (some ⟨a6,0,none⟩) 1 1)))++(ZNu (ZFo ag)))) (λ_=>bx) (λ_ L=>L)
  obtain ⟨d2,h⟩:=h;refine X1 A 1 ZUw Jw rfl (by decide) (by decide) rfl d1 (λq_ ab=>bx.2.2.1 q_ ab) rfl rfl d2 λcp gy A=>?_
  replace A:=Y7 A 1 ((ap++[au]).length) (al++a9) rfl (by simp) (by simp)
  have d3:∀ b,b∈(ar++((ZNu (ZFo (.slice (some ⟨a6,0,none⟩) 1 1)))++(ZNu (ZFo ag))))→w0.heap.size≤b:=(λb hb=>(ZEt.1 hb).elim (λhb=>bn b hb) (λhb=>d0 b hb))
  replace A:=A.joinP 4 0 rfl rfl (ZXm TInts (ap++[au]) (al++a9) (ar++((ZNu (ZFo (.slice (some ⟨a6,0,none⟩) 1 1)))++(ZNu (ZFo ag))))) (λU V=>Zay U V) (λc_ G=>ZEt.1 G)
  refine Zc (v:=cp) rfl (done (Zq (Zd (Zj (Za (v:=vI (aj:Int)) rfl (Zo rfl rfl (Zc (v:=vI (ZHf.wrap ((aj:Int)+1))) rfl (done ?_))))))))
  exact dj (ap++[au]) _ _ ⟨cp,al++a9,(ar++((ZNu (ZFo (.slice (some ⟨a6,0,none⟩) 1 1)))++(ZNu (ZFo ag)))),(sl ⟨rfl,rfl,rfl,rfl,(tr rfl (congrArg _ (Z7 a8 di))),trivial⟩),d3,((A.xM [1,2,3,4] rfl).sP [0,6,7,8,9,10] rfl)⟩ h
 ·clear A h;rintro ap e_ gz f2 ⟨ak,al,ar,bi,bn,A⟩ h;rw [ue bi];refine ZMu (sr (Za (v:=vI (ai.length:Int)) rfl (Za (v:=a5) rfl (Za4 A 1 rfl ZYn rfl (Zn rfl rfl (dn (Z2 rfl (decide_eq_false (by omega)) ?_)))))))
  refine ZM9 (Zk (Zk (Zy ?_)))
  refine Zd (sr (Za (v:=ak) rfl ?_))
  have d4:=Yt A 0 rfl;replace A:=A.thaw 0 rfl (own 22 1 ak ap.length al) id (λ_ I=>I)
  replace A:=A.joinP 0 1 rfl rfl (ZMt (ZPz.sl) ap [ak] ((ZNu (ZFo ak))++ar)) (λU V=>Jl U V) (λc_ G=>ZEt.1 G)
  have d5:∀ b,b∈((ZNu (ZFo ak))++ar)→w0.heap.size≤b:=(λb hb=>(ZEt.1 hb).elim (λhb=>d4 b hb) (λhb=>bn b hb))
  refine Zf [ak] _ ZYs rfl rfl rfl (Zi0 ap h _ (A.getP 0 rfl)) ?_
  rintro _ g0 ⟨B,bq,O,rfl,h,d6,bz,d7⟩;refine rt ?_
  have bo:∀ b,b∈O→w0.heap.size≤b:=(λb hb=>(bz b hb).elim (λL=>ZEv A.size L) (λhb=>d5 b hb))
  replace A:=A.pushR d7 (ZMt (ZPz.sl) B [bq] O) d6 (λb hb=>(bz b hb).elim .inl (λhb=>.inr (⟨_,mg 0 rfl,hb⟩)))
  refine Zc (v:=bq) rfl (dn (ZMu ?_))
  refine cwd 2 Yh [0,0,3,0,0,31,63,127,255,511,0,1024,4095,8191] [] [1,4,10,11] (λgf ba g1 aa=>?_)
  replace A:=A.grow aa;refine bM 1 (bq) rfl ba (Zb 14 2) (bM 4 (ah) rfl ba (Zb 14 18) (bM 10 (bq) rfl ba (Zb 14 1042) ?_))
  obtain ⟨gg,g2,d8⟩:=Zdn (A.getP 0 rfl);refine bF 11 (vI (B.length:Int)) rfl rfl ba (λ_=>by exact Zek ZUw (by exact tr rfl d8)) (Zb 14 3090) ?_
  refine Zdr (λe_ w_=>∃ (br:List (List Int)),Zt e_ [(8,.bool (decide ((br.length:Int)=(B.length:Int))))]∧Ctx Nox w0 w_ [] [ZMt ZMv.ty.sl a1.terms [u1_0] fp1,ZMt ZNg.sl a0.images [u0_1] fp0,ZMt TInts a0.degrees [u0_0] fp0,ZMt TAlg a0 [u0_0,u0_1] fp0,ZMt TForm a1 [u1_0] fp1]∧(K (decide ((br.length:Int)=(B.length:Int))))) ?_ ?_
  ·clear A h;rintro e_ g3 ⟨br,bi,A,h⟩;rw [ue bi];refine Zd (ZM3 ?_)
   exact Zi rfl (Ze rfl) ⟨decide ((br.length:Int)=(B.length:Int)),rfl,h,A.below⟩ (.inl rfl)
  refine Jy 0 3 rfl rfl (by kernel_rfl) ?_ ?_
  ·skip;refine Yn (sz:=1) A [] [] rfl (λ_=>Zao _) rfl (by decide) λg4 g5 aa A=>?_
   replace A:=A.pushE (ZXm TInts [] [] []) (Zgb _ _) rfl;refine done (aK (by assumption) (Zb 14 3091) ?_)
   refine Jy 2 3 rfl rfl (by kernel_rfl) ?_ ?_
   ·skip;obtain ⟨ay,d9,b8⟩:=Zax (A.getP 1 rfl);replace A:=A.derive 1 rfl (ZXm TInts B ay O) (λ_=>b8) (λ_ L=>L)
    obtain ⟨ea,h⟩:=h;refine X1 A 0 ZUw Jw rfl (by decide) (by decide) rfl d9 (λq_ ab=>b8.2.2.1 q_ ab) rfl rfl ea λg6 g7 A=>?_
    replace A:=Y7 A 0 (B.length) ay rfl (by simp) (by simp)
    have eb:∀ b,b∈([]++O)→w0.heap.size≤b:=(λb hb=>(ZEt.1 hb).elim (λhb=>absurd hb (by simp)) (λhb=>bo b hb))
    replace A:=A.joinP 1 0 rfl rfl (ZXm TInts B ay ([]++O)) (λU V=>Zay U V) (λc_ G=>ZEt.1 G)
    refine done (Jc (by decide) (l9:=(Zb 14 3095)) (by kernel_rfl) (aO 3 rfl (Yb A 3 [u1_0] rfl ag55 rfl rfl rfl (done (Jc (by decide) (l9:=(Zb 14 3103)) (by kernel_rfl) (aO 5 rfl (Zf [.agg #[u1_0],ah] _ ZYr rfl rfl rfl (Zgk (⟨a1.terms⟩:ZMw) aq h _ (Yi (A.getP 7 rfl)) (Ym (A.getM 2 rfl))) ?_)))))))
    rintro _ g8 ⟨am,ac,f5,rfl,h,ec,ed,ee⟩;refine rt ?_
    replace A:=A.push ee (ZM8 (ZT0 2 (eI.tr)) am [ac] f5) ec ed;obtain ⟨ef,eg⟩:=Y4 (A.getM 0 rfl).1;subst eg;replace A:=A.recast (c:=own 2 1 ac am.length (eI.encs am)) (λ_ L=>L) (λ_=>ef)
    refine done (Jc (by decide) (l9:=(Zb 14 3135)) (by kernel_rfl) (aO 6 rfl ?_))
    have eh:=Yt A 0 rfl;replace A:=A.thaw 0 rfl (ZMt TInts am [ac] (ZNu (ZFo ac))) Ym (λ_ I=>I)
    refine Yn (sz:=1) A [(0,ac)] [ac] rfl (λ_=>Zaj ac (Zat (A.getP 0 rfl)) _) rfl (by decide) λav g9 aa A=>?_
    have ei:=Yt A 0 rfl;replace A:=A.thaw 0 rfl (own 22 1 (.slice (some ⟨av,0,none⟩) 1 1) 1 [ac]) id (λ_ I=>I)
    replace A:=A.joinP 0 1 rfl rfl (ZMt (ZPz.sl) [am] [.slice (some ⟨av,0,none⟩) 1 1] ((ZNu (ZFo (.slice (some ⟨av,0,none⟩) 1 1)))++(ZNu (ZFo ac)))) (λU V=>Jl U (Za6 V)) (λc_ G=>ZEt.1 G)
    have ej:∀ b,b∈((ZNu (ZFo (.slice (some ⟨av,0,none⟩) 1 1)))++(ZNu (ZFo ac)))→w0.heap.size≤b:=(λb hb=>(ZEt.1 hb).elim (λhb=>ei b hb) (λhb=>eh b hb))
    refine done (Jc (by decide) (l9:=(Zb 14 3199)) (by kernel_rfl) (aO 7 rfl ?_))
    obtain ⟨bb,ek,b9⟩:=Zax (A.getP 0 rfl);replace A:=A.derive 0 rfl (ZXm TInts [am] bb ((ZNu (ZFo (.slice (some ⟨av,0,none⟩) 1 1)))++(ZNu (ZFo ac)))) (λ_=>b9) (λ_ L=>L)
    obtain ⟨en,h⟩:=h;refine X1 A 0 ZUw Jw rfl (by decide) (by decide) rfl ek (λq_ ab=>b9.2.2.1 q_ ab) rfl rfl en λbj ha A=>?_
    replace A:=Y7 A 0 ((B++[am]).length) (ay++bb) rfl (by simp) (by simp)
    have eo:∀ b,b∈(([]++O)++((ZNu (ZFo (.slice (some ⟨av,0,none⟩) 1 1)))++(ZNu (ZFo ac))))→w0.heap.size≤b:=(λb hb=>(ZEt.1 hb).elim (λhb=>eb b hb) (λhb=>ej b hb))
    replace A:=A.joinP 4 0 rfl rfl (ZXm TInts (B++[am]) (ay++bb) (([]++O)++((ZNu (ZFo (.slice (some ⟨av,0,none⟩) 1 1)))++(ZNu (ZFo ac))))) (λU V=>Zay U V) (λc_ G=>ZEt.1 G)
    refine done (Jc (by decide) (l9:=(Zb 14 3327)) (by kernel_rfl) (aO 8 rfl ?_))
    have ep:=Yt A 0 rfl;replace A:=A.thaw 0 rfl (own 22 1 bj ((B++[am]).length) (ay++bb)) id (λ_ I=>I)
    replace A:=A.joinP 0 1 rfl rfl (ZMt (ZPz.sl) (B++[am]) [bj] ((ZNu (ZFo bj))++(([]++O)++((ZNu (ZFo (.slice (some ⟨av,0,none⟩) 1 1)))++(ZNu (ZFo ac)))))) (λU V=>Jl U V) (λc_ G=>ZEt.1 G)
    have er:∀ b,b∈((ZNu (ZFo bj))++(([]++O)++((ZNu (ZFo (.slice (some ⟨av,0,none⟩) 1 1)))++(ZNu (ZFo ac)))))→w0.heap.size≤b:=(λb hb=>(ZEt.1 hb).elim (λhb=>ep b hb) (λhb=>eo b hb))
    refine Zf [bj] _ ZYs rfl rfl rfl (Zi0 (B++[am]) h _ (A.getP 0 rfl)) ?_
    rintro _ hc ⟨ca,f6,cq,rfl,h,es,cb,et⟩;refine rt ?_
    have gh:∀ b,b∈cq→w0.heap.size≤b:=(λb hb=>(cb b hb).elim (λL=>ZEv A.size L) (λhb=>er b hb))
    replace A:=A.pushR et (ZMt (ZPz.sl) ca [f6] cq) es (λb hb=>(cb b hb).elim .inl (λhb=>.inr (⟨_,mg 0 rfl,hb⟩)))
    refine done (Jc (by decide) (l9:=(Zb 14 3583)) (by kernel_rfl) (aO 9 rfl (Zw A 0 rfl ZUw rfl (done (Jc (by decide) (l9:=(Zb 14 4095)) (by kernel_rfl) (Z0 12 (by decide) (by decide) (by kernel_rfl) (by kernel_rfl) rfl (Xg rfl rfl (Zc (v:=.bool (decide ((ca.length:Int)=(B.length:Int)))) rfl (done (Z1 ?_))))))))))
    exact⟨rfl,_,rfl,⟨ca,(slq rfl),((A.xM [] rfl).sP [15,16,17,18,19] rfl),h⟩⟩
   ·skip;refine Yb A 3 [u1_0] rfl ag55 rfl rfl rfl (done (Jc (by decide) (l9:=(Zb 14 3099)) (by kernel_rfl) (aO 2 rfl ?_)))
    obtain ⟨az,eu,cc⟩:=Zax (A.getP 1 rfl);replace A:=A.derive 1 rfl (ZXm TInts B az O) (λ_=>cc) (λ_ L=>L)
    obtain ⟨ew,h⟩:=h;refine X1 A 0 ZUw Jw rfl (by decide) (by decide) rfl eu (λq_ ab=>cc.2.2.1 q_ ab) rfl rfl ew λhe hf A=>?_
    replace A:=Y7 A 0 (B.length) az rfl (by simp) (by simp)
    have ex:∀ b,b∈([]++O)→w0.heap.size≤b:=(λb hb=>(ZEt.1 hb).elim (λhb=>absurd hb (by simp)) (λhb=>bo b hb))
    replace A:=A.joinP 1 0 rfl rfl (ZXm TInts B az ([]++O)) (λU V=>Zay U V) (λc_ G=>ZEt.1 G)
    refine done (Jc (by decide) (l9:=(Zb 14 3103)) (by kernel_rfl) (aO 5 rfl (Zf [.agg #[u1_0],ah] _ ZYr rfl rfl rfl (Zgk (⟨a1.terms⟩:ZMw) aq h _ (Yi (A.getP 7 rfl)) (Ym (A.getM 2 rfl))) ?_)))
    rintro _ hg ⟨an,ad,f7,rfl,h,ey,ez,e1⟩;refine rt ?_
    replace A:=A.push e1 (ZM8 (ZT0 2 (eI.tr)) an [ad] f7) ey ez;obtain ⟨e2,e3⟩:=Y4 (A.getM 0 rfl).1;subst e3;replace A:=A.recast (c:=own 2 1 ad an.length (eI.encs an)) (λ_ L=>L) (λ_=>e2)
    refine done (Jc (by decide) (l9:=(Zb 14 3135)) (by kernel_rfl) (aO 6 rfl ?_))
    have e4:=Yt A 0 rfl;replace A:=A.thaw 0 rfl (ZMt TInts an [ad] (ZNu (ZFo ad))) Ym (λ_ I=>I)
    refine Yn (sz:=1) A [(0,ad)] [ad] rfl (λ_=>Zaj ad (Zat (A.getP 0 rfl)) _) rfl (by decide) λaw hh aa A=>?_
    have e5:=Yt A 0 rfl;replace A:=A.thaw 0 rfl (own 22 1 (.slice (some ⟨aw,0,none⟩) 1 1) 1 [ad]) id (λ_ I=>I)
    replace A:=A.joinP 0 1 rfl rfl (ZMt (ZPz.sl) [an] [.slice (some ⟨aw,0,none⟩) 1 1] ((ZNu (ZFo (.slice (some ⟨aw,0,none⟩) 1 1)))++(ZNu (ZFo ad)))) (λU V=>Jl U (Za6 V)) (λc_ G=>ZEt.1 G)
    have e6:∀ b,b∈((ZNu (ZFo (.slice (some ⟨aw,0,none⟩) 1 1)))++(ZNu (ZFo ad)))→w0.heap.size≤b:=(λb hb=>(ZEt.1 hb).elim (λhb=>e5 b hb) (λhb=>e4 b hb))
    refine done (Jc (by decide) (l9:=(Zb 14 3199)) (by kernel_rfl) (aO 7 rfl ?_))
    obtain ⟨bc,e7,ce⟩:=Zax (A.getP 0 rfl);replace A:=A.derive 0 rfl (ZXm TInts [an] bc ((ZNu (ZFo (.slice (some ⟨aw,0,none⟩) 1 1)))++(ZNu (ZFo ad)))) (λ_=>ce) (λ_ L=>L)
    obtain ⟨e8,h⟩:=h;refine X1 A 0 ZUw Jw rfl (by decide) (by decide) rfl e7 (λq_ ab=>ce.2.2.1 q_ ab) rfl rfl e8 λbk hk A=>?_
    replace A:=Y7 A 0 ((B++[an]).length) (az++bc) rfl (by simp) (by simp)
    have e9:∀ b,b∈(([]++O)++((ZNu (ZFo (.slice (some ⟨aw,0,none⟩) 1 1)))++(ZNu (ZFo ad))))→w0.heap.size≤b:=(λb hb=>(ZEt.1 hb).elim (λhb=>ex b hb) (λhb=>e6 b hb))
    replace A:=A.joinP 4 0 rfl rfl (ZXm TInts (B++[an]) (az++bc) (([]++O)++((ZNu (ZFo (.slice (some ⟨aw,0,none⟩) 1 1)))++(ZNu (ZFo ad))))) (λU V=>Zay U V) (λc_ G=>ZEt.1 G)
    refine done (Jc (by decide) (l9:=(Zb 14 3327)) (by kernel_rfl) (aO 8 rfl ?_))
    have fa:=Yt A 0 rfl;replace A:=A.thaw 0 rfl (own 22 1 bk ((B++[an]).length) (az++bc)) id (λ_ I=>I)
    replace A:=A.joinP 0 1 rfl rfl (ZMt (ZPz.sl) (B++[an]) [bk] ((ZNu (ZFo bk))++(([]++O)++((ZNu (ZFo (.slice (some ⟨aw,0,none⟩) 1 1)))++(ZNu (ZFo ad)))))) (λU V=>Jl U V) (λc_ G=>ZEt.1 G)
    have fb:∀ b,b∈((ZNu (ZFo bk))++(([]++O)++((ZNu (ZFo (.slice (some ⟨aw,0,none⟩) 1 1)))++(ZNu (ZFo ad)))))→w0.heap.size≤b:=(λb hb=>(ZEt.1 hb).elim (λhb=>fa b hb) (λhb=>e9 b hb))
    refine Zf [bk] _ ZYs rfl rfl rfl (Zi0 (B++[an]) h _ (A.getP 0 rfl)) ?_
    rintro _ hl ⟨cg,f8,cr,rfl,h,fc,ch,fd⟩;refine rt ?_
    have gi:∀ b,b∈cr→w0.heap.size≤b:=(λb hb=>(ch b hb).elim (λL=>ZEv A.size L) (λhb=>fb b hb))
    replace A:=A.pushR fd (ZMt (ZPz.sl) cg [f8] cr) fc (λb hb=>(ch b hb).elim .inl (λhb=>.inr (⟨_,mg 0 rfl,hb⟩)))
    refine done (Jc (by decide) (l9:=(Zb 14 3583)) (by kernel_rfl) (aO 9 rfl (Zw A 0 rfl ZUw rfl (done (Jc (by decide) (l9:=(Zb 14 4095)) (by kernel_rfl) (Z0 12 (by decide) (by decide) (by kernel_rfl) (by kernel_rfl) rfl (Xg rfl rfl (Zc (v:=.bool (decide ((cg.length:Int)=(B.length:Int)))) rfl (done (Z1 ?_))))))))))
    exact⟨rfl,_,rfl,⟨cg,(slq rfl),((A.xM [] rfl).sP [15,16,17,18,19] rfl),h⟩⟩
  ·skip;refine Yb A 2 [u1_0] rfl ag55 rfl rfl rfl (done (Jc (by decide) (l9:=(Zb 14 3098)) (by kernel_rfl) (aO 0 rfl (Yn (sz:=1) A [] [] rfl (λ_=>Zao _) rfl (by decide) λhm hn aa A=>?_))))
   replace A:=A.pushE (ZXm TInts [] [] []) (Zgb _ _) rfl;refine done (aK (by assumption) (Zb 14 3099) (aO 2 rfl ?_))
   obtain ⟨a4,fe,ci⟩:=Zax (A.getP 1 rfl);replace A:=A.derive 1 rfl (ZXm TInts B a4 O) (λ_=>ci) (λ_ L=>L)
   obtain ⟨ff,h⟩:=h;refine X1 A 0 ZUw Jw rfl (by decide) (by decide) rfl fe (λq_ ab=>ci.2.2.1 q_ ab) rfl rfl ff λho hp A=>?_
   replace A:=Y7 A 0 (B.length) a4 rfl (by simp) (by simp)
   have fg:∀ b,b∈([]++O)→w0.heap.size≤b:=(λb hb=>(ZEt.1 hb).elim (λhb=>absurd hb (by simp)) (λhb=>bo b hb))
   replace A:=A.joinP 1 0 rfl rfl (ZXm TInts B a4 ([]++O)) (λU V=>Zay U V) (λc_ G=>ZEt.1 G)
   refine done (Jc (by decide) (l9:=(Zb 14 3103)) (by kernel_rfl) (aO 5 rfl (Zf [.agg #[u1_0],ah] _ ZYr rfl rfl rfl (Zgk (⟨a1.terms⟩:ZMw) aq h _ (Yi (A.getP 7 rfl)) (Ym (A.getM 2 rfl))) ?_)))
   rintro _ hq ⟨ao,ae,f9,rfl,h,fh,fi,fj⟩;refine rt ?_
   replace A:=A.push fj (ZM8 (ZT0 2 (eI.tr)) ao [ae] f9) fh fi;obtain ⟨fk,fl⟩:=Y4 (A.getM 0 rfl).1;subst fl;replace A:=A.recast (c:=own 2 1 ae ao.length (eI.encs ao)) (λ_ L=>L) (λ_=>fk)
   refine done (Jc (by decide) (l9:=(Zb 14 3135)) (by kernel_rfl) (aO 6 rfl ?_))
   have fm:=Yt A 0 rfl;replace A:=A.thaw 0 rfl (ZMt TInts ao [ae] (ZNu (ZFo ae))) Ym (λ_ I=>I)
   refine Yn (sz:=1) A [(0,ae)] [ae] rfl (λ_=>Zaj ae (Zat (A.getP 0 rfl)) _) rfl (by decide) λax hr aa A=>?_
   have fo:=Yt A 0 rfl;replace A:=A.thaw 0 rfl (own 22 1 (.slice (some ⟨ax,0,none⟩) 1 1) 1 [ae]) id (λ_ I=>I)
   replace A:=A.joinP 0 1 rfl rfl (ZMt (ZPz.sl) [ao] [.slice (some ⟨ax,0,none⟩) 1 1] ((ZNu (ZFo (.slice (some ⟨ax,0,none⟩) 1 1)))++(ZNu (ZFo ae)))) (λU V=>Jl U (Za6 V)) (λc_ G=>ZEt.1 G)
   have fq:∀ b,b∈((ZNu (ZFo (.slice (some ⟨ax,0,none⟩) 1 1)))++(ZNu (ZFo ae)))→w0.heap.size≤b:=(λb hb=>(ZEt.1 hb).elim (λhb=>fo b hb) (λhb=>fm b hb))
   refine done (Jc (by decide) (l9:=(Zb 14 3199)) (by kernel_rfl) (aO 7 rfl ?_))
   obtain ⟨bd,fr,cj⟩:=Zax (A.getP 0 rfl);replace A:=A.derive 0 rfl (ZXm TInts [ao] bd ((ZNu (ZFo (.slice (some ⟨ax,0,none⟩) 1 1)))++(ZNu (ZFo ae)))) (λ_=>cj) (λ_ L=>L)
   obtain ⟨fs,h⟩:=h;refine X1 A 0 ZUw Jw rfl (by decide) (by decide) rfl fr (λq_ ab=>cj.2.2.1 q_ ab) rfl rfl fs λbl hs A=>?_
   replace A:=Y7 A 0 ((B++[ao]).length) (a4++bd) rfl (by simp) (by simp)
   have ft:∀ b,b∈(([]++O)++((ZNu (ZFo (.slice (some ⟨ax,0,none⟩) 1 1)))++(ZNu (ZFo ae))))→w0.heap.size≤b:=(λb hb=>(ZEt.1 hb).elim (λhb=>fg b hb) (λhb=>fq b hb))
   replace A:=A.joinP 4 0 rfl rfl (ZXm TInts (B++[ao]) (a4++bd) (([]++O)++((ZNu (ZFo (.slice (some ⟨ax,0,none⟩) 1 1)))++(ZNu (ZFo ae))))) (λU V=>Zay U V) (λc_ G=>ZEt.1 G)
   refine done (Jc (by decide) (l9:=(Zb 14 3327)) (by kernel_rfl) (aO 8 rfl ?_))
   have fu:=Yt A 0 rfl;replace A:=A.thaw 0 rfl (own 22 1 bl ((B++[ao]).length) (a4++bd)) id (λ_ I=>I)
   replace A:=A.joinP 0 1 rfl rfl (ZMt (ZPz.sl) (B++[ao]) [bl] ((ZNu (ZFo bl))++(([]++O)++((ZNu (ZFo (.slice (some ⟨ax,0,none⟩) 1 1)))++(ZNu (ZFo ae)))))) (λU V=>Jl U V) (λc_ G=>ZEt.1 G)
   have fv:∀ b,b∈((ZNu (ZFo bl))++(([]++O)++((ZNu (ZFo (.slice (some ⟨ax,0,none⟩) 1 1)))++(ZNu (ZFo ae)))))→w0.heap.size≤b:=(λb hb=>(ZEt.1 hb).elim (λhb=>fu b hb) (λhb=>ft b hb))
   refine Zf [bl] _ ZYs rfl rfl rfl (Zi0 (B++[ao]) h _ (A.getP 0 rfl)) ?_
   rintro _ ht ⟨ck,ga,cu,rfl,h,fw,cl,fx⟩;refine rt ?_
   have gj:∀ b,b∈cu→w0.heap.size≤b:=(λb hb=>(cl b hb).elim (λL=>ZEv A.size L) (λhb=>fv b hb))
   replace A:=A.pushR fx (ZMt (ZPz.sl) ck [ga] cu) fw (λb hb=>(cl b hb).elim .inl (λhb=>.inr (⟨_,mg 0 rfl,hb⟩)))
   refine done (Jc (by decide) (l9:=(Zb 14 3583)) (by kernel_rfl) (aO 9 rfl (Zw A 0 rfl ZUw rfl (done (Jc (by decide) (l9:=(Zb 14 4095)) (by kernel_rfl) (Z0 12 (by decide) (by decide) (by kernel_rfl) (by kernel_rfl) rfl (Xg rfl rfl (Zc (v:=.bool (decide ((ck.length:Int)=(B.length:Int)))) rfl (done (Z1 ?_))))))))))
   exact⟨rfl,_,rfl,⟨ck,(slq rfl),((A.xM [] rfl).sP [15,16,17,18,19] rfl),h⟩⟩
 ·skip;exact⟨cn,a7,([]++bh),(slq rfl),dh,((A.xM [0,1,2,3] rfl).sP [0,4,5,6,7,8] rfl)⟩
def Zi3 (A:Alg) (B:ZMw) (K:Int→Int→Prop):Prop :=
 Ziw A B (λI=>(if I≠0 then K 0 I else Zfy A.degrees B (λh U=>Ziy A (λV=>(if¬ (V=true) then K 0 5 else(if¬ (U=true) then K 0 5 else(if h < 0 then K 0 5 else Zc7 A B (λaa=>(if(aa.terms.length:Int) > 0 then K 0 5 else Zgi A h (λL=>(if L≠0 then K 0 L else Zi2 A h B (λab=>(if ab=true then K 0 5 else Xt (λ(G:Int) O=>Zgn A B (ZHf.wrap (G+1)) h (λac=>(if ac=true then O (ZHf.wrap (G+1)) else K G 0))) 0)))))))))))))
theorem ZAl (V:Alg) (a1:ZMw)  {K:Int→Int→Prop} (h:Zi3 V a1 K) (w0:World) (q0:TAlg.rep V [u0_0,u0_1] fp0 w0) (q1:ZNg.rep a1 [u1_0] fp1 w0) :
  Calls ZMx 29 #[.agg #[u0_0,u0_1],.agg #[u1_0]] w0 λe w'=>∃ (r0:Int) (r1:Int),
   e=.returned (.tuple #[vI r0,vI r1])∧K r0 r1∧Bel w0 w':=by
 unfold Zi3 at h
 refine cof Tryz.func29 rfl 62 Tryz.ntmps29 ?_
 have A:=ZNf (X:=Nox) w0 [ZMt TAlg V [u0_0,u0_1] fp0,ZMt TForm a1 [u1_0] fp1] (alc q0 (al1 q1));replace A:=A.dAlg 0 rfl;have a2:=(A.getP 3 rfl);replace A:=A.derive 3 rfl (ZMt ZMv.ty.sl a1.terms [u1_0] fp1) (λ_=>(Y9 a2)) (λ_ a3=>a3)
 refine sr (Ya (v:=.agg #[u0_0,u0_1]) A [u0_0,u0_1] rfl rfl λb7 w9 a4 A=>Ya (v:=.agg #[u1_0]) A [u1_0] rfl rfl λak a8 a4 A=>Zc (v:=vI 0) rfl (Zc (v:=vI 0) rfl (dn (ZMu (sr (Yb A 1 [u0_0,u0_1] rfl ag32 rfl rfl rfl (Yb A 0 [u1_0] rfl ag55 rfl rfl rfl (Zf [.agg #[u0_0,u0_1],.agg #[u1_0]] _ Tryz.func68 rfl rfl rfl (ZAe V a1 h _ (Y3 (A.getP 2 rfl) (A.getP 1 rfl)) (Yi (A.getP 0 rfl))) ?_))))))))
 rintro _ a9 ⟨aa,rfl,h,am⟩;refine rt ?_
 replace A:=A.grow am;refine Zc (v:=vI aa) rfl (dn (sr (Za (v:=vI aa) rfl (Y2 rfl rfl (dn ?_)))))
 refine Zp rfl (λac=>?_) (λac=>?_)
 ·replace h:=ift h (ct ac);refine sr (Za (v:=vI aa) rfl (Zc (v:=vI 0) rfl (Zc (v:=vI aa) rfl (dn ?_))))
  refine ZM3 (Zl ?_)
  exact Xv rfl (Ze rfl) (Ze rfl) ⟨0,aa,rfl,h,A.below⟩ (.inl rfl)
 ·replace h:=Zm h (cf ac);refine ZMy (Zd (sr (Zu 0 ZNe rfl sc22.size rfl rfl (Z5 A 1 (u0_0) rfl sc22 rfl rfl (Yb A 0 [u1_0] rfl ag55 rfl rfl rfl (Zf [u0_0,.agg #[u1_0]] _ Tryz.func69 rfl rfl rfl (Zqg V.degrees a1 h _ (A.getP 2 rfl) (Yi (A.getP 0 rfl))) ?_))))))
  rintro _ ba ⟨G,U,rfl,h,an⟩;refine rt ?_
  replace A:=A.grow an;refine Za (v:=.tuple #[vI G,.bool U]) rfl (Yj (v:=vI G) rfl rfl (Yj (v:=.bool U) rfl rfl (Zc (v:=vI G) rfl (Zc (v:=.bool U) rfl (dn (ZMu (sr (Yb A 1 [u0_0,u0_1] rfl ag32 rfl rfl rfl (Zf [.agg #[u0_0,u0_1]] _ Tryz.func70 rfl rfl rfl (ZAg V h _ (Y3 (A.getP 2 rfl) (A.getP 1 rfl))) ?_)))))))))
  rintro _ bb ⟨al,rfl,h,ao⟩;refine rt ?_
  replace A:=A.grow ao;refine Xe rfl (Za (v:=.bool (!al)) rfl ?_)
  refine Y6 (!al) (λI=>?_) (λI=>?_)
  ·replace h:=ift h (Yz (Xi I));refine Zg (b:=true) 3 27 rfl (tr rfl (congrArg _ I)) (by decide) (Zg (b:=true) 3 27 rfl (tr rfl (congrArg _ I)) (by decide) (Zs (v:=.bool true) (b:=true) (tr rfl (congrArg _ I)) rfl (Za (v:=.bool true) rfl (Zg (b:=true) 7 31 rfl (tr rfl (congrArg _ rfl)) (by decide) (Zg (b:=true) 7 31 rfl (tr rfl (congrArg _ rfl)) (by decide) (Zs (v:=.bool true) (b:=true) rfl rfl (Za (v:=.bool true) rfl (Zg (b:=true) 11 35 rfl (tr rfl (congrArg _ rfl)) (by decide) (Zg (b:=true) 11 35 rfl (tr rfl (congrArg _ rfl)) (by decide) (Zg (b:=true) 11 35 rfl (tr rfl (congrArg _ rfl)) (by decide) (Zg (b:=true) 11 35 rfl (tr rfl (congrArg _ rfl)) (by decide) (Zg (b:=true) 11 35 rfl (tr rfl (congrArg _ rfl)) (by decide) (Zg (b:=true) 11 35 rfl (tr rfl (congrArg _ rfl)) (by decide) (Zs (v:=.bool true) (b:=true) rfl rfl (dn (Z3 rfl rfl (sr (Zc (v:=vI 0) rfl (Zc (v:=vI 5) rfl (dn ?_))))))))))))))))))))
   refine ZM3 (Zl ?_)
   exact Xv rfl (Ze rfl) (Ze rfl) ⟨0,5,rfl,h,A.below⟩ (.inl rfl)
  ·replace h:=Zm h (not_not_intro ((Xj I)));refine Zh 3 27 rfl rfl I (Za (v:=.bool U) rfl (Zh 3 27 rfl rfl I (Xe rfl (Zs (v:=.bool (!U)) (b:=false) (tr rfl (congrArg _ I)) rfl (Za (v:=.bool (!U)) rfl ?_)))))
   refine Y6 (!U) (λL=>?_) (λL=>?_)
   ·replace h:=ift h (Yz (Xi L));refine Zg (b:=true) 7 31 rfl (tr rfl (congrArg _ L)) (by decide) (Zg (b:=true) 7 31 rfl (tr rfl (congrArg _ L)) (by decide) (Zs (v:=.bool true) (b:=true) (tr rfl (congrArg _ L)) rfl (Za (v:=.bool true) rfl (Zg (b:=true) 11 35 rfl (tr rfl (congrArg _ rfl)) (by decide) (Zg (b:=true) 11 35 rfl (tr rfl (congrArg _ rfl)) (by decide) (Zg (b:=true) 11 35 rfl (tr rfl (congrArg _ rfl)) (by decide) (Zg (b:=true) 11 35 rfl (tr rfl (congrArg _ rfl)) (by decide) (Zg (b:=true) 11 35 rfl (tr rfl (congrArg _ rfl)) (by decide) (Zg (b:=true) 11 35 rfl (tr rfl (congrArg _ rfl)) (by decide) (Zs (v:=.bool true) (b:=true) rfl rfl (dn (Z3 rfl rfl (sr (Zc (v:=vI 0) rfl (Zc (v:=vI 5) rfl (dn ?_))))))))))))))))
    refine ZM3 (Zl ?_)
    exact Xv rfl (Ze rfl) (Ze rfl) ⟨0,5,rfl,h,A.below⟩ (.inl rfl)
   ·replace h:=Zm h (not_not_intro ((Xj L)));refine Zh 7 31 rfl rfl L (Za (v:=vI G) rfl (Zh 7 31 rfl rfl L (Zn rfl rfl (Zs (v:=.bool (decide (G < 0))) (b:=false) (tr rfl (congrArg _ L)) rfl (Za (v:=.bool (decide (G < 0))) rfl ?_)))))
    refine Y6 (decide (G < 0)) (λB=>?_) (λB=>?_)
    ·replace h:=ift h (ct B);refine Zg (b:=true) 11 35 rfl (tr rfl (congrArg _ B)) (by decide) (Zg (b:=true) 11 35 rfl (tr rfl (congrArg _ B)) (by decide) (Zg (b:=true) 11 35 rfl (tr rfl (congrArg _ B)) (by decide) (Zg (b:=true) 11 35 rfl (tr rfl (congrArg _ B)) (by decide) (Zg (b:=true) 11 35 rfl (tr rfl (congrArg _ B)) (by decide) (Zg (b:=true) 11 35 rfl (tr rfl (congrArg _ B)) (by decide) (Zs (v:=.bool true) (b:=true) (tr rfl (congrArg _ B)) rfl (dn (Z3 rfl rfl (sr (Zc (v:=vI 0) rfl (Zc (v:=vI 5) rfl (dn ?_))))))))))))
     refine ZM3 (Zl ?_)
     exact Xv rfl (Ze rfl) (Ze rfl) ⟨0,5,rfl,h,A.below⟩ (.inl rfl)
    ·replace h:=Zm h (cf B);refine Zh 11 35 rfl rfl B (Yb A 1 [u0_0,u0_1] rfl ag32 rfl rfl rfl (Zh 11 35 rfl rfl B (Yb A 0 [u1_0] rfl ag55 rfl rfl rfl (Zh 11 35 rfl rfl B (Zf [.agg #[u0_0,u0_1],.agg #[u1_0]] _ Tryz.func71 rfl rfl rfl (Zmw V a1 h _ (Y3 (A.getP 2 rfl) (A.getP 1 rfl)) (Yi (A.getP 0 rfl))) ?_)))))
     rintro _ bc ⟨ai,aj,a5,rfl,h,ap,aq,ar⟩;refine rt ?_
     replace A:=A.push ar (ZM8 (Y0 162) ai [aj] a5) ap aq;obtain ⟨au,av⟩:=X7 (A.getM 0 rfl);subst av;replace A:=A.recast (c:=own 162 9 aj ai.terms.length (ZMv.encs ai.terms)) (λ_ h_=>h_) (λ_=>au)
     refine Zh 11 35 rfl rfl B (Zp6 (aj) ZM1 rfl sc53 rfl rfl (Zh 11 35 rfl rfl B (Za4 A 0 rfl ZM4 rfl (Zh 11 35 rfl rfl B (Ja rfl rfl (Zs (v:=.bool (decide ((ai.terms.length:Int) > 0))) (b:=false) (tr rfl (congrArg _ B)) rfl (dn ?_)))))))
     refine Zp rfl (λad=>?_) (λad=>?_)
     ·replace h:=ift h (ct ad);refine sr (Zc (v:=vI 0) rfl (Zc (v:=vI 5) rfl (dn ?_)))
      refine ZM3 (Zl ?_)
      exact Xv rfl (Ze rfl) (Ze rfl) ⟨0,5,rfl,h,A.below⟩ (.inl rfl)
     ·replace h:=Zm h (cf ad);refine ZMy (Zd (ZMu (sr (Yb A 2 [u0_0,u0_1] rfl ag32 rfl rfl rfl (Za (v:=vI G) rfl (Zf [.agg #[u0_0,u0_1],vI G] _ Tryz.func60 rfl rfl rfl (ZAd V G h _ (Y3 (A.getP 2 rfl) (A.getP 1 rfl))) ?_))))))
      rintro _ bd ⟨ab,rfl,h,aw⟩;refine rt ?_
      replace A:=A.grow aw;refine Zc (v:=vI ab) rfl (dn (sr (Za (v:=vI ab) rfl (Y2 rfl rfl (dn ?_)))))
      refine Zp rfl (λae=>?_) (λae=>?_)
      ·replace h:=ift h (ct ae);refine sr (Za (v:=vI ab) rfl (Zc (v:=vI 0) rfl (Zc (v:=vI ab) rfl (dn ?_))))
       refine ZM3 (Zl ?_)
       exact Xv rfl (Ze rfl) (Ze rfl) ⟨0,ab,rfl,h,A.below⟩ (.inl rfl)
      ·replace h:=Zm h (cf ae);refine ZMy (Zd (ZMu (sr (Yb A 2 [u0_0,u0_1] rfl ag32 rfl rfl rfl (Za (v:=vI G) rfl (Yb A 1 [u1_0] rfl ag55 rfl rfl rfl (Zf [.agg #[u0_0,u0_1],vI G,.agg #[u1_0]] _ Tryz.func72 rfl rfl rfl (ZAj V G a1 h _ (Y3 (A.getP 2 rfl) (A.getP 1 rfl)) (Yi (A.getP 0 rfl))) ?_)))))))
       rintro _ be ⟨bh,rfl,h,ax⟩;refine rt ?_
       replace A:=A.grow ax;refine dn ?_
       refine Zp rfl (λag=>?_) (λag=>?_)
       ·replace h:=ift h (ag);refine sr (Zc (v:=vI 0) rfl (Zc (v:=vI 5) rfl (dn ?_)))
        refine ZM3 (Zl ?_)
        exact Xv rfl (Ze rfl) (Ze rfl) ⟨0,5,rfl,h,A.below⟩ (.inl rfl)
       ·replace h:=Zm h (Yz ag);refine ZMy (Zd (sr (Zc (v:=vI 0) rfl (dn (ZMu (ZM0 ?_))))))
        refine X6 (S:=Int) _ (λO e_ w_=>Zt e_ [(2,vQ b7),(3,vQ ak),(7,vI G),(10,vI O)]∧Ctx Nox w0 w_ [blk ak 55 [u1_0],blk b7 32 [u0_0,u0_1]] [ZMt ZMv.ty.sl a1.terms [u1_0] fp1,ZMt ZNg.sl V.images [u0_1] fp0,ZMt TInts V.degrees [u0_0] fp0,ZMt TAlg V [u0_0,u0_1] fp0,ZMt TForm a1 [u1_0] fp1]) ?_ (s0:=0) ?_ h
        ·clear A h;rintro O e_ bi a7 bj ⟨a6,A⟩ h ay;rw [ue a6];refine ZMu (sr (Yb A 1 [u0_0,u0_1] rfl ag32 rfl rfl rfl (Yb A 0 [u1_0] rfl ag55 rfl rfl rfl (Za (v:=vI O) rfl (Zo rfl rfl (Za (v:=vI G) rfl (Zf [.agg #[u0_0,u0_1],.agg #[u1_0],vI (ZHf.wrap (O+1)),vI G] _ Tryz.func73 rfl rfl rfl (ZAk V a1 (ZHf.wrap (O+1)) G h _ (Y3 (A.getP 2 rfl) (A.getP 1 rfl)) (Yi (A.getP 0 rfl))) ?_)))))))
         rintro _ bk ⟨bl,rfl,h,az⟩;refine rt ?_
         replace A:=A.grow az;refine dn ?_
         refine Zp rfl (λah=>?_) (λah=>?_)
         ·replace h:=ift h (ah);refine ZMy (Zd (ZM0 (Zj (Za (v:=vI O) rfl (Zo rfl rfl (Zc (v:=vI (ZHf.wrap (O+1))) rfl (done (Zq ?_))))))))
          exact ay (ZHf.wrap (O+1)) _ _ ⟨(slq rfl),A⟩ h
         ·replace h:=Zm h (Yz ah);refine ZM9 (Zk (Zk (Zy ?_)))
          refine Zd (sr (Za (v:=vI O) rfl (Zc (v:=vI O) rfl (Zc (v:=vI 0) rfl (dn (ZM3 ?_))))))
          exact Xv rfl (Ze rfl) (Ze rfl) ⟨O,0,rfl,h,A.below⟩ (.inl rfl)
        ·skip;exact⟨(slq rfl),(A.xM [1,2] rfl)⟩
def Zk5 (h:List (List Int)) (A:(List Int)→(Bool→Prop)→Prop) (K:Bool→Prop):Prop :=
 Ze6 h A (λB=>K (decide (B≥0)))
theorem ZAm (a0:List (List Int)) (p1:(List Int)→(Bool→Prop)→Prop)  {K:Bool→Prop} (h:Zk5 a0 p1 K) (w0:World) (q0:(ZPz.sl).rep a0 [u0_0] fp0 w0) {g1:Nat} {cp1:List Value} {fn1:Func} (hf1:ZMx.funcs[g1]? = some fn1) (hb1:fn1.body.isNone=false) (hn1:(fn1.name == "runtime.NumGoroutine")=false) (hp1:∀ (y0:List Int) (yu0_0:Value) (yf0:List Nat) (K_:Bool→Prop) (w_:World),Bel w0 w_→ZPz.rep y0 [yu0_0] yf0 w_→p1 y0 K_→Calls ZMx g1 (ZHu ([yu0_0]++cp1)) w_ λe w'=>∃ (z0:Bool),e=.returned (.bool z0)∧K_ z0∧Bel w_ w') :
  Calls ZMx 178 #[u0_0,.func (.func g1) #[] (ZHu cp1)] w0 λe w'=>∃ (r0:Bool),
   e=.returned (.bool r0)∧K r0∧Bel w0 w':=by
 unfold Zk5 at h
 refine cof Tryz.func178 rfl 9 Tryz.ntmps178 ?_
 have hC:=ZNf (X:=Nox) w0 [ZMt (ZPz.sl) a0 [u0_0] fp0] (al1 q0);refine sr (Zc (v:=.bool false) rfl (dn (sr (Za (v:=u0_0) rfl (Za (v:=.func (.func g1) #[] (ZHu cp1)) rfl (Zf [u0_0,.func (.func g1) #[] (ZHu cp1)] _ Tryz.func141 rfl rfl rfl (Zr3 a0 p1 h _ (hC.getP 0 rfl) hf1 hb1 hn1 (λx0_ x1_ x2_ K_ w_ hb_=>hp1 x0_ x1_ x2_ K_ w_ (Zma hC.below hb_))) ?_))))))
 rintro _ w4 ⟨r5,rfl,h,hB6⟩;refine rt ?_
 replace hC:=hC.grow hB6;refine Zae rfl rfl (Zc (v:=.bool (decide (r5≥0))) rfl (dn (ZM3 ?_)))
 exact Zi rfl (Ze rfl) ⟨decide (r5≥0),rfl,h,hC.below⟩ (.inl rfl)
def Zk6 (h:Int) (K:A8→Prop):Prop :=
 ((0≤h∧h < 8)∧K (ZMz.set h.toNat 1))
theorem ZAn (B:Int)  {K:A8→Prop} (h:Zk6 B K) (w0:World)  :
  Calls ZMx 202 #[vI B] w0 λe w'=>∃ (G:A8),
   e=.returned (.agg (ZHu (ZMs .i64 G)))∧K G∧Bel w0 w':=by
 unfold Zk6 at h
 refine cof Tryz.func202 rfl 8 Tryz.ntmps202 ?_
 have A:=ZNf (X:=Nox) w0 [] (by simp)
 refine sr (Yl A (ZMs .i64 ZMz) z73 rfl λb1 w3 I A=>dn (sr (J8 [] rfl (Zhq   _) (Yl A (ZMs .i64 ZMz) z73 rfl λb4 U I A=>Zz (v:=.agg (ZHu (ZMs .i64 ZMz))) A 0 (ZMs .i64 ZMz) (ZMs .i64 ZMz) rfl ag73.size rfl rfl rfl rfl rfl (ZM2 rfl) rfl λV A=>dn (sr (Za (v:=vI B) rfl ?_))))))
 obtain ⟨⟨h0_8,h1_9⟩,h⟩:=h;refine Xs B.toNat Tryz.underlying73 sc3.size rfl rfl h0_8 h1_9 (by omega) (Zz (v:=vI 1) A 0 [vI 1] (ZMs .i64 (ZMz.set B.toNat 1)) rfl sc3.size rfl rfl rfl rfl rfl (show B.toNat < 8 by omega) (A8.enc_set _ _ _ (show B.toNat < 8 by omega)) λL A=>dn (sr (Yb A 0 (ZMs .i64 (ZMz.set B.toNat 1)) rfl ag73 rfl rfl rfl (Zz (v:=.agg (ZHu (ZMs .i64 (ZMz.set B.toNat 1)))) A 1 (ZMs .i64 (ZMz.set B.toNat 1)) (ZMs .i64 (ZMz.set B.toNat 1)) rfl ag73.size rfl rfl rfl rfl rfl (ZM2 rfl) rfl λO A=>dn (ZM3 ?_)))))
 exact Zi rfl (Zag A 1 rfl ag73 rfl rfl) ⟨ZMz.set B.toNat 1,rfl,h,A.below⟩ (.inl rfl)
def Zi4 (O:List Int) (L:ZMw) (K:List Int→Prop):Prop :=
 Zbp L (λB=>Z9 (λG (h:(List Int)) A=>Zk6 (G:Int) (λI=>(Z4 (h.length+1) 8∧A (h++[(Y8 B I).getD 0])))) (λ(h:(List Int))=>K h) O.length 0 [])
theorem ZAo (a0:List Int) (V:ZMw)  {K:List Int→Prop} (h:Zi4 a0 V K) (w0:World) (q0:ZPz.rep a0 [u0_0] fp0 w0) (q1:ZNg.rep V [u1_0] fp1 w0) :
  Calls ZMx 197 #[u0_0,.agg #[u1_0]] w0 λe w'=>∃ (r0:List Int) (z0_0:Value) (ac:List Nat),
   e=.returned (z0_0)∧K r0∧(ZM8 (ZT0 2 (eI.tr)) r0 [z0_0] ac).holds w'∧(∀ b,b∈ac→w0.heap.size≤b)∧Bel w0 w':=by
 unfold Zi4 at h
 refine cof Tryz.func197 rfl 25 Tryz.ntmps197 ?_
 have A:=ZNf (X:=Nox) w0 [ZMt TInts a0 [u0_0] fp0,ZMt TForm V [u1_0] fp1] (alc q0 (al1 q1));have ap:=(A.getP 1 rfl);replace A:=A.derive 1 rfl (ZMt ZMv.ty.sl V.terms [u1_0] fp1) (λ_=>(Y9 ap)) (λ_ aa=>aa)
 refine sr (Ya (v:=.agg #[u1_0]) A [u1_0] rfl rfl λb5 w7 ad A=>Zc (v:=.slice none 0 0) rfl (dn (sr (Yb A 0 [u1_0] rfl ag55 rfl rfl rfl (Zf [.agg #[u1_0]] _ Tryz.func78 rfl rfl rfl (Zf1 V h _ (Yi (A.getP 0 rfl))) ?_)))))
 rintro _ au ⟨G,U,rfl,h,ah,ai,aj⟩;refine rt ?_
 replace A:=A.push aj (mapS U G) ah (λb_ aa=>by obtain rfl:=ZFn.1 aa; exact ai)
 refine Yn (sz:=1) A [] (eI.encs []) rfl (λ_=>Znm  _) rfl (by decide) λae av ad A=>Zc (v:=.map (some U)) rfl (Zc (v:=.slice (some ⟨ae,0,none⟩) 0 0) rfl (dn (ZMu (sr (Za (v:=u0_0) rfl (Zw A 1 rfl ZNd rfl (Za (v:=vI 0) rfl (dn (ZM0 ?_)))))))))
 have ak:a0.length≤9223372036854775807:=Y5 (A.getP 1 rfl);refine Yp (S:=(List Int)) _ _ (λI L e_ w_=>∃ (B:Value),Zt e_ [(5,.map (some U)),(6,B),(12,vI (a0.length:Int)),(13,vI (I:Int))]∧Ctx Nox w0 w_ [own 2 1 B L.length (eI.encs L),mapS U G] [ZMt ZMv.ty.sl V.terms [u1_0] fp1,ZMt TInts a0 [u0_0] fp0,ZMt TForm V [u1_0] fp1]) a0.length ?_ ?_ (s0:=[]) ?_ h
 ·clear A h;rintro I L e_ aw ar aq al ⟨B,ab,A⟩ h am;rw [ue ab];refine sr (Zn rfl rfl (dn (ZMu (Z3 rfl (decide_eq_true (by omega)) (ZMy (Zd (ZMu (ZM0 (sr (Za (v:=vI (I:Int)) rfl (Zc (v:=vI (I:Int)) rfl (dn (Zj (Za (v:=B) rfl (Za (v:=.map (some U)) rfl (Za (v:=vI (I:Int)) rfl (Zf [vI (I:Int)] _ Tryz.func202 rfl rfl rfl (ZAn (I:Int) h _) ?_)))))))))))))))))
  rintro _ ax ⟨O,rfl,h,an⟩;refine rt ?_
  replace A:=A.grow an;refine Zps O 0 (A.getM 1 rfl) Jt Tryz.underlying115 z2 rfl rfl (Yn (sz:=1) A [(0,vI ((Y8 G O).getD 0))] (eI.encs [(Y8 G O).getD 0]) rfl (λ_=>Znq ((Y8 G O).getD 0) _) rfl (by decide) λay az ad A=>?_)
  obtain ⟨ao,h⟩:=h;refine X1 A 1 ZNd el2 rfl (by decide) (by decide) rfl (Zav (A.getM 0 rfl)) (λq hq=>ZNz (E:=eI) _ q hq) rfl rfl ao λag a2 A=>?_
  replace A:=Y7 A 1 ((L++[(Y8 G O).getD 0]).length) (eI.encs (L++[(Y8 G O).getD 0])) rfl (by simp) (by first | (simp [ZNm]; done) | simp [ZNm,ZUf])
  refine Zc (v:=ag) rfl (done (Zq (Zd (Zj (Zo rfl rfl (Za (v:=vI (ZHf.wrap ((I:Int)+1))) rfl (done ?_)))))))
  exact am (L++[(Y8 G O).getD 0]) _ _ ⟨ag,(sl ⟨rfl,rfl,rfl,(tr rfl (congrArg _ (Z7 al ak))),trivial⟩),(A.xM [1,2] rfl)⟩ h
 ·clear A h;rintro L e_ a3 aq ⟨B,ab,A⟩ h;rw [ue ab];refine sr (Zn rfl rfl (dn (ZMu (Z2 rfl (decide_eq_false (by omega)) ?_))))
  refine ZM9 (Zk (Zk (Zy ?_)))
  refine Zd (sr (Za (v:=B) rfl (Zc (v:=B) rfl (dn (ZM3 ?_)))))
  exact Zi rfl (Ze rfl) ⟨L,B,(ZNu (ZFo B)),rfl,h,(Xx (A.getM 0 rfl)),(Yt A 0 rfl),A.below⟩ (.inl rfl)
 ·skip;exact⟨.slice (some ⟨ae,0,none⟩) 0 0,(slq rfl),(A.xM [0,1] rfl)⟩
def Zk7 (I:Alg) (K:List (List Int)→Prop):Prop :=
 Z9 (λB (h:(List (List Int))) A=>Zi4 I.degrees (I.images.getD B ZEu) (λG=>(Z4 (h.length+1) 24∧A (h++[G])))) (λ(h:(List (List Int)))=>K h) I.images.length 0 []
theorem ZAp (a0:Alg)  {K:List (List Int)→Prop} (h:Zk7 a0 K) (w0:World) (q0:TAlg.rep a0 [u0_0,u0_1] fp0 w0) (a6:(blk b0 32 [u0_0,u0_1]).holds w0) :
  Calls ZMx 179 #[vQ b0] w0 λe w'=>∃ (r0:List (List Int)) (z0_0:Value) (aq:List Nat),
   e=.returned (z0_0)∧K r0∧(ZM8 (ZT0 22 (ZT0 2 (eI.tr))) r0 [z0_0] aq).holds w'∧(∀ b,b∈aq→w0.heap.size≤b)∧Bel w0 w':=by
 unfold Zk7 at h
 refine cof Tryz.func179 rfl 27 Tryz.ntmps179 ?_
 have A:=ZNf (X:=Nox) w0 [ZMt TAlg a0 [u0_0,u0_1] fp0,blk b0 32 [u0_0,u0_1]] (alc q0 (al1 a6));replace A:=A.dAlg 0 rfl;refine sr (Zc (v:=.slice none 0 0) rfl (dn (sr (Yn (sz:=1) A [] [] rfl (λ_=>Zao _) rfl (by decide) λb5 w6 O A=>?_))))
 replace A:=A.pushM0 (Yf (ZT0 2 (eI.tr)) ([]:List (List Int)) [] []) (Zaa _ _) rfl;replace A:=A.gather (c:=ZM8 (ZT0 22 (ZT0 2 (eI.tr))) [] [.slice (some ⟨b5,0,none⟩) 0 0] ((ZNu (ZFo (.slice (some ⟨b5,0,none⟩) 0 0)))++([]:List (List Nat)).flatten)) (λx_ ae=>(ZEt.1 ae).symm) (λag ah ai=>J0 ah ag (λb_ aj au=>ai b_ au aj))
 refine Zc (v:=.slice (some ⟨b5,0,none⟩) 0 0) rfl (dn (ZMu (sr (Za (v:=vQ b0) rfl (Xf rfl (Zu 1 ZNe rfl sc30.size rfl rfl (Zc2 (u0_1) (A.getP 3 rfl) sc30 rfl rfl (Zw A 0 rfl ZNi rfl (Za (v:=vI 0) rfl (dn (ZM0 ?_)))))))))))
 have av:a0.images.length≤9223372036854775807:=Y5 (A.getP 0 rfl);refine Yp (S:=(List (List Int))) _ _ (λV U e_ w_=>∃ (G:Value),∃ (aa:List Nat),Zt e_ [(0,vQ b0),(3,G),(10,u0_1),(11,vI (a0.images.length:Int)),(12,vI (V:Int))]∧Ctx Nox w0 w_ [ZM8 (ZT0 22 (ZT0 2 (eI.tr))) U [G] aa] [ZMt ZNg.sl a0.images [u0_1] fp0,ZMt TInts a0.degrees [u0_0] fp0,ZMt TAlg a0 [u0_0,u0_1] fp0,blk b0 32 [u0_0,u0_1]]) a0.images.length ?_ ?_ (s0:=[]) ?_ h
 ·clear A h;rintro V U e_ bc ba a7 ab ⟨G,aa,ak,A⟩ h aw;rw [ue ak];refine sr (Zn rfl rfl (dn (ZMu (Z3 rfl (decide_eq_true (by omega)) (ZMy (Zd (ZMu (ZM0 (sr ?_)))))))))
  obtain ⟨bb,bd,al⟩:=Zx (A.getP 0 rfl) V ab;refine Ys (len:=a0.images.length) ZNi ag55.size (tr rfl al) rfl (ZNb _) (ZNt.2 ab) ?_
  obtain ⟨be,am,ax,an⟩:=Xp (A.getP 0 rfl) al V ab;obtain ⟨I,rfl⟩:=ZJj.1 am;clear am;rw [Xm _ _ ab] at an
  have ay:=an;replace A:=A.derive 0 rfl (ZMt ZMv.ty.sl ((a0.images.getD V ZEu).terms) [I] fp0) (λ_=>(Y9 ay)) (λ_ aj=>aj)
  refine Je [I] ax ag55 rfl rfl (Yl A [.slice none 0 0] z55 rfl λao bh O A=>Zz (v:=.agg #[I]) A 0 [I] [I] rfl ag55.size rfl rfl rfl rfl (Xr (Zdt (A.getP 0 rfl)) rfl) (ZM2 rfl) rfl λbi A=>dn ?_)
  refine cwd 8 Yh [0,0,2,6,14,0,62,126,255,511] [4,5] [0,1,2,3] (λap ad bj O=>?_)
  replace A:=A.grow O;refine bM 0 (G) rfl ad (Zb 10 1) (bM 1 (vQ b0) rfl ad (Zb 10 3) (bF 2 (vQ b0) rfl rfl ad (λ_=>by exact J7 rfl) (Zb 10 7) (bF 3 (vQ b0) rfl rfl ad (λ_=>by exact Yk 0 ZNe rfl sc22.size rfl rfl) (Zb 10 15) (bL 4 (u0_0) rfl rfl ap (λ_ O=>by exact Zds (u0_0) ((A.grow O).getP 4 rfl) sc22 rfl rfl) (Zb 10 31) (bL 5 (.agg #[I]) rfl rfl ap (λ_ O=>by exact Xa (A.grow O) 0 [I] rfl ag55 rfl rfl rfl) (Zb 10 63) (aO 6 rfl (Zf [u0_0,.agg #[I]] _ Tryz.func197 rfl rfl rfl (ZAo a0.degrees (a0.images.getD V ZEu) h _ (A.getP 2 rfl) (Yi (A.getP 0 rfl))) ?_)))))))
  rintro _ bk ⟨L,B,a8,rfl,h,az,a1,a2⟩;refine rt ?_
  replace A:=A.push a2 (ZM8 (ZT0 2 (eI.tr)) L [B] a8) az a1;obtain ⟨a3,a4⟩:=Y4 (A.getM 0 rfl).1;subst a4;replace A:=A.recast (c:=own 2 1 B L.length (eI.encs L)) (λ_ h_=>h_) (λ_=>a3)
  refine done (aK (by assumption) (Zb 10 127) (aO 7 rfl (Yn (sz:=1) A [(0,B)] [B] rfl (λ_=>Zaj B (Zdw (A.getM 0 rfl)) _) rfl (by decide) λac bl O A=>?_)))
  replace A:=A.pushM0 (Yf (ZT0 2 (eI.tr)) [] [] []) (Zaa _ _) rfl;replace A:=A.sM [2,0,1,3,4] (M':=[own 2 1 B L.length (eI.encs L),Yf (ZT0 2 (eI.tr)) [] [] [],own 22 1 (.slice (some ⟨ac,0,none⟩) 1 1) 1 [B],blk ao 55 [I],ZM8 (ZT0 22 (ZT0 2 (eI.tr))) U [G] aa]) (by decide) rfl
  replace A:=A.gather (c:=Yf (ZT0 2 (eI.tr)) [L] [B] [(ZNu (ZFo B))]) (λx_ ae=>Zer ae) (λag ah ai=>Zdu (c:=[B]) (id (Xx ag)) ah ai)
  replace A:=A.sM [1,0,2,3] (M':=[own 22 1 (.slice (some ⟨ac,0,none⟩) 1 1) 1 [B],Yf (ZT0 2 (eI.tr)) [L] [B] [(ZNu (ZFo B))],blk ao 55 [I],ZM8 (ZT0 22 (ZT0 2 (eI.tr))) U [G] aa]) (by decide) rfl
  replace A:=A.gather (c:=ZM8 (ZT0 22 (ZT0 2 (eI.tr))) [L] [.slice (some ⟨ac,0,none⟩) 1 1] ((ZNu (ZFo (.slice (some ⟨ac,0,none⟩) 1 1)))++([(ZNu (ZFo B))]:List (List Nat)).flatten)) (λx_ ae=>ZEt.1 ae) (λag ah ai=>J0 ag ah ai)
  refine done (aK (by assumption) (Zb 10 255) (Z0 8 (by decide) (by decide) (by kernel_rfl) (by kernel_rfl) rfl ?_))
  replace A:=A.sM [2,0,1] (M':=[ZM8 (ZT0 22 (ZT0 2 (eI.tr))) U [G] aa,ZM8 (ZT0 22 (ZT0 2 (eI.tr))) [L] [.slice (some ⟨ac,0,none⟩) 1 1] ((ZNu (ZFo (.slice (some ⟨ac,0,none⟩) 1 1)))++([(ZNu (ZFo B))]:List (List Nat)).flatten),blk ao 55 [I]]) (by decide) rfl
  obtain ⟨a5,h⟩:=h;refine Zeq A ZUw Jw rfl (by decide) (by decide) rfl rfl a5 λar a9 bm A=>Zc (v:=ar) rfl (done (Z1 (Zq (Zd (Zj (Zo rfl rfl (Za (v:=vI (ZHf.wrap ((V:Int)+1))) rfl (done ?_))))))))
  exact aw (U++[L]) _ _ ⟨ar,a9,(sl ⟨rfl,rfl,rfl,rfl,(tr rfl (congrArg _ (Z7 ab av))),trivial⟩),((A.xM [0] rfl).sP [1,2,3,4] rfl)⟩ h
 ·clear A h;rintro U e_ bn a7 ⟨G,aa,ak,A⟩ h;rw [ue ak];refine sr (Zn rfl rfl (dn (ZMu (Z2 rfl (decide_eq_false (by omega)) ?_))))
  refine ZM9 (Zk (Zk (Zy ?_)))
  refine Zd (sr (Za (v:=G) rfl (Zc (v:=G) rfl (dn (ZM3 ?_)))))
  exact Zi rfl (Ze rfl) ⟨U,G,aa,rfl,h,(A.getM 0 rfl),(Zb6 A 0 rfl),A.below⟩ (.inl rfl)
 ·skip;exact⟨.slice (some ⟨b5,0,none⟩) 0 0,((ZNu (ZFo (.slice (some ⟨b5,0,none⟩) 0 0)))++([]:List (List Nat)).flatten),(slq rfl),A⟩
def Zgo (h:Int) (K:Bool→Prop):Prop :=
 K (decide (h≠0))
theorem ZAq (A:Int)  {K:Bool→Prop} (h:Zgo A K) (w0:World)  :
  Calls ZMx 182 #[vI A] w0 λe w'=>∃ (B:Bool),
   e=.returned (.bool B)∧K B∧Bel w0 w':=by
 unfold Zgo at h
 refine cof Tryz.func182 rfl 5 Tryz.ntmps182 ?_
 have G:=ZNf (X:=Nox) w0 [] (by simp)
 refine sr (Zc (v:=.bool false) rfl (dn (sr (Za (v:=vI A) rfl (Y2 rfl rfl (Zc (v:=.bool (decide (A≠0))) rfl (dn (ZM3 ?_))))))))
 exact Zi rfl (Ze rfl) ⟨decide (A≠0),rfl,h,G.below⟩ (.inl rfl)
def Zgp (h:List Int) (K:Bool→Prop):Prop :=
 Zf3 h Zgo (λA=>K A)
theorem ZAr (A:List Int)  {K:Bool→Prop} (h:Zgp A K) (w0:World) (U:ZPz.rep A [u0_0] fp0 w0) :
  Calls ZMx 180 #[u0_0] w0 λe w'=>∃ (G:Bool),
   e=.returned (.bool G)∧K G∧Bel w0 w':=by
 unfold Zgp at h
 refine cof Tryz.func180 rfl 5 Tryz.ntmps180 ?_
 have B:=ZNf (X:=Nox) w0 [ZMt TInts A [u0_0] fp0] (al1 U);refine sr (Zc (v:=.bool false) rfl (dn (sr (Za (v:=u0_0) rfl (Zf [u0_0,.func (.func 182) #[] (ZHu [])] _ Tryz.func181 rfl rfl rfl (Zql A Zgo h _ (B.getP 0 rfl) Tryz.func182 rfl rfl (λI K_ V _ L=>ZAq I L V)) ?_)))))
 rintro _ w4 ⟨O,rfl,h,hB6⟩;refine rt ?_
 replace B:=B.grow hB6;refine Zc (v:=.bool O) rfl (dn (ZM3 ?_))
 exact Zi rfl (Ze rfl) ⟨O,rfl,h,B.below⟩ (.inl rfl)
def Zi5 (B:Alg) (K:Bool→Prop):Prop :=
 Zk7 B (λG=>Zk5 G (λh K_=>Zgp h K_) (λA=>K (!A)))
theorem ZAs (G:Alg)  {K:Bool→Prop} (h:Zi5 G K) (w0:World) (q0:TAlg.rep G [u0_0,u0_1] fp0 w0) (ab:(blk b0 32 [u0_0,u0_1]).holds w0) :
  Calls ZMx 131 #[vQ b0] w0 λe w'=>∃ (r0:Bool),
   e=.returned (.bool r0)∧K r0∧Bel w0 w':=by
 unfold Zi5 at h
 refine cof Tryz.func131 rfl 7 Tryz.ntmps131 ?_
 have A:=ZNf (X:=Nox) w0 [ZMt TAlg G [u0_0,u0_1] fp0,blk b0 32 [u0_0,u0_1]] (alc q0 (al1 ab));replace A:=A.dAlg 0 rfl;refine sr (Zc (v:=.bool false) rfl (dn (sr (Za (v:=vQ b0) rfl (Zf [vQ b0] _ Tryz.func179 rfl rfl rfl (ZAp G h _ (Y3 (A.getP 1 rfl) (A.getP 0 rfl)) (A.getP 3 rfl)) ?_)))))
 rintro _ w7 ⟨r8,u9,ac,rfl,h,L,O,U⟩;refine rt ?_
 replace A:=A.push U (ZM8 (ZT0 22 (ZT0 2 (eI.tr))) r8 [u9] ac) L O;refine Zf [u9,.func (.func 180) #[] (ZHu [])] _ Tryz.func178 rfl rfl rfl (ZAm r8 (λB K_=>Zgp B K_) h _ (Tr.trep _ (A.getM 0 rfl).1) Tryz.func180 rfl rfl (λB yu0_0_ ae K_ w_ ag V ad=>ZAr B ad w_ V)) ?_
 rintro _ ah ⟨I,rfl,h,aa⟩;refine rt ?_
 replace A:=A.grow aa;refine Xe rfl (Zc (v:=.bool (!I)) rfl (dn (ZM3 ?_)))
 exact Zi rfl (Ze rfl) ⟨!I,rfl,h,A.below⟩ (.inl rfl)
def Zi6 (B:Alg) (h:Bool) (K:Int→Prop):Prop :=
 Zdb B [] (λA=>(if A=0 then Zi5 B (λG=>(if¬ (G=true) then Zc9 (!h) 2 (λI=>Zd8 [5,I] (λL=>K L)) else Zc9 (!h) 2 (λO=>Zd8 [A,O] (λU=>K U)))) else Zc9 (!h) 2 (λV=>Zd8 [A,V] (λaa=>K aa))))
theorem ZAt (a0:Alg) (I:Bool)  {K:Int→Prop} (h:Zi6 a0 I K) (w0:World) (q0:TAlg.rep a0 [u0_0,u0_1] fp0 w0) (am:(blk b0 32 [u0_0,u0_1]).holds w0) :
  Calls ZMx 75 #[vQ b0,.bool I] w0 λe w'=>∃ (r0:Int),
   e=.returned (vI r0)∧K r0∧Bel w0 w':=by
 unfold Zi6 at h
 refine cof Tryz.func75 rfl 21 Tryz.ntmps75 ?_
 have A:=ZNf (X:=Nox) w0 [ZMt TAlg a0 [u0_0,u0_1] fp0,blk b0 32 [u0_0,u0_1]] (alc q0 (al1 am));replace A:=A.dAlg 0 rfl;refine sr (Zc (v:=vI 0) rfl (dn (sr (Za (v:=vQ b0) rfl (Zf [vQ b0,.slice none 0 0] _ Tryz.func44 rfl rfl rfl (Zm4 a0 [] h _ (Y3 (A.getP 1 rfl) (A.getP 0 rfl)) (A.getP 3 rfl) (Zl0 _ _)) ?_)))))
 rintro _ w7 ⟨G,rfl,h,hB9⟩;refine rt ?_
 replace A:=A.grow hB9;refine Zc (v:=vI G) rfl (dn (ZMu (sr (Za (v:=vI G) rfl (Xg rfl rfl (Za (v:=.bool (decide (G=0))) rfl ?_))))))
 refine Y6 (decide (G=0)) (λB=>?_) (λB=>?_)
 ·replace h:=ift h (ct B);refine Zh 2 10 rfl rfl B (Za (v:=vQ b0) rfl (Zh 2 10 rfl rfl B (Zf [vQ b0] _ Tryz.func131 rfl rfl rfl (ZAs a0 h _ (Y3 (A.getP 1 rfl) (A.getP 0 rfl)) (A.getP 3 rfl)) ?_)))
  rintro _ ar ⟨an,rfl,h,ae⟩;refine rt ?_
  replace A:=A.grow ae;refine Zh 2 10 rfl rfl B (Xe rfl (Zs (v:=.bool (!an)) (b:=true) (tr rfl (congrArg _ B)) rfl (dn ?_)))
  refine Zp rfl (λL=>?_) (λL=>?_)
  ·replace h:=ift h (Yz (Xi L));refine Zj (Zc (v:=vI 5) rfl (dn (sr (Za (v:=vI 5) rfl (Za (v:=.bool I) rfl (Xe rfl (Zf [.bool (!I),vI 2] _ Tryz.func45 rfl rfl rfl (Zh9 (!I) 2 h _) ?_)))))))
   rintro _ au ⟨O,rfl,h,ag⟩;refine rt ?_
   replace A:=A.grow ag;refine Yn (sz:=1) A [(0,vI 5),(1,vI O)] (eI.encs [5,O]) rfl (λ_=>Zk2 5 O _) rfl (by decide) λao av aa A=>Zf [.slice (some ⟨ao,0,none⟩) 2 2] _ Tryz.func43 rfl rfl rfl (Zkq [5,O] h _ (Ym (A.getM 0 rfl))) ?_
   rintro _ aw ⟨ab,rfl,h,ah⟩;refine rt ?_
   replace A:=A.grow ah;refine Zc (v:=vI ab) rfl (dn (ZM3 ?_))
   exact Zi rfl (Ze rfl) ⟨ab,rfl,h,A.below⟩ (.inl rfl)
  ·replace h:=Zm h (not_not_intro ((Xj L)));refine ZMy (Zd (sr (Za (v:=vI G) rfl (Za (v:=.bool I) rfl (Xe rfl (Zf [.bool (!I),vI 2] _ Tryz.func45 rfl rfl rfl (Zh9 (!I) 2 h _) ?_))))))
   rintro _ ax ⟨U,rfl,h,ai⟩;refine rt ?_
   replace A:=A.grow ai;refine Yn (sz:=1) A [(0,vI G),(1,vI U)] (eI.encs [G,U]) rfl (λ_=>Zk2 G U _) rfl (by decide) λap ay aa A=>Zf [.slice (some ⟨ap,0,none⟩) 2 2] _ Tryz.func43 rfl rfl rfl (Zkq [G,U] h _ (Ym (A.getM 0 rfl))) ?_
   rintro _ az ⟨ac,rfl,h,aj⟩;refine rt ?_
   replace A:=A.grow aj;refine Zc (v:=vI ac) rfl (dn (ZM3 ?_))
   exact Zi rfl (Ze rfl) ⟨ac,rfl,h,A.below⟩ (.inl rfl)
 ·replace h:=Zm h (cf B);refine Zg (b:=false) 2 10 rfl (tr rfl (congrArg _ B)) (by decide) (Zg (b:=false) 2 10 rfl (tr rfl (congrArg _ B)) (by decide) (Zg (b:=false) 2 10 rfl (tr rfl (congrArg _ B)) (by decide) (Zs (v:=.bool false) (b:=false) (tr rfl (congrArg _ B)) rfl (dn (Z2 rfl rfl (ZMy (Zd (sr (Za (v:=vI G) rfl (Za (v:=.bool I) rfl (Xe rfl (Zf [.bool (!I),vI 2] _ Tryz.func45 rfl rfl rfl (Zh9 (!I) 2 h _) ?_))))))))))))
  rintro _ a2 ⟨V,rfl,h,ak⟩;refine rt ?_
  replace A:=A.grow ak;refine Yn (sz:=1) A [(0,vI G),(1,vI V)] (eI.encs [G,V]) rfl (λ_=>Zk2 G V _) rfl (by decide) λaq a3 aa A=>Zf [.slice (some ⟨aq,0,none⟩) 2 2] _ Tryz.func43 rfl rfl rfl (Zkq [G,V] h _ (Ym (A.getM 0 rfl))) ?_
  rintro _ a4 ⟨ad,rfl,h,al⟩;refine rt ?_
  replace A:=A.grow al;refine Zc (v:=vI ad) rfl (dn (ZM3 ?_))
  exact Zi rfl (Ze rfl) ⟨ad,rfl,h,A.below⟩ (.inl rfl)
def Zi7 (B:Alg) (G:ZMw) (K:Bool→Prop):Prop :=
 Zbp G (λh=>Zd4 B h (λA=>K (decide ((A.length:Int)=0))))
theorem ZAu (I:Alg) (L:ZMw)  {K:Bool→Prop} (h:Zi7 I L K) (w0:World) (q0:TAlg.rep I [u0_0,u0_1] fp0 w0) (ag:(blk b0 32 [u0_0,u0_1]).holds w0) (q1:ZNg.rep L [u1_0] fp1 w0) :
  Calls ZMx 133 #[vQ b0,.agg #[u1_0]] w0 λe w'=>∃ (r0:Bool),
   e=.returned (.bool r0)∧K r0∧Bel w0 w':=by
 unfold Zi7 at h
 refine cof Tryz.func133 rfl 11 Tryz.ntmps133 ?_
 have A:=ZNf (X:=Nox) w0 [ZMt TAlg I [u0_0,u0_1] fp0,ZMt TForm L [u1_0] fp1,blk b0 32 [u0_0,u0_1]] (alc q0 (alc q1 (al1 ag)));replace A:=A.dAlg 0 rfl;have ah:=(A.getP 3 rfl);replace A:=A.derive 3 rfl (ZMt ZMv.ty.sl L.terms [u1_0] fp1) (λ_=>(Y9 ah)) (λ_ B=>B)
 refine sr (Ya (v:=.agg #[u1_0]) A [u1_0] rfl rfl λb8 aj ak A=>Zc (v:=.bool false) rfl (dn (sr (Za (v:=vQ b0) rfl (Yb A 0 [u1_0] rfl ag55 rfl rfl rfl (Zf [.agg #[u1_0]] _ Tryz.func78 rfl rfl rfl (Zf1 L h _ (Yi (A.getP 0 rfl))) ?_))))))
 rintro _ al ⟨O,U,rfl,h,V,aa,ab⟩;refine rt ?_
 replace A:=A.push ab (mapS U O) V (λb_ B=>by obtain rfl:=ZFn.1 B; exact aa)
 refine Zf [vQ b0,.map (some U)] _ Tryz.func154 rfl rfl rfl (Zmy I O h _ (Y3 (A.getP 2 rfl) (A.getP 1 rfl)) (A.getP 5 rfl) (A.getM 0 rfl)) ?_
 rintro _ am ⟨G,ai,rfl,h,ac,ad,ae⟩;refine rt ?_
 replace A:=A.push ae (mapS ai G) ac (λb_ B=>by obtain rfl:=ZFn.1 B; exact ad)
 refine Zpt (A.getM 0 rfl) Tryz.underlying115 rfl rfl (Xg rfl rfl (Zc (v:=.bool (decide ((G.length:Int)=0))) rfl (dn (ZM3 ?_))))
 exact Zi rfl (Ze rfl) ⟨decide ((G.length:Int)=0),rfl,h,A.below⟩ (.inl rfl)
def Zi8 (C:Cx) (I:Alg) (h:Int) (L:List (A8×Int)) (K:Bool→Prop):Prop :=
 (Ziu C I h∧Zb9 (⟨C.LV h,C.PL h⟩:Vc.Lvl) L (λA=>Zbs A (C.BD h) (λB=>Zcr B (λG=>K G))))
theorem ZAv (C:Cx) (a0:Alg) (L:Int) (a2:List (A8×Int))  {K:Bool→Prop} (h:Zi8 C a0 L a2 K) (w0:World) (q0:TAlg.rep a0 [u0_0,u0_1] fp0 w0) (bh:(blk b0 32 [u0_0,u0_1]).holds w0) (am:(blk bp0 198 [vQ b0,.map (some mb0)]).holds w0) (bi:(cpx C 125 mb0 D0 F0).holds w0) (bj:∀ b,b∈fp0→b∉(cpx C 125 mb0 D0 F0).fp) (bk:b0∉(cpx C 125 mb0 D0 F0).fp) (an:bp0∉(cpx C 125 mb0 D0 F0).fp) (bl:Ze3 D0) (q2:(mapS b2 a2).holds w0) (bm:∀ b,b∈[b2]→b∉(cpx C 125 mb0 D0 F0).fp) :
  Calls ZMx 77 #[vQ bp0,vI L,.map (some b2)] w0 λe w'=>∃ (r0:Bool) (Dz:List Lev) (Fz:List Nat),
   e=.returned (.bool r0)∧K r0∧CpLe D0 Dz F0 Fz∧(cpx C 125 mb0 Dz Fz).holds w'∧(∀ x,x∈(cpx C 125 mb0 Dz Fz).fp→x∈(cpx C 125 mb0 D0 F0).fp∨w0.heap.size≤x)∧BelO ((cpx C 125 mb0 D0 F0).fp) w0 w':=by
 unfold Zi8 at h
 refine cof Tryz.func77 rfl 20 Tryz.ntmps77 ?_
 have A:=Ctx.startL w0 ((cpx C 125 mb0 D0 F0).fp) [cpx C 125 mb0 D0 F0] [ZMt TAlg a0 [u0_0,u0_1] fp0,blk b0 32 [u0_0,u0_1],blk bp0 198 [vQ b0,.map (some mb0)],mapS b2 a2] (al1 bi) (alc q0 (alc bh (alc am (al1 q2)))) (al1 (λU B=>B)) (ZVj _ _) (alc (λU B=>bj U B) (alc (Zdy bk) (alc (Zdy an) (al1 (λU B=>bm U B)))))
 replace A:=A.dAlg 0 rfl;refine sr (Zc (v:=.bool false) rfl (dn (sr (Za (v:=vQ bp0) rfl (Za (v:=vI L) rfl ?_)))))
 obtain ⟨ao,h⟩:=h;refine Zf [vQ bp0,vI L] _ Tryz.func79 rfl rfl rfl (Zr4 C a0 L ao _ (Y3 (A.getP 1 rfl) (A.getP 0 rfl)) (A.getP 3 rfl) (A.getP 4 rfl) (A.getM 0 rfl) (λU hb ad=>(ZEt.1 hb).elim (λhb=>A.pdk 1 0 rfl rfl U hb ad) (λhb=>A.pdk 0 0 rfl rfl U hb ad)) (λO=>A.pdk 3 0 rfl rfl _ (ZT7 _) O) (λO=>A.pdk 4 0 rfl rfl _ (ZT7 _) O) bl) ?_
 rintro _ br ⟨I,ak,ae,rfl,V,aj,ap,aq,ar⟩;refine rt ?_
 replace A:=A.turnI 0 rfl ar ap aq;refine Zc (v:=vvP I) rfl (dn (ZMu ?_))
 refine cwd 7 Yh [0,0,3,0,8,24,56,127,255,511] [6] [0,1,3,4,5] (λau G bs ag=>?_)
 replace A:=A.grow ag;refine bM 0 (vvP I) rfl G (Zb 10 1) (bM 1 (.map (some b2)) rfl G (Zb 10 3) (bM 3 (vvP I) rfl G (Zb 10 11) (bF 4 (vvP I) rfl rfl G (λ_=>by exact J7 rfl) (Zb 10 27) (bF 5 (.pointer (some ⟨I,4,none⟩)) rfl rfl G (λ_=>by exact Yk 4 Tryz.underlying125 rfl sc85.size rfl rfl) (Zb 10 59) ?_))))
 have av:=A.anyX 0 rfl;replace A:=A.thaw 0 rfl (cpx C 125 mb0 ak ae) id (λ_ B=>B)
 obtain ⟨bt,bu,bv,bw,aa,bx,aw,bp,bq,ax⟩:=Zim (A.getP 0 rfl) V;have ay:=(ax rfl).2.1;replace A:=A.derive 0 rfl (ZMt (ZPz.sl) (C.BD L) [aa] ae) (λ_=>ay) (λ_ h_=>Zcp h_)
 refine bL 6 (aa) rfl rfl au (λ_ ag=>by exact Xh (aa) (Zaw ag (Jq (off:=4) (sz:=1) aw rfl)) sc85 rfl) (Zb 10 123) (aO 2 rfl ?_)
 obtain ⟨bz,b8,b9,ca,cb,cc,az,a3⟩:=Zni (A.getP 1 rfl) V;refine Zf [vvP I,.map (some b2)] _ Tryz.func85 rfl rfl rfl (Znj (⟨C.LV L,C.PL L⟩:Vc.Lvl) a2 h _ az a3 (A.getP 7 rfl)) ?_
 rintro _ ce ⟨ab,ah,bn,rfl,h,a4,a5,a6⟩;refine rt ?_
 replace A:=A.push a6 (ZM8 (ZT0 2 (eI.tr)) ab [ah] bn) a4 a5;obtain ⟨a7,a8⟩:=Y4 (A.getM 0 rfl).1;subst a8;replace A:=A.recast (c:=own 2 1 ah ab.length (eI.encs ab)) (λ_ h_=>h_) (λ_=>a7)
 refine done (aK (by assumption) (Zb 10 127) (Z0 7 (by decide) (by decide) (by kernel_rfl) (by kernel_rfl) rfl (Zf [ah,aa] _ Tryz.func84 rfl rfl rfl (Zk0 ab (C.BD L) h _ (Ym (A.getM 0 rfl)) (A.getP 0 rfl)) ?_)))
 rintro _ cg ⟨ac,ai,bo,rfl,h,a9,ba,bb⟩;refine rt ?_
 replace A:=A.push bb (ZM8 (ZT0 2 (eI.tr)) ac [ai] bo) a9 ba;obtain ⟨bc,bd⟩:=Y4 (A.getM 0 rfl).1;subst bd;replace A:=A.recast (c:=own 2 1 ai ac.length (eI.encs ac)) (λ_ h_=>h_) (λ_=>bc)
 refine Zf [ai] _ Tryz.func83 rfl rfl rfl (Znn ac h _ (Ym (A.getM 0 rfl))) ?_
 rintro _ ch ⟨al,rfl,h,be⟩;refine rt ?_
 replace A:=A.grow be;refine Zc (v:=.bool al) rfl (done (Z1 (Zd (ZM3 ?_))))
 exact Zi rfl (Ze rfl) ⟨al,ak,ae,rfl,h,aj,(A.getP 1 rfl),(λx_ O=>(av x_ O).symm),A.belO⟩ (.inl rfl)
def Zgq (C:Cx) (L:Alg) (B:Int) (K:Int→Prop):Prop :=
 (Zd9 C L.degrees B∧Z9 (λI (h:Int) G=>Ze4 ((C.LV B).getD I ZEu) (λA=>G (if h < A then A else h))) (λ(h:Int)=>K h) ((C.LV B).length) 0 0)
theorem ZAw (C:Cx) (a0:Alg) (G:Int)  {K:Int→Prop} (h:Zgq C a0 G K) (w0:World) (q0:TAlg.rep a0 [u0_0,u0_1] fp0 w0) (ay:(blk b0 32 [u0_0,u0_1]).holds w0) (aj:(blk bp0 198 [vQ b0,.map (some mb0)]).holds w0) (az:(cpx C 125 mb0 D0 F0).holds w0) (a2:∀ b,b∈fp0→b∉(cpx C 125 mb0 D0 F0).fp) (a3:b0∉(cpx C 125 mb0 D0 F0).fp) (ak:bp0∉(cpx C 125 mb0 D0 F0).fp) :
  Calls ZMx 80 #[vQ bp0,vI G] w0 λe w'=>∃ (r0:Int) (Dz:List Lev) (Fz:List Nat),
   e=.returned (vI r0)∧K r0∧CpLe D0 Dz F0 Fz∧(cpx C 125 mb0 Dz Fz).holds w'∧(∀ x,x∈(cpx C 125 mb0 Dz Fz).fp→x∈(cpx C 125 mb0 D0 F0).fp∨w0.heap.size≤x)∧BelO ((cpx C 125 mb0 D0 F0).fp) w0 w':=by
 unfold Zgq at h
 refine cof Tryz.func80 rfl 25 Tryz.ntmps80 ?_
 have A:=Ctx.startL w0 ((cpx C 125 mb0 D0 F0).fp) [cpx C 125 mb0 D0 F0] [ZMt TAlg a0 [u0_0,u0_1] fp0,blk b0 32 [u0_0,u0_1],blk bp0 198 [vQ b0,.map (some mb0)]] (al1 az) (alc q0 (alc ay (al1 aj))) (al1 (λb_ O=>O)) (ZVj _ _) (alc (λb_ O=>a2 b_ O) (alc (Zdy a3) (al1 (Zdy ak))))
 replace A:=A.dAlg 0 rfl;refine sr (Zc (v:=vI 0) rfl (dn (sr (Zc (v:=vI 0) rfl (dn (ZMu (sr (Za (v:=vQ bp0) rfl (Za (v:=vI G) rfl ?_)))))))))
 obtain ⟨al,h⟩:=h;refine Zf [vQ bp0,vI G] _ Tryz.func115 rfl rfl rfl (Znl C a0 G al _ (Y3 (A.getP 1 rfl) (A.getP 0 rfl)) (A.getP 3 rfl) (A.getP 4 rfl) (A.getM 0 rfl) (λb_ hb ac=>(ZEt.1 hb).elim (λhb=>A.pdk 1 0 rfl rfl b_ hb ac) (λhb=>A.pdk 0 0 rfl rfl b_ hb ac)) (λU=>A.pdk 3 0 rfl rfl _ (ZT7 _) U) (λU=>A.pdk 4 0 rfl rfl _ (ZT7 _) U)) ?_
 rintro _ w9 ⟨a9,ad,V,rfl,ah,ai,am,an,ao⟩;refine rt ?_
 replace A:=A.turnI 0 rfl (ao.belO Zcq) am an;refine Xf rfl (Zu 0 Tryz.underlying125 rfl sc122.size rfl rfl ?_)
 have ap:=A.anyX 0 rfl;replace A:=A.thaw 0 rfl (cpx C 125 mb0 ad V) id (λ_ O=>O)
 obtain ⟨aa,ba,bb,bc,bd,be,aq,ar,a5,a6⟩:=Zim (A.getP 0 rfl) ah;have au:=ar;replace A:=A.derive 0 rfl (ZMt ((EA .i64).ty.sl) (C.LV G) [aa] V) (λ_=>au) (λ_ h_=>Zcp h_)
 refine Yr (aa) (Jq (off:=0) (sz:=1) aq rfl) sc122 rfl (Zw A 0 rfl Tryz.underlying122 rfl (Za (v:=vI 0) rfl (dn (ZM0 ?_))))
 have av:(C.LV G).length≤9223372036854775807:=Y5 (A.getP 0 rfl);refine Yp (S:=Int) _ _ (λB I e_ w_=>Zt e_ [(5,vI I),(13,aa),(14,vI ((C.LV G).length:Int)),(15,vI (B:Int))]∧Ctx (λc_=>c_∈(cpx C 125 mb0 D0 F0).fp) w0 w_ [] [ZMt ((EA .i64).ty.sl) (C.LV G) [aa] V,cpx C 125 mb0 ad V,ZMt ZNg.sl a0.images [u0_1] fp0,ZMt TInts a0.degrees [u0_0] fp0,ZMt TAlg a0 [u0_0,u0_1] fp0,blk b0 32 [u0_0,u0_1],blk bp0 198 [vQ b0,.map (some mb0)]]) ((C.LV G).length) ?_ ?_ (s0:=0) ?_ h
 ·clear A h;rintro B I e_ bh a7 a4 L ⟨ae,A⟩ h aw;rw [ue ae];refine sr (Zn rfl rfl (dn (ZMu (Z3 rfl (decide_eq_true (by omega)) (ZMy (Zd (ZMu (ZM0 (sr ?_)))))))))
  obtain ⟨a8,bi,ag⟩:=Zx (A.getP 0 rfl) B L;refine Ys (len:=(C.LV G).length) Tryz.underlying122 ag73.size (tr rfl ag) rfl (ZNb _) (ZNt.2 L) (Je (ZMs .i64 ((C.LV G).getD B ZEu)) (Ye (A.getP 0 rfl) ag B L) ag73 rfl rfl (Yl A (ZMs .i64 ZMz) z73 rfl λbj bk bl A=>Zz (v:=.agg (ZHu (ZMs .i64 ((C.LV G).getD B ZEu)))) A 0 (ZMs .i64 ((C.LV G).getD B ZEu)) (ZMs .i64 ((C.LV G).getD B ZEu)) rfl ag73.size rfl rfl rfl rfl rfl (ZM2 rfl) rfl λbm A=>dn (Zj (Za (v:=vI I) rfl (Yb A 0 (ZMs .i64 ((C.LV G).getD B ZEu)) rfl ag73 rfl rfl rfl (Zf [.agg (ZHu (ZMs .i64 ((C.LV G).getD B ZEu)))] _ Tryz.func137 rfl rfl rfl (Zrr ((C.LV G).getD B ZEu) h _) ?_))))))
  rintro _ bn ⟨ab,rfl,h,ax⟩;refine rt ?_
  replace A:=A.grow ax;refine Zq9 rfl rfl (Zc (v:=vI (if I < ab then ab else I)) rfl (done (Zq (Zd (Zj (Zo rfl rfl (Za (v:=vI (ZHf.wrap ((B:Int)+1))) rfl (done ?_))))))))
  exact aw (if I < ab then ab else I) _ _ ⟨(sl ⟨rfl,rfl,rfl,(tr rfl (congrArg _ (Z7 L av))),trivial⟩),(A.xM [] rfl)⟩ h
 ·clear A h;rintro I e_ bo a4 ⟨ae,A⟩ h;rw [ue ae];refine sr (Zn rfl rfl (dn (ZMu (Z2 rfl (decide_eq_false (by omega)) ?_))))
  refine ZM9 (Zk (Zk (Zy ?_)))
  refine Zd (sr (Za (v:=vI I) rfl (Zc (v:=vI I) rfl (dn (ZM3 ?_)))))
  exact Zi rfl (Ze rfl) ⟨I,ad,V,rfl,h,ai,(A.getP 1 rfl),(λx_ U=>(ap x_ U).symm),A.belO⟩ (.inl rfl)
 ·skip;exact⟨(slq rfl),A⟩
def Zcs (G:List Int) (I:List Bool) (K:List Int→Prop):Prop :=
 Z9 (λA (h:(List Int)) B=>((0≤(A:Int)∧(A:Int) < (I.length:Int))∧(if¬ ((I.getD A ZEu)=true) then(Z4 (h.length+1) 8∧B (h++[G.getD A ZEu])) else B h))) (λ(h:(List Int))=>K h) G.length 0 []
theorem Zsb (a0:List Int) (a1:List Bool)  {K:List Int→Prop} (h:Zcs a0 a1 K) (w0:World) (q0:ZPz.rep a0 [u0_0] fp0 w0) (q1:EB.ty.sl.rep a1 [u1_0] fp1 w0) :
  Calls ZMx 82 #[u0_0,u1_0] w0 λe w'=>∃ (r0:List Int) (z0_0:Value) (ad:List Nat),
   e=.returned (z0_0)∧K r0∧(ZM8 (ZT0 2 (eI.tr)) r0 [z0_0] ad).holds w'∧(∀ b,b∈ad→w0.heap.size≤b)∧Bel w0 w':=by
 unfold Zcs at h
 refine cof Tryz.func82 rfl 27 Tryz.ntmps82 ?_
 have B:=ZNf (X:=Nox) w0 [ZMt TInts a0 [u0_0] fp0,ZMt EB.ty.sl a1 [u1_0] fp1] (alc q0 (al1 q1));refine sr (Zc (v:=.slice none 0 0) rfl (dn (sr (Yn (sz:=1) B [] (eI.encs []) rfl (λ_=>Znm  _) rfl (by decide) λb3 w4 ah B=>Zc (v:=.slice (some ⟨b3,0,none⟩) 0 0) rfl (dn (ZMu (sr (Za (v:=u0_0) rfl (Zw B 0 rfl ZNd rfl (Za (v:=vI 0) rfl (dn (ZM0 ?_))))))))))))
 have U:a0.length≤9223372036854775807:=Y5 (B.getP 0 rfl);refine Yp (S:=(List Int)) _ _ (λA I e_ w_=>∃ (G:Value),Zt e_ [(1,u1_0),(5,G),(9,u0_0),(10,vI (a0.length:Int)),(11,vI (A:Int))]∧Ctx Nox w0 w_ [own 2 1 G I.length (eI.encs I)] [ZMt TInts a0 [u0_0] fp0,ZMt EB.ty.sl a1 [u1_0] fp1]) a0.length ?_ ?_ (s0:=[]) ?_ h
 ·clear B h;rintro A I e_ ao al ai L ⟨G,V,B⟩ h aa;rw [ue V];refine sr (Zn rfl rfl (dn (ZMu (Z3 rfl (decide_eq_true (by omega)) (ZMy (Zd (ZMu (ZM0 (sr (Za (v:=vI (A:Int)) rfl ?_))))))))))
  obtain ⟨am,ap,ab⟩:=Zx (B.getP 0 rfl) A L;refine Ys (len:=a0.length) ZNd sc2.size (tr rfl ab) rfl (ZNb _) (ZNt.2 L) (Yr (vI (a0.getD A ZEu)) (Ye (B.getP 0 rfl) ab A L) sc2 rfl (Zc (v:=vI (A:Int)) rfl (Zc (v:=vI (a0.getD A ZEu)) rfl (dn (sr (Za (v:=u1_0) rfl (Za (v:=vI (A:Int)) rfl ?_)))))))
  obtain ⟨⟨aj,ak⟩,h⟩:=h;obtain ⟨an,aq,ac⟩:=Zx (B.getP 1 rfl) A (show A < a1.length by omega)
  refine Ys (len:=a1.length) Tryz.underlying120 sc4.size (tr rfl ac) rfl aj ak (Yr (.bool (a1.getD A ZEu)) (Ye (B.getP 1 rfl) ac A (show A < a1.length by omega)) sc4 rfl (Xe rfl (dn ?_)))
  refine Zp rfl (λO=>?_) (λO=>?_)
  ·replace h:=ift h (Yz (Xi O));refine Zj (Za (v:=G) rfl (Za (v:=vI (a0.getD A ZEu)) rfl (Yn (sz:=1) B [(0,vI (a0.getD A ZEu))] (eI.encs [a0.getD A ZEu]) rfl (λ_=>Znq (a0.getD A ZEu) _) rfl (by decide) λar au ah B=>?_)))
   obtain ⟨ag,h⟩:=h;refine X1 B 1 ZNd el2 rfl (by decide) (by decide) rfl (Zav (B.getM 0 rfl)) (λq hq=>ZNz (E:=eI) _ q hq) rfl rfl ag λae av B=>?_
   replace B:=Y7 B 1 ((I++[a0.getD A ZEu]).length) (eI.encs (I++[a0.getD A ZEu])) rfl (by simp) (by first | (simp [ZNm]; done) | simp [ZNm,ZUf])
   refine Zc (v:=ae) rfl (done (Zq (Zd (Zj (Zo rfl rfl (Za (v:=vI (ZHf.wrap ((A:Int)+1))) rfl (done ?_)))))))
   exact aa (I++[a0.getD A ZEu]) _ _ ⟨ae,(sl ⟨rfl,rfl,rfl,rfl,(tr rfl (congrArg _ (Z7 L U))),trivial⟩),(B.xM [1] rfl)⟩ h
  ·replace h:=Zm h (not_not_intro ((Xj O)));refine ZMy (Zq (Zd (Zj (Zo rfl rfl (Za (v:=vI (ZHf.wrap ((A:Int)+1))) rfl (done ?_))))))
   exact aa I _ _ ⟨G,(sl ⟨rfl,rfl,rfl,rfl,(tr rfl (congrArg _ (Z7 L U))),trivial⟩),B⟩ h
 ·clear B h;rintro I e_ aw ai ⟨G,V,B⟩ h;rw [ue V];refine sr (Zn rfl rfl (dn (ZMu (Z2 rfl (decide_eq_false (by omega)) ?_))))
  refine ZM9 (Zk (Zk (Zy ?_)))
  refine Zd (sr (Za (v:=G) rfl (Zc (v:=G) rfl (dn (ZM3 ?_)))))
  exact Zi rfl (Ze rfl) ⟨I,G,(ZNu (ZFo G)),rfl,h,(Xx (B.getM 0 rfl)),(Yt B 0 rfl),B.below⟩ (.inl rfl)
 ·skip;exact⟨.slice (some ⟨b3,0,none⟩) 0 0,(slq rfl),B⟩
end Go.Proofs.YtaagfepgbofmlaaGreat
