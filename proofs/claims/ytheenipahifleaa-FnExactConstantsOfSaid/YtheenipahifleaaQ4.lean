import Derived.Test.YtheenipahifleaaQ3
set_option linter.unusedSectionVars false
set_option linter.unusedSimpArgs false
set_option linter.unusedVariables false
open Go renaming wp_seq→ZAc,wp_skip→ZAg,wp_block→ZAl,wp_ret→ZAk,wp_exit→ZAt
open Go.Instr renaming buildSlice→ZN5
open Go.IntKind renaming u8→ZAm,i64→Zu2
open Go.Proofs.Try renaming prog→ZAf,underlying27→ZNw,f3→ZNx,underlying44→ZAh,underlying42→ZAj,underlying47→ZAp,underlying49→ZAr,underlying32→ZAs,underlying30→ZAy,underlying22→ZAu,func8→ZN6,func6→ZN7
open Go.Value renaming ownBlock→Zth
open Inhabited renaming default→Zsn
open Int renaming natCast_nonneg→ZAx,ofNat_lt→ZBk
open List renaming toArray→ZAa,mem_cons→Zsj,mem_append→Zsw,not_mem_nil→Zur,range→Zs5,append_nil→ZN0,mem_map→Zty,mem_filter→ZN1,length_eq_one_iff→ZA6,length_append→Zs4,mem_range→Zt9,length_filter_le→ZN2,filter_append→ZN3,flatMap_cons→Zt5,append_assoc→ZN4,filter_nil→ZN8,map_append→ZN9,range_succ→ZOa,flatMap_append→ZOb,flatMap_nil→ZOc,length_map→ZOd,length_range→ZOe,mem_flatMap→ZOf,pairwise_flatMap→ZOg,length_take→Zup,filter_cons_of_pos→ZOm,filter_cons_of_neg→ZOn,take_of_length_le→Ztt,map_cons→Zto,length_cons→Zvc,mem_cons_of_mem→ZOo
open List.cons renaming injEq→Zwm
open Nat renaming le_of_ble_eq_true→ZAe,le_refl→Zsm,mul_le_mul→ZNy,le_trans→Zso
open Option renaming toList→ZA7
open Vc renaming ETerm→ZAb,Form→ZAd,TForm→ZAq
open Vc.A8 renaming zero→ZAi,enc→Zz8,mk→ZNu,enc_get→ZAw,get_set→ZC4
open Vc.A8.mk renaming injEq→ZNz
open Vc.Ctx renaming start→ZAv
open Vc.Enc renaming encs_append→ZA1,encs_one'→ZBc
open Vc.Term renaming enc→ZAn
open Vc.Tr renaming sl→ZGu,item→ZAo,trep→ZNv
open Vc.Ty renaming item→Zz9
set_option maxRecDepth 4000
set_option maxHeartbeats 4000000
namespace Go.Proofs.Ytheenipahifleaa
open Go Go.RowKit Vc
theorem Zkr (w:World):(ZN5 27 0 #[]).run ZAf w=.ok (.slice (some ⟨w.heap.size,0,none⟩) 0 0) (w.alloc (.cells (ZAa []) 22)):=by kernel_rfl
theorem Zra:ZAf.eqGuardType ZAf.depth 47=false:=by kernel_rfl
theorem Zrb:KeyT ZAf 47 (kvA .u8):=Zix ZAp Try.underlying5 sc5
theorem Zrc (x0:Int) (x1:Int) (x2:Int) (x3:Int) (w:World):(ZN5 22 4 #[(0,.int .i64 x0),(1,.int .i64 x1),(2,.int .i64 x2),(3,.int .i64 x3)]).run ZAf w=.ok (.slice (some ⟨w.heap.size,0,none⟩) 4 4) (w.alloc (.cells (ZAa ((EI .i64).encs [x0,x1,x2,x3])) 2)):=by kernel_rfl
theorem Zks (x0:Value) (hx0:Zg3 x0) (w:World):(ZN5 27 1 #[(0,x0)]).run ZAf w=.ok (.slice (some ⟨w.heap.size,0,none⟩) 1 1) (w.alloc (.cells (ZAa [x0]) 22)):=by obtain ⟨_,_,_,rfl⟩:=hx0; kernel_rfl
theorem Zkt:J8 ZAf 22 (.slice none 0 0) 1 24:=by unfold J8; kernel_rfl
theorem Zhs (x0:Int) (w:World):(ZN5 22 1 #[(0,.int .i64 x0)]).run ZAf w=.ok (.slice (some ⟨w.heap.size,0,none⟩) 1 1) (w.alloc (.cells (ZAa ((EI .i64).encs [x0])) 2)):=by kernel_rfl
theorem Zek:AggT ZAf 25 2:=⟨⟨_,Try.underlying25,rfl⟩,by kernel_rfl⟩
def Zel (a0:A8) (K:Int→Prop):Prop :=
 Yh (fun i10 (s10:Int) nx10=>nx10 (Zu2.wrap (s10+(Zu2.wrap (a0.get i10))))) (fun (s10:Int)=>K s10) 8 0 0
theorem Zrd (a0:A8)  {K:Int→Prop} (h:Zel a0 K) (w0:World)  :
  Calls ZAf 34 #[.agg (ZAa (Zz8 .u8 a0))] w0 fun e w'=>∃ (r0:Int),
   e=.returned (.int .i64 r0)∧K r0∧Bel w0 w':=by
 unfold Zel at h
 refine Zz (args:=[.agg (ZAa (Zz8 .u8 a0))]) Try.func34 rfl 16 Try.ntmps34 (ZAe rfl) ?_
 have hC:=ZAv (X:=Nox) w0 [] (by simp)
 refine sr (Yg (v:=.agg (ZAa (Zz8 .u8 a0))) hC (Zz8 .u8 a0) rfl rfl fun b1 w3 hB_ hC=>Zc (v:=.int .i64 0) rfl (dn (sr (Zc (v:=.int .i64 0) rfl (dn (ZAc (sr (Zc (v:=.int .i64 0) rfl (dn (ZAl ?_))))))))))
 refine Yp (S:=Int) _ _ (fun i10 s10 e_ w_=>Z1 e_ [(1,.pointer (some ⟨b1,0,none⟩)),(3,.int .i64 s10),(4,.int .i64 (i10:Int))]∧Ctx Nox w0 w_ [blk b1 47 (Zz8 .u8 a0)] []) 8 ?_ ?_ (s0:=0) ?_ h
 ·clear hC h
  rintro i10 s10 e_ w10 nx10 K10 hi10 ⟨hS_,hC⟩ h hK10
  rw [ue hS_]
  refine ZAc (sr (Za (v:=.int .i64 (i10:Int)) rfl (Zq rfl rfl (dn (Yf rfl (decide_eq_true (by omega)) (ZAg (Zd (ZAc (ZAl (Zn (Za (v:=.int .i64 s10) rfl ?_)))))))))))
  refine Za (v:=.int .i64 (i10:Int)) rfl (Y1 i10 ZAp sc5.size rfl rfl (ZAx _) (by omega) (by omega) (Z0 hC 0 (.int .u8 (a0.get i10)) rfl sc5 rfl (ZAw _ _ hi10) (Zgh Try.underlying5 Try.underlying2 rfl (Zp rfl rfl (Zc (v:=.int .i64 (Zu2.wrap (s10+(Zu2.wrap (a0.get i10))))) rfl (done (Zt (Zd (Zn (Za (v:=.int .i64 (i10:Int)) rfl (Zp rfl rfl ?_)))))))))))
  refine Zc (v:=.int .i64 (Zu2.wrap ((i10:Int)+1))) rfl (done ?_)
  exact hK10 (Zu2.wrap (s10+(Zu2.wrap (a0.get i10)))) _ _ ⟨(sl ⟨rfl,rfl,(tr rfl (congrArg _ (Yb hi10 (by decide)))),trivial⟩),hC⟩ h
 ·clear hC h
  rintro s10 e_ w11 K10 ⟨hS_,hC⟩ h
  rw [ue hS_]
  refine ZAc (sr (Za (v:=.int .i64 8) rfl (Zq rfl rfl (dn (Yd rfl (decide_eq_false (by omega)) ?_)))))
  refine ZAt (Zl (Zl (Z4 ?_)))
  refine Zd (sr (Za (v:=.int .i64 s10) rfl (Zc (v:=.int .i64 s10) rfl (dn (ZAk ?_)))))
  refine Zg (fn:=Try.f34) rfl ?_ ⟨s10,rfl,h,hC.below⟩ (.inl rfl)
  exact Zf rfl
 ·skip
  exact⟨(sl ⟨rfl,rfl,rfl,trivial⟩),hC⟩
def Zem (a0:ZAd) (a1:Int) (K:ZAd→Prop):Prop :=
 Xa (fun (s10:(List Term)×Int) nx10=>(if s10.2 < (a0.terms.length:Int) then((0≤s10.2∧s10.2 < (a0.terms.length:Int))∧Zel ((a0.terms.getD s10.2.toNat Zsn).mono) (fun r10=>(if r10=a1 then((0≤s10.2∧s10.2 < (a0.terms.length:Int))∧(Xf (s10.1.length+1) 16∧nx10 (s10.1++[a0.terms.getD s10.2.toNat Zsn],Zu2.wrap (s10.2+1)))) else nx10 (s10.1,Zu2.wrap (s10.2+1))))) else K (⟨s10.1⟩:ZAd))) ([],0)
theorem Zre (a0:ZAd) (a1:Int) {u0_0:Value} {fp0:List Nat} {K:ZAd→Prop} (h:Zem a0 a1 K) (w0:World) (q0:ZAq.rep a0 [u0_0] fp0 w0) :
  Calls ZAf 16 #[.agg #[u0_0],.int .i64 a1] w0 fun e w'=>∃ (r0:ZAd) (z0_0:Value) (fz0:List Nat),
   e=.returned (.agg #[z0_0])∧K r0∧(ZAo (Ya 49) r0 [z0_0] fz0).holds w'∧(∀ b,b∈fz0→w0.heap.size≤b)∧Bel w0 w':=by
 unfold Zem at h
 refine Zz (args:=[.agg #[u0_0],.int .i64 a1]) Try.func16 rfl 35 Try.ntmps16 (ZAe rfl) ?_
 have hC:=ZAv (X:=Nox) w0 [Zz9 TForm a0 [u0_0] fp0] (by simp only [Zsj,Zur,or_false,forall_eq_or_imp,forall_eq]; exact q0)
 have hp2:=(hC.getP 0 rfl)
 replace hC:=hC.derive 0 rfl (Zz9 ZAb.ty.sl a0.terms [u0_0] fp0) (fun _=>(Yx hp2)) (fun _ hb_=>hb_)
 refine sr (Yg (v:=.agg #[u0_0]) hC [u0_0] rfl rfl fun b4 w6 hB_ hC=>Ye hC [.slice none 0 0] z44 rfl fun b7 w9 hB_ hC=>dn (sr (Jl [] rfl (Zb8   _) (Ye hC [.slice none 0 0] z44 rfl fun b10 w10 hB_ hC=>Zy (v:=.agg #[.slice none 0 0]) hC 0 [.slice none 0 0] [.slice none 0 0] rfl ag44.size rfl rfl rfl rfl rfl (ZAe rfl) rfl fun w11 hC=>dn (ZAc (sr (Zc (v:=.int .i64 0) rfl ?_)))))))
 refine dn (ZAl ?_)
 refine Xq (S:=(List Term)×Int) _ (fun s10 e_ w_=>∃ (v10:Value),Z1 e_ [(1,.int .i64 a1),(2,.pointer (some ⟨b4,0,none⟩)),(4,.pointer (some ⟨b7,0,none⟩)),(5,.pointer (some ⟨b10,0,none⟩)),(6,.int .i64 s10.2)]∧Ctx Nox w0 w_ [own 49 9 v10 s10.1.length (ZAb.encs s10.1),blk b10 44 [v10],blk b7 44 [.slice none 0 0],blk b4 44 [u0_0]] [Zz9 ZAb.ty.sl a0.terms [u0_0] fp0,Zz9 TForm a0 [u0_0] fp0]) ?_ (s0:=([],0)) ?_ h
 ·clear hC h
  rintro s10 e_ w12 nx10 K10 ⟨v10,hS_,hC⟩ h hK10
  rw [ue hS_]
  refine ZAc (sr (Za (v:=.int .i64 s10.2) rfl (Zx 0 ZAh rfl sc42.size rfl rfl (Z0 hC 3 (u0_0) rfl sc42 rfl rfl ?_))))
  obtain ⟨Ad11,c10,hv12⟩:=Zw (hC.getP 0 rfl)
  refine Zv ZAj (tr rfl hv12) (Zq rfl rfl (dn ?_))
  refine Zr rfl (fun hb10=>?_) (fun hb10=>?_)
  ·replace h:=ift h (ct hb10)
   refine ZAg (Zd (ZAc (ZAl (sr (Zx 0 ZAh rfl sc42.size rfl rfl (Z0 hC 3 (u0_0) rfl sc42 rfl rfl (Za (v:=.int .i64 s10.2) rfl ?_)))))))
   obtain ⟨⟨h10,h11⟩,h⟩:=h
   obtain ⟨Ad12,c11,hv10⟩:=Z6 (hC.getP 0 rfl) s10.2.toNat (show s10.2.toNat < a0.terms.length by omega)
   refine Yv (len:=a0.terms.length) ZAj ag49.size (tr rfl hv10) rfl h10 h11 (Zby (s10.2.toNat * 9+0) ZAr rfl ag47.size rfl rfl (Jh (Zz8 .u8 ((a0.terms.getD s10.2.toNat Zsn).mono)) (X6 (o:=0) (k:=8) (Yj (hC.getP 0 rfl) hv10 s10.2.toNat (show s10.2.toNat < a0.terms.length by omega)) rfl) ag47 rfl rfl ?_))
   refine Zk [.agg (ZAa (Zz8 .u8 ((a0.terms.getD s10.2.toNat Zsn).mono)))] _ Try.func34 rfl rfl rfl (Zrd ((a0.terms.getD s10.2.toNat Zsn).mono) h _) (fun ret10 w13 hR10=>?_)
   obtain ⟨r10,rfl,h,hB10⟩:=hR10
   refine⟨_,rfl,?_⟩
   replace hC:=hC.grow hB10
   refine Za (v:=.int .i64 a1) rfl (Ji rfl rfl (dn ?_))
   refine Zr rfl (fun hb11=>?_) (fun hb11=>?_)
   ·replace h:=ift h (ct hb11)
    refine Yq 8 mixed [0,1,0,4,0,28,60,124,255,511,1023] [1,3,5,6] [0,2,4] (by kernel_rfl) (by kernel_rfl) (by kernel_rfl) (fun hM10 hM11 w14 hB_=>?_)
    replace hC:=hC.grow hB_
    refine aF 0 (.pointer (some ⟨b10,0,none⟩)) rfl rfl (hM11 0 rfl) (rfl) (fun _=>by exact Yi 0 ZAh rfl sc42.size rfl rfl) (Zb 11 1) (aL 1 (v10) rfl rfl (hM10 1 rfl) (rfl) (fun _ hB_=>by exact Yc (hC.grow hB_) 1 (v10) rfl sc42 rfl rfl) (Zb 11 3) (aF 2 (.pointer (some ⟨b4,0,none⟩)) rfl rfl (hM11 2 rfl) (rfl) (fun _=>by exact Yi 0 ZAh rfl sc42.size rfl rfl) (Zb 11 7) (aL 3 (u0_0) rfl rfl (hM10 3 rfl) (rfl) (fun _ hB_=>by exact Yc (hC.grow hB_) 3 (u0_0) rfl sc42 rfl rfl) (Zb 11 15) (aF 4 (.int .i64 s10.2) rfl rfl (hM11 4 rfl) (rfl) (fun _=>by exact Zs (v:=.int .i64 s10.2) rfl) (Zb 11 31) ?_))))
    obtain ⟨⟨h12,h13⟩,h⟩:=h
    obtain ⟨Ad10,c12,hv11⟩:=Z6 (hC.getP 0 rfl) s10.2.toNat (show s10.2.toNat < a0.terms.length by omega)
    refine aL 5 (.pointer (some (Ad10.add (s10.2.toNat * 9)))) rfl rfl (hM10 5 rfl) (rfl) (fun _ hB_=>by exact Y2 (len:=a0.terms.length) ZAj ag49.size (by exact tr rfl hv11) rfl h12 h13) (Zb 11 63) (aL 6 (.agg (ZAa (ZAn (a0.terms.getD s10.2.toNat Zsn)))) rfl rfl (hM10 6 rfl) (rfl) (fun _ hB_=>by exact Xs (ZAn (a0.terms.getD s10.2.toNat Zsn)) (Yj ((hC.grow hB_).getP 0 rfl) hv11 s10.2.toNat (show s10.2.toNat < a0.terms.length by omega)) ag49 rfl rfl) (Zb 11 127) (aO 7 rfl (Jq (sz:=9) hC [(0,.agg (ZAa (ZAn (a0.terms.getD s10.2.toNat Zsn))))] (ZAb.encs [a0.terms.getD s10.2.toNat Zsn]) rfl (fun _=>Zb9 (a0.terms.getD s10.2.toNat Zsn) _) rfl (by decide) fun b11 w15 hB_ hC=>done (aK (by assumption) (Zb 11 255) (Z7 8 (by decide) (by decide) (by kernel_rfl) (by kernel_rfl) rfl ?_)))))
    obtain ⟨hm10,h⟩:=h
    refine Zay hC 1 ZAj Zca rfl (by decide) (by decide) rfl (J7 (hC.getM 0 rfl)) (fun q hq=>ZBc (E:=ETerm) _ q hq) rfl rfl hm10 fun v11 w16 hC=>?_
    replace hC:=Js hC 1 ((s10.1++[a0.terms.getD s10.2.toNat Zsn]).length) (ZAb.encs (s10.1++[a0.terms.getD s10.2.toNat Zsn])) rfl (by simp) (by first | (simp [ZA1]; done) | simp [ZA1,Enc.encs])
    refine Zx 0 ZAh rfl sc42.size rfl rfl (Zy (v:=v11) hC 2 [v11] [v11] rfl sc42.size rfl rfl (Zbd (hC.getM 1 rfl)) rfl (Y4 (Xe (hC.getM 1 rfl)) rfl) (ZAe rfl) rfl fun w17 hC=>done (Z8 (Zt (Zd (Zn (Za (v:=.int .i64 s10.2) rfl (Zp rfl rfl (Zc (v:=.int .i64 (Zu2.wrap (s10.2+1))) rfl (done ?_)))))))))
    replace hC:=hC.sM [1,2,3,4] (M':=[own 49 9 v11 ((s10.1++[a0.terms.getD s10.2.toNat Zsn]).length) (ZAb.encs (s10.1++[a0.terms.getD s10.2.toNat Zsn])),blk b10 44 [v11],blk b7 44 [.slice none 0 0],blk b4 44 [u0_0]]) (by decide) rfl
    exact hK10 (s10.1++[a0.terms.getD s10.2.toNat Zsn],Zu2.wrap (s10.2+1)) _ _ ⟨v11,(sl ⟨rfl,rfl,rfl,rfl,rfl,trivial⟩),hC⟩ h
   ·replace h:=Zh h (cf hb11)
    refine ZAg (Zt (Zd (Zn (Za (v:=.int .i64 s10.2) rfl (Zp rfl rfl (Zc (v:=.int .i64 (Zu2.wrap (s10.2+1))) rfl (done ?_)))))))
    exact hK10 (s10.1,Zu2.wrap (s10.2+1)) _ _ ⟨v10,(sl ⟨rfl,rfl,rfl,rfl,rfl,trivial⟩),hC⟩ h
  ·replace h:=Zh h (cf hb10)
   refine ZAt (Zl (Zl (Z4 ?_)))
   refine Zd (sr (Yl hC 1 [v10] rfl ag44 rfl rfl rfl (Zy (v:=.agg #[v10]) hC 2 [v10] [v10] rfl ag44.size rfl rfl rfl rfl (Y4 (Xe (hC.getM 0 rfl)) rfl) (ZAe rfl) rfl fun w18 hC=>dn (ZAk ?_))))
   refine Zg (fn:=Try.f16) rfl ?_ ⟨(⟨s10.1⟩:ZAd),v10,(ZA7 (Zth v10)),rfl,h,(Zaj (Jw (hC.getM 0 rfl))),(Zaf hC 0 rfl),hC.below⟩ (.inl rfl)
   exact X9 hC 2 rfl ag44 rfl rfl
 ·skip
  replace hC:=hC.pushNil 49 9
  exact⟨.slice none 0 0,(sl ⟨rfl,rfl,rfl,rfl,rfl,trivial⟩),hC⟩
def Zcv (a0:Alg) (K:List (List Int)→Int→Prop):Prop :=
 Zdi a0 (fun r11=>(if¬ (r11=true) then K [] 1 else Xa (fun (s13:(List (List Int))×Int) nx11=>(if s13.2 < (a0.images.length:Int) then((0≤s13.2∧s13.2 < (a0.images.length:Int))∧Zem (a0.images.getD s13.2.toNat Zsn) 2 (fun r10=>Xa (fun (s10:(List (List Int))×Int) nx12=>(if s10.2 < (a0.degrees.length:Int) then Xa (fun (s12:(List (List Int))×Int) nx13=>(if s12.2 < (a0.degrees.length:Int) then((0≤s10.2∧s10.2 < 8)∧((0≤s10.2∧s10.2 < 8)∧((0≤s12.2∧s12.2 < 8)∧((0≤s12.2∧s12.2 < 8)∧Xa (fun (s11:(List (List Int))×Int) nx10=>(if s11.2 < (r10.terms.length:Int) then((0≤s11.2∧s11.2 < (r10.terms.length:Int))∧(if(r10.terms.getD s11.2.toNat Zsn).mono=(ZAi.set s10.2.toNat (ZAm.wrap ((ZAi.get s10.2.toNat)+1))).set s12.2.toNat (ZAm.wrap (((ZAi.set s10.2.toNat (ZAm.wrap ((ZAi.get s10.2.toNat)+1))).get s12.2.toNat)+1)) then((0≤s11.2∧s11.2 < (r10.terms.length:Int))∧(Xf (s11.1.length+1) 24∧nx10 (s11.1++[[s13.2,s10.2,s12.2,(r10.terms.getD s11.2.toNat Zsn).factor]],Zu2.wrap (s11.2+1)))) else nx10 (s11.1,Zu2.wrap (s11.2+1)))) else nx13 (s11.1,Zu2.wrap (s12.2+1)))) (s12.1,0))))) else nx12 (s12.1,Zu2.wrap (s10.2+1)))) (s10.1,s10.2) else nx11 (s10.1,Zu2.wrap (s13.2+1)))) (s13.1,0))) else K s13.1 0)) ([],0)))
theorem Zrf (a0 : Alg) {u0_0 : Value} {u0_1 : Value} {fp0 : List Nat} {K : List (List Int) → Int → Prop} (h : Zcv a0 K) (w0 : World) (q0 : TAlg.rep a0 [u0_0, u0_1] fp0 w0) :
  Calls ZAf 5 #[.agg #[u0_0,u0_1]] w0 fun e w'=>∃ (r0:List (List Int)) (z0_0:Value) (fz0:List Nat) (r1:Int),
   e=.returned (.tuple #[z0_0,.int .i64 r1])∧K r0 r1∧(ZAo (ZGu 22 (ZGu 2 ((EI .i64).tr))) r0 [z0_0] fz0).holds w'∧(∀ b,b∈fz0→w0.heap.size≤b)∧Bel w0 w':=by
 unfold Zcv at h
 refine Zz (args:=[.agg #[u0_0,u0_1]]) Try.func5 rfl 83 Try.ntmps5 (ZAe rfl) ?_
 have hC:=ZAv (X:=Nox) w0 [Zz9 TAlg a0 [u0_0,u0_1] fp0] (by simp only [Zsj,Zur,or_false,forall_eq_or_imp,forall_eq]; exact q0)
 have hp2:=(hC.getP 0 rfl)
 replace hC:=hC.derive 0 rfl (Zz9 ((EI .i64).ty.sl) a0.degrees [u0_0] fp0) (fun _=>(Y3 hp2).1) (fun _ hb_=>hb_)
 replace hC:=hC.derive 1 rfl (Zz9 ZAq.sl a0.images [u0_1] fp0) (fun _=>(Y3 hp2).2) (fun _ hb_=>hb_)
 refine sr (Yg (v:=.agg #[u0_0,u0_1]) hC [u0_0,u0_1] rfl rfl fun b5 w7 hB_ hC=>Zc (v:=.slice none 0 0) rfl (Zc (v:=.int .i64 0) rfl (dn (ZAc (sr (Yl hC 0 [u0_0,u0_1] rfl ag32 rfl rfl rfl ?_))))))
 refine Zk [.agg #[u0_0,u0_1]] _ Try.func15 rfl rfl rfl (Znt a0 h _ (Jb (hC.getP 1 rfl) (hC.getP 0 rfl))) (fun ret8 w10 hR9=>?_)
 obtain ⟨r11,rfl,h,hB10⟩:=hR9
 refine⟨_,rfl,?_⟩
 replace hC:=hC.grow hB10
 refine Xc rfl (dn ?_)
 refine Zr rfl (fun hb10=>?_) (fun hb10=>?_)
 ·replace h:=ift h (Yw (Xg hb10))
  refine sr (Zc (v:=.slice none 0 0) rfl (Zc (v:=.int .i64 1) rfl (dn ?_)))
  refine ZAk (Ze ?_)
  refine Jj (fn:=Try.f5) rfl ?_ ?_ ⟨[],.slice none 0 0,[],1,rfl,h,(Zfg _ _ _),(fun b hb=>absurd hb (by simp)),hC.below⟩ (.inl rfl)
  ·exact Zf rfl
  ·exact Zf rfl
 ·replace h := Zh h (not_not_intro ((Xh hb10)))
  refine ZAg (Zd (sr (Jq (sz:=1) hC [] [] rfl (fun _=>Zkr _) rfl (by decide) fun b14 w11 hB_ hC=>?_)))
  replace hC:=hC.pushM0 (Yn (ZGu 2 ((EI .i64).tr)) ([]:List (List Int)) [] []) (Zda _ _) rfl
  replace hC:=hC.gather (c:=ZAo (ZGu 22 (ZGu 2 ((EI .i64).tr))) [] [.slice (some ⟨b14,0,none⟩) 0 0] ((ZA7 (Zth (.slice (some ⟨b14,0,none⟩) 0 0)))++([]:List (List Nat)).flatten)) (fun x_ hx_=>(Zsw.1 hx_).symm) (fun h1_ h2_ hd_=>Zbg h2_ h1_ (fun b_ hb_ hb2_=>hd_ b_ hb2_ hb_))
  refine Zc (v:=.slice (some ⟨b14,0,none⟩) 0 0) rfl (dn (ZAc (sr (Zc (v:=.int .i64 0) rfl (dn (ZAl ?_))))))
  refine Xq (S:=(List (List Int))×Int) _ (fun s13 e_ w_=>∃ (v11:Value),∃ (f12:List Nat),Z1 e_ [(1,.pointer (some ⟨b5,0,none⟩)),(4,v11),(5,.int .i64 s13.2)]∧Ctx Nox w0 w_ [ZAo (ZGu 22 (ZGu 2 ((EI .i64).tr))) s13.1 [v11] f12,blk b5 32 [u0_0,u0_1]] [Zz9 ZAq.sl a0.images [u0_1] fp0,Zz9 ((EI .i64).ty.sl) a0.degrees [u0_0] fp0,Zz9 TAlg a0 [u0_0,u0_1] fp0]) ?_ (s0:=([],0)) ?_ h
  ·clear hC h
   rintro s13 e_ w12 nx11 K10 ⟨v11,f12,hS_,hC⟩ h hK11
   rw [ue hS_]
   refine ZAc (sr (Za (v:=.int .i64 s13.2) rfl (Zx 1 ZAs rfl sc30.size rfl rfl (Z0 hC 1 (u0_1) rfl sc30 rfl rfl ?_))))
   obtain ⟨Ad11,c10,hv13⟩:=Zw (hC.getP 0 rfl)
   refine Zv ZAy (tr rfl hv13) (Zq rfl rfl (dn ?_))
   refine Zr rfl (fun hb11=>?_) (fun hb11=>?_)
   ·replace h:=ift h (ct hb11)
    refine ZAg (Zd (ZAc (ZAl (sr (Zx 1 ZAs rfl sc30.size rfl rfl (Z0 hC 1 (u0_1) rfl sc30 rfl rfl (Za (v:=.int .i64 s13.2) rfl ?_)))))))
    obtain ⟨⟨h10,h11⟩,h⟩:=h
    obtain ⟨Ad12,c11,hv10⟩:=Z6 (hC.getP 0 rfl) s13.2.toNat (show s13.2.toNat < a0.images.length by omega)
    refine Yv (len:=a0.images.length) ZAy ag44.size (tr rfl hv10) rfl h10 h11 ?_
    obtain ⟨cs_,hl10,hc10,hr10⟩:=Ja (hC.getP 0 rfl) hv10 s13.2.toNat (show s13.2.toNat < a0.images.length by omega)
    obtain ⟨u11,rfl⟩:=ZA6.1 hl10
    clear hl10
    rw [X3 _ _ (show s13.2.toNat < a0.images.length by omega)] at hr10
    have hp10:=hr10
    replace hC:=hC.derive 0 rfl (Zz9 ZAb.ty.sl ((a0.images.getD s13.2.toNat Zsn).terms) [u11] fp0) (fun _=>(Yx hp10)) (fun _ hb_=>hb_)
    refine Jh [u11] hc10 ag44 rfl rfl ?_
    refine Zk [.agg #[u11],.int .i64 2] _ Try.func16 rfl rfl rfl (Zre (a0.images.getD s13.2.toNat Zsn) 2 h _ (Ys (hC.getP 0 rfl))) (fun ret10 w13 hR10=>?_)
    obtain ⟨r10,u10,f15,rfl,h,hr11,hf10,hB11⟩:=hR10
    refine⟨_,rfl,?_⟩
    replace hC:=hC.push hB11 (ZAo (Ya 49) r10 [u10] f15) hr11 hf10
    obtain ⟨ho10,hf11⟩:=X0 (hC.getM 0 rfl)
    subst hf11
    replace hC:=hC.recast (c:=own 49 9 u10 r10.terms.length (ZAb.encs r10.terms)) (fun _ h_=>h_) (fun _=>ho10)
    refine Ye hC [.slice none 0 0] z44 rfl fun b11 w14 hB_ hC=>Zy (v:=.agg #[u10]) hC 0 [u10] [u10] rfl ag44.size rfl rfl rfl rfl (Y4 (Xe (hC.getM 1 rfl)) rfl) (ZAe rfl) rfl fun w15 hC=>dn (sr (Zc (v:=.int .i64 0) rfl (dn (ZAl ?_))))
    refine Xq (S:=(List (List Int))×Int) _ (fun s10 e_ w_=>∃ (v12:Value),∃ (f11:List Nat),Z1 e_ [(1,.pointer (some ⟨b5,0,none⟩)),(4,v12),(5,.int .i64 s13.2),(6,.pointer (some ⟨b11,0,none⟩)),(7,.int .i64 s10.2)]∧Ctx Nox w0 w_ [blk b11 44 [u10],own 49 9 u10 r10.terms.length (ZAb.encs r10.terms),ZAo (ZGu 22 (ZGu 2 ((EI .i64).tr))) s10.1 [v12] f11,blk b5 32 [u0_0,u0_1]] [Zz9 ZAb.ty.sl ((a0.images.getD s13.2.toNat Zsn).terms) [u11] fp0,Zz9 ZAq.sl a0.images [u0_1] fp0,Zz9 ((EI .i64).ty.sl) a0.degrees [u0_0] fp0,Zz9 TAlg a0 [u0_0,u0_1] fp0]) ?_ (s0:=(s13.1,0)) ?_ h
    ·clear hC h
     rintro s10 e_ w16 nx12 K11 ⟨v12,f11,hS_,hC⟩ h hK12
     rw [ue hS_]
     refine ZAc (sr (Za (v:=.int .i64 s10.2) rfl (Zx 0 ZAs rfl sc22.size rfl rfl (Z0 hC 3 (u0_0) rfl sc22 rfl rfl ?_))))
     obtain ⟨Ad13,c12,hv14⟩:=Zw (hC.getP 2 rfl)
     refine Zv ZAu (tr rfl hv14) (Zq rfl rfl (dn ?_))
     refine Zr rfl (fun hb12=>?_) (fun hb12=>?_)
     ·replace h:=ift h (ct hb12)
      refine ZAg (Zd (ZAc (ZAl (sr (Za (v:=.int .i64 s10.2) rfl (Zc (v:=.int .i64 s10.2) rfl (dn (ZAl ?_))))))))
      refine Xq (S:=(List (List Int))×Int) _ (fun s12 e_ w_=>∃ (v13:Value),∃ (f13:List Nat),Z1 e_ [(1,.pointer (some ⟨b5,0,none⟩)),(4,v13),(5,.int .i64 s13.2),(6,.pointer (some ⟨b11,0,none⟩)),(7,.int .i64 s10.2),(8,.int .i64 s12.2)]∧Ctx Nox w0 w_ [blk b11 44 [u10],own 49 9 u10 r10.terms.length (ZAb.encs r10.terms),ZAo (ZGu 22 (ZGu 2 ((EI .i64).tr))) s12.1 [v13] f13,blk b5 32 [u0_0,u0_1]] [Zz9 ZAb.ty.sl ((a0.images.getD s13.2.toNat Zsn).terms) [u11] fp0,Zz9 ZAq.sl a0.images [u0_1] fp0,Zz9 ((EI .i64).ty.sl) a0.degrees [u0_0] fp0,Zz9 TAlg a0 [u0_0,u0_1] fp0]) ?_ (s0:=(s10.1,s10.2)) ?_ h
      ·clear hC h
       rintro s12 e_ w17 nx13 K12 ⟨v13,f13,hS_,hC⟩ h hK13
       rw [ue hS_]
       refine ZAc (sr (Za (v:=.int .i64 s12.2) rfl (Zx 0 ZAs rfl sc22.size rfl rfl (Z0 hC 3 (u0_0) rfl sc22 rfl rfl ?_))))
       obtain ⟨Ad14,c13,hv15⟩:=Zw (hC.getP 2 rfl)
       refine Zv ZAu (tr rfl hv15) (Zq rfl rfl (dn ?_))
       refine Zr rfl (fun hb13=>?_) (fun hb13=>?_)
       ·replace h:=ift h (ct hb13)
        refine ZAg (Zd (ZAc (ZAl (sr (Jl [] rfl (Zg8   _) (Ye hC (Zz8 .u8 ZAi) z47 rfl fun b12 w18 hB_ hC=>Zy (v:=.agg (ZAa (Zz8 .u8 ZAi))) hC 0 (Zz8 .u8 ZAi) (Zz8 .u8 ZAi) rfl ag47.size rfl rfl rfl rfl rfl (ZAe rfl) rfl fun w19 hC=>dn (sr (Za (v:=.int .i64 s10.2) rfl ?_))))))))
        obtain ⟨⟨h12,h13⟩,h⟩:=h
        refine Y1 s10.2.toNat ZAp sc5.size rfl rfl h12 h13 (by omega) (Z0 hC 0 (.int .u8 (ZAi.get s10.2.toNat)) rfl sc5 rfl (ZAw _ _ (show s10.2.toNat < 8 by omega)) (Zp rfl rfl ?_))
        obtain ⟨⟨h14,h15⟩,h⟩:=h
        refine Y1 s10.2.toNat ZAp sc5.size rfl rfl h14 h15 (by omega) (Zy (v:=.int .u8 (ZAm.wrap ((ZAi.get s10.2.toNat)+1))) hC 0 [.int .u8 (ZAm.wrap ((ZAi.get s10.2.toNat)+1))] (Zz8 .u8 (ZAi.set s10.2.toNat (ZAm.wrap ((ZAi.get s10.2.toNat)+1)))) rfl sc5.size rfl rfl rfl rfl rfl (show s10.2.toNat < 8 by omega) (A8.enc_set _ _ _ (show s10.2.toNat < 8 by omega)) fun w20 hC=>dn (sr (Za (v:=.int .i64 s12.2) rfl ?_)))
        obtain ⟨⟨h16,h17⟩,h⟩:=h
        refine Y1 s12.2.toNat ZAp sc5.size rfl rfl h16 h17 (by omega) (Z0 hC 0 (.int .u8 ((ZAi.set s10.2.toNat (ZAm.wrap ((ZAi.get s10.2.toNat)+1))).get s12.2.toNat)) rfl sc5 rfl (ZAw _ _ (show s12.2.toNat < 8 by omega)) (Zp rfl rfl ?_))
        obtain ⟨⟨h18,h19⟩,h⟩:=h
        refine Y1 s12.2.toNat ZAp sc5.size rfl rfl h18 h19 (by omega) (Zy (v:=.int .u8 (ZAm.wrap (((ZAi.set s10.2.toNat (ZAm.wrap ((ZAi.get s10.2.toNat)+1))).get s12.2.toNat)+1))) hC 0 [.int .u8 (ZAm.wrap (((ZAi.set s10.2.toNat (ZAm.wrap ((ZAi.get s10.2.toNat)+1))).get s12.2.toNat)+1))] (Zz8 .u8 ((ZAi.set s10.2.toNat (ZAm.wrap ((ZAi.get s10.2.toNat)+1))).set s12.2.toNat (ZAm.wrap (((ZAi.set s10.2.toNat (ZAm.wrap ((ZAi.get s10.2.toNat)+1))).get s12.2.toNat)+1)))) rfl sc5.size rfl rfl rfl rfl rfl (show s12.2.toNat < 8 by omega) (A8.enc_set _ _ _ (show s12.2.toNat < 8 by omega)) fun w21 hC=>dn (sr (Zc (v:=.int .i64 0) rfl (dn (ZAl ?_)))))
        refine Xq (S:=(List (List Int))×Int) _ (fun s11 e_ w_=>∃ (v10:Value),∃ (f10:List Nat),Z1 e_ [(1,.pointer (some ⟨b5,0,none⟩)),(4,v10),(5,.int .i64 s13.2),(6,.pointer (some ⟨b11,0,none⟩)),(7,.int .i64 s10.2),(8,.int .i64 s12.2),(9,.pointer (some ⟨b12,0,none⟩)),(10,.int .i64 s11.2)]∧Ctx Nox w0 w_ [blk b12 47 (Zz8 .u8 ((ZAi.set s10.2.toNat (ZAm.wrap ((ZAi.get s10.2.toNat)+1))).set s12.2.toNat (ZAm.wrap (((ZAi.set s10.2.toNat (ZAm.wrap ((ZAi.get s10.2.toNat)+1))).get s12.2.toNat)+1)))),blk b11 44 [u10],own 49 9 u10 r10.terms.length (ZAb.encs r10.terms),ZAo (ZGu 22 (ZGu 2 ((EI .i64).tr))) s11.1 [v10] f10,blk b5 32 [u0_0,u0_1]] [Zz9 ZAb.ty.sl ((a0.images.getD s13.2.toNat Zsn).terms) [u11] fp0,Zz9 ZAq.sl a0.images [u0_1] fp0,Zz9 ((EI .i64).ty.sl) a0.degrees [u0_0] fp0,Zz9 TAlg a0 [u0_0,u0_1] fp0]) ?_ (s0:=(s12.1,0)) ?_ h
        ·clear hC h
         rintro s11 e_ w22 nx10 K13 ⟨v10,f10,hS_,hC⟩ h hK10
         rw [ue hS_]
         refine ZAc (sr (Za (v:=.int .i64 s11.2) rfl (Zx 0 ZAh rfl sc42.size rfl rfl (Z0 hC 1 (u10) rfl sc42 rfl rfl ?_))))
         obtain ⟨Ad15,c14,hv16⟩:=Zax (hC.getM 2 rfl)
         refine Zv ZAj (tr rfl hv16) (Zq rfl rfl (dn ?_))
         refine Zr rfl (fun hb14=>?_) (fun hb14=>?_)
         ·replace h:=ift h (ct hb14)
          refine ZAg (Zd (ZAc (ZAl (ZAc ?_))))
          refine Yq 7 mixed [0,1,0,7,15,31,0,127] [1,3,5,6] [0,2,4] (by kernel_rfl) (by kernel_rfl) (by kernel_rfl) (fun hM10 hM11 w23 hB_=>?_)
          replace hC:=hC.grow hB_
          refine aF 0 (.pointer (some ⟨b11,0,none⟩)) rfl rfl (hM11 0 rfl) (rfl) (fun _=>by exact Yi 0 ZAh rfl sc42.size rfl rfl) (Zb 8 1) (aL 1 (u10) rfl rfl (hM10 1 rfl) (rfl) (fun _ hB_=>by exact Yc (hC.grow hB_) 1 (u10) rfl sc42 rfl rfl) (Zb 8 3) (aF 2 (.int .i64 s11.2) rfl rfl (hM11 2 rfl) (rfl) (fun _=>by exact Zs (v:=.int .i64 s11.2) rfl) (Zb 8 7) ?_))
          obtain ⟨⟨h20,h21⟩,h⟩:=h
          obtain ⟨Ad10,c15,hv11⟩:=Zap (hC.getM 2 rfl) (Nat.lt_of_le_of_lt (Nat.zero_le _) (show s11.2.toNat < r10.terms.length by omega))
          refine aL 3 (.pointer (some ⟨Ad10,s11.2.toNat * 9,none⟩)) rfl rfl (hM10 3 rfl) (rfl) (fun _ hB_=>by exact Zio (s11.2.toNat * 9) ZAj ag49.size (by exact tr rfl hv11) rfl h20 h21 rfl) (Zb 8 15) (aF 4 (.pointer (some ⟨Ad10,s11.2.toNat * 9+0,none⟩)) rfl rfl (hM11 4 rfl) (rfl) (fun _=>by exact Yi (s11.2.toNat * 9+0) ZAr rfl ag47.size rfl rfl) (Zb 8 31) (aL 5 (.agg (ZAa (Zz8 .u8 ((r10.terms.getD s11.2.toNat Zsn).mono)))) rfl rfl (hM10 5 rfl) (rfl) (fun _ hB_=>by exact Xs (Zz8 .u8 ((r10.terms.getD s11.2.toNat Zsn).mono)) (Zgs (o:=0) (k:=8) (Zic ((hC.grow hB_).getM 2 rfl) hv11 s11.2.toNat (show s11.2.toNat < r10.terms.length by omega)) rfl) ag47 rfl rfl) (Zb 8 63) (aL 6 (.agg (ZAa (Zz8 .u8 ((ZAi.set s10.2.toNat (ZAm.wrap ((ZAi.get s10.2.toNat)+1))).set s12.2.toNat (ZAm.wrap (((ZAi.set s10.2.toNat (ZAm.wrap ((ZAi.get s10.2.toNat)+1))).get s12.2.toNat)+1)))))) rfl rfl (hM10 6 rfl) (rfl) (fun _ hB_=>by exact Y8 (hC.grow hB_) 0 (Zz8 .u8 ((ZAi.set s10.2.toNat (ZAm.wrap ((ZAi.get s10.2.toNat)+1))).set s12.2.toNat (ZAm.wrap (((ZAi.set s10.2.toNat (ZAm.wrap ((ZAi.get s10.2.toNat)+1))).get s12.2.toNat)+1)))) rfl ag47 rfl rfl rfl) (Zb 8 127) (Z7 7 (by decide) (by decide) (by kernel_rfl) (by kernel_rfl) rfl (Zq2 Zrb Zra rfl rfl ?_)))))
          refine done (Z8 (Zd ?_))
          refine Zr rfl (fun hb15=>?_) (fun hb15=>?_)
          ·replace h:=ift h (ct hb15)
           refine Zn (Za (v:=v10) rfl (Za (v:=.int .i64 s13.2) rfl (Za (v:=.int .i64 s10.2) rfl (Za (v:=.int .i64 s12.2) rfl (Zx 0 ZAh rfl sc42.size rfl rfl (Z0 hC 1 (u10) rfl sc42 rfl rfl (Za (v:=.int .i64 s11.2) rfl ?_)))))))
           obtain ⟨⟨h22,h23⟩,h⟩:=h
           obtain ⟨Ad16,c16,hv12⟩:=Zap (hC.getM 2 rfl) (Nat.lt_of_le_of_lt (Nat.zero_le _) (show s11.2.toNat < r10.terms.length by omega))
           refine Zar (s11.2.toNat * 9) ZAj ag49.size (tr rfl hv12) rfl h22 h23 rfl (Zx (s11.2.toNat * 9+8) ZAr rfl sc2.size rfl rfl (Xy (.int .i64 ((r10.terms.getD s11.2.toNat Zsn).factor)) (Zgs (o:=8) (k:=1) (Zic (hC.getM 2 rfl) hv12 s11.2.toNat (show s11.2.toNat < r10.terms.length by omega)) rfl) sc2 rfl (Jq (sz:=1) hC [(0,.int .i64 s13.2),(1,.int .i64 s10.2),(2,.int .i64 s12.2),(3,.int .i64 ((r10.terms.getD s11.2.toNat Zsn).factor))] ((EI .i64).encs [s13.2,s10.2,s12.2,(r10.terms.getD s11.2.toNat Zsn).factor]) rfl (fun _=>Zrc s13.2 s10.2 s12.2 ((r10.terms.getD s11.2.toNat Zsn).factor) _) rfl (by decide) fun b10 w24 hB_ hC=>Jq (sz:=1) hC [(0,.slice (some ⟨b10,0,none⟩) 4 4)] [.slice (some ⟨b10,0,none⟩) 4 4] rfl (fun _=>Zks (.slice (some ⟨b10,0,none⟩) 4 4) (Zg4 (hC.getM 0 rfl)) _) rfl (by decide) fun b13 w25 hB_ hC=>?_)))
           replace hC:=hC.pushM0 (Yn (ZGu 2 ((EI .i64).tr)) [] [] []) (Zda _ _) rfl
           replace hC:=hC.sM [2,0,1,3,4,5,6,7] (M':=[own 2 1 (.slice (some ⟨b10,0,none⟩) 4 4) ([s13.2,s10.2,s12.2,(r10.terms.getD s11.2.toNat Zsn).factor].length) ((EI .i64).encs [s13.2,s10.2,s12.2,(r10.terms.getD s11.2.toNat Zsn).factor]),Yn (ZGu 2 ((EI .i64).tr)) [] [] [],own 22 1 (.slice (some ⟨b13,0,none⟩) 1 1) 1 [.slice (some ⟨b10,0,none⟩) 4 4],blk b12 47 (Zz8 .u8 ((ZAi.set s10.2.toNat (ZAm.wrap ((ZAi.get s10.2.toNat)+1))).set s12.2.toNat (ZAm.wrap (((ZAi.set s10.2.toNat (ZAm.wrap ((ZAi.get s10.2.toNat)+1))).get s12.2.toNat)+1)))),blk b11 44 [u10],own 49 9 u10 r10.terms.length (ZAb.encs r10.terms),ZAo (ZGu 22 (ZGu 2 ((EI .i64).tr))) s11.1 [v10] f10,blk b5 32 [u0_0,u0_1]]) (by decide) rfl
           replace hC:=hC.gather (c:=Yn (ZGu 2 ((EI .i64).tr)) [[s13.2,s10.2,s12.2,(r10.terms.getD s11.2.toNat Zsn).factor]] [.slice (some ⟨b10,0,none⟩) 4 4] [(ZA7 (Zth (.slice (some ⟨b10,0,none⟩) 4 4)))]) (fun x_ hx_=>Zjb hx_) (fun h1_ h2_ hd_=>Zg2 (c:=[.slice (some ⟨b10,0,none⟩) 4 4]) (id (Jw h1_)) h2_ hd_)
           replace hC:=hC.sM [1,0,2,3,4,5,6] (M':=[own 22 1 (.slice (some ⟨b13,0,none⟩) 1 1) 1 [.slice (some ⟨b10,0,none⟩) 4 4],Yn (ZGu 2 ((EI .i64).tr)) [[s13.2,s10.2,s12.2,(r10.terms.getD s11.2.toNat Zsn).factor]] [.slice (some ⟨b10,0,none⟩) 4 4] [(ZA7 (Zth (.slice (some ⟨b10,0,none⟩) 4 4)))],blk b12 47 (Zz8 .u8 ((ZAi.set s10.2.toNat (ZAm.wrap ((ZAi.get s10.2.toNat)+1))).set s12.2.toNat (ZAm.wrap (((ZAi.set s10.2.toNat (ZAm.wrap ((ZAi.get s10.2.toNat)+1))).get s12.2.toNat)+1)))),blk b11 44 [u10],own 49 9 u10 r10.terms.length (ZAb.encs r10.terms),ZAo (ZGu 22 (ZGu 2 ((EI .i64).tr))) s11.1 [v10] f10,blk b5 32 [u0_0,u0_1]]) (by decide) rfl
           replace hC:=hC.gather (c:=ZAo (ZGu 22 (ZGu 2 ((EI .i64).tr))) [[s13.2,s10.2,s12.2,(r10.terms.getD s11.2.toNat Zsn).factor]] [.slice (some ⟨b13,0,none⟩) 1 1] ((ZA7 (Zth (.slice (some ⟨b13,0,none⟩) 1 1)))++([(ZA7 (Zth (.slice (some ⟨b10,0,none⟩) 4 4)))]:List (List Nat)).flatten)) (fun x_ hx_=>Zsw.1 hx_) (fun h1_ h2_ hd_=>Zbg h1_ h2_ hd_)
           replace hC:=hC.sM [4,0,1,2,3,5] (M':=[ZAo (ZGu 22 (ZGu 2 ((EI .i64).tr))) s11.1 [v10] f10,ZAo (ZGu 22 (ZGu 2 ((EI .i64).tr))) [[s13.2,s10.2,s12.2,(r10.terms.getD s11.2.toNat Zsn).factor]] [.slice (some ⟨b13,0,none⟩) 1 1] ((ZA7 (Zth (.slice (some ⟨b13,0,none⟩) 1 1)))++([(ZA7 (Zth (.slice (some ⟨b10,0,none⟩) 4 4)))]:List (List Nat)).flatten),blk b12 47 (Zz8 .u8 ((ZAi.set s10.2.toNat (ZAm.wrap ((ZAi.get s10.2.toNat)+1))).set s12.2.toNat (ZAm.wrap (((ZAi.set s10.2.toNat (ZAm.wrap ((ZAi.get s10.2.toNat)+1))).get s12.2.toNat)+1)))),blk b11 44 [u10],own 49 9 u10 r10.terms.length (ZAb.encs r10.terms),blk b5 32 [u0_0,u0_1]]) (by decide) rfl
           obtain ⟨hm10,h⟩:=h
           refine Zja hC ZNw Zkt rfl (by decide) (by decide) rfl rfl hm10 fun v14 f14 w26 hC=>Zc (v:=v14) rfl (done (Zt (Zd (Zn (Za (v:=.int .i64 s11.2) rfl (Zp rfl rfl (Zc (v:=.int .i64 (Zu2.wrap (s11.2+1))) rfl (done ?_))))))))
           replace hC:=hC.sM [1,2,3,0,4] (M':=[blk b12 47 (Zz8 .u8 ((ZAi.set s10.2.toNat (ZAm.wrap ((ZAi.get s10.2.toNat)+1))).set s12.2.toNat (ZAm.wrap (((ZAi.set s10.2.toNat (ZAm.wrap ((ZAi.get s10.2.toNat)+1))).get s12.2.toNat)+1)))),blk b11 44 [u10],own 49 9 u10 r10.terms.length (ZAb.encs r10.terms),ZAo (ZGu 22 (ZGu 2 ((EI .i64).tr))) (s11.1++[[s13.2,s10.2,s12.2,(r10.terms.getD s11.2.toNat Zsn).factor]]) [v14] f14,blk b5 32 [u0_0,u0_1]]) (by decide) rfl
           exact hK10 (s11.1++[[s13.2,s10.2,s12.2,(r10.terms.getD s11.2.toNat Zsn).factor]],Zu2.wrap (s11.2+1)) _ _ ⟨v14,f14,(sl ⟨rfl,rfl,rfl,rfl,rfl,rfl,rfl,rfl,trivial⟩),hC⟩ h
          ·replace h:=Zh h (cf hb15)
           refine ZAg (Zt (Zd (Zn (Za (v:=.int .i64 s11.2) rfl (Zp rfl rfl (Zc (v:=.int .i64 (Zu2.wrap (s11.2+1))) rfl (done ?_)))))))
           exact hK10 (s11.1,Zu2.wrap (s11.2+1)) _ _ ⟨v10,f10,(sl ⟨rfl,rfl,rfl,rfl,rfl,rfl,rfl,rfl,trivial⟩),hC⟩ h
         ·replace h:=Zh h (cf hb14)
          refine ZAt (Zl (Zl (Z4 ?_)))
          refine Zt (Zd (Zn (Za (v:=.int .i64 s12.2) rfl (Zp rfl rfl (Zc (v:=.int .i64 (Zu2.wrap (s12.2+1))) rfl (done ?_))))))
          replace hC:=hC.sM [1,2,3,4] (M':=[blk b11 44 [u10],own 49 9 u10 r10.terms.length (ZAb.encs r10.terms),ZAo (ZGu 22 (ZGu 2 ((EI .i64).tr))) s11.1 [v10] f10,blk b5 32 [u0_0,u0_1]]) (by decide) rfl
          exact hK13 (s11.1,Zu2.wrap (s12.2+1)) _ _ ⟨v10,f10,(sl ⟨rfl,rfl,rfl,rfl,rfl,rfl,trivial⟩),hC⟩ h
        ·skip
         exact⟨v13,f13,(sl ⟨rfl,rfl,rfl,rfl,rfl,rfl,rfl,rfl,trivial⟩),hC⟩
       ·replace h:=Zh h (cf hb13)
        refine ZAt (Zl (Zl (Z4 ?_)))
        refine Zt (Zd (Zn (Za (v:=.int .i64 s10.2) rfl (Zp rfl rfl (Zc (v:=.int .i64 (Zu2.wrap (s10.2+1))) rfl (done ?_))))))
        exact hK12 (s12.1,Zu2.wrap (s10.2+1)) _ _ ⟨v13,f13,(sl ⟨rfl,rfl,rfl,rfl,rfl,trivial⟩),hC⟩ h
      ·skip
       exact⟨v12,f11,(sl ⟨rfl,rfl,rfl,rfl,rfl,rfl,trivial⟩),hC⟩
     ·replace h:=Zh h (cf hb12)
      refine ZAt (Zl (Zl (Z4 ?_)))
      refine Zt (Zd (Zn (Za (v:=.int .i64 s13.2) rfl (Zp rfl rfl (Zc (v:=.int .i64 (Zu2.wrap (s13.2+1))) rfl (done ?_))))))
      replace hC:=hC.sM [2,3] (M':=[ZAo (ZGu 22 (ZGu 2 ((EI .i64).tr))) s10.1 [v12] f11,blk b5 32 [u0_0,u0_1]]) (by decide) rfl
      replace hC:=hC.sP [1,2,3] (Ps':=[Zz9 ZAq.sl a0.images [u0_1] fp0,Zz9 ((EI .i64).ty.sl) a0.degrees [u0_0] fp0,Zz9 TAlg a0 [u0_0,u0_1] fp0]) rfl
      exact hK11 (s10.1,Zu2.wrap (s13.2+1)) _ _ ⟨v12,f11,(sl ⟨rfl,rfl,rfl,trivial⟩),hC⟩ h
    ·skip
     exact⟨v11,f12,(sl ⟨rfl,rfl,rfl,rfl,rfl,trivial⟩),hC⟩
   ·replace h:=Zh h (cf hb11)
    refine ZAt (Zl (Zl (Z4 ?_)))
    refine Zd (sr (Za (v:=v11) rfl (Zc (v:=v11) rfl (Zc (v:=.int .i64 0) rfl (dn (ZAk ?_))))))
    refine Jj (fn:=Try.f5) rfl ?_ ?_ ⟨s13.1,v11,f12,0,rfl,h,(hC.getM 0 rfl),(Zfe hC 0 rfl),hC.below⟩ (.inl rfl)
    ·exact Zf rfl
    ·exact Zf rfl
  ·skip
   exact⟨.slice (some ⟨b14,0,none⟩) 0 0,((ZA7 (Zth (.slice (some ⟨b14,0,none⟩) 0 0)))++([]:List (List Nat)).flatten),(sl ⟨rfl,rfl,rfl,trivial⟩),hC⟩
def Zcw (a0:A8) (K:Int→Prop):Prop :=
 Yh (fun i10 (s10:Int) nx10=>nx10 (Zu2.wrap (s10+(a0.get i10)))) (fun (s10:Int)=>K s10) 8 0 0
theorem Zrg (a0:A8)  {K:Int→Prop} (h:Zcw a0 K) (w0:World)  :
  Calls ZAf 21 #[.agg (ZAa (Zz8 .i64 a0))] w0 fun e w'=>∃ (r0:Int),
   e=.returned (.int .i64 r0)∧K r0∧Bel w0 w':=by
 unfold Zcw at h
 refine Zz (args:=[.agg (ZAa (Zz8 .i64 a0))]) Try.func21 rfl 15 Try.ntmps21 (ZAe rfl) ?_
 have hC:=ZAv (X:=Nox) w0 [] (by simp)
 refine sr (Yg (v:=.agg (ZAa (Zz8 .i64 a0))) hC (Zz8 .i64 a0) rfl rfl fun b1 w3 hB_ hC=>Zc (v:=.int .i64 0) rfl (dn (sr (Zc (v:=.int .i64 0) rfl (dn (ZAc (sr (Yl hC 0 (Zz8 .i64 a0) rfl ag55 rfl rfl rfl (Za (v:=.int .i64 0) rfl (dn ?_))))))))))
 refine ZAl ?_
 refine Yp (S:=Int) _ _ (fun i10 s10 e_ w_=>Z1 e_ [(3,.int .i64 s10),(6,.agg (ZAa (Zz8 .i64 a0))),(7,.int .i64 (i10:Int))]∧Ctx Nox w0 w_ [] []) 8 ?_ ?_ (s0:=0) ?_ h
 ·clear hC h
  rintro i10 s10 e_ w10 nx10 K10 hi10 ⟨hS_,hC⟩ h hK10
  rw [ue hS_]
  refine sr (Zq rfl rfl (dn (ZAc (Yf rfl (decide_eq_true (by omega)) (ZAg (Zd (ZAc (ZAl (sr (Zc2 (.int .i64 (a0.get i10)) Try.underlying55 rfl rfl (ZAx _) (by omega) sc3 (ZAw _ _ hi10) (Zc (v:=.int .i64 (a0.get i10)) rfl ?_)))))))))))
  refine dn (Zn (Za (v:=.int .i64 s10) rfl (Za (v:=.int .i64 (a0.get i10)) rfl (Zp rfl rfl (Zc (v:=.int .i64 (Zu2.wrap (s10+(a0.get i10)))) rfl (done (Zt (Zd (Zn (Zp rfl rfl (Za (v:=.int .i64 (Zu2.wrap ((i10:Int)+1))) rfl ?_)))))))))))
  refine done ?_
  exact hK10 (Zu2.wrap (s10+(a0.get i10))) _ _ ⟨(sl ⟨rfl,rfl,(tr rfl (congrArg _ (Yb hi10 (by decide)))),trivial⟩),hC⟩ h
 ·clear hC h
  rintro s10 e_ w11 K10 ⟨hS_,hC⟩ h
  rw [ue hS_]
  refine sr (Zq rfl rfl (dn (ZAc (Yd rfl (decide_eq_false (by omega)) ?_))))
  refine ZAt (Zl (Zl (Z4 ?_)))
  refine Zd (sr (Za (v:=.int .i64 s10) rfl (Zc (v:=.int .i64 s10) rfl (dn (ZAk ?_)))))
  refine Zg (fn:=Try.f21) rfl ?_ ⟨s10,rfl,h,hC.below⟩ (.inl rfl)
  exact Zf rfl
 ·skip
  replace hC:=hC.sM [] (M':=[]) (by decide) rfl
  exact⟨(sl ⟨rfl,rfl,rfl,trivial⟩),hC⟩
def Zbp (a0:Alg) (K:List (List Int)→Int→Prop):Prop :=
 Zed a0 [] (fun r10=>(if r10≠0 then K [] r10 else Yh (fun i10 (s13:(List (List Int))) nx11=>Yh (fun i11 (s10:(List (List Int))) nx10=>Zak ((((a0.images.getD i10 Zsn).terms).getD i11 Zsn).mono) (fun r11=>Zcw r11 (fun r12=>(if r12≠2 then nx10 s10 else Yh (fun i12 (s11:(List Int)) nx12=>Xa (fun (s12:(List Int)×Int) nx13=>(if s12.2 < ((((a0.images.getD i10 Zsn).terms).getD i11 Zsn).mono).get i12 then(Xf (s12.1.length+1) 8∧nx13 (s12.1++[(i12:Int)],ZAm.wrap (s12.2+1))) else nx12 s12.1)) (s11,0)) (fun (s11:(List Int))=>(Xf (s11.length+1) 8∧(Xf (s10.length+1) 24∧nx10 (s10++[s11++[(((a0.images.getD i10 Zsn).terms).getD i11 Zsn).factor]])))) 8 0 [(i10:Int)])))) (fun (s10:(List (List Int)))=>nx11 s10) (((a0.images.getD i10 Zsn).terms).length) 0 s13) (fun (s13:(List (List Int)))=>Zhq Ym s13 (fun xs10=>K xs10 0)) a0.images.length 0 []))
theorem Zku (a0 : Alg) {u0_0 : Value} {u0_1 : Value} {fp0 : List Nat} {K : List (List Int) → Int → Prop} (h : Zbp a0 K) (w0 : World) (q0 : TAlg.rep a0 [u0_0, u0_1] fp0 w0) :
  Calls ZAf 7 #[.agg #[u0_0,u0_1]] w0 fun e w'=>∃ (r0:List (List Int)) (z0_0:Value) (fz0:List Nat) (r1:Int),
   e=.returned (.tuple #[z0_0,.int .i64 r1])∧K r0 r1∧(ZAo (ZGu 22 (ZGu 2 ((EI .i64).tr))) r0 [z0_0] fz0).holds w'∧(∀ b,b∈fz0→w0.heap.size≤b)∧Bel w0 w':=by
 unfold Zbp at h
 refine Zz (args:=[.agg #[u0_0,u0_1]]) Try.func7 rfl 68 Try.ntmps7 (ZAe rfl) ?_
 have hC:=ZAv (X:=Nox) w0 [Zz9 TAlg a0 [u0_0,u0_1] fp0] (by simp only [Zsj,Zur,or_false,forall_eq_or_imp,forall_eq]; exact q0)
 have hp2:=(hC.getP 0 rfl)
 replace hC:=hC.derive 0 rfl (Zz9 ((EI .i64).ty.sl) a0.degrees [u0_0] fp0) (fun _=>(Y3 hp2).1) (fun _ hb_=>hb_)
 replace hC:=hC.derive 1 rfl (Zz9 ZAq.sl a0.images [u0_1] fp0) (fun _=>(Y3 hp2).2) (fun _ hb_=>hb_)
 refine sr (Yg (v:=.agg #[u0_0,u0_1]) hC [u0_0,u0_1] rfl rfl fun b5 w7 hB_ hC=>Zc (v:=.slice none 0 0) rfl (Zc (v:=.int .i64 0) rfl (dn (ZAc (sr ?_)))))
 refine Zk [.pointer (some ⟨b5,0,none⟩),.slice none 0 0] _ Try.func19 rfl rfl rfl (Zpg a0 [] h _ (Jb (hC.getP 1 rfl) (hC.getP 0 rfl)) (hC.getM 0 rfl) (Zid _ _)) (fun ret8 w10 hR9=>?_)
 obtain ⟨r10,rfl,h,hB10⟩:=hR9
 refine⟨_,rfl,?_⟩
 replace hC:=hC.grow hB10
 refine Zc (v:=.int .i64 r10) rfl (dn (sr (Za (v:=.int .i64 r10) rfl (Y0 rfl rfl (dn ?_)))))
 refine Zr rfl (fun hb10=>?_) (fun hb10=>?_)
 ·replace h:=ift h (ct hb10)
  refine sr (Za (v:=.int .i64 r10) rfl (Zc (v:=.slice none 0 0) rfl (Zc (v:=.int .i64 r10) rfl (dn ?_))))
  refine ZAk (Ze ?_)
  refine Jj (fn:=Try.f7) rfl ?_ ?_ ⟨[],.slice none 0 0,[],r10,rfl,h,(Zfg _ _ _),(fun b hb=>absurd hb (by simp)),hC.below⟩ (.inl rfl)
  ·exact Zf rfl
  ·exact Zf rfl
 ·replace h:=Zh h (cf hb10)
  refine ZAg (Zd (sr (Jq (sz:=1) hC [] [] rfl (fun _=>Zkr _) rfl (by decide) fun b11 w11 hB_ hC=>?_)))
  replace hC:=hC.pushM0 (Yn (ZGu 2 ((EI .i64).tr)) ([]:List (List Int)) [] []) (Zda _ _) rfl
  replace hC:=hC.gather (c:=ZAo (ZGu 22 (ZGu 2 ((EI .i64).tr))) [] [.slice (some ⟨b11,0,none⟩) 0 0] ((ZA7 (Zth (.slice (some ⟨b11,0,none⟩) 0 0)))++([]:List (List Nat)).flatten)) (fun x_ hx_=>(Zsw.1 hx_).symm) (fun h1_ h2_ hd_=>Zbg h2_ h1_ (fun b_ hb_ hb2_=>hd_ b_ hb2_ hb_))
  refine Zc (v:=.slice (some ⟨b11,0,none⟩) 0 0) rfl (dn (ZAc (sr (Zx 1 ZAs rfl sc30.size rfl rfl (Z0 hC 1 (u0_1) rfl sc30 rfl rfl ?_)))))
  obtain ⟨Ad10,c10,hv12⟩:=Zw (hC.getP 0 rfl)
  refine Zv ZAy (tr rfl hv12) (Za (v:=.int .i64 0) rfl (dn (ZAl ?_)))
  have hN11:a0.images.length≤9223372036854775807:=Y9 (hC.getP 0 rfl)
  refine Yp (S:=(List (List Int))) _ _ (fun i10 s13 e_ w_=>∃ (v12:Value),∃ (f11:List Nat),Z1 e_ [(5,v12),(19,u0_1),(20,.int .i64 (a0.images.length:Int)),(21,.int .i64 (i10:Int))]∧Ctx Nox w0 w_ [ZAo (ZGu 22 (ZGu 2 ((EI .i64).tr))) s13 [v12] f11] [Zz9 ZAq.sl a0.images [u0_1] fp0,Zz9 ((EI .i64).ty.sl) a0.degrees [u0_0] fp0,Zz9 TAlg a0 [u0_0,u0_1] fp0]) a0.images.length ?_ ?_ (s0:=[]) ?_ h
  ·clear hC h
   rintro i10 s13 e_ w12 nx11 K10 hi10 ⟨v12,f11,hS_,hC⟩ h hK11
   rw [ue hS_]
   refine sr (Zq rfl rfl (dn (ZAc (Yf rfl (decide_eq_true (by omega)) (ZAg (Zd (ZAc (ZAl (sr (Za (v:=.int .i64 (i10:Int)) rfl ?_))))))))))
   obtain ⟨Ad11,c11,hv10⟩:=Z6 (hC.getP 0 rfl) i10 hi10
   refine Yv (len:=a0.images.length) ZAy ag44.size (tr rfl hv10) rfl (ZAx _) (ZBk.2 hi10) ?_
   obtain ⟨cs_,hl10,hc10,hr10⟩:=Ja (hC.getP 0 rfl) hv10 i10 hi10
   obtain ⟨u10,rfl⟩:=ZA6.1 hl10
   clear hl10
   rw [X3 _ _ hi10] at hr10
   have hp10:=hr10
   replace hC:=hC.derive 0 rfl (Zz9 ZAb.ty.sl ((a0.images.getD i10 Zsn).terms) [u10] fp0) (fun _=>(Yx hp10)) (fun _ hb_=>hb_)
   refine Jh [u10] hc10 ag44 rfl rfl (Ye hC [.slice none 0 0] z44 rfl fun b15 w13 hB_ hC=>Zc (v:=.int .i64 (i10:Int)) rfl (Zy (v:=.agg #[u10]) hC 0 [u10] [u10] rfl ag44.size rfl rfl rfl rfl (Y4 (Zb5 (hC.getP 0 rfl)) rfl) (ZAe rfl) rfl fun w14 hC=>dn (sr (Zx 0 ZAh rfl sc42.size rfl rfl (Z0 hC 0 (u10) rfl sc42 rfl rfl ?_)))))
   obtain ⟨Ad12,c12,hv13⟩:=Zw (hC.getP 0 rfl)
   refine Zv ZAj (tr rfl hv13) (Za (v:=.int .i64 0) rfl (dn (ZAl ?_)))
   have hN10:((a0.images.getD i10 Zsn).terms).length≤9223372036854775807:=Y9 (hC.getP 0 rfl)
   refine Yp (S:=(List (List Int))) _ _ (fun i11 s10 e_ w_=>∃ (v10:Value),∃ (f10:List Nat),Z1 e_ [(5,v10),(6,.int .i64 (i10:Int)),(19,u0_1),(20,.int .i64 (a0.images.length:Int)),(21,.int .i64 (i10:Int)),(27,u10),(28,.int .i64 (((a0.images.getD i10 Zsn).terms).length:Int)),(29,.int .i64 (i11:Int))]∧Ctx Nox w0 w_ [ZAo (ZGu 22 (ZGu 2 ((EI .i64).tr))) s10 [v10] f10] [Zz9 ZAb.ty.sl ((a0.images.getD i10 Zsn).terms) [u10] fp0,Zz9 ZAq.sl a0.images [u0_1] fp0,Zz9 ((EI .i64).ty.sl) a0.degrees [u0_0] fp0,Zz9 TAlg a0 [u0_0,u0_1] fp0]) (((a0.images.getD i10 Zsn).terms).length) ?_ ?_ (s0:=s13) ?_ h
   ·clear hC h
    rintro i11 s10 e_ w15 nx10 K11 hi11 ⟨v10,f10,hS_,hC⟩ h hK10
    rw [ue hS_]
    refine sr (Zq rfl rfl (dn (ZAc (Yf rfl (decide_eq_true (by omega)) (ZAg (Zd (ZAc (ZAl (sr ?_)))))))))
    obtain ⟨Ad13,c13,hv11⟩:=Z6 (hC.getP 0 rfl) i11 hi11
    refine Yv (len:=((a0.images.getD i10 Zsn).terms).length) ZAj ag49.size (tr rfl hv11) rfl (ZAx _) (ZBk.2 hi11) (Jh (ZAn (((a0.images.getD i10 Zsn).terms).getD i11 Zsn)) (Yj (hC.getP 0 rfl) hv11 i11 hi11) ag49 rfl rfl (Ye hC (ZAn (⟨ZAi,0⟩:Term)) z49 rfl fun b10 w16 hB_ hC=>Zy (v:=.agg (ZAa (ZAn (((a0.images.getD i10 Zsn).terms).getD i11 Zsn)))) hC 0 (ZAn (((a0.images.getD i10 Zsn).terms).getD i11 Zsn)) (ZAn (((a0.images.getD i10 Zsn).terms).getD i11 Zsn)) rfl ag49.size rfl rfl rfl rfl rfl (ZAe rfl) rfl fun w17 hC=>dn (ZAc (sr (Zx 0 ZAr rfl ag47.size rfl rfl (Yl hC 0 (Zz8 .u8 ((((a0.images.getD i10 Zsn).terms).getD i11 Zsn).mono)) rfl ag47 rfl rfl rfl ?_))))))
    refine Zk [.agg (ZAa (Zz8 .u8 ((((a0.images.getD i10 Zsn).terms).getD i11 Zsn).mono)))] _ Try.func20 rfl rfl rfl (Zdj ((((a0.images.getD i10 Zsn).terms).getD i11 Zsn).mono) h _) (fun ret10 w18 hR10=>?_)
    obtain ⟨r11,rfl,h,hB11⟩:=hR10
    refine⟨_,rfl,?_⟩
    replace hC:=hC.grow hB11
    refine Zk [.agg (ZAa (Zz8 .i64 r11))] _ Try.func21 rfl rfl rfl (Zrg r11 h _) (fun ret11 w19 hR11=>?_)
    obtain ⟨r12,rfl,h,hB12⟩:=hR11
    refine⟨_,rfl,?_⟩
    replace hC:=hC.grow hB12
    refine Y0 rfl rfl (dn ?_)
    refine Zr rfl (fun hb11=>?_) (fun hb11=>?_)
    ·replace h:=ift h (ct hb11)
     refine ZAt (Zl (Z4 ?_))
     refine Zd (Zn (Zp rfl rfl (Za (v:=.int .i64 (Zu2.wrap ((i11:Int)+1))) rfl (done ?_))))
     replace hC:=hC.sM [1] (M':=[ZAo (ZGu 22 (ZGu 2 ((EI .i64).tr))) s10 [v10] f10]) (by decide) rfl
     exact hK10 s10 _ _ ⟨v10,f10,(sl ⟨rfl,rfl,rfl,rfl,rfl,rfl,rfl,(tr rfl (congrArg _ (Yb hi11 hN10))),trivial⟩),hC⟩ h
    ·replace h:=Zh h (cf hb11)
     refine ZAg (Zd (sr (Za (v:=.int .i64 (i10:Int)) rfl (Jq (sz:=1) hC [(0,.int .i64 (i10:Int))] ((EI .i64).encs [(i10:Int)]) rfl (fun _=>Zhs (i10:Int) _) rfl (by decide) fun b14 w20 hB_ hC=>Zc (v:=.slice (some ⟨b14,0,none⟩) 1 1) rfl (dn (ZAc (sr (Zx 0 ZAr rfl ag47.size rfl rfl (Yl hC 1 (Zz8 .u8 ((((a0.images.getD i10 Zsn).terms).getD i11 Zsn).mono)) rfl ag47 rfl rfl rfl (Za (v:=.int .i64 0) rfl ?_))))))))))
     refine dn (ZAl ?_)
     refine Yp (S:=(List Int)) _ _ (fun i12 s11 e_ w_=>∃ (v13:Value),Z1 e_ [(5,v10),(6,.int .i64 (i10:Int)),(9,.pointer (some ⟨b10,0,none⟩)),(10,v13),(19,u0_1),(20,.int .i64 (a0.images.length:Int)),(21,.int .i64 (i10:Int)),(27,u10),(28,.int .i64 (((a0.images.getD i10 Zsn).terms).length:Int)),(29,.int .i64 (i11:Int)),(41,.agg (ZAa (Zz8 .u8 ((((a0.images.getD i10 Zsn).terms).getD i11 Zsn).mono)))),(42,.int .i64 (i12:Int))]∧Ctx Nox w0 w_ [own 2 1 v13 s11.length ((EI .i64).encs s11),blk b10 49 (ZAn (((a0.images.getD i10 Zsn).terms).getD i11 Zsn)),ZAo (ZGu 22 (ZGu 2 ((EI .i64).tr))) s10 [v10] f10] [Zz9 ZAb.ty.sl ((a0.images.getD i10 Zsn).terms) [u10] fp0,Zz9 ZAq.sl a0.images [u0_1] fp0,Zz9 ((EI .i64).ty.sl) a0.degrees [u0_0] fp0,Zz9 TAlg a0 [u0_0,u0_1] fp0]) 8 ?_ ?_ (s0:=[(i10:Int)]) ?_ h
     ·clear hC h
      rintro i12 s11 e_ w21 nx12 K12 hi12 ⟨v13,hS_,hC⟩ h hK12
      rw [ue hS_]
      refine sr (Zq rfl rfl (dn (ZAc (Yf rfl (decide_eq_true (by omega)) (ZAg (Zd (ZAc (ZAl (sr (Za (v:=.int .i64 (i12:Int)) rfl (Zc2 (.int .u8 (((((a0.images.getD i10 Zsn).terms).getD i11 Zsn).mono).get i12)) ZAp rfl rfl (ZAx _) (by omega) sc5 (ZAw _ _ hi12) ?_)))))))))))
      refine Zc (v:=.int .i64 (i12:Int)) rfl (Zc (v:=.int .u8 (((((a0.images.getD i10 Zsn).terms).getD i11 Zsn).mono).get i12)) rfl (dn (sr (Za (v:=.int .u8 (((((a0.images.getD i10 Zsn).terms).getD i11 Zsn).mono).get i12)) rfl (Za (v:=.int .u8 0) rfl (dn (ZAl ?_)))))))
      refine Xq (S:=(List Int)×Int) _ (fun s12 e_ w_=>∃ (v14:Value),Z1 e_ [(5,v10),(6,.int .i64 (i10:Int)),(9,.pointer (some ⟨b10,0,none⟩)),(10,v14),(11,.int .i64 (i12:Int)),(19,u0_1),(20,.int .i64 (a0.images.length:Int)),(21,.int .i64 (i10:Int)),(27,u10),(28,.int .i64 (((a0.images.getD i10 Zsn).terms).length:Int)),(29,.int .i64 (i11:Int)),(41,.agg (ZAa (Zz8 .u8 ((((a0.images.getD i10 Zsn).terms).getD i11 Zsn).mono)))),(42,.int .i64 (i12:Int)),(46,.int .u8 (((((a0.images.getD i10 Zsn).terms).getD i11 Zsn).mono).get i12)),(47,.int .u8 s12.2)]∧Ctx Nox w0 w_ [own 2 1 v14 s12.1.length ((EI .i64).encs s12.1),blk b10 49 (ZAn (((a0.images.getD i10 Zsn).terms).getD i11 Zsn)),ZAo (ZGu 22 (ZGu 2 ((EI .i64).tr))) s10 [v10] f10] [Zz9 ZAb.ty.sl ((a0.images.getD i10 Zsn).terms) [u10] fp0,Zz9 ZAq.sl a0.images [u0_1] fp0,Zz9 ((EI .i64).ty.sl) a0.degrees [u0_0] fp0,Zz9 TAlg a0 [u0_0,u0_1] fp0]) ?_ (s0:=(s11,0)) ?_ h
      ·clear hC h
       rintro s12 e_ w22 nx13 K13 ⟨v14,hS_,hC⟩ h hK13
       rw [ue hS_]
       refine sr (Zq rfl rfl (dn (ZAc ?_)))
       refine Zr rfl (fun hb12=>?_) (fun hb12=>?_)
       ·replace h:=ift h (ct hb12)
        refine ZAg (Zd (ZAc (ZAl (Zn (Za (v:=v14) rfl (Za (v:=.int .i64 (i12:Int)) rfl (Jq (sz:=1) hC [(0,.int .i64 (i12:Int))] ((EI .i64).encs [(i12:Int)]) rfl (fun _=>Zhs (i12:Int) _) rfl (by decide) fun b16 w23 hB_ hC=>?_)))))))
        obtain ⟨hm10,h⟩:=h
        refine Zay hC 1 ZAu el2 rfl (by decide) (by decide) rfl (J7 (hC.getM 0 rfl)) (fun q hq=>ZBc (E:=(EI .i64)) _ q hq) rfl rfl hm10 fun v15 w24 hC=>?_
        replace hC:=Js hC 1 ((s12.1++[(i12:Int)]).length) ((EI .i64).encs (s12.1++[(i12:Int)])) rfl (by simp) (by first | (simp [ZA1]; done) | simp [ZA1,Enc.encs])
        refine Zc (v:=v15) rfl (done (Zt (Zd (Zn (Zp rfl rfl (Za (v:=.int .u8 (ZAm.wrap (s12.2+1))) rfl (done ?_)))))))
        replace hC:=hC.sM [1,2,3] (M':=[own 2 1 v15 ((s12.1++[(i12:Int)]).length) ((EI .i64).encs (s12.1++[(i12:Int)])),blk b10 49 (ZAn (((a0.images.getD i10 Zsn).terms).getD i11 Zsn)),ZAo (ZGu 22 (ZGu 2 ((EI .i64).tr))) s10 [v10] f10]) (by decide) rfl
        exact hK13 (s12.1++[(i12:Int)],ZAm.wrap (s12.2+1)) _ _ ⟨v15,(sl ⟨rfl,rfl,rfl,rfl,rfl,rfl,rfl,rfl,rfl,rfl,rfl,rfl,rfl,rfl,rfl,trivial⟩),hC⟩ h
       ·replace h:=Zh h (cf hb12)
        refine ZAt (Zl (Zl (Z4 ?_)))
        refine Zt (Zd (Zn (Zp rfl rfl (Za (v:=.int .i64 (Zu2.wrap ((i12:Int)+1))) rfl (done ?_)))))
        exact hK12 s12.1 _ _ ⟨v14,(sl ⟨rfl,rfl,rfl,rfl,rfl,rfl,rfl,rfl,rfl,rfl,rfl,(tr rfl (congrArg _ (Yb hi12 (by decide)))),trivial⟩),hC⟩ h
      ·skip
       exact⟨v13,(sl ⟨rfl,rfl,rfl,rfl,rfl,rfl,rfl,rfl,rfl,rfl,rfl,rfl,rfl,rfl,rfl,trivial⟩),hC⟩
     ·clear hC h
      rintro s11 e_ w25 K12 ⟨v13,hS_,hC⟩ h
      rw [ue hS_]
      refine sr (Zq rfl rfl (dn (ZAc (Yd rfl (decide_eq_false (by omega)) ?_))))
      refine ZAt (Zl (Zl (Z4 ?_)))
      refine Zd (Zn (Za (v:=v10) rfl (Za (v:=v13) rfl (Zx 8 ZAr rfl sc2.size rfl rfl (Z0 hC 1 (.int .i64 ((((a0.images.getD i10 Zsn).terms).getD i11 Zsn).factor)) rfl sc2 rfl rfl (Jq (sz:=1) hC [(0,.int .i64 ((((a0.images.getD i10 Zsn).terms).getD i11 Zsn).factor))] ((EI .i64).encs [(((a0.images.getD i10 Zsn).terms).getD i11 Zsn).factor]) rfl (fun _=>Zhs ((((a0.images.getD i10 Zsn).terms).getD i11 Zsn).factor) _) rfl (by decide) fun b13 w26 hB_ hC=>?_))))))
      obtain ⟨hm11,h⟩:=h
      refine Zay hC 1 ZAu el2 rfl (by decide) (by decide) rfl (J7 (hC.getM 0 rfl)) (fun q hq=>ZBc (E:=(EI .i64)) _ q hq) rfl rfl hm11 fun v11 w27 hC=>?_
      replace hC:=Js hC 1 ((s11++[(((a0.images.getD i10 Zsn).terms).getD i11 Zsn).factor]).length) ((EI .i64).encs (s11++[(((a0.images.getD i10 Zsn).terms).getD i11 Zsn).factor])) rfl (by simp) (by first | (simp [ZA1]; done) | simp [ZA1,Enc.encs])
      refine Jq (sz:=1) hC [(0,v11)] [v11] rfl (fun _=>Zks v11 (Zg4 (hC.getM 1 rfl)) _) rfl (by decide) fun b12 w28 hB_ hC=>?_
      replace hC:=hC.pushM0 (Yn (ZGu 2 ((EI .i64).tr)) [] [] []) (Zda _ _) rfl
      replace hC:=hC.sM [3,0,1,2,4,5] (M':=[own 2 1 v11 ((s11++[(((a0.images.getD i10 Zsn).terms).getD i11 Zsn).factor]).length) ((EI .i64).encs (s11++[(((a0.images.getD i10 Zsn).terms).getD i11 Zsn).factor])),Yn (ZGu 2 ((EI .i64).tr)) [] [] [],own 22 1 (.slice (some ⟨b12,0,none⟩) 1 1) 1 [v11],own 2 1 (.slice (some ⟨b13,0,none⟩) 1 1) ([(((a0.images.getD i10 Zsn).terms).getD i11 Zsn).factor].length) ((EI .i64).encs [(((a0.images.getD i10 Zsn).terms).getD i11 Zsn).factor]),blk b10 49 (ZAn (((a0.images.getD i10 Zsn).terms).getD i11 Zsn)),ZAo (ZGu 22 (ZGu 2 ((EI .i64).tr))) s10 [v10] f10]) (by decide) rfl
      replace hC:=hC.gather (c:=Yn (ZGu 2 ((EI .i64).tr)) [s11++[(((a0.images.getD i10 Zsn).terms).getD i11 Zsn).factor]] [v11] [(ZA7 (Zth v11))]) (fun x_ hx_=>Zjb hx_) (fun h1_ h2_ hd_=>Zg2 (c:=[v11]) (id (Jw h1_)) h2_ hd_)
      replace hC:=hC.sM [1,0,2,3,4] (M':=[own 22 1 (.slice (some ⟨b12,0,none⟩) 1 1) 1 [v11],Yn (ZGu 2 ((EI .i64).tr)) [s11++[(((a0.images.getD i10 Zsn).terms).getD i11 Zsn).factor]] [v11] [(ZA7 (Zth v11))],own 2 1 (.slice (some ⟨b13,0,none⟩) 1 1) ([(((a0.images.getD i10 Zsn).terms).getD i11 Zsn).factor].length) ((EI .i64).encs [(((a0.images.getD i10 Zsn).terms).getD i11 Zsn).factor]),blk b10 49 (ZAn (((a0.images.getD i10 Zsn).terms).getD i11 Zsn)),ZAo (ZGu 22 (ZGu 2 ((EI .i64).tr))) s10 [v10] f10]) (by decide) rfl
      replace hC:=hC.gather (c:=ZAo (ZGu 22 (ZGu 2 ((EI .i64).tr))) [s11++[(((a0.images.getD i10 Zsn).terms).getD i11 Zsn).factor]] [.slice (some ⟨b12,0,none⟩) 1 1] ((ZA7 (Zth (.slice (some ⟨b12,0,none⟩) 1 1)))++([(ZA7 (Zth v11))]:List (List Nat)).flatten)) (fun x_ hx_=>Zsw.1 hx_) (fun h1_ h2_ hd_=>Zbg h1_ h2_ hd_)
      replace hC:=hC.sM [3,0,1,2] (M':=[ZAo (ZGu 22 (ZGu 2 ((EI .i64).tr))) s10 [v10] f10,ZAo (ZGu 22 (ZGu 2 ((EI .i64).tr))) [s11++[(((a0.images.getD i10 Zsn).terms).getD i11 Zsn).factor]] [.slice (some ⟨b12,0,none⟩) 1 1] ((ZA7 (Zth (.slice (some ⟨b12,0,none⟩) 1 1)))++([(ZA7 (Zth v11))]:List (List Nat)).flatten),own 2 1 (.slice (some ⟨b13,0,none⟩) 1 1) ([(((a0.images.getD i10 Zsn).terms).getD i11 Zsn).factor].length) ((EI .i64).encs [(((a0.images.getD i10 Zsn).terms).getD i11 Zsn).factor]),blk b10 49 (ZAn (((a0.images.getD i10 Zsn).terms).getD i11 Zsn))]) (by decide) rfl
      obtain ⟨hm12,h⟩:=h
      refine Zja hC ZNw Zkt rfl (by decide) (by decide) rfl rfl hm12 fun v16 f12 w29 hC=>Zc (v:=v16) rfl (done (Zt (Zd (Zn (Zp rfl rfl (Za (v:=.int .i64 (Zu2.wrap ((i11:Int)+1))) rfl (done ?_)))))))
      replace hC:=hC.sM [0] (M':=[ZAo (ZGu 22 (ZGu 2 ((EI .i64).tr))) (s10++[s11++[(((a0.images.getD i10 Zsn).terms).getD i11 Zsn).factor]]) [v16] f12]) (by decide) rfl
      exact hK10 (s10++[s11++[(((a0.images.getD i10 Zsn).terms).getD i11 Zsn).factor]]) _ _ ⟨v16,f12,(sl ⟨rfl,rfl,rfl,rfl,rfl,rfl,rfl,(tr rfl (congrArg _ (Yb hi11 hN10))),trivial⟩),hC⟩ h
     ·skip
      exact⟨.slice (some ⟨b14,0,none⟩) 1 1,(sl ⟨rfl,rfl,rfl,rfl,rfl,rfl,rfl,rfl,rfl,rfl,rfl,rfl,trivial⟩),hC⟩
   ·clear hC h
    rintro s10 e_ w30 K11 ⟨v10,f10,hS_,hC⟩ h
    rw [ue hS_]
    refine sr (Zq rfl rfl (dn (ZAc (Yd rfl (decide_eq_false (by omega)) ?_))))
    refine ZAt (Zl (Zl (Z4 ?_)))
    refine Zt (Zd (Zn (Zp rfl rfl (Za (v:=.int .i64 (Zu2.wrap ((i10:Int)+1))) rfl (done ?_)))))
    replace hC:=hC.sP [1,2,3] (Ps':=[Zz9 ZAq.sl a0.images [u0_1] fp0,Zz9 ((EI .i64).ty.sl) a0.degrees [u0_0] fp0,Zz9 TAlg a0 [u0_0,u0_1] fp0]) rfl
    exact hK11 s10 _ _ ⟨v10,f10,(sl ⟨rfl,rfl,rfl,(tr rfl (congrArg _ (Yb hi10 hN11))),trivial⟩),hC⟩ h
   ·skip
    replace hC:=hC.sM [1] (M':=[ZAo (ZGu 22 (ZGu 2 ((EI .i64).tr))) s13 [v12] f11]) (by decide) rfl
    exact⟨v12,f11,(sl ⟨rfl,rfl,rfl,rfl,rfl,rfl,rfl,rfl,trivial⟩),hC⟩
  ·clear hC h
   rintro s13 e_ w31 K10 ⟨v12,f11,hS_,hC⟩ h
   rw [ue hS_]
   refine sr (Zq rfl rfl (dn (ZAc (Yd rfl (decide_eq_false (by omega)) ?_))))
   refine ZAt (Zl (Zl (Z4 ?_)))
   refine Zd (sr (Za (v:=v12) rfl (Zq5 hC 0 Zq9 rfl rfl Try.func22 rfl rfl rfl rfl h fun xs10 f13 w32 h hC=>dn (sr (Za (v:=v12) rfl (Zc (v:=v12) rfl (Zc (v:=.int .i64 0) rfl (dn (ZAk ?_)))))))))
   refine Jj (fn:=Try.f7) rfl ?_ ?_ ⟨xs10,v12,f13,0,rfl,h,(hC.getM 0 rfl),(Zfe hC 0 rfl),hC.below⟩ (.inl rfl)
   ·exact Zf rfl
   ·exact Zf rfl
  ·skip
   replace hC:=hC.sM [0] (M':=[ZAo (ZGu 22 (ZGu 2 ((EI .i64).tr))) [] [.slice (some ⟨b11,0,none⟩) 0 0] ((ZA7 (Zth (.slice (some ⟨b11,0,none⟩) 0 0)))++([]:List (List Nat)).flatten)]) (by decide) rfl
   exact⟨.slice (some ⟨b11,0,none⟩) 0 0,((ZA7 (Zth (.slice (some ⟨b11,0,none⟩) 0 0)))++([]:List (List Nat)).flatten),(sl ⟨rfl,rfl,rfl,rfl,trivial⟩),hC⟩
def Zbq (a0:List (List Int)) (a1:List (List Int)) (K:Bool→Prop):Prop :=
 (if(a0.length:Int)≠(a1.length:Int) then K false else Yh (fun i10 (s10:Unit) nx10=>((0≤(i10:Int)∧(i10:Int) < (a1.length:Int))∧Zch (a0.getD i10 Zsn) (a1.getD i10 Zsn) (fun r10=>(if¬ (r10=true) then K false else nx10 ())))) (fun (s10:Unit)=>K true) a0.length 0 ())
theorem Zht (a0:List (List Int)) (a1:List (List Int)) {u0_0:Value} {u1_0:Value} {fp0:List Nat} {fp1:List Nat} {K:Bool→Prop} (h:Zbq a0 a1 K) (w0:World) (q0:(((EI .i64).ty.sl).sl).rep a0 [u0_0] fp0 w0) (q1:(((EI .i64).ty.sl).sl).rep a1 [u1_0] fp1 w0) :
  Calls ZAf 8 #[u0_0,u1_0] w0 fun e w'=>∃ (r0:Bool),
   e=.returned (.bool r0)∧K r0∧Bel w0 w':=by
 unfold Zbq at h
 refine Zz (args:=[u0_0,u1_0]) ZN6 rfl 27 Try.ntmps8 (ZAe rfl) ?_
 have hC:=ZAv (X:=Nox) w0 [Zz9 (((EI .i64).ty.sl).sl) a0 [u0_0] fp0,Zz9 (((EI .i64).ty.sl).sl) a1 [u1_0] fp1] (by simp only [Zsj,Zur,or_false,forall_eq_or_imp,forall_eq]; exact⟨q0,q1⟩)
 refine sr (Zc (v:=.bool false) rfl (dn (ZAc (sr (Za (v:=u0_0) rfl ?_)))))
 obtain ⟨Ad3,c4,hv5⟩:=Zw (hC.getP 0 rfl)
 refine Zv ZNw (tr rfl hv5) (Za (v:=u1_0) rfl ?_)
 obtain ⟨Ad6,c7,hv8⟩:=Zw (hC.getP 1 rfl)
 refine Zv ZNw (tr rfl hv8) (Y0 rfl rfl (dn ?_))
 refine Zr rfl (fun hb9=>?_) (fun hb9=>?_)
 ·replace h:=ift h (ct hb9)
  refine sr (Zc (v:=.bool false) rfl (dn ?_))
  refine ZAk (Ze ?_)
  refine Zg (fn:=Try.f8) rfl ?_ ⟨false,rfl,h,hC.below⟩ (.inl rfl)
  exact Zf rfl
 ·replace h:=Zh h (cf hb9)
  refine ZAg (Zd (ZAc (sr (Zc (v:=.int .i64 0) rfl (dn (ZAl ?_))))))
  have hN10:a0.length≤9223372036854775807:=Y9 (hC.getP 0 rfl)
  refine Yp (S:=Unit) _ _ (fun i10 s10 e_ w_=>Z1 e_ [(0,u0_0),(1,u1_0),(5,.int .i64 (i10:Int))]∧Ctx Nox w0 w_ [] [Zz9 (((EI .i64).ty.sl).sl) a0 [u0_0] fp0,Zz9 (((EI .i64).ty.sl).sl) a1 [u1_0] fp1]) a0.length ?_ ?_ (s0:=()) ?_ h
  ·clear hC h
   rintro i10 s10 e_ w10 nx10 K10 hi10 ⟨hS_,hC⟩ h hK10
   rw [ue hS_]
   refine ZAc (sr (Za (v:=.int .i64 (i10:Int)) rfl (Za (v:=u0_0) rfl ?_)))
   obtain ⟨Ad12,c10,hv12⟩:=Zw (hC.getP 0 rfl)
   refine Zv ZNw (tr rfl hv12) (Zq rfl rfl (dn (Yf rfl (decide_eq_true (by omega)) (ZAg (Zd (ZAc (ZAl (ZAc ?_))))))))
   refine Yq 8 mixed [0,0,3,7,0,0,48,112,255,511] [2,3,6,7] [0,1,4,5] (by kernel_rfl) (by kernel_rfl) (by kernel_rfl) (fun hM10 hM11 w11 hB_=>?_)
   replace hC:=hC.grow hB_
   refine aF 0 (u0_0) rfl rfl (hM11 0 rfl) (rfl) (fun _=>by exact Zs (v:=u0_0) rfl) (Zb 10 1) (aF 1 (.int .i64 (i10:Int)) rfl rfl (hM11 1 rfl) (rfl) (fun _=>by exact Zs (v:=.int .i64 (i10:Int)) rfl) (Zb 10 3) ?_)
   obtain ⟨Ad10,c11,hv10⟩:=Z6 (hC.getP 0 rfl) i10 hi10
   refine aL 2 (.pointer (some (Ad10.add (i10 * 1)))) rfl rfl (hM10 2 rfl) (rfl) (fun _ hB_=>by exact Y2 (len:=a0.length) ZNw sc22.size (by exact tr rfl hv10) rfl (ZAx _) (ZBk.2 hi10)) (Zb 10 7) ?_
   obtain ⟨cs_,hl10,hc10,hr10⟩:=Ja (hC.getP 0 rfl) hv10 i10 hi10
   obtain ⟨u10,rfl⟩:=ZA6.1 hl10
   clear hl10
   rw [X3 _ _ hi10] at hr10
   replace hC:=hC.derive 0 rfl (Zz9 ((EI .i64).ty.sl) (a0.getD i10 Zsn) [u10] fp0) (fun _=>hr10) (fun _ hb_=>hb_)
   refine aL 3 (u10) rfl rfl (hM10 3 rfl) (rfl) (fun _ hB_=>by exact J9 (u10) (Zas hB_ hc10) sc22 rfl) (Zb 10 15) (aF 4 (u1_0) rfl rfl (hM11 4 rfl) (rfl) (fun _=>by exact Zs (v:=u1_0) rfl) (Zb 10 31) (aF 5 (.int .i64 (i10:Int)) rfl rfl (hM11 5 rfl) (rfl) (fun _=>by exact Zs (v:=.int .i64 (i10:Int)) rfl) (Zb 10 63) ?_))
   obtain ⟨⟨h10,h11⟩,h⟩:=h
   obtain ⟨Ad11,c12,hv11⟩:=Z6 (hC.getP 2 rfl) i10 (show i10 < a1.length by omega)
   refine aL 6 (.pointer (some (Ad11.add (i10 * 1)))) rfl rfl (hM10 6 rfl) (rfl) (fun _ hB_=>by exact Y2 (len:=a1.length) ZNw sc22.size (by exact tr rfl hv11) rfl h10 h11) (Zb 10 127) ?_
   obtain ⟨cs_,hl11,hc11,hr11⟩:=Ja (hC.getP 2 rfl) hv11 i10 (show i10 < a1.length by omega)
   obtain ⟨u11,rfl⟩:=ZA6.1 hl11
   clear hl11
   rw [X3 _ _ (show i10 < a1.length by omega)] at hr11
   replace hC:=hC.derive 2 rfl (Zz9 ((EI .i64).ty.sl) (a1.getD i10 Zsn) [u11] fp1) (fun _=>hr11) (fun _ hb_=>hb_)
   refine aL 7 (u11) rfl rfl (hM10 7 rfl) (rfl) (fun _ hB_=>by exact J9 (u11) (Zas hB_ hc11) sc22 rfl) (Zb 10 255) (Z7 8 (by decide) (by decide) (by kernel_rfl) (by kernel_rfl) rfl ?_)
   refine Zk [u10,u11] _ Try.func24 rfl rfl rfl (Zjk (a0.getD i10 Zsn) (a1.getD i10 Zsn) h _ (hC.getP 1 rfl) (hC.getP 0 rfl)) (fun ret10 w12 hR10=>?_)
   obtain ⟨r10,rfl,h,hB10⟩:=hR10
   refine⟨_,rfl,?_⟩
   replace hC:=hC.grow hB10
   refine Xc rfl (done (Z8 (Zd ?_)))
   refine Zr rfl (fun hb10=>?_) (fun hb10=>?_)
   ·replace h:=ift h (Yw (Xg hb10))
    refine sr (Zc (v:=.bool false) rfl (dn ?_))
    refine ZAk (Z2 (Ze (Ze (Z2 (Ze ?_)))))
    refine Zg (fn:=Try.f8) rfl ?_ ⟨false,rfl,h,hC.below⟩ (.inl rfl)
    exact Zf rfl
   ·replace h:=Zh h (not_not_intro ((Xh hb10)))
    refine ZAg (Zt (Zd (Zn (Za (v:=.int .i64 (i10:Int)) rfl (Zp rfl rfl (Zc (v:=.int .i64 (Zu2.wrap ((i10:Int)+1))) rfl (done ?_)))))))
    replace hC:=hC.sP [2,3] (Ps':=[Zz9 (((EI .i64).ty.sl).sl) a0 [u0_0] fp0,Zz9 (((EI .i64).ty.sl).sl) a1 [u1_0] fp1]) rfl
    exact hK10 () _ _ ⟨(sl ⟨rfl,rfl,(tr rfl (congrArg _ (Yb hi10 hN10))),trivial⟩),hC⟩ h
  ·clear hC h
   rintro s10 e_ w13 K10 ⟨hS_,hC⟩ h
   rw [ue hS_]
   refine ZAc (sr (Za (v:=.int .i64 (a0.length:Int)) rfl (Za (v:=u0_0) rfl ?_)))
   obtain ⟨Ad13,c13,hv13⟩:=Zw (hC.getP 0 rfl)
   refine Zv ZNw (tr rfl hv13) (Zq rfl rfl (dn (Yd rfl (decide_eq_false (by omega)) ?_)))
   refine ZAt (Zl (Zl (Z4 ?_)))
   refine Zd (sr (Zc (v:=.bool true) rfl (dn (ZAk ?_))))
   refine Zg (fn:=Try.f8) rfl ?_ ⟨true,rfl,h,hC.below⟩ (.inl rfl)
   exact Zf rfl
  ·skip
   exact⟨(sl ⟨rfl,rfl,rfl,trivial⟩),hC⟩
def Zen (a0:List (List Int)) (a1:Int) (K:Int→List (List Int)→Prop):Prop :=
 Xa (fun (s10:(List (List Int))×Int×Int) nx10=>(if s10.2.2 < (s10.1.length:Int) then((0≤s10.2.2∧s10.2.2 < (s10.1.length:Int))∧Za6 (s10.1.getD s10.2.2.toNat Zsn) s10.2.1 (fun r10 m10=>nx10 (s10.1.set s10.2.2.toNat m10,r10,Zu2.wrap (s10.2.2+1)))) else K s10.2.1 s10.1)) (a0,a1,0)
theorem Zrh (a0:List (List Int)) (a1:Int) {u0_0:Value} {fp0_0:List Nat} {K:Int→List (List Int)→Prop} (h:Zen a0 a1 K) (w0:World) (qw0:(ZAo (ZGu 22 (ZGu 2 ((EI .i64).tr))) a0 [u0_0] fp0_0).holds w0) :
  Calls ZAf 11 #[u0_0,.int .i64 a1] w0 fun e w'=>∃ (r0:Int) (mw:List (List Int)),
   e=.returned (.int .i64 r0)∧K r0 mw∧(ZAo (ZGu 22 (ZGu 2 ((EI .i64).tr))) mw [u0_0] fp0_0).holds w'∧BelO (fp0_0) w0 w':=by
 unfold Zen at h
 refine Zz (args:=[u0_0,.int .i64 a1]) Try.func11 rfl 19 Try.ntmps11 (ZAe rfl) ?_
 have hC:=Ctx.startL w0 (fp0_0) [ZAo (ZGu 22 (ZGu 2 ((EI .i64).tr))) a0 [u0_0] fp0_0] [] (by simp only [Zsj,Zur,or_false,forall_eq_or_imp,forall_eq]; exact qw0) (by simp) (by simp only [Zsj,Zur,or_false,forall_eq_or_imp,forall_eq]; exact fun b hb=>hb) (List.pairwise_singleton _ _) (by simp)
 refine sr (Zc (v:=.int .i64 0) rfl (dn (ZAc (sr (Zc (v:=.int .i64 0) rfl (dn (ZAl ?_)))))))
 refine Xq (S:=(List (List Int))×Int×Int) _ (fun s10 e_ w_=>Z1 e_ [(0,u0_0),(1,.int .i64 s10.2.1),(5,.int .i64 s10.2.2)]∧Ctx (fun c_=>c_∈fp0_0) w0 w_ [ZAo (ZGu 22 (ZGu 2 ((EI .i64).tr))) s10.1 [u0_0] fp0_0] []) ?_ (s0:=(a0,a1,0)) ?_ h
 ·clear hC h
  rintro s10 e_ w10 nx10 K10 ⟨hS_,hC⟩ h hK10
  rw [ue hS_]
  refine ZAc (sr (Za (v:=.int .i64 s10.2.2) rfl (Za (v:=u0_0) rfl ?_)))
  obtain ⟨Ad10,c10,hv10⟩:=Zi8 (hC.getM 0 rfl)
  refine Zv ZNw (tr rfl hv10) (Zq rfl rfl (dn ?_))
  refine Zr rfl (fun hb10=>?_) (fun hb10=>?_)
  ·replace h:=ift h (ct hb10)
   refine ZAg (Zd (ZAc (ZAl (Zn (Za (v:=u0_0) rfl (Za (v:=.int .i64 s10.2.2) rfl ?_))))))
   obtain ⟨⟨h10,h11⟩,h⟩:=h
   obtain ⟨cs10,f10,⟨g10,cap10,hv11,hcell10⟩,hin10,hsub10,hout10⟩:=Zi6 (hC.getM 0 rfl) s10.2.2.toNat (show s10.2.2.toNat < s10.1.length by omega)
   refine Zar (s10.2.2.toNat * 1) ZNw sc22.size (tr rfl hv11) rfl h10 h11 rfl ?_
   obtain ⟨u10,rfl⟩:=ZA6.1 (show cs10.length=1 from((ZGu 2 ((EI .i64).tr))).ty.len (ZNv _ hin10.1))
   have hin11:=hin10; rw [X3 _ _ (show s10.2.2.toNat < s10.1.length by omega)] at hin11
   obtain ⟨ho10,hf10⟩:=Zb7 (show (ZGu 2 (EI .i64).tr).tree (s10.1.getD s10.2.2.toNat Zsn) [u10] f10 _ from hin11.1)
   subst hf10
   refine Xy (u10) hcell10 sc22 rfl (Za (v:=.int .i64 s10.2.1) rfl ?_)
   refine Zk [u10,.int .i64 s10.2.1] _ Try.func26 rfl rfl rfl (Zj4 (s10.1.getD s10.2.2.toNat Zsn) s10.2.1 h _ ho10) (fun ret10 w11 hR10=>?_)
   obtain ⟨r10,m10,rfl,h,hm10,hB10⟩:=hR10
   refine⟨_,rfl,?_⟩
   replace hC:=hC.turn 0 (jt:=ZAo (ZGu 22 (ZGu 2 ((EI .i64).tr))) (s10.1.set s10.2.2.toNat m10) [u0_0] fp0_0) rfl hB10.os hB10.tape hB10.output hB10.size hB10.drawn (fun c_ hc_ hn_=>hB10.old c_ hc_ (fun h_=>hn_ (hsub10 c_ h_))) (hout10 m10 _ (Zg1 hm10) hB10) (fun b_ hb_=>.inl hb_)
   refine Zc (v:=.int .i64 r10) rfl (done (Zt (Zd (Zn (Za (v:=.int .i64 s10.2.2) rfl (Zp rfl rfl (Zc (v:=.int .i64 (Zu2.wrap (s10.2.2+1))) rfl (done ?_))))))))
   exact hK10 (s10.1.set s10.2.2.toNat m10,r10,Zu2.wrap (s10.2.2+1)) _ _ ⟨(sl ⟨rfl,rfl,rfl,trivial⟩),hC⟩ h
  ·replace h:=Zh h (cf hb10)
   refine ZAt (Zl (Zl (Z4 ?_)))
   refine Zd (sr (Za (v:=.int .i64 s10.2.1) rfl (Zc (v:=.int .i64 s10.2.1) rfl (dn (ZAk ?_)))))
   refine Zg (fn:=Try.f11) rfl ?_ ⟨s10.2.1,s10.1,rfl,h,(hC.getM 0 rfl),hC.belO⟩ (.inl rfl)
   exact Zf rfl
 ·skip
  exact⟨(sl ⟨rfl,rfl,rfl,trivial⟩),hC⟩
def Zcx (a0:List (List Int)) (a1:Int) (K:Int→Prop):Prop :=
 Yh (fun i10 (s10:Int) nx10=>Zcr (a0.getD i10 Zsn) s10 (fun r10=>(if r10 < 0 then K (-1) else nx10 r10))) (fun (s10:Int)=>K s10) a0.length 0 a1
theorem Zkv (a0:List (List Int)) (a1:Int) {u0_0:Value} {fp0:List Nat} {K:Int→Prop} (h:Zcx a0 a1 K) (w0:World) (q0:(((EI .i64).ty.sl).sl).rep a0 [u0_0] fp0 w0) :
  Calls ZAf 12 #[u0_0,.int .i64 a1] w0 fun e w'=>∃ (r0:Int),
   e=.returned (.int .i64 r0)∧K r0∧Bel w0 w':=by
 unfold Zcx at h
 refine Zz (args:=[u0_0,.int .i64 a1]) Try.func12 rfl 21 Try.ntmps12 (ZAe rfl) ?_
 have hC:=ZAv (X:=Nox) w0 [Zz9 (((EI .i64).ty.sl).sl) a0 [u0_0] fp0] (by simp only [Zsj,Zur,or_false,forall_eq_or_imp,forall_eq]; exact q0)
 refine sr (Zc (v:=.int .i64 0) rfl (dn (ZAc (sr (Zc (v:=.int .i64 0) rfl (dn (ZAl ?_)))))))
 have hN10:a0.length≤9223372036854775807:=Y9 (hC.getP 0 rfl)
 refine Yp (S:=Int) _ _ (fun i10 s10 e_ w_=>Z1 e_ [(0,u0_0),(1,.int .i64 s10),(5,.int .i64 (i10:Int))]∧Ctx Nox w0 w_ [] [Zz9 (((EI .i64).ty.sl).sl) a0 [u0_0] fp0]) a0.length ?_ ?_ (s0:=a1) ?_ h
 ·clear hC h
  rintro i10 s10 e_ w10 nx10 K10 hi10 ⟨hS_,hC⟩ h hK10
  rw [ue hS_]
  refine ZAc (sr (Za (v:=.int .i64 (i10:Int)) rfl (Za (v:=u0_0) rfl ?_)))
  obtain ⟨Ad10,c10,hv11⟩:=Zw (hC.getP 0 rfl)
  refine Zv ZNw (tr rfl hv11) (Zq rfl rfl (dn (Yf rfl (decide_eq_true (by omega)) (ZAg (Zd (ZAc (ZAl (sr (Za (v:=u0_0) rfl (Za (v:=.int .i64 (i10:Int)) rfl ?_))))))))))
  obtain ⟨Ad11,c11,hv10⟩:=Z6 (hC.getP 0 rfl) i10 hi10
  refine Yv (len:=a0.length) ZNw sc22.size (tr rfl hv10) rfl (ZAx _) (ZBk.2 hi10) ?_
  obtain ⟨cs_,hl10,hc10,hr10⟩:=Ja (hC.getP 0 rfl) hv10 i10 hi10
  obtain ⟨u10,rfl⟩:=ZA6.1 hl10
  clear hl10
  rw [X3 _ _ hi10] at hr10
  replace hC:=hC.derive 0 rfl (Zz9 ((EI .i64).ty.sl) (a0.getD i10 Zsn) [u10] fp0) (fun _=>hr10) (fun _ hb_=>hb_)
  refine Xy (u10) hc10 sc22 rfl (Za (v:=.int .i64 s10) rfl ?_)
  refine Zk [u10,.int .i64 s10] _ Try.func28 rfl rfl rfl (Zpq (a0.getD i10 Zsn) s10 h _ (hC.getP 0 rfl)) (fun ret10 w11 hR10=>?_)
  obtain ⟨r10,rfl,h,hB10⟩:=hR10
  refine⟨_,rfl,?_⟩
  replace hC:=hC.grow hB10
  refine Zc (v:=.int .i64 r10) rfl (dn (sr (Za (v:=.int .i64 r10) rfl (Zq rfl rfl (dn ?_)))))
  refine Zr rfl (fun hb10=>?_) (fun hb10=>?_)
  ·replace h:=ift h (ct hb10)
   refine sr (Zc (v:=.int .i64 (-1)) rfl (dn ?_))
   refine ZAk (Z2 (Ze (Ze (Z2 (Ze ?_)))))
   refine Zg (fn:=Try.f12) rfl ?_ ⟨(-1),rfl,h,hC.below⟩ (.inl rfl)
   exact Zf rfl
  ·replace h:=Zh h (cf hb10)
   refine ZAg (Zt (Zd (Zn (Za (v:=.int .i64 (i10:Int)) rfl (Zp rfl rfl (Zc (v:=.int .i64 (Zu2.wrap ((i10:Int)+1))) rfl (done ?_)))))))
   replace hC:=hC.sP [1] (Ps':=[Zz9 (((EI .i64).ty.sl).sl) a0 [u0_0] fp0]) rfl
   exact hK10 r10 _ _ ⟨(sl ⟨rfl,rfl,(tr rfl (congrArg _ (Yb hi10 hN10))),trivial⟩),hC⟩ h
 ·clear hC h
  rintro s10 e_ w12 K10 ⟨hS_,hC⟩ h
  rw [ue hS_]
  refine ZAc (sr (Za (v:=.int .i64 (a0.length:Int)) rfl (Za (v:=u0_0) rfl ?_)))
  obtain ⟨Ad12,c12,hv12⟩:=Zw (hC.getP 0 rfl)
  refine Zv ZNw (tr rfl hv12) (Zq rfl rfl (dn (Yd rfl (decide_eq_false (by omega)) ?_)))
  refine ZAt (Zl (Zl (Z4 ?_)))
  refine Zd (sr (Za (v:=.int .i64 s10) rfl (Zc (v:=.int .i64 s10) rfl (dn (ZAk ?_)))))
  refine Zg (fn:=Try.f12) rfl ?_ ⟨s10,rfl,h,hC.below⟩ (.inl rfl)
  exact Zf rfl
 ·skip
  exact⟨(sl ⟨rfl,rfl,rfl,trivial⟩),hC⟩
def Zgc (a0:Alg) (K:Bool→Prop):Prop :=
 Zef a0 1048576 (fun r24=>(if r24 < 0 then K true else Za5 a0 (fun r10=>Zcv r10 (fun r14 r12=>Za5 a0 (fun r13=>Zbp r13 (fun r15 r16=>Zbq r15 r14 (fun r25=>(if¬ (r25=true) then K false else(if r16≠r12 then K false else Za5 a0 (fun r11=>Zcq r13 r11 (fun r28=>(if¬ (r28=true) then K false else Zei r13 1 (fun r19 m10=>(if r19 < 0 then K false else Zbq r15 r14 (fun r23=>(if¬ (r23=true) then K false else Zen r15 1 (fun r20 m11=>Zcx m11 1 (fun r21=>(if r21 < 0 then K false else(if r21≠r20 then K false else Za5 (⟨a0.degrees,a0.images⟩:Alg) (fun r17=>Zbp r17 (fun r26 r18=>Zbq r26 r14 (fun r27=>(if¬ (r27=true) then K false else(if r18≠r12 then K false else Zcx m11 1 (fun r22=>(if r22 < 0 then K false else(if r22≠r20 then K false else K true))))))))))))))))))))))))))))
theorem Zri (a0 : Alg) {u0_0 : Value} {u0_1 : Value} {fp0 : List Nat} {K : Bool → Prop} (h : Zgc a0 K) (w0 : World) (q0 : TAlg.rep a0 [u0_0, u0_1] fp0 w0) :
  Calls ZAf 3 #[.agg #[u0_0,u0_1]] w0 fun e w'=>∃ (r0:Bool),
   e=.returned (.bool r0)∧K r0∧Bel w0 w':=by
 unfold Zgc at h
 refine Zz (args:=[.agg #[u0_0,u0_1]]) Try.func3 rfl 96 Try.ntmps3 (ZAe rfl) ?_
 have hC:=ZAv (X:=Nox) w0 [Zz9 TAlg a0 [u0_0,u0_1] fp0] (by simp only [Zsj,Zur,or_false,forall_eq_or_imp,forall_eq]; exact q0)
 have hp2:=(hC.getP 0 rfl)
 replace hC:=hC.derive 0 rfl (Zz9 ((EI .i64).ty.sl) a0.degrees [u0_0] fp0) (fun _=>(Y3 hp2).1) (fun _ hb_=>hb_)
 replace hC:=hC.derive 1 rfl (Zz9 ZAq.sl a0.images [u0_1] fp0) (fun _=>(Y3 hp2).2) (fun _ hb_=>hb_)
 refine sr (Yg (v:=.agg #[u0_0,u0_1]) hC [u0_0,u0_1] rfl rfl fun b5 w7 hB_ hC=>Zc (v:=.bool false) rfl (dn (sr (Zc (v:=.int .i64 1048576) rfl (dn (sr (Yl hC 0 [u0_0,u0_1] rfl Zek rfl rfl rfl (Za (v:=.int .i64 1048576) rfl ?_))))))))
 refine Zk [.agg #[u0_0,u0_1],.int .i64 1048576] _ Try.func4 rfl rfl rfl (Zpl a0 1048576 h _ (Jb (hC.getP 1 rfl) (hC.getP 0 rfl))) (fun ret8 w10 hR9=>?_)
 obtain ⟨r24,rfl,h,hB12⟩:=hR9
 refine⟨_,rfl,?_⟩
 replace hC:=hC.grow hB12
 refine Zc (v:=.int .i64 r24) rfl (dn (ZAc (sr (Za (v:=.int .i64 r24) rfl (Zq rfl rfl (dn ?_))))))
 refine Zr rfl (fun hb15=>?_) (fun hb15=>?_)
 ·replace h:=ift h (ct hb15)
  refine sr (Zc (v:=.bool true) rfl (dn ?_))
  refine ZAk (Ze ?_)
  refine Zg (fn:=ZNx) rfl ?_ ⟨true,rfl,h,hC.below⟩ (.inl rfl)
  exact Zf rfl
 ·replace h := Zh h (cf hb15)
  refine ZAg (Zd (sr (Yl hC 0 [u0_0,u0_1] rfl Zek rfl rfl rfl ?_)))
  refine Zk [.agg #[u0_0,u0_1]] _ ZN7 rfl rfl rfl (Zf0 a0 h _ (Jb (hC.getP 1 rfl) (hC.getP 0 rfl))) (fun ret10 w11 hR10=>?_)
  obtain ⟨r10,u15,u16,f15,rfl,h,hr10,hf10,hB13⟩:=hR10
  refine⟨_,rfl,?_⟩
  replace hC:=hC.push hB13 (ZAo (Zbf 2 49 44) r10 [u15,u16] f15) hr10 hf10
  obtain ⟨f10,ho10,ho11,hs10,hs11,hd10⟩:=Zff (hC.getM 0 rfl)
  replace hC:=hC.split (a:=own 2 1 u15 r10.degrees.length ((EI .i64).encs r10.degrees)) (b:=ZAo (ZGu 44 (Ya 49)) r10.images [u16] f10) hs10 hs11 ⟨ho10,ho11,hd10⟩
  refine Zk [.agg #[u15,u16]] _ Try.func5 rfl rfl rfl (Zrf r10 h _ (Jb (Xr (hC.getM 0 rfl)) (ZNv _ (hC.getM 1 rfl).1))) (fun ret11 w12 hR11=>?_)
  obtain ⟨r14,u13,f11,r12,rfl,h,hr11,hf11,hB14⟩:=hR11
  refine⟨_,rfl,?_⟩
  replace hC:=hC.push hB14 (ZAo (ZGu 22 (ZGu 2 ((EI .i64).tr))) r14 [u13] f11) hr11 hf11
  refine Za (v:=.tuple #[u13,.int .i64 r12]) rfl (Xd (v:=u13) rfl rfl (Xd (v:=.int .i64 r12) rfl rfl (Zc (v:=u13) rfl (Zc (v:=.int .i64 r12) rfl (dn (sr (Yl hC 3 [u0_0,u0_1] rfl Zek rfl rfl rfl ?_)))))))
  refine Zk [.agg #[u0_0,u0_1]] _ ZN7 rfl rfl rfl (Zf0 a0 h _ (Jb (hC.getP 1 rfl) (hC.getP 0 rfl))) (fun ret12 w13 hR12=>?_)
  obtain ⟨r13,u10,u11,f16,rfl,h,hr12,hf12,hB15⟩:=hR12
  refine⟨_,rfl,?_⟩
  replace hC:=hC.push hB15 (ZAo (Zbf 2 49 44) r13 [u10,u11] f16) hr12 hf12
  obtain ⟨f12,ho12,ho13,hs12,hs13,hd11⟩:=Zff (hC.getM 0 rfl)
  replace hC:=hC.split (a:=own 2 1 u10 r13.degrees.length ((EI .i64).encs r13.degrees)) (b:=ZAo (ZGu 44 (Ya 49)) r13.images [u11] f12) hs12 hs13 ⟨ho12,ho13,hd11⟩
  refine Ye hC [.slice none 0 0,.slice none 0 0] z32 rfl fun b10 w14 hB_ hC=>Zy (v:=.agg #[u10,u11]) hC 0 [u10,u11] [u10,u11] rfl ag32.size rfl rfl rfl rfl (Y4 (Xe (hC.getM 1 rfl)) (Y4 (Zb5 (ZNv _ (hC.getM 2 rfl).1)) rfl)) (ZAe rfl) rfl fun w15 hC=>dn (sr (Yl hC 0 [u10,u11] rfl ag32 rfl rfl rfl ?_))
  refine Zk [.agg #[u10,u11]] _ Try.func7 rfl rfl rfl (Zku r13 h _ (Jb (Xr (hC.getM 1 rfl)) (ZNv _ (hC.getM 2 rfl).1))) (fun ret13 w16 hR13=>?_)
  obtain ⟨r15,u12,f13,r16,rfl,h,hr13,hf13,hB16⟩:=hR13
  refine⟨_,rfl,?_⟩
  replace hC:=hC.push hB16 (ZAo (ZGu 22 (ZGu 2 ((EI .i64).tr))) r15 [u12] f13) hr13 hf13
  refine Za (v:=.tuple #[u12,.int .i64 r16]) rfl (Xd (v:=u12) rfl rfl (Xd (v:=.int .i64 r16) rfl rfl (Zc (v:=u12) rfl (Zc (v:=.int .i64 r16) rfl (dn (ZAc (sr (Za (v:=u12) rfl (Za (v:=u13) rfl ?_)))))))))
  refine Zk [u12,u13] _ ZN6 rfl rfl rfl (Zht r15 r14 h _ (ZNv _ (hC.getM 0 rfl).1) (ZNv _ (hC.getM 4 rfl).1)) (fun ret14 w17 hR14=>?_)
  obtain ⟨r25,rfl,h,hB17⟩:=hR14
  refine⟨_,rfl,?_⟩
  replace hC:=hC.grow hB17
  refine Xc rfl (Za (v:=.bool (!r25)) rfl ?_)
  refine Yy (!r25) (fun hb11=>?_) (fun hb11=>?_)
  ·replace h:=ift h (Yw (Xg hb11))
   refine Zi (b:=true) 4 36 rfl (tr rfl (congrArg _ hb11)) (by decide) (Zi (b:=true) 4 36 rfl (tr rfl (congrArg _ hb11)) (by decide) (Zi (b:=true) 4 36 rfl (tr rfl (congrArg _ hb11)) (by decide) (Z3 (v:=.bool true) (b:=true) (tr rfl (congrArg _ hb11)) rfl (dn (Yf rfl rfl (sr (Zc (v:=.bool false) rfl (dn ?_))))))))
   refine ZAk (Ze ?_)
   refine Zg (fn:=ZNx) rfl ?_ ⟨false,rfl,h,hC.below⟩ (.inl rfl)
   exact Zf rfl
  ·replace h := Zh h (not_not_intro ((Xh hb11)))
   refine Zj 4 36 rfl rfl hb11 (Za (v:=.int .i64 r16) rfl (Zj 4 36 rfl rfl hb11 (Za (v:=.int .i64 r12) rfl (Zj 4 36 rfl rfl hb11 (Y0 rfl rfl (Z3 (v:=.bool (decide (r16≠r12))) (b:=false) (tr rfl (congrArg _ hb11)) rfl (dn ?_)))))))
   refine Zr rfl (fun hb14=>?_) (fun hb14=>?_)
   ·replace h:=ift h (ct hb14)
    refine sr (Zc (v:=.bool false) rfl (dn ?_))
    refine ZAk (Ze ?_)
    refine Zg (fn:=ZNx) rfl ?_ ⟨false,rfl,h,hC.below⟩ (.inl rfl)
    exact Zf rfl
   ·replace h := Zh h (cf hb14)
    refine ZAg (Zd (ZAc (ZAc ?_)))
    refine Yq 3 mixed [0,0,2,7,15] [0,1] [] (by kernel_rfl) (by kernel_rfl) (by kernel_rfl) (fun hM10 hM11 w18 hB_=>?_)
    replace hC:=hC.grow hB_
    refine aL 0 (.agg #[u10,u11]) rfl rfl (hM10 0 rfl) (rfl) (fun _ hB_=>by exact Y8 (hC.grow hB_) 1 [u10,u11] rfl ag32 rfl rfl rfl) (Zb 5 1) (aL 1 (.agg #[u0_0,u0_1]) rfl rfl (hM10 1 rfl) (rfl) (fun _ hB_=>by exact Y8 (hC.grow hB_) 7 [u0_0,u0_1] rfl Zek rfl rfl rfl) (Zb 5 3) (aO 2 rfl ?_))
    refine Zk [.agg #[u0_0,u0_1]] _ ZN7 rfl rfl rfl (Zf0 a0 h _ (Jb (hC.getP 1 rfl) (hC.getP 0 rfl))) (fun ret15 w19 hR15=>?_)
    obtain ⟨r11,u17,u18,f17,rfl,h,hr14,hf14,hB18⟩:=hR15
    refine⟨_,rfl,?_⟩
    replace hC:=hC.push hB18 (ZAo (Zbf 2 49 44) r11 [u17,u18] f17) hr14 hf14
    obtain ⟨f14,ho14,ho15,hs14,hs15,hd12⟩:=Zff (hC.getM 0 rfl)
    replace hC:=hC.split (a:=own 2 1 u17 r11.degrees.length ((EI .i64).encs r11.degrees)) (b:=ZAo (ZGu 44 (Ya 49)) r11.images [u18] f14) hs14 hs15 ⟨ho14,ho15,hd12⟩
    refine done (aK (by assumption) (Zb 5 7) (Z7 3 (by decide) (by decide) (by kernel_rfl) (by kernel_rfl) rfl ?_))
    refine Zk [.agg #[u10,u11],.agg #[u17,u18]] _ Try.func9 rfl rfl rfl (Zpn r13 r11 h _ (Jb (Xr (hC.getM 4 rfl)) (ZNv _ (hC.getM 5 rfl).1)) (Jb (Xr (hC.getM 0 rfl)) (ZNv _ (hC.getM 1 rfl).1))) (fun ret16 w20 hR16=>?_)
    obtain ⟨r28,rfl,h,hB19⟩:=hR16
    refine⟨_,rfl,?_⟩
    replace hC:=hC.grow hB19
    refine Xc rfl (done (Z8 (Zd ?_)))
    refine Zr rfl (fun hb16=>?_) (fun hb16=>?_)
    ·replace h:=ift h (Yw (Xg hb16))
     refine sr (Zc (v:=.bool false) rfl (dn ?_))
     refine ZAk (Ze ?_)
     refine Zg (fn:=ZNx) rfl ?_ ⟨false,rfl,h,hC.below⟩ (.inl rfl)
     exact Zf rfl
    ·replace h := Zh h (not_not_intro ((Xh hb16)))
     refine ZAg (Zd (sr (Zc (v:=.int .i64 1) rfl (dn (sr (Yl hC 3 [u10,u11] rfl ag32 rfl rfl rfl (Za (v:=.int .i64 1) rfl ?_)))))))
     refine Zk [.agg #[u10,u11],.int .i64 1] _ Try.func10 rfl rfl rfl (Zpp r13 1 h _ (hC.getM 4 rfl) (hC.getM 5 rfl) (hC.mm 4 5 rfl rfl (by decide))) (fun ret17 w21 hR17=>?_)
     obtain ⟨r19,m10,rfl,h,hm10,hm11,hB11⟩:=hR17
     refine⟨_,rfl,?_⟩
     replace hC:=hC.turnL hB11 (M':=[own 2 1 u17 r11.degrees.length ((EI .i64).encs r11.degrees),ZAo (ZGu 44 (Ya 49)) r11.images [u18] f14,ZAo (ZGu 22 (ZGu 2 ((EI .i64).tr))) r15 [u12] f13,blk b10 32 [u10,u11],own 2 1 u10 m10.degrees.length ((EI .i64).encs m10.degrees),ZAo (ZGu 44 (Ya 49)) m10.images [u11] f12,ZAo (ZGu 22 (ZGu 2 ((EI .i64).tr))) r14 [u13] f11,own 2 1 u15 r10.degrees.length ((EI .i64).encs r10.degrees),ZAo (ZGu 44 (Ya 49)) r10.images [u16] f10,blk b5 25 [u0_0,u0_1]]) rfl (fun x_ hx_=>(Zsw.1 hx_).elim (fun hx_=>⟨_,List.mem_of_getElem? (i:=4) rfl,hx_⟩) (fun hx_=>⟨_,List.mem_of_getElem? (i:=5) rfl,hx_⟩)) (by simp only [Zsj,Zur,or_false,forall_eq_or_imp,forall_eq]; exact⟨(hC.stay 0 rfl hB11 (fun x_ hq_ hx_=>(Zsw.1 hx_).elim (fun hx_=>hC.mm 0 4 rfl rfl (by decide) x_ hq_ hx_) (fun hx_=>hC.mm 0 5 rfl rfl (by decide) x_ hq_ hx_))),(hC.stay 1 rfl hB11 (fun x_ hq_ hx_=>(Zsw.1 hx_).elim (fun hx_=>hC.mm 1 4 rfl rfl (by decide) x_ hq_ hx_) (fun hx_=>hC.mm 1 5 rfl rfl (by decide) x_ hq_ hx_))),(hC.stay 2 rfl hB11 (fun x_ hq_ hx_=>(Zsw.1 hx_).elim (fun hx_=>hC.mm 2 4 rfl rfl (by decide) x_ hq_ hx_) (fun hx_=>hC.mm 2 5 rfl rfl (by decide) x_ hq_ hx_))),(hC.stay 3 rfl hB11 (fun x_ hq_ hx_=>(Zsw.1 hx_).elim (fun hx_=>hC.mm 3 4 rfl rfl (by decide) x_ hq_ hx_) (fun hx_=>hC.mm 3 5 rfl rfl (by decide) x_ hq_ hx_))),hm10,hm11,(hC.stay 6 rfl hB11 (fun x_ hq_ hx_=>(Zsw.1 hx_).elim (fun hx_=>hC.mm 6 4 rfl rfl (by decide) x_ hq_ hx_) (fun hx_=>hC.mm 6 5 rfl rfl (by decide) x_ hq_ hx_))),(hC.stay 7 rfl hB11 (fun x_ hq_ hx_=>(Zsw.1 hx_).elim (fun hx_=>hC.mm 7 4 rfl rfl (by decide) x_ hq_ hx_) (fun hx_=>hC.mm 7 5 rfl rfl (by decide) x_ hq_ hx_))),(hC.stay 8 rfl hB11 (fun x_ hq_ hx_=>(Zsw.1 hx_).elim (fun hx_=>hC.mm 8 4 rfl rfl (by decide) x_ hq_ hx_) (fun hx_=>hC.mm 8 5 rfl rfl (by decide) x_ hq_ hx_))),(hC.stay 9 rfl hB11 (fun x_ hq_ hx_=>(Zsw.1 hx_).elim (fun hx_=>hC.mm 9 4 rfl rfl (by decide) x_ hq_ hx_) (fun hx_=>hC.mm 9 5 rfl rfl (by decide) x_ hq_ hx_)))⟩)
     refine Zc (v:=.int .i64 r19) rfl (dn (ZAc (sr (Za (v:=.int .i64 r19) rfl (Zq rfl rfl (Za (v:=.bool (decide (r19 < 0))) rfl ?_))))))
     refine Yy (decide (r19 < 0)) (fun hb10=>?_) (fun hb10=>?_)
     ·replace h:=ift h (ct hb10)
      refine Zi (b:=true) 2 51 rfl (tr rfl (congrArg _ hb10)) (by decide) (Zi (b:=true) 2 51 rfl (tr rfl (congrArg _ hb10)) (by decide) (Zi (b:=true) 2 51 rfl (tr rfl (congrArg _ hb10)) (by decide) (Zi (b:=true) 2 51 rfl (tr rfl (congrArg _ hb10)) (by decide) (Z3 (v:=.bool true) (b:=true) (tr rfl (congrArg _ hb10)) rfl (Za (v:=.bool true) rfl (Zi (b:=true) 8 57 rfl (tr rfl (congrArg _ rfl)) (by decide) (Zi (b:=true) 8 57 rfl (tr rfl (congrArg _ rfl)) (by decide) (Zi (b:=true) 8 57 rfl (tr rfl (congrArg _ rfl)) (by decide) (Z3 (v:=.bool true) (b:=true) rfl rfl (dn (Yf rfl rfl ?_)))))))))))
      refine sr (Zc (v:=.bool false) rfl (dn ?_))
      refine ZAk (Ze ?_)
      refine Zg (fn:=ZNx) rfl ?_ ⟨false,rfl,h,hC.below⟩ (.inl rfl)
      exact Zf rfl
     ·replace h:=Zh h (cf hb10)
      refine Zj 2 51 rfl rfl hb10 (Za (v:=u12) rfl (Zj 2 51 rfl rfl hb10 (Za (v:=u13) rfl (Zj 2 51 rfl rfl hb10 ?_))))
      refine Zk [u12,u13] _ ZN6 rfl rfl rfl (Zht r15 r14 h _ (ZNv _ (hC.getM 2 rfl).1) (ZNv _ (hC.getM 6 rfl).1)) (fun ret18 w22 hR18=>?_)
      obtain ⟨r23,rfl,h,hB20⟩:=hR18
      refine⟨_,rfl,?_⟩
      replace hC:=hC.grow hB20
      refine Zj 2 51 rfl rfl hb10 (Xc rfl (Z3 (v:=.bool (!r23)) (b:=false) (tr rfl (congrArg _ hb10)) rfl (Za (v:=.bool (!r23)) rfl ?_)))
      refine Yy (!r23) (fun hb12=>?_) (fun hb12=>?_)
      ·replace h:=ift h (Yw (Xg hb12))
       refine Zi (b:=true) 8 57 rfl (tr rfl (congrArg _ hb12)) (by decide) (Zi (b:=true) 8 57 rfl (tr rfl (congrArg _ hb12)) (by decide) (Zi (b:=true) 8 57 rfl (tr rfl (congrArg _ hb12)) (by decide) (Z3 (v:=.bool true) (b:=true) (tr rfl (congrArg _ hb12)) rfl (dn (Yf rfl rfl (sr (Zc (v:=.bool false) rfl (dn ?_))))))))
       refine ZAk (Ze ?_)
       refine Zg (fn:=ZNx) rfl ?_ ⟨false,rfl,h,hC.below⟩ (.inl rfl)
       exact Zf rfl
      ·replace h:=Zh h (not_not_intro ((Xh hb12)))
       refine Zj 8 57 rfl rfl hb12 (Za (v:=.int .i64 r16) rfl (Zj 8 57 rfl rfl hb12 (Za (v:=.int .i64 r12) rfl (Zj 8 57 rfl rfl hb12 (Y0 rfl rfl (Z3 (v:=.bool (decide (r16≠r12))) (b:=false) (tr rfl (congrArg _ hb12)) rfl (dn (Yd rfl hb14 (ZAg (Zd (sr ?_)))))))))))
       refine Zc (v:=.int .i64 1) rfl (dn (sr (Za (v:=u12) rfl (Za (v:=.int .i64 1) rfl ?_))))
       refine Zk [u12,.int .i64 1] _ Try.func11 rfl rfl rfl (Zrh r15 1 h _ (hC.getM 2 rfl)) (fun ret19 w23 hR19=>?_)
       obtain ⟨r20,m11,rfl,h,hm12,hB10⟩:=hR19
       refine⟨_,rfl,?_⟩
       replace hC:=hC.turnL hB10 (M':=[own 2 1 u17 r11.degrees.length ((EI .i64).encs r11.degrees),ZAo (ZGu 44 (Ya 49)) r11.images [u18] f14,ZAo (ZGu 22 (ZGu 2 ((EI .i64).tr))) m11 [u12] f13,blk b10 32 [u10,u11],own 2 1 u10 m10.degrees.length ((EI .i64).encs m10.degrees),ZAo (ZGu 44 (Ya 49)) m10.images [u11] f12,ZAo (ZGu 22 (ZGu 2 ((EI .i64).tr))) r14 [u13] f11,own 2 1 u15 r10.degrees.length ((EI .i64).encs r10.degrees),ZAo (ZGu 44 (Ya 49)) r10.images [u16] f10,blk b5 25 [u0_0,u0_1]]) rfl (fun x_ hx_=>⟨_,List.mem_of_getElem? (i:=2) rfl,hx_⟩) (by simp only [Zsj,Zur,or_false,forall_eq_or_imp,forall_eq]; exact⟨(hC.stay 0 rfl hB10 (fun x_ hq_ hx_=>hC.mm 0 2 rfl rfl (by decide) x_ hq_ hx_)),(hC.stay 1 rfl hB10 (fun x_ hq_ hx_=>hC.mm 1 2 rfl rfl (by decide) x_ hq_ hx_)),hm12,(hC.stay 3 rfl hB10 (fun x_ hq_ hx_=>hC.mm 3 2 rfl rfl (by decide) x_ hq_ hx_)),(hC.stay 4 rfl hB10 (fun x_ hq_ hx_=>hC.mm 4 2 rfl rfl (by decide) x_ hq_ hx_)),(hC.stay 5 rfl hB10 (fun x_ hq_ hx_=>hC.mm 5 2 rfl rfl (by decide) x_ hq_ hx_)),(hC.stay 6 rfl hB10 (fun x_ hq_ hx_=>hC.mm 6 2 rfl rfl (by decide) x_ hq_ hx_)),(hC.stay 7 rfl hB10 (fun x_ hq_ hx_=>hC.mm 7 2 rfl rfl (by decide) x_ hq_ hx_)),(hC.stay 8 rfl hB10 (fun x_ hq_ hx_=>hC.mm 8 2 rfl rfl (by decide) x_ hq_ hx_)),(hC.stay 9 rfl hB10 (fun x_ hq_ hx_=>hC.mm 9 2 rfl rfl (by decide) x_ hq_ hx_))⟩)
       refine Zc (v:=.int .i64 r20) rfl (dn (sr (Zc (v:=.int .i64 1) rfl (dn (sr (Za (v:=u12) rfl (Za (v:=.int .i64 1) rfl ?_)))))))
       refine Zk [u12,.int .i64 1] _ Try.func12 rfl rfl rfl (Zkv m11 1 h _ (ZNv _ (hC.getM 2 rfl).1)) (fun ret20 w24 hR20=>?_)
       obtain ⟨r21,rfl,h,hB21⟩:=hR20
       refine⟨_,rfl,?_⟩
       replace hC:=hC.grow hB21
       refine Zc (v:=.int .i64 r21) rfl (dn (ZAc (sr (Za (v:=.int .i64 r21) rfl (Zq rfl rfl (dn ?_))))))
       refine Zr rfl (fun hb17=>?_) (fun hb17=>?_)
       ·replace h:=ift h (ct hb17)
        refine sr (Zc (v:=.bool false) rfl (dn ?_))
        refine ZAk (Ze ?_)
        refine Zg (fn:=ZNx) rfl ?_ ⟨false,rfl,h,hC.below⟩ (.inl rfl)
        exact Zf rfl
       ·replace h:=Zh h (cf hb17)
        refine ZAg (Zd (ZAc (sr (Za (v:=.int .i64 r21) rfl (Za (v:=.int .i64 r20) rfl (Y0 rfl rfl (dn ?_)))))))
        refine Zr rfl (fun hb18=>?_) (fun hb18=>?_)
        ·replace h:=ift h (ct hb18)
         refine sr (Zc (v:=.bool false) rfl (dn ?_))
         refine ZAk (Ze ?_)
         refine Zg (fn:=ZNx) rfl ?_ ⟨false,rfl,h,hC.below⟩ (.inl rfl)
         exact Zf rfl
        ·replace h:=Zh h (cf hb18)
         refine ZAg (Zd (sr (Yl hC 9 [u0_0,u0_1] rfl Zek rfl rfl rfl ?_)))
         refine Zk [.agg #[u0_0,u0_1]] _ ZN7 rfl rfl rfl (Zf0 (⟨a0.degrees,a0.images⟩:Alg) h _ (Jb (hC.getP 1 rfl) (hC.getP 0 rfl))) (fun ret21 w25 hR21=>?_)
         obtain ⟨r17,u19,u20,f18,rfl,h,hr15,hf15,hB22⟩:=hR21
         refine⟨_,rfl,?_⟩
         replace hC:=hC.push hB22 (ZAo (Zbf 2 49 44) r17 [u19,u20] f18) hr15 hf15
         obtain ⟨f19,ho16,ho17,hs16,hs17,hd13⟩:=Zff (hC.getM 0 rfl)
         replace hC:=hC.split (a:=own 2 1 u19 r17.degrees.length ((EI .i64).encs r17.degrees)) (b:=ZAo (ZGu 44 (Ya 49)) r17.images [u20] f19) hs16 hs17 ⟨ho16,ho17,hd13⟩
         refine Zk [.agg #[u19,u20]] _ Try.func7 rfl rfl rfl (Zku r17 h _ (Jb (Xr (hC.getM 0 rfl)) (ZNv _ (hC.getM 1 rfl).1))) (fun ret22 w26 hR22=>?_)
         obtain ⟨r26,u14,f20,r18,rfl,h,hr16,hf16,hB23⟩:=hR22
         refine⟨_,rfl,?_⟩
         replace hC:=hC.push hB23 (ZAo (ZGu 22 (ZGu 2 ((EI .i64).tr))) r26 [u14] f20) hr16 hf16
         refine Za (v:=.tuple #[u14,.int .i64 r18]) rfl (Xd (v:=u14) rfl rfl (Xd (v:=.int .i64 r18) rfl rfl (Zc (v:=u14) rfl (Zc (v:=.int .i64 r18) rfl (dn (ZAc (sr (Za (v:=u14) rfl (Za (v:=u13) rfl ?_)))))))))
         refine Zk [u14,u13] _ ZN6 rfl rfl rfl (Zht r26 r14 h _ (ZNv _ (hC.getM 0 rfl).1) (ZNv _ (hC.getM 9 rfl).1)) (fun ret23 w27 hR23=>?_)
         obtain ⟨r27,rfl,h,hB24⟩:=hR23
         refine⟨_,rfl,?_⟩
         replace hC:=hC.grow hB24
         refine Xc rfl (Za (v:=.bool (!r27)) rfl ?_)
         refine Yy (!r27) (fun hb13=>?_) (fun hb13=>?_)
         ·replace h:=ift h (Yw (Xg hb13))
          refine Zi (b:=true) 4 83 rfl (tr rfl (congrArg _ hb13)) (by decide) (Zi (b:=true) 4 83 rfl (tr rfl (congrArg _ hb13)) (by decide) (Zi (b:=true) 4 83 rfl (tr rfl (congrArg _ hb13)) (by decide) (Z3 (v:=.bool true) (b:=true) (tr rfl (congrArg _ hb13)) rfl (dn (Yf rfl rfl (sr (Zc (v:=.bool false) rfl (dn ?_))))))))
          refine ZAk (Ze ?_)
          refine Zg (fn:=ZNx) rfl ?_ ⟨false,rfl,h,hC.below⟩ (.inl rfl)
          exact Zf rfl
         ·replace h:=Zh h (not_not_intro ((Xh hb13)))
          refine Zj 4 83 rfl rfl hb13 (Za (v:=.int .i64 r18) rfl (Zj 4 83 rfl rfl hb13 (Za (v:=.int .i64 r12) rfl (Zj 4 83 rfl rfl hb13 (Y0 rfl rfl (Z3 (v:=.bool (decide (r18≠r12))) (b:=false) (tr rfl (congrArg _ hb13)) rfl (dn ?_)))))))
          refine Zr rfl (fun hb19=>?_) (fun hb19=>?_)
          ·replace h:=ift h (ct hb19)
           refine sr (Zc (v:=.bool false) rfl (dn ?_))
           refine ZAk (Ze ?_)
           refine Zg (fn:=ZNx) rfl ?_ ⟨false,rfl,h,hC.below⟩ (.inl rfl)
           exact Zf rfl
          ·replace h:=Zh h (cf hb19)
           refine ZAg (Zd (sr (Zc (v:=.int .i64 1) rfl (dn (sr (Za (v:=u12) rfl (Za (v:=.int .i64 1) rfl ?_)))))))
           refine Zk [u12,.int .i64 1] _ Try.func12 rfl rfl rfl (Zkv m11 1 h _ (ZNv _ (hC.getM 5 rfl).1)) (fun ret24 w28 hR24=>?_)
           obtain ⟨r22,rfl,h,hB25⟩:=hR24
           refine⟨_,rfl,?_⟩
           replace hC:=hC.grow hB25
           refine Zc (v:=.int .i64 r22) rfl (dn (ZAc (sr (Za (v:=.int .i64 r22) rfl (Zq rfl rfl (dn ?_))))))
           refine Zr rfl (fun hb20=>?_) (fun hb20=>?_)
           ·replace h:=ift h (ct hb20)
            refine sr (Zc (v:=.bool false) rfl (dn ?_))
            refine ZAk (Ze ?_)
            refine Zg (fn:=ZNx) rfl ?_ ⟨false,rfl,h,hC.below⟩ (.inl rfl)
            exact Zf rfl
           ·replace h:=Zh h (cf hb20)
            refine ZAg (Zd (ZAc (sr (Za (v:=.int .i64 r22) rfl (Za (v:=.int .i64 r20) rfl (Y0 rfl rfl (dn ?_)))))))
            refine Zr rfl (fun hb21=>?_) (fun hb21=>?_)
            ·replace h:=ift h (ct hb21)
             refine sr (Zc (v:=.bool false) rfl (dn ?_))
             refine ZAk (Ze ?_)
             refine Zg (fn:=ZNx) rfl ?_ ⟨false,rfl,h,hC.below⟩ (.inl rfl)
             exact Zf rfl
            ·replace h:=Zh h (cf hb21)
             refine ZAg (Zd (sr (Zc (v:=.bool true) rfl (dn (ZAk ?_)))))
             refine Zg (fn:=ZNx) rfl ?_ ⟨true,rfl,h,hC.below⟩ (.inl rfl)
             exact Zf rfl
end Go.Proofs.Ytheenipahifleaa
namespace Go.Proofs.Ytheenipahifleaa
open Go Vc
def wdU (m:A8):Nat→Int
  | 0=>0
  | i+1=>wdU m i+m.get i
theorem Zkw {m:A8} (pm:∀ i,i < 8→0≤m.get i∧m.get i≤255):∀ k:Nat,k≤8→0≤wdU m k∧wdU m k≤255 * k:=by
  intro k
  induction k with
  | zero=>intro _; simp [wdU]
  | succ k ih=>intro hk; have h1:=ih (by omega); have h2:=pm k (by omega); simp only [wdU]; omega
theorem Zrj {m : A8} (p : ∀ i, i < 8 → 0 ≤ m.get i) (h : wdU m 8 = 1) : ∃ q, q < 8 ∧ m = ZAi.set q 1 := by
  have p0:=p 0 (by omega)
  have p1:=p 1 (by omega)
  have p2:=p 2 (by omega)
  have p3:=p 3 (by omega)
  have p4:=p 4 (by omega)
  have p5:=p 5 (by omega)
  have p6:=p 6 (by omega)
  have p7:=p 7 (by omega)
  clear p
  obtain ⟨x0,x1,x2,x3,x4,x5,x6,x7⟩:=m
  simp only [wdU,A8.get] at *
  by_cases h0:x0=0
  · skip
    by_cases h1:x1=0
    · skip
      by_cases h2:x2=0
      · skip
        by_cases h3:x3=0
        · skip
          by_cases h4:x4=0
          · skip
            by_cases h5:x5=0
            · skip
              by_cases h6:x6=0
              · skip
                by_cases h7:x7=0
                · skip
                  omega
                · refine⟨7,by omega,?_⟩
                  have e:ZNu x0 x1 x2 x3 x4 x5 x6 x7=ZNu 0 0 0 0 0 0 0 1:=by rw [ZNz]; omega
                  exact e
              · refine⟨6,by omega,?_⟩
                have e:ZNu x0 x1 x2 x3 x4 x5 x6 x7=ZNu 0 0 0 0 0 0 1 0:=by rw [ZNz]; omega
                exact e
            · refine⟨5,by omega,?_⟩
              have e:ZNu x0 x1 x2 x3 x4 x5 x6 x7=ZNu 0 0 0 0 0 1 0 0:=by rw [ZNz]; omega
              exact e
          · refine⟨4,by omega,?_⟩
            have e:ZNu x0 x1 x2 x3 x4 x5 x6 x7=ZNu 0 0 0 0 1 0 0 0:=by rw [ZNz]; omega
            exact e
        · refine⟨3,by omega,?_⟩
          have e:ZNu x0 x1 x2 x3 x4 x5 x6 x7=ZNu 0 0 0 1 0 0 0 0:=by rw [ZNz]; omega
          exact e
      · refine⟨2,by omega,?_⟩
        have e:ZNu x0 x1 x2 x3 x4 x5 x6 x7=ZNu 0 0 1 0 0 0 0 0:=by rw [ZNz]; omega
        exact e
    · refine⟨1,by omega,?_⟩
      have e:ZNu x0 x1 x2 x3 x4 x5 x6 x7=ZNu 0 1 0 0 0 0 0 0:=by rw [ZNz]; omega
      exact e
  · refine⟨0,by omega,?_⟩
    have e:ZNu x0 x1 x2 x3 x4 x5 x6 x7=ZNu 1 0 0 0 0 0 0 0:=by rw [ZNz]; omega
    exact e
theorem Zrk {m:A8} {K:Int→Prop} (pm:∀ i,i < 8→0≤m.get i∧m.get i≤255) (h:K (wdU m 8)):Zel m K:=by
  unfold Zel
  refine Yz (fun i (s:Int)=>s=wdU m i) 8 ?_ ?_ _ _ _ (by omega) rfl
  · intro i s next hi hs hn
    have h1:=Zkw pm i (by omega)
    have h2:=pm i hi
    rw [i64_in (m.get i) (by omega),i64_in _ (by omega)]
    exact hn _ (by simp only [wdU]; rw [hs])
  · intro s hs; rw [hs]; exact h
theorem Zrl {m:A8} {K:Int→Prop} (pm:∀ i,i < 8→0≤m.get i∧m.get i≤255) (h:K (wdU m 8)):Zcw m K:=by
  unfold Zcw
  refine Yz (fun i (s:Int)=>s=wdU m i) 8 ?_ ?_ _ _ _ (by omega) rfl
  · intro i s next hi hs hn
    have h1:=Zkw pm i (by omega)
    have h2:=pm i hi
    rw [i64_in _ (by omega)]
    exact hn _ (by simp only [wdU]; rw [hs])
  · intro s hs; rw [hs]; exact h
def isQ (t:Term):Bool:=decide (wdU t.mono 8=2)
def J0 (f:ZAd):ZAd:=⟨f.terms.filter isQ⟩
theorem Zrm {l:List Term} {K:ZAd→Prop} (hp:Zbo l) (hl:l.length≤1048576) (h:K (J0 ⟨l⟩)):Zem ⟨l⟩ 2 K:=by
  unfold Zem
  dsimp only
  refine Xo (fun (s:List Term×Int)=>(0≤s.2∧s.2≤l.length)∧s.1=(l.take s.2.toNat).filter isQ) (fun s=>l.length - s.2.toNat) ?_ ⟨by dsimp only; omega,rfl⟩
  rintro ⟨s,i⟩ next ⟨g1,g2⟩ hn
  dsimp only at g1 g2 hn ⊢
  split
  · rename_i hi
    have hin:i.toNat < l.length:=by omega
    have ni:(i+1).toNat=i.toNat+1:=by omega
    have hle:s.length≤l.length:=by
      rw [g2]
      exact Zso (ZN2 _ _) (by rw [Zup]; omega)
    refine⟨by omega,Zrk (hp _ (Xv hin)) ?_⟩
    rw [i64_in (i+1) (by omega)]
    split
    · rename_i q
      refine⟨by omega,by unfold Xf; omega,hn _ ⟨by dsimp only; omega,?_⟩ (by dsimp only; omega)⟩
      dsimp only
      rw [ni,Jn hin,ZN3,g2,ZOm (by unfold isQ; exact decide_eq_true q),ZN8]
    · rename_i q
      refine hn _ ⟨by dsimp only; omega,?_⟩ (by dsimp only; omega)
      dsimp only
      rw [ni,Jn hin,ZN3,g2,ZOn (by unfold isQ; simpa using q),ZN8,ZN0]
  · rename_i hi
    rw [Ztt (by omega)] at g2
    rw [g2]; exact h
end Go.Proofs.Ytheenipahifleaa
namespace Go.Proofs.Ytheenipahifleaa
open Go Vc
theorem Zrn {l:List Int} {m:Int} {K:Int→List Int→Prop} (hm:0≤m∧m+l.length≤4611686018427387904) (h:∀ x',x'.length=l.length→(∀ K':Int→Prop,K' (m+l.length)→Zcr x' m K')→K (m+l.length) x'):Za6 l m K:=by
  unfold Za6
  refine Xo (fun (s:List Int×Int×Int)=>s.1.length=l.length∧(0≤s.2.2∧s.2.2≤l.length)∧s.2.1=m+s.2.2∧∀ j:Nat,(j:Int) < s.2.2→s.1.getD j Zsn=m+j) (fun s=>l.length - s.2.2.toNat) ?_ ⟨rfl,by dsimp only; omega,by simp,by intro j hj; dsimp only at hj; omega⟩
  rintro ⟨x,c,i⟩ next ⟨h1,h2,h3,h4⟩ hn
  dsimp only at h1 h2 h3 h4 ⊢
  split
  · rename_i hi
    refine⟨by omega,?_⟩
    rw [i64_in (c+1) (by omega),i64_in (i+1) (by omega)]
    refine hn _ ⟨by simpa using h1,by dsimp only; omega,by dsimp only; omega,fun j hj=>?_⟩ (by dsimp only; omega)
    dsimp only at hj ⊢
    rw [Zav (by omega)]
    split
    · omega
    · exact h4 j (by omega)
  · rename_i hi
    have hc:c=m+l.length:=by omega
    rw [hc]
    refine h x h1 fun K' hK'=>?_
    unfold Zcr
    refine Yz (fun i (s:Int)=>s=m+i) x.length ?_ ?_ _ _ _ (by omega) (by simp)
    · intro j s next hj hs hn'
      rw [if_neg (by rw [h4 j (by omega),hs]; simp),i64_in (s+1) (by omega)]
      exact hn' _ (by omega)
    · intro s hs
      rw [hs,h1]; exact hK'
def cnt (fs:List ZAd):Nat:=(fs.map (fun f=>f.terms.length)).sum
theorem Zro {l:List Int} {m:Int} {K:Int→List Int→Prop} (hm:0≤m∧m+l.length≤4611686018427387904) (h:∀ x',K (m+l.length) x'):Za6 l m K:=by
  unfold Za6
  refine Xo (fun (s:List Int×Int×Int)=>s.1.length=l.length∧(0≤s.2.2∧s.2.2≤l.length)∧s.2.1=m+s.2.2) (fun s=>l.length - s.2.2.toNat) ?_ ⟨rfl,by dsimp only; omega,by simp⟩
  rintro ⟨x,c,i⟩ next ⟨h1,h2,h3⟩ hn
  dsimp only at h1 h2 h3 ⊢
  split
  · rename_i hi
    refine⟨by omega,?_⟩
    rw [i64_in (c+1) (by omega),i64_in (i+1) (by omega)]
    exact hn _ ⟨by simpa using h1,by dsimp only; omega,by dsimp only; omega⟩ (by dsimp only; omega)
  · rename_i hi
    have hc:c=m+l.length:=by omega
    rw [hc]
    exact h x
theorem Zrp {fs:List ZAd} {B:Nat} (h:∀ i,i < fs.length→(fs.getD i Zsn).terms.length≤B):cnt fs≤fs.length * B:=by
  induction fs with
  | nil=>simp [cnt]
  | cons f fs ih =>
    have h0:=h 0 (by simp)
    have h1:=ih fun i hi=>by have:=h (i+1) (by simpa using hi); simpa using this
    simp only [List.getD_cons_zero] at h0
    simp only [cnt,Zto,List.sum_cons,Zvc,Nat.add_mul,Nat.one_mul] at h1 ⊢
    omega
theorem Zrq {fs:List ZAd} {m:Int} {K:Int→List ZAd→Prop} (hm:0≤m∧m+9 * cnt fs≤4611686018427387904) (h:∀ x' n,0≤n→n≤m+9 * cnt fs→K n x') (hl:fs.length≤1048576):Zeh fs m K:=by
  unfold Zeh
  let part (i:Nat):Int:=m+9 * cnt (fs.take i)
  have hp0:part 0=m:=by simp [part,cnt]
  have hps:∀ i,i < fs.length→part (i+1)=part i+9 * (fs.getD i Zsn).terms.length:=by
    intro i hi
    simp only [part,cnt,List.take_add_one,List.getElem?_eq_getElem hi,Option.toList_some,ZN9,List.sum_append,Zto,List.map_nil,List.sum_cons,List.sum_nil,List.getD,Option.getD_some]
    omega
  have hpl:part fs.length=m+9 * cnt fs:=by simp [part]
  have hmono:∀ i,i≤fs.length→m≤part i∧part i≤m+9 * cnt fs:=by
    intro i hi
    have:cnt fs=cnt (fs.take i)+cnt (fs.drop i):=by
      unfold cnt; rw [← List.sum_append,← ZN9,List.take_append_drop]
    simp only [part]; omega
  refine Xo (fun (s:List ZAd×Int×Int)=>s.1.length=fs.length∧(0≤s.2.2∧s.2.2≤fs.length)∧s.2.1=part s.2.2.toNat∧∀ j:Nat,s.2.2≤(j:Int)→s.1.getD j Zsn=fs.getD j Zsn) (fun s=>fs.length - s.2.2.toNat) ?_ ⟨rfl,by dsimp only; omega,by dsimp only; exact hp0.symm,fun _ _=>rfl⟩
  rintro ⟨x,c,i⟩ next ⟨h1,h2,h3,h5⟩ hn
  dsimp only at h1 h2 h3 h5 ⊢
  split
  · rename_i hi
    refine⟨by omega,?_⟩
    have hin:i.toNat < fs.length:=by omega
    have hxi:x.getD i.toNat Zsn=fs.getD i.toNat Zsn:=h5 _ (by omega)
    have hs:=hps i.toNat hin
    have hb:=hmono (i.toNat+1) (by omega)
    have hb0:=hmono i.toNat (by omega)
    rw [hxi]
    refine Zp6 (by rw [h3]; omega) fun y hy ht=>?_
    rw [i64_in (i+1) (by omega)]
    refine hn _ ⟨by simpa using h1,by dsimp only; omega,by dsimp only; rw [show (i+1).toNat=i.toNat+1 by omega,hs,h3],fun j hj=>?_⟩ (by dsimp only; omega)
    · dsimp only at hj ⊢
      rw [Zav (by omega),if_neg (by omega)]
      exact h5 j (by omega)
  · rename_i hi
    have hie:i.toNat=fs.length:=by omega
    have hc:c=part fs.length:=by rw [h3,hie]
    have hb:=hmono fs.length (Zsm _)
    rw [hc]
    exact h x _ (by omega) hb.2
theorem Zrr {a:Alg} {m:Int} {K:Int→Alg→Prop} (hm:0≤m∧m≤100000000000000000) (h1:a.degrees.length≤1048576) (h2:a.images.length≤1048576) (h3:∀ i,i < a.images.length→(a.images.getD i Zsn).terms.length≤1048576) (h:∀ x' n,0≤n→n≤m+10000000000000→K n x'):Zei a m K:=by
  unfold Zei
  have hc:=Zrp h3
  have hc2:a.images.length * 1048576≤1048576 * 1048576:=Nat.mul_le_mul_right _ h2
  refine Zro (by omega) fun d=>?_
  exact Zrq (by omega) (fun fs n h0 hn=>h _ n h0 (by omega)) (by omega)
end Go.Proofs.Ytheenipahifleaa
namespace Go.Proofs.Ytheenipahifleaa
open Go Vc
theorem Zrs {a b:List (List Int)} {K:Bool→Prop} (h:K (decide (a=b))):Zbq a b K:=Zhm (fun _ _ _ h=>Zjp h) h
theorem Zhu {l:List (List Int)} {K:Bool→Prop} (h:K true):Zbq l l K:=Zrs (by simpa using h)
theorem Zrt {l : List (List Int)} {m : Int} {K : Int → List (List Int) → Prop} (hm : 0 ≤ m ∧ m ≤ 1000000) (hl : l.length ≤ 1000) (hs : ∀ j, j < l.length → (l.getD j Zsn).length ≤ 1000) (h : ∀ x' n, (∀ K' : Int → Prop, K' n → Zcx x' m K') → 0 ≤ n → K n x') : Zen l m K := by
  unfold Zen
  refine Xo (fun (s:List (List Int)×Int×Int)=>s.1.length=l.length∧(0≤s.2.2∧s.2.2≤l.length)∧(0≤s.2.1∧s.2.1≤1000000+1000 * s.2.2)∧(∃ C:Nat→Int,C 0=m∧C s.2.2.toNat=s.2.1∧∀ j:Nat,(j:Int) < s.2.2→0≤C (j+1)∧∀ K':Int→Prop,K' (C (j+1))→Zcr (s.1.getD j Zsn) (C j) K')∧∀ j:Nat,s.2.2≤(j:Int)→s.1.getD j Zsn=l.getD j Zsn) (fun s=>l.length - s.2.2.toNat) ?_ ⟨rfl,by dsimp only; omega,by dsimp only; omega,⟨fun _=>m,rfl,rfl,by intro j hj; dsimp only at hj; omega⟩,fun _ _=>rfl⟩
  rintro ⟨x,c,i⟩ next ⟨h1,h2,h3,⟨C,hC0,hCi,h4⟩,h5⟩ hn
  dsimp only at h1 h2 h3 hCi h4 h5 hn ⊢
  by_cases hi:i < (x.length:Int)
  · refine Zac hi ⟨⟨h2.1,hi⟩,?_⟩
    have hin:i.toNat < x.length:=by omega
    have hx:=h5 i.toNat (by omega)
    have s1:=hs i.toNat (by omega)
    rw [hx,i64_in (i+1) (by omega)]
    refine Zrn (by omega) fun y hyl hh=>?_
    refine hn _ ⟨by simpa using h1,by dsimp only; omega,by dsimp only; omega,⟨fun q=>if q≤i.toNat then C q else c+(l.getD i.toNat Zsn).length,?_,?_,fun j hj=>?_⟩,fun j hj=>?_⟩ (by dsimp only; omega)
    · dsimp only; rw [if_pos (by omega)]; exact hC0
    · dsimp only; rw [if_neg (by omega)]
    · dsimp only at hj ⊢
      rw [Zav hin]
      by_cases e:j=i.toNat
      · subst e
        rw [if_pos rfl,if_pos (Zsm _),if_neg (by omega),hCi]
        exact⟨by omega,hh⟩
      · rw [if_neg e,if_pos (by omega),if_pos (by omega)]
        exact h4 j (by omega)
    · dsimp only at hj ⊢
      rw [Zav hin,if_neg (by omega)]
      exact h5 j (by omega)
  · refine J4 hi (h x c (fun K' hK'=>?_) h3.1)
    unfold Zcx
    refine Yz (fun j (s:Int)=>s=C j) x.length ?_ ?_ _ _ _ (by omega) hC0.symm
    · intro j s next hj hsj hn'
      obtain ⟨g0,g2⟩:=h4 j (by omega)
      rw [hsj]
      exact g2 _ (J4 (by omega) (hn' _ rfl))
    · intro s hsj
      rw [hsj,show x.length=i.toNat by omega,hCi]; exact hK'
end Go.Proofs.Ytheenipahifleaa
namespace Go.Proofs.Ytheenipahifleaa
open Go Vc
theorem Zkx {α : Type} {lt : α → α → Prop} (irr : ∀ a, ¬ lt a a) (tr : ∀ a b c, lt a b → lt b c → lt a c) : ∀ {l m : List α}, l.Pairwise lt → m.Pairwise lt → (∀ x, x ∈ l ↔ x ∈ m) → l = m
  | [],[],_,_,_=>rfl
  | [],b::m,_,_,h=>by have:=(h b).2 (by simp); simp at this
  | a::l,[],_,_,h=>by have:=(h a).1 (by simp); simp at this
  | a :: l, b :: m, hl, hm, h => by
    rw [List.pairwise_cons] at hl hm
    have hab:a=b:=by
      rcases Zsj.1 ((h a).1 (by simp)) with e | e
      · exact e
      · rcases Zsj.1 ((h b).2 (by simp)) with e' | e'
        · exact e'.symm
        · exact absurd (tr _ _ _ (hm.1 a e) (hl.1 b e')) (irr b)
    subst hab
    congr 1
    refine Zkx irr tr hl.2 hm.2 fun x=>⟨fun hx=>?_,fun hx=>?_⟩
    · rcases Zsj.1 ((h x).1 (ZOo _ hx)) with e | e
      · subst e; exact absurd (hl.1 x hx) (irr x)
      · exact e
    · rcases Zsj.1 ((h x).2 (ZOo _ hx)) with e | e
      · subst e; exact absurd (hm.1 x hx) (irr x)
      · exact e
theorem Zeo {α β:Type} {c:Nat}:∀ {l:List α} {f:α→List β}, (∀ x,x∈l→(f x).length≤c)→(l.flatMap f).length≤l.length * c
  | [],f,_=>by simp
  | a :: l, f, h => by
    have h1:=h a (by simp)
    have h2:=Zeo (l:=l) (f:=f) fun x hx=>h x (ZOo _ hx)
    rw [Zt5,Zs4,Zvc,Nat.add_mul,Nat.one_mul]
    omega
def Xn (j k:Nat):A8:=(ZAi.set j 1).set k ((ZAi.set j 1).get k+1)
theorem Zru {j k:Nat} (hj:j < 8) (hk:k < 8):(ZAi.set j (ZAm.wrap ((ZAi.get j)+1))).set k (ZAm.wrap (((ZAi.set j (ZAm.wrap ((ZAi.get j)+1))).get k)+1))=Xn j k:=by
  have:∀ j,j < 8→∀ k,k < 8→(ZAi.set j (ZAm.wrap ((ZAi.get j)+1))).set k (ZAm.wrap (((ZAi.set j (ZAm.wrap ((ZAi.get j)+1))).get k)+1))=Xn j k:=by decide +kernel
  exact this j hj k hk
theorem Zrv {j k:Nat} (hj:j < 8) (hk:k < 8):Xn j k=Xn k j:=by
  have:∀ j,j < 8→∀ k,k < 8→Xn j k=Xn k j:=by decide +kernel
  exact this j hj k hk
theorem Zrw {j k:Nat} (hj:j < 8) (hk:k < 8):1≤(Xn j k).get j∧1≤(Xn j k).get k∧wdU (Xn j k) 8=2:=by
  have:∀ j,j < 8→∀ k,k < 8→1≤(Xn j k).get j∧1≤(Xn j k).get k∧wdU (Xn j k) 8=2:=by decide +kernel
  exact this j hj k hk
def idx (m:A8):Nat→List Int
  | 0=>[]
  | k+1=>idx m k++List.replicate (m.get k).toNat (k:Int)
theorem Zky {j k:Nat} (hk:k < 8) (hj:j≤k):idx (Xn j k) 8=[(j:Int),(k:Int)]:=by
  have:∀ k,k < 8→∀ j,j < 8→j≤k→idx (Xn j k) 8=[(j:Int),(k:Int)]:=by decide +kernel
  exact this k hk j (by omega) hj
theorem Zhv {m:A8} (pm:∀ i,i < 8→0≤m.get i∧m.get i≤255):∀ k,k≤8→(idx m k).length≤255 * k
  | 0,_=>by simp [idx]
  | k + 1, h => by
    have:=Zhv pm k (by omega)
    have:=pm k (by omega)
    rw [idx,Zs4,List.length_replicate]; omega
theorem Zrx {m:A8} {q:Nat} {v:Int} (hq:q < 8):wdU (m.set q v) 8=wdU m 8 - m.get q+v:=by
  obtain ⟨x0,x1,x2,x3,x4,x5,x6,x7⟩:=m
  match q,hq with
  | 0,_ | 1,_ | 2,_ | 3,_ | 4,_ | 5,_ | 6,_ | 7,_=>simp only [wdU,A8.set,A8.get]; omega
theorem Zry {m:A8} (p:∀ i,i < 8→0≤m.get i) (h:wdU m 8=2):∃ j k,j≤k∧k < 8∧m=Xn j k:=by
  have hq:∃ q,q < 8∧1≤m.get q:=by
    refine Classical.byContradiction fun hno=>?_
    have hz:∀ i,i < 8→m.get i=0:=fun i hi=>by
      have:=p i hi
      rcases Int.lt_or_le (m.get i) 1 with q | q
      · omega
      · exact absurd ⟨i,hi,q⟩ hno
    simp [wdU,hz] at h
  obtain ⟨q,hq,h1⟩:=hq
  have hw:=Zrx (m:=m) (q:=q) (v:=m.get q - 1) hq
  obtain ⟨r,hr,e⟩:=Zrj (m:=m.set q (m.get q - 1)) (fun i hi=>by
    rw [ZC4 hq]; split
    · omega
    · exact p i hi) (by omega)
  have em:m=Xn r q:=by
    rw [Xn,← e]
    refine A8.ext_get fun i hi=>?_
    rw [ZC4 hq]
    split
    · rename_i c; subst c; rw [ZC4 hq,if_pos rfl]; omega
    · rename_i c; rw [ZC4 hq,if_neg c]
  by_cases c:r≤q
  · exact⟨r,q,c,hq,em⟩
  · exact⟨q,r,by omega,hr,by rw [em]; exact Zrv hr hq⟩
def Za7 (i:Nat) (t:Term):List Int:=((i:Int)::idx t.mono 8)++[t.factor]
def Zbr (a:Alg) (i:Nat):List (List Int):=((a.images.getD i Zsn).terms.filter isQ).map (Za7 i)
def J1 (a:Alg) (n:Nat):List (List Int):=(Zs5 n).flatMap (Zbr a)
theorem Zrz (a:Alg) (n:Nat):J1 a (n+1)=J1 a n++Zbr a n:=by
  rw [J1,ZOa,ZOb,Zt5,ZOc,ZN0]; rfl
theorem Zkz {a:Alg} (hf:Jz a) {n:Nat} (hn:n≤a.images.length):(J1 a n).length≤n * 1048576:=by
  have:=Zeo (c:=1048576) (l:=Zs5 n) (f:=Zbr a) fun i hi=>by
    have:=(hf i (by have:=Zt9.1 hi; omega)).2
    rw [Zbr,ZOd]
    exact Zso (ZN2 _ _) this
  rwa [ZOe] at this
theorem Zr0 {m:A8} {i:Nat} {K:List Int→Prop} (pm:∀ i,i < 8→0≤m.get i∧m.get i≤255) (h:K ((i:Int)::idx m 8)) :
    Yh (fun i12 (s11:(List Int)) nx12=>Xa (fun (s12:(List Int)×Int) nx13=>(if s12.2 < m.get i12 then(Xf (s12.1.length+1) 8∧nx13 (s12.1++[(i12:Int)],ZAm.wrap (s12.2+1))) else nx12 s12.1)) (s11,0)) K 8 0 [(i:Int)]:=by
  refine Yz (fun q (s:List Int)=>s=(i:Int)::idx m q) 8 ?_ ?_ _ _ _ (by omega) rfl
  · intro q s next hq hs hn
    have hp:=pm q hq
    have hl:=Zhv pm q (by omega)
    have hsl:s.length=(idx m q).length+1:=by rw [hs]; rfl
    refine Xo (fun (z:List Int×Int)=>(0≤z.2∧z.2≤m.get q)∧z.1=s++List.replicate z.2.toNat (q:Int)) (fun z=>(m.get q).toNat - z.2.toNat) ?_ ⟨by dsimp only; omega,by simp⟩
    rintro ⟨z,c⟩ nx ⟨g1,g2⟩ hnx
    dsimp only at g1 g2 hnx ⊢
    have hz:z.length=s.length+c.toNat:=by rw [g2]; simp
    by_cases hc:c < m.get q
    · refine Zac hc ⟨by unfold Xf; omega,?_⟩
      rw [show ZAm.wrap (c+1)=c+1 by simp [IntKind.wrap,IntKind.bits,IntKind.signed]; omega]
      refine hnx _ ⟨by dsimp only; omega,?_⟩ (by dsimp only; omega)
      dsimp only
      rw [show (c+1).toNat=c.toNat+1 by omega,List.replicate_succ',g2,ZN4]
    · refine J4 hc (hn _ ?_)
      rw [g2,hs,idx,show c=m.get q by omega]; rfl
  · intro s hs; rw [hs]; exact h
theorem Zr1 {a : Alg} (ok : OkAlg a) (hf : Jz a) {K : List (List Int) → Prop} (h : K (J1 a a.images.length)) :
    Yh (fun i10 (s13:(List (List Int))) nx11=>Yh (fun i11 (s10:(List (List Int))) nx10=>Zak ((((a.images.getD i10 Zsn).terms).getD i11 Zsn).mono) (fun r11=>Zcw r11 (fun r12=>(if r12≠2 then nx10 s10 else Yh (fun i12 (s11:(List Int)) nx12=>Xa (fun (s12:(List Int)×Int) nx13=>(if s12.2 < ((((a.images.getD i10 Zsn).terms).getD i11 Zsn).mono).get i12 then(Xf (s12.1.length+1) 8∧nx13 (s12.1++[(i12:Int)],ZAm.wrap (s12.2+1))) else nx12 s12.1)) (s11,0)) (fun (s11:(List Int))=>(Xf (s11.length+1) 8∧(Xf (s10.length+1) 24∧nx10 (s10++[s11++[(((a.images.getD i10 Zsn).terms).getD i11 Zsn).factor]])))) 8 0 [(i10:Int)])))) (fun (s10:(List (List Int)))=>nx11 s10) (((a.images.getD i10 Zsn).terms).length) 0 s13) K a.images.length 0 []:=by
  have h8:=ok.deg.1
  have hlen:=ok.len
  refine Yz (fun i (s:List (List Int))=>s=J1 a i) a.images.length ?_ ?_ _ _ _ (by omega) rfl
  · intro i s next hi hs hn
    obtain ⟨hft,hfl⟩:=hf i hi
    have hpl:=Zkz hf (Nat.le_of_lt hi)
    refine Yz (fun j (s':List (List Int))=>s'=J1 a i++(((a.images.getD i Zsn).terms.take j).filter isQ).map (Za7 i)) (a.images.getD i Zsn).terms.length ?_ ?_ _ _ _ (by omega) (by simp [hs])
    · intro j s' nx hj hs' hnx
      have hm:=Xv hj
      have pm:=hft.pos _ hm
      have ht:=Jn hj
      refine Zd4 (hft _ hm) (Zrl pm ?_)
      by_cases q:wdU ((a.images.getD i Zsn).terms.getD j Zsn).mono 8=2
      · refine J4 (not_not_intro q) (Zr0 pm ⟨?_,?_,hnx _ ?_⟩)
        · have:=Zhv pm 8 (by omega)
          unfold Xf; rw [Zvc]; omega
        · have:s'.length≤(J1 a i).length+(a.images.getD i Zsn).terms.length:=by
            rw [hs',Zs4,ZOd]
            have:=ZN2 isQ ((a.images.getD i Zsn).terms.take j)
            rw [Zup] at this; omega
          have:i * 1048576≤8 * 1048576:=Nat.mul_le_mul_right _ (by omega)
          unfold Xf; omega
        · rw [ht,ZN3,ZN9,ZOm (by unfold isQ; exact decide_eq_true q),ZN8,Zto,List.map_nil,← ZN4,← hs']; rfl
      · refine Zac q (hnx _ ?_)
        rw [ht,ZN3,ZOn (by unfold isQ; simpa using q),ZN8,ZN0]; exact hs'
    · intro s' hs'
      refine hn _ ?_
      rw [hs',Ztt (Zsm _),Zrz]; rfl
  · intro s hs; rw [hs]; exact h
def Xb (l:List Term) (i j k:Int):List (List Int):=(l.filter fun t=>decide (t.mono=Xn j.toNat k.toNat)).map fun t=>[i,j,k,t.factor]
def Jo (l:List Term) (i j:Int) (n:Nat):List (List Int):=(Zs5 n).flatMap fun k:Nat=>if j≤(k:Int) then Xb l i j k else []
def J2 (l:List Term) (i:Int) (d n:Nat):List (List Int):=(Zs5 n).flatMap fun j:Nat=>Jo l i j d
def Jp (a:Alg) (n:Nat):List (List Int):=(Zs5 n).flatMap fun i:Nat=>J2 (J0 (a.images.getD i Zsn)).terms i a.degrees.length a.degrees.length
theorem Zk0 (l:List Term) (i j k:Int):(Xb l i j k).length≤l.length:=by
  rw [Xb,ZOd]; exact ZN2 _ _
theorem Zr2 {t:Term} {i j k:Int} (q:t.mono=Xn j.toNat k.toNat):Xb [t] i j k=[[i,j,k,t.factor]]:=by
  rw [Xb,ZOm (by exact decide_eq_true q)]; rfl
theorem Zr3 {t:Term} {i j k:Int} (q:¬ t.mono=Xn j.toNat k.toNat):Xb [t] i j k=[]:=by
  rw [Xb,ZOn (by simpa using q)]; rfl
theorem Zk1 (l:List Term) (i j:Int) (n:Nat) {c:Nat} (hc:∀ i j k,(Xb l i j k).length≤c):(Jo l i j n).length≤n * c:=by
  have:=Zeo (c:=c) (l:=Zs5 n) (f:=fun k:Nat=>if j≤(k:Int) then Xb l i j k else []) fun k _=>by
    split
    · exact hc _ _ _
    · simp
  rwa [ZOe] at this
theorem Zk2 (l:List Term) (i:Int) (d n:Nat) {c:Nat} (hc:∀ i j k,(Xb l i j k).length≤c):(J2 l i d n).length≤n * (d * c):=by
  have:=Zeo (c:=d * c) (l:=Zs5 n) (f:=fun j:Nat=>Jo l i j d) fun k _=>Zk1 l i k d hc
  rwa [ZOe] at this
theorem Zr4 (l:List Term) (i j:Int) (n:Nat) (h:j≤n):Jo l i j (n+1)=Jo l i j n++Xb l i j n:=by
  rw [Jo,ZOa,ZOb,Zt5,ZOc,ZN0,if_pos h]; rfl
theorem Zr5 (l:List Term) (i:Int) (j:Nat):Jo l i j j=[]:=by
  rw [Jo,List.flatMap_eq_nil_iff]
  intro k hk
  rw [if_neg (by have:=Zt9.1 hk; omega)]
theorem Zr6 (l:List Term) (i:Int) (d n:Nat):J2 l i d (n+1)=J2 l i d n++Jo l i n d:=by
  rw [J2,ZOa,ZOb,Zt5,ZOc,ZN0]; rfl
theorem Zr7 (a:Alg) (n:Nat):Jp a (n+1)=Jp a n++J2 (J0 (a.images.getD n Zsn)).terms n a.degrees.length a.degrees.length:=by
  rw [Jp,ZOa,ZOb,Zt5,ZOc,ZN0]; rfl
theorem Zr8 {l:List Term} {i j k:Int} {s0:List (List Int)} {next:List (List Int)×Int→Prop} (hj:0≤j∧j < 8) (hk:0≤k∧k < 8) (hl:l.length≤1048576) (hs:s0.length≤1000000000) (h:next (s0++Xb l i j k,Zu2.wrap (k+1))) :
    Xa (fun (s11:(List (List Int))×Int) nx10=>(if s11.2 < (l.length:Int) then((0≤s11.2∧s11.2 < (l.length:Int))∧(if(l.getD s11.2.toNat Zsn).mono=(ZAi.set j.toNat (ZAm.wrap ((ZAi.get j.toNat)+1))).set k.toNat (ZAm.wrap (((ZAi.set j.toNat (ZAm.wrap ((ZAi.get j.toNat)+1))).get k.toNat)+1)) then((0≤s11.2∧s11.2 < (l.length:Int))∧(Xf (s11.1.length+1) 24∧nx10 (s11.1++[[i,j,k,(l.getD s11.2.toNat Zsn).factor]],Zu2.wrap (s11.2+1)))) else nx10 (s11.1,Zu2.wrap (s11.2+1)))) else next (s11.1,Zu2.wrap (k+1)))) (s0,0):=by
  rw [Zru (by omega) (by omega)]
  refine Xo (fun (z:List (List Int)×Int)=>(0≤z.2∧z.2≤l.length)∧z.1=s0++Xb (l.take z.2.toNat) i j k) (fun z=>l.length - z.2.toNat) ?_ ⟨by dsimp only; omega,by simp [Xb]⟩
  rintro ⟨z,c⟩ nx ⟨g1,g2⟩ hnx
  dsimp only at g1 g2 hnx ⊢
  by_cases hc:c < (l.length:Int)
  · have hcn:c.toNat < l.length:=by omega
    refine Zac hc ⟨by omega,?_⟩
    rw [i64_in (c+1) (by omega)]
    have hzl:z.length≤s0.length+l.length:=by
      have:=Zk0 (l.take c.toNat) i j k
      rw [Zup] at this
      rw [g2,Zs4]; omega
    have hsT:Xb (l.take (c+1).toNat) i j k=Xb (l.take c.toNat) i j k++Xb [l.getD c.toNat Zsn] i j k:=by
      rw [show (c+1).toNat=c.toNat+1 by omega,Jn hcn,Xb,ZN3,ZN9]; rfl
    by_cases q:(l.getD c.toNat Zsn).mono=Xn j.toNat k.toNat
    · refine Zac q ⟨by omega,by unfold Xf; omega,hnx _ ⟨by dsimp only; omega,?_⟩ (by dsimp only; omega)⟩
      dsimp only
      rw [hsT,g2,ZN4,Zr2 q]
    · refine J4 q (hnx _ ⟨by dsimp only; omega,?_⟩ (by dsimp only; omega))
      dsimp only
      rw [hsT,g2,Zr3 q,ZN0]
  · refine J4 hc ?_
    rw [Ztt (by omega)] at g2
    rw [g2]; exact h
theorem Zk3 {f:ZAd} (h:f.terms.length≤1048576):(J0 f).terms.length≤1048576:=Zso (ZN2 _ _) h
theorem Zk4 {l:List Term} (h:l.length≤1048576) (i j k:Int):(Xb l i j k).length≤1048576:=Zso (Zk0 l i j k) h
theorem Zk5 {a:Alg} (hf:Jz a) (h8:a.degrees.length≤8) {n:Nat} (hn:n≤a.images.length) (c:Nat) (hc:∀ i,i < a.images.length→∀ i' j k,(Xb (J0 (a.images.getD i Zsn)).terms i' j k).length≤c):(Jp a n).length≤n * (a.degrees.length * (a.degrees.length * c)):=by
  have:=Zeo (c:=a.degrees.length * (a.degrees.length * c)) (l:=Zs5 n) (f:=fun i:Nat=>J2 (J0 (a.images.getD i Zsn)).terms i a.degrees.length a.degrees.length) fun k hk=>Zk2 _ _ _ _ (hc k (by have:=Zt9.1 hk; omega))
  rwa [ZOe] at this
theorem Zk6 {a : Alg} (hf : Jz a) {K : List (List Int) → Int → Prop} (h1 : ¬ OkAlg a → K [] 1) (h0 : OkAlg a → K (Jp a a.images.length) 0) : Zcv a K := by
  unfold Zcv
  refine Zqs hf (fun ok=>?_) (fun no=>Zac (by simp) (h1 no))
  refine J4 (by simp) ?_
  have h8:=ok.deg.1
  have hlen:=ok.len
  have hd:a.degrees.length * (a.degrees.length * 1048576)≤8 * (8 * 1048576):=ZNy h8 (ZNy h8 (Zsm _))
  have hd1:a.degrees.length * 1048576≤8 * 1048576:=ZNy h8 (Zsm _)
  refine Xo (fun (s:List (List Int)×Int)=>(0≤s.2∧s.2≤a.images.length)∧s.1=Jp a s.2.toNat) (fun s=>a.images.length - s.2.toNat) ?_ ⟨by dsimp only; omega,rfl⟩
  rintro ⟨s,i⟩ next ⟨g1,g2⟩ hn
  dsimp only at g1 g2 hn ⊢
  by_cases hi:i < (a.images.length:Int)
  · have hin:i.toNat < a.images.length:=by omega
    obtain ⟨hft,hfl⟩:=hf _ hin
    have hL:(⟨(a.images.getD i.toNat Zsn).terms⟩:ZAd)=a.images.getD i.toNat Zsn:=rfl
    refine Zac hi ⟨by omega,?_⟩
    rw [← hL]
    refine Zrm hft.pos hfl ?_
    rw [hL]
    have hq:=Zk3 hfl
    have hcap:=Zk4 hq
    have hls:s.length≤8 * (8 * (8 * 1048576)):=by
      rw [g2]
      exact Zso (Zk5 hf h8 (Nat.le_of_lt hin) 1048576 fun i hi=>Zk4 (Zk3 (hf i hi).2)) (ZNy (by omega) hd)
    refine Xo (fun (z:List (List Int)×Int)=>(0≤z.2∧z.2≤a.degrees.length)∧z.1=s++J2 (J0 (a.images.getD i.toNat Zsn)).terms i a.degrees.length z.2.toNat) (fun z=>a.degrees.length - z.2.toNat) ?_ ⟨by dsimp only; omega,by simp [J2]⟩
    rintro ⟨z,j⟩ nj ⟨e1,e2⟩ hnj
    dsimp only at e1 e2 hnj ⊢
    by_cases hj:j < (a.degrees.length:Int)
    · refine Zac hj ?_
      have hlz:z.length≤s.length+8 * (8 * 1048576):=by
        have:=Zk2 (J0 (a.images.getD i.toNat Zsn)).terms i a.degrees.length j.toNat hcap
        have:j.toNat * (a.degrees.length * 1048576)≤8 * (8 * 1048576):=ZNy (by omega) hd1
        rw [e2,Zs4]; omega
      refine Xo (fun (y:List (List Int)×Int)=>(j≤y.2∧y.2≤a.degrees.length)∧y.1=z++Jo (J0 (a.images.getD i.toNat Zsn)).terms i j y.2.toNat) (fun y=>a.degrees.length - y.2.toNat) ?_ ⟨by dsimp only; omega,?_⟩
      · rintro ⟨y,k⟩ nk ⟨u1,u2⟩ hnk
        dsimp only at u1 u2 hnk ⊢
        by_cases hk:k < (a.degrees.length:Int)
        · refine Zac hk ⟨by omega,by omega,by omega,by omega,Zr8 (by omega) (by omega) hq ?_ ?_⟩
          · have:=Zk1 (J0 (a.images.getD i.toNat Zsn)).terms i j k.toNat hcap
            have:k.toNat * 1048576≤8 * 1048576:=ZNy (by omega) (Zsm _)
            rw [u2,Zs4]; omega
          · rw [i64_in (k+1) (by omega)]
            refine hnk _ ⟨by dsimp only; omega,?_⟩ (by dsimp only; omega)
            dsimp only
            rw [show (k+1).toNat=k.toNat+1 by omega,Zr4 _ _ _ _ (by omega),u2,ZN4,show ((k.toNat:Nat):Int)=k by omega]
        · refine J4 hk ?_
          rw [i64_in (j+1) (by omega)]
          refine hnj _ ⟨by dsimp only; omega,?_⟩ (by dsimp only; omega)
          dsimp only
          rw [show (j+1).toNat=j.toNat+1 by omega,Zr6,u2,e2,ZN4,show ((j.toNat:Nat):Int)=j by omega,show k.toNat=a.degrees.length by omega]
      · dsimp only
        have:=Zr5 (J0 (a.images.getD i.toNat Zsn)).terms i j.toNat
        rw [show ((j.toNat:Nat):Int)=j by omega] at this
        rw [this,ZN0]
    · refine J4 hj ?_
      rw [i64_in (i+1) (by omega)]
      refine hn _ ⟨by dsimp only; omega,?_⟩ (by dsimp only; omega)
      dsimp only
      rw [show (i+1).toNat=i.toNat+1 by omega,Zr7,e2,g2,show ((i.toNat:Nat):Int)=i by omega,show j.toNat=a.degrees.length by omega]
  · refine J4 hi ?_
    have:=h0 ok
    rw [g2,show i.toNat=a.images.length by omega]; exact this
theorem Zr9 {α:Type}:∀ {l:List α}, l.Pairwise (fun _ _=>False)→l.length≤1
  | [],_=>by simp
  | [_],_=>by simp
  | a::b::l,h=>by rw [List.pairwise_cons] at h; exact absurd (h.1 b (by simp)) id
theorem Zk7 {l:List Term} (hc:l.Pairwise (fun a b=>pcmp a.mono b.mono < 0)) (i j k:Int):(l.filter fun t=>decide (t.mono=Xn j.toNat k.toNat)).Pairwise (fun _ _=>False):=by
  rw [List.pairwise_filter]
  refine hc.imp fun {x y} h hx hy=>Zcj h ?_
  rw [of_decide_eq_true hx,of_decide_eq_true hy]
theorem Zk8 {f:ZAd} (hc:Canon f.terms):(J0 f).terms.Pairwise (fun a b=>pcmp a.mono b.mono < 0):=hc.1.filter _
theorem Zhw {l:List Term} {i:Int} {d n:Nat} {x:List Int} (h:x∈J2 l i d n):∃ j k f:Int,x=[i,j,k,f]:=by
  simp only [J2,Jo,ZOf] at h
  obtain ⟨j,_,k,_,h⟩:=h
  split at h
  · simp only [Xb,Zty] at h
    obtain ⟨t,_,rfl⟩:=h
    exact⟨_,_,_,rfl⟩
  · cases h
theorem Zk9 {l:List Term} {i j:Int} {n:Nat} {x:List Int} (h:x∈Jo l i j n):∃ k f:Int,x=[i,j,k,f]:=by
  simp only [Jo,ZOf] at h
  obtain ⟨k,_,h⟩:=h
  split at h
  · simp only [Xb,Zty] at h
    obtain ⟨t,_,rfl⟩:=h
    exact⟨_,_,rfl⟩
  · cases h
theorem Zgd (n:Nat):(Zs5 n).Pairwise (· < ·):=List.pairwise_lt_range
theorem Zsa {a : Alg} (ok : OkAlg a) : (Jp a a.images.length).Pairwise (fun x y => Ym x y < 0) := by
  rw [Jp,ZOg]
  refine⟨fun i hi=>?_,(Zgd _).imp fun {i i'} hii x hx y hy=>?_⟩
  · have hi':=Zt9.1 hi
    have hq:=Zk8 (ok.frm i hi').canon
    rw [J2,ZOg]
    refine⟨fun j hj=>?_,(Zgd _).imp fun {j j'} hjj x hx y hy=>?_⟩
    · rw [Jo,ZOg]
      refine⟨fun k hk=>?_,(Zgd _).imp fun {k k'} hkk x hx y hy=>?_⟩
      · split
        · rw [Xb,List.pairwise_map]
          exact(Zk7 hq i j k).imp fun {_ _} h=>absurd h id
        · exact List.Pairwise.nil
      · split at hx
        · split at hy
          · simp only [Xb,Zty] at hx hy
            obtain ⟨t,_,rfl⟩:=hx
            obtain ⟨t',_,rfl⟩:=hy
            simp only [Ym,Int.lt_irrefl,if_false]
            rw [if_pos (by omega)]; omega
          · cases hy
        · cases hx
    · obtain ⟨k,f,rfl⟩:=Zk9 hx
      obtain ⟨k',f',rfl⟩:=Zk9 hy
      simp only [Ym,Int.lt_irrefl,if_false]
      rw [if_pos (by omega)]; omega
  · obtain ⟨j,k,f,rfl⟩:=Zhw hx
    obtain ⟨j',k',f',rfl⟩:=Zhw hy
    simp only [Ym]
    rw [if_pos (by omega)]; omega
theorem Zhx {m:A8} (pm:∀ i,i < 8→0≤m.get i∧m.get i≤255) (h:wdU m 8=2):∃ j k,j≤k∧k < 8∧m=Xn j k∧idx m 8=[(j:Int),(k:Int)]:=by
  obtain ⟨j,k,h1,h2,e⟩:=Zry (fun i hi=>(pm i hi).1) h
  exact⟨j,k,h1,h2,e,by rw [e]; exact Zky h2 h1⟩
theorem Zsb {a:Alg} (ok:OkAlg a) (hf:Jz a) (x:List Int):x∈J1 a a.images.length↔x∈Jp a a.images.length:=by
  simp only [J1,Zbr,Jp,J2,Jo,J0,ZOf,Zty,ZN1,Zt9]
  constructor
  · rintro ⟨i,hi,t,⟨ht,hq⟩,rfl⟩
    have hq':wdU t.mono 8=2:=of_decide_eq_true hq
    have pm:=(hf i hi).1.pos t ht
    obtain ⟨j,k,h1,h2,e,er⟩:=Zhx pm hq'
    have hw:=Zrw (j:=j) (k:=k) (by omega) h2
    have hm:=(ok.frm i hi).mono (t:=t) ht
    have low:∀ q,q < 8→1≤t.mono.get q→q < a.degrees.length:=fun q hq h=>by
      rcases Nat.lt_or_ge q a.degrees.length with z | z
      · exact z
      · have:=(hm q hq).2 z; omega
    refine⟨i,hi,j,low j (by omega) (by rw [e]; exact hw.1),k,low k h2 (by rw [e]; exact hw.2.1),?_⟩
    rw [if_pos (by omega),Xb,Zty]
    refine⟨t,ZN1.2 ⟨ZN1.2 ⟨ht,hq⟩,by simpa using e⟩,?_⟩
    rw [Za7,er]; rfl
  · rintro ⟨i,hi,j,hj,k,hk,h⟩
    have h8:=ok.deg.1
    split at h
    · rename_i hjk
      rw [Xb,Zty] at h
      obtain ⟨t,ht,rfl⟩:=h
      obtain ⟨h1,h2⟩:=ZN1.1 ht
      obtain ⟨h1,h3⟩:=ZN1.1 h1
      have e:t.mono=Xn j k:=by simpa using h2
      refine⟨i,hi,t,⟨h1,h3⟩,?_⟩
      rw [Za7,e,Zky (by omega) (by omega)]; rfl
    · cases h
theorem Zsc {a:Alg} (ok:OkAlg a) (hf:Jz a):(J1 a a.images.length).Nodup:=by
  show List.Pairwise _ _
  rw [J1,ZOg]
  refine⟨fun i hi=>?_,(Zgd _).imp fun {i i'} hii x hx y hy=>?_⟩
  · have hi':=Zt9.1 hi
    have hc:=(ok.frm i hi').canon
    rw [Zbr,List.pairwise_map]
    have hp:((a.images.getD i Zsn).terms.filter isQ).Pairwise (fun x y=>pcmp x.mono y.mono < 0):=hc.1.filter _
    refine hp.imp_of_mem fun {x y} hx hy h e=>Zcj h ?_
    obtain ⟨mx,qx⟩:=ZN1.1 hx
    obtain ⟨my,qy⟩:=ZN1.1 hy
    obtain ⟨j,k,_,_,e1,r1⟩:=Zhx ((hf i hi').1.pos x mx) (of_decide_eq_true qx)
    obtain ⟨j',k',_,_,e2,r2⟩:=Zhx ((hf i hi').1.pos y my) (of_decide_eq_true qy)
    rw [Za7,Za7,r1,r2] at e
    simp only [List.cons_append,List.nil_append,Zwm,true_and] at e
    rw [e1,e2,show j=j' by omega,show k=k' by omega]
  · simp only [Zbr,Zty] at hx hy
    obtain ⟨t,_,rfl⟩:=hx
    obtain ⟨t',_,rfl⟩:=hy
    intro e
    rw [Za7,Za7] at e
    simp only [List.cons_append,Zwm] at e
    omega
theorem Zsd {a:Alg} (ok:OkAlg a) (hf:Jz a) {xs:List (List Int)} (hp:xs.Perm (J1 a a.images.length)) (hs:xs.Pairwise (fun x y=>¬ Ym y x < 0)):xs=Jp a a.images.length:=by
  have hn:xs.Nodup:=hp.nodup_iff.2 (Zsc ok hf)
  refine Zkx (lt:=fun x y=>Ym x y < 0) (fun x h=>?_) (fun x y z=>Zgb) ?_ (Zsa ok) fun x=>hp.mem_iff.trans (Zsb ok hf x)
  · rw [Zhr] at h; omega
  · have h2:=List.pairwise_and_iff.2 ⟨hs,hn⟩
    refine h2.imp fun {x y} h=>?_
    have:=Zej x y
    rcases Int.lt_trichotomy (Ym x y) 0 with q | q | q
    · exact q
    · exact absurd (Zga q) h.2
    · exact absurd (show Ym y x < 0 by omega) h.1
theorem Zse {a:Alg} (ok:OkAlg a) (hf:Jz a):(Jp a a.images.length).length≤1000:=by
  have h8:=ok.deg.1
  have hlen:=ok.len
  have:=Zk5 hf h8 (Zsm _) 1 fun i hi i' j k=>by
    rw [Xb,ZOd]
    exact Zr9 (Zk7 (Zk8 (ok.frm i hi).canon) i' j k)
  have h2:a.images.length * (a.degrees.length * (a.degrees.length * 1))≤8 * (8 * (8 * 1)):=ZNy (by omega) (ZNy h8 (ZNy h8 (Zsm _)))
  omega
theorem Zla {a:Alg} (hf:Jz a) {K:List (List Int)→Int→Prop} (h1:¬ OkAlg a→K [] 1) (h0:OkAlg a→K (Jp a a.images.length) 0):Zbp a K:=by
  unfold Zbp
  refine Zqu hf (fun ok=>J4 (by decide) ?_) (fun no=>Zac (by decide) (h1 no))
  refine Zr1 ok hf (K:=fun s13=>Zhq Ym s13 fun xs10=>K xs10 0) ⟨?_,fun xs hp hs=>?_⟩
  · have:=Zkz hf (Zsm a.images.length)
    have h8:=ok.deg.1
    have hlen:=ok.len
    have:a.images.length * 1048576≤8 * 1048576:=ZNy (by omega) (Zsm _)
    omega
  · rw [Zsd ok hf hp hs]; exact h0 ok
theorem Zsf (a0:Alg) (hg:GoodAlg a0) (hb:LenAlg a0):Zgc a0 (fun r=>r=true):=by
  unfold Zgc
  refine Zqy hb (fun r hr d1 d2 d3=>?_) (fun r hr=>by rw [if_pos hr])
  rw [if_neg (by omega)]
  have hf:=hg.fit d3
  obtain ⟨x,y,s1,s2,s3,s4⟩:∃ x y,(∀ K:List (List Int)→Int→Prop,K x y→Zcv a0 K)∧(∀ K:List (List Int)→Int→Prop,K x y→Zbp a0 K)∧x.length≤1000∧∀ j,j < x.length→(x.getD j Zsn).length≤1000:=by
    by_cases ok:OkAlg a0
    · refine⟨_,0,fun K h=>Zk6 hf (fun z=>absurd ok z) (fun _=>h),fun K h=>Zla hf (fun z=>absurd ok z) (fun _=>h),Zse ok hf,fun j hj=>?_⟩
      have hm:=Xv hj
      rw [Jp] at hm
      simp only [ZOf] at hm
      obtain ⟨i,_,hm⟩:=hm
      obtain ⟨_,_,_,e⟩:=Zhw hm
      rw [Jp,e]; simp
    · exact⟨[],1,fun K h=>Zk6 hf (fun _=>h) (fun z=>absurd z ok),fun K h=>Zla hf (fun _=>h) (fun z=>absurd z ok),by simp,by simp⟩
  refine Zf9 d1 d2 d3 (s1 _ (Zf9 d1 d2 d3 (s2 _ (Zhu (Zf5 (Zf6 (Zf9 d1 d2 d3 (Zq0 (Zf5 ?_)))))))))
  refine Zrr (by omega) d1 d2 d3 fun x0 n0 n1 n2=>?_
  refine Zho (by omega) (Zhu (Zf5 ?_))
  refine Zrt (by omega) s3 s4 fun x' n hh hn=>?_
  refine hh _ (Zho hn (Zf6 ?_))
  refine Zf9 (a:=a0) d1 d2 d3 (s2 _ (Zhu (Zf5 (Zf6 ?_))))
  exact hh _ (Zho hn (Zf6 rfl))
end Go.Proofs.Ytheenipahifleaa
