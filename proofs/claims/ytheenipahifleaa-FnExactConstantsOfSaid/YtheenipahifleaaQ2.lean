import Derived.Test.YtheenipahifleaaQ1
set_option linter.unusedSectionVars false
set_option linter.unusedSimpArgs false
set_option linter.unusedVariables false
open Go renaming wp_seq→ZAc,wp_skip→ZAg,wp_ret→ZAk,wp_block→ZAl,wp_exit→ZAt
open Go.IntKind renaming i64→Zu2,u8→ZAm
open Go.Proofs.Try renaming prog→ZAf,underlying22→ZAu,underlying95→ZCy,func84→ZCz,underlying42→ZAj,underlying55→ZBh,underlying49→ZAr,underlying44→ZAh,underlying30→ZAy,underlying32→ZAs,f43→ZC2,underlying47→ZAp,func20→ZC6,underlying64→ZDc
open Go.Value renaming map→ZC0,ownBlock→Zth,int→ZC8
open Inhabited renaming default→Zsn
open Int renaming tmod→Ztb,natCast_nonneg→ZAx,ofNat_lt→ZBk,zero_add→ZC1,toNat_of_nonneg→ZC9,tmod_eq_emod_of_nonneg→ZEq
open List renaming toArray→ZAa,replicate→Zsi,mem_cons→Zsj,not_mem_nil→Zur,mem_singleton→Zt8,getD→Zsu,length_eq_one_iff→ZA6
open Nat renaming le_of_ble_eq_true→ZAe,le_trans→Zso,le_refl→Zsm,lt_of_le_of_lt→ZDa,zero_le→Zun
open Option renaming toList→ZA7
open Vc renaming ETerm→ZAb,TForm→ZAq,Form→ZAd
open Vc.A8 renaming enc→Zz8,zero→ZAi,enc_get→ZAw,enc_set→ZA5,get_set→ZC4,ext_get→ZC5
open Vc.Ctx renaming start→ZAv
open Vc.Enc renaming encs_len→ZDb
open Vc.Term renaming enc→ZAn
open Vc.Ty renaming item→Zz9
set_option maxRecDepth 4000
set_option maxHeartbeats 4000000
namespace Go.Proofs.Ytheenipahifleaa
open Go Go.RowKit Vc
def Zdk (a0:A8) (a1:List Int) (a2:A8) (K:A8→Int→Prop):Prop :=
 Yh (fun i10 (s12:Int) nx10=>(if Ztb (a1.getD i10 Zsn) 2=0 then nx10 s12 else((0≤(i10:Int)∧(i10:Int) < 8)∧(if a0.get i10 > 0 then((0≤(i10:Int)∧(i10:Int) < 8)∧(if a2.get i10 > 0 then K ZAi 0 else((0≤(i10:Int)∧(i10:Int) < 8)∧nx10 s12))) else((0≤(i10:Int)∧(i10:Int) < 8)∧(if a2.get i10 > 0 then Xa (fun (s10:Int×Int) nx11=>(if s10.1 < (a1.length:Int) then((0≤s10.1∧s10.1 < (a1.length:Int))∧((0≤s10.1∧s10.1 < 8)∧nx11 (Zu2.wrap (s10.1+1),Zu2.wrap (s10.2+(Zu2.wrap ((Ztb (a1.getD s10.1.toNat Zsn) 2) * (a0.get s10.1.toNat))))))) else nx10 s10.2)) (Zu2.wrap ((i10:Int)+1),s12) else nx10 s12)))))) (fun (s12:Int)=>Yh (fun i11 (s11:A8) nx12=>nx12 (s11.set i11 (Zu2.wrap ((s11.get i11)+(a2.get i11))))) (fun (s11:A8)=>(if Ztb s12 2=1 then K s11 (-1) else K s11 1)) 8 0 a0) a1.length 0 0
theorem Znu (a0:A8) (a1:List Int) (a2:A8) {u1_0:Value} {fp1:List Nat} {K:A8→Int→Prop} (h:Zdk a0 a1 a2 K) (w0:World) (q1:((EI .i64).ty.sl).rep a1 [u1_0] fp1 w0) :
  Calls ZAf 97 #[.agg (ZAa (Zz8 .i64 a0)),u1_0,.agg (ZAa (Zz8 .i64 a2))] w0 fun e w'=>∃ (r0:A8) (r1:Int),
   e=.returned (.tuple #[.agg (ZAa (Zz8 .i64 r0)),.int .i64 r1])∧K r0 r1∧Bel w0 w':=by
 unfold Zdk at h
 refine Zz (args:=[.agg (ZAa (Zz8 .i64 a0)),u1_0,.agg (ZAa (Zz8 .i64 a2))]) Try.func97 rfl 75 Try.ntmps97 (ZAe rfl) ?_
 have hC:=ZAv (X:=Nox) w0 [Zz9 ((EI .i64).ty.sl) a1 [u1_0] fp1] (by simp only [Zsj,Zur,or_false,forall_eq_or_imp,forall_eq]; exact q1)
 refine sr (Yg (v:=.agg (ZAa (Zz8 .i64 a0))) hC (Zz8 .i64 a0) rfl rfl fun b2 w4 hB_ hC=>Yg (v:=.agg (ZAa (Zz8 .i64 a2))) hC (Zz8 .i64 a2) rfl rfl fun b5 w7 hB_ hC=>Ye hC (Zz8 .i64 ZAi) z55 rfl fun b8 w10 hB_ hC=>Zc (v:=.int .i64 0) rfl (dn (sr (Zc (v:=.int .i64 0) rfl (dn (ZAc (sr (Za (v:=u1_0) rfl ?_))))))))
 obtain ⟨Ad11,c10,hv12⟩:=Zw (hC.getP 0 rfl)
 refine Zv ZAu (tr rfl hv12) (Za (v:=.int .i64 0) rfl (dn (ZAl ?_)))
 have hN10:a1.length≤9223372036854775807:=Y9 (hC.getP 0 rfl)
 refine Yp (S:=Int) _ _ (fun i10 s12 e_ w_=>Z1 e_ [(1,u1_0),(3,.pointer (some ⟨b2,0,none⟩)),(5,.pointer (some ⟨b5,0,none⟩)),(6,.pointer (some ⟨b8,0,none⟩)),(8,.int .i64 s12),(13,u1_0),(14,.int .i64 (a1.length:Int)),(15,.int .i64 (i10:Int))]∧Ctx Nox w0 w_ [blk b8 55 (Zz8 .i64 ZAi),blk b5 55 (Zz8 .i64 a2),blk b2 55 (Zz8 .i64 a0)] [Zz9 ((EI .i64).ty.sl) a1 [u1_0] fp1]) a1.length ?_ ?_ (s0:=0) ?_ h
 ·clear hC h
  rintro i10 s12 e_ w11 nx10 K10 hi10 ⟨hS_,hC⟩ h hK10
  rw [ue hS_]
  refine sr (Zq rfl rfl (dn (ZAc (Yf rfl (decide_eq_true (by omega)) (ZAg (Zd (ZAc (ZAl (sr (Za (v:=.int .i64 (i10:Int)) rfl ?_))))))))))
  obtain ⟨Ad12,c11,hv10⟩:=Z6 (hC.getP 0 rfl) i10 hi10
  refine Yv (len:=a1.length) ZAu sc2.size (tr rfl hv10) rfl (ZAx _) (ZBk.2 hi10) (Xy (.int .i64 (a1.getD i10 Zsn)) (Yj (hC.getP 0 rfl) hv10 i10 hi10) sc2 rfl (Zc (v:=.int .i64 (i10:Int)) rfl (Zc (v:=.int .i64 (a1.getD i10 Zsn)) rfl (dn (ZAc (sr (Za (v:=.int .i64 (a1.getD i10 Zsn)) rfl (Jf rfl rfl (by decide) (Ji rfl rfl (dn ?_))))))))))
  refine Zr rfl (fun hb12=>?_) (fun hb12=>?_)
  ·replace h:=ift h (ct hb12)
   refine ZAt (Zl (Z4 ?_))
   refine Zd (Zn (Zp rfl rfl (Za (v:=.int .i64 (Zu2.wrap ((i10:Int)+1))) rfl (done ?_))))
   exact hK10 s12 _ _ ⟨(sl ⟨rfl,rfl,rfl,rfl,rfl,rfl,rfl,(tr rfl (congrArg _ (Yb hi10 hN10))),trivial⟩),hC⟩ h
  ·replace h:=Zh h (cf hb12)
   refine ZAg (Zd (ZAc (sr (Za (v:=.int .i64 (i10:Int)) rfl ?_))))
   obtain ⟨⟨h10,h11⟩,h⟩:=h
   refine Y1 i10 ZBh sc3.size rfl rfl h10 h11 (by omega) (Z0 hC 2 (.int .i64 (a0.get i10)) rfl sc3 rfl (ZAw _ _ (show i10 < 8 by omega)) (Jg rfl rfl (Za (v:=.bool (decide (a0.get i10 > 0))) rfl ?_)))
   refine Yy (decide (a0.get i10 > 0)) (fun hb10=>?_) (fun hb10=>?_)
   ·replace h:=ift h (ct hb10)
    refine Zj 4 27 rfl rfl hb10 (Za (v:=.int .i64 (i10:Int)) rfl (Zj 4 27 rfl rfl hb10 ?_))
    obtain ⟨⟨h12,h13⟩,h⟩:=h
    refine Y1 i10 ZBh sc3.size rfl rfl h12 h13 (by omega) (Zj 4 27 rfl rfl hb10 (Z0 hC 1 (.int .i64 (a2.get i10)) rfl sc3 rfl (ZAw _ _ (show i10 < 8 by omega)) (Zj 4 27 rfl rfl hb10 (Jg rfl rfl (Z3 (v:=.bool (decide (a2.get i10 > 0))) (b:=true) (tr rfl (congrArg _ hb10)) rfl (dn ?_))))))
    refine Zr rfl (fun hb11=>?_) (fun hb11=>?_)
    ·replace h:=ift h (ct hb11)
     refine sr (Jl [] rfl (Zg9   _) (Zy (v:=.agg (ZAa (Zz8 .i64 ZAi))) hC 0 (Zz8 .i64 ZAi) (Zz8 .i64 ZAi) rfl ag55.size rfl rfl rfl rfl rfl (ZAe rfl) rfl fun w12 hC=>Zc (v:=.int .i64 0) rfl (dn ?_)))
     refine ZAk (Ze (Z2 (Ze (Ze (Z2 (Ze ?_))))))
     refine Jj (fn:=Try.f97) rfl ?_ ?_ ⟨ZAi,0,rfl,h,hC.below⟩ (.inl rfl)
     ·exact X9 hC 0 rfl ag55 rfl rfl
     ·exact Zf rfl
    ·replace h:=Zh h (cf hb11)
     refine ZAg (Zd (sr (Za (v:=.int .i64 (i10:Int)) rfl ?_)))
     obtain ⟨⟨h14,h15⟩,h⟩:=h
     refine Y1 i10 ZBh sc3.size rfl rfl h14 h15 (by omega) (Z0 hC 1 (.int .i64 (a2.get i10)) rfl sc3 rfl (ZAw _ _ (show i10 < 8 by omega)) (Jg rfl rfl (dn (Yd rfl hb11 (ZAg (Zt (Zd (Zn (Zp rfl rfl (Za (v:=.int .i64 (Zu2.wrap ((i10:Int)+1))) rfl (done ?_)))))))))))
     exact hK10 s12 _ _ ⟨(sl ⟨rfl,rfl,rfl,rfl,rfl,rfl,rfl,(tr rfl (congrArg _ (Yb hi10 hN10))),trivial⟩),hC⟩ h
   ·replace h:=Zh h (cf hb10)
    refine Zi (b:=false) 4 27 rfl (tr rfl (congrArg _ hb10)) (by decide) (Zi (b:=false) 4 27 rfl (tr rfl (congrArg _ hb10)) (by decide) (Zi (b:=false) 4 27 rfl (tr rfl (congrArg _ hb10)) (by decide) (Zi (b:=false) 4 27 rfl (tr rfl (congrArg _ hb10)) (by decide) (Z3 (v:=.bool false) (b:=false) (tr rfl (congrArg _ hb10)) rfl (dn (Yd rfl rfl (ZAg (Zd (sr (Za (v:=.int .i64 (i10:Int)) rfl ?_))))))))))
    obtain ⟨⟨h16,h17⟩,h⟩:=h
    refine Y1 i10 ZBh sc3.size rfl rfl h16 h17 (by omega) (Z0 hC 1 (.int .i64 (a2.get i10)) rfl sc3 rfl (ZAw _ _ (show i10 < 8 by omega)) (Jg rfl rfl (dn ?_)))
    refine Zr rfl (fun hb13=>?_) (fun hb13=>?_)
    ·replace h:=ift h (ct hb13)
     refine sr (Za (v:=.int .i64 (i10:Int)) rfl (Zp rfl rfl (Zc (v:=.int .i64 (Zu2.wrap ((i10:Int)+1))) rfl (dn (ZAl ?_)))))
     refine Xq (S:=Int×Int) _ (fun s10 e_ w_=>Z1 e_ [(1,u1_0),(3,.pointer (some ⟨b2,0,none⟩)),(5,.pointer (some ⟨b5,0,none⟩)),(6,.pointer (some ⟨b8,0,none⟩)),(8,.int .i64 s10.2),(11,.int .i64 s10.1),(13,u1_0),(14,.int .i64 (a1.length:Int)),(15,.int .i64 (i10:Int))]∧Ctx Nox w0 w_ [blk b8 55 (Zz8 .i64 ZAi),blk b5 55 (Zz8 .i64 a2),blk b2 55 (Zz8 .i64 a0)] [Zz9 ((EI .i64).ty.sl) a1 [u1_0] fp1]) ?_ (s0:=(Zu2.wrap ((i10:Int)+1),s12)) ?_ h
     ·clear hC h
      rintro s10 e_ w13 nx11 K12 ⟨hS_,hC⟩ h hK11
      rw [ue hS_]
      refine ZAc (sr (Za (v:=.int .i64 s10.1) rfl (Za (v:=u1_0) rfl ?_)))
      obtain ⟨Ad13,c12,hv13⟩:=Zw (hC.getP 0 rfl)
      refine Zv ZAu (tr rfl hv13) (Zq rfl rfl (dn ?_))
      refine Zr rfl (fun hb14=>?_) (fun hb14=>?_)
      ·replace h:=ift h (ct hb14)
       refine ZAg (Zd (ZAc (ZAl ?_)))
       refine Yq 10 mixed [0,0,0,6,14,30,0,64,192,510,1023,2047] [3,4,7,8] [0,1,2,5,6,9] (by kernel_rfl) (by kernel_rfl) (by kernel_rfl) (fun hM11 hM10 w14 hB_=>?_)
       replace hC:=hC.grow hB_
       refine aF 0 (.int .i64 s10.2) rfl rfl (hM10 0 rfl) (rfl) (fun _=>by exact Zs (v:=.int .i64 s10.2) rfl) (Zb 12 1) (aF 1 (u1_0) rfl rfl (hM10 1 rfl) (rfl) (fun _=>by exact Zs (v:=u1_0) rfl) (Zb 12 3) (aF 2 (.int .i64 s10.1) rfl rfl (hM10 2 rfl) (rfl) (fun _=>by exact Zs (v:=.int .i64 s10.1) rfl) (Zb 12 7) ?_))
       obtain ⟨⟨h18,h19⟩,h⟩:=h
       obtain ⟨Ad10,c13,hv11⟩:=Z6 (hC.getP 0 rfl) s10.1.toNat (show s10.1.toNat < a1.length by omega)
       refine aL 3 (.pointer (some (Ad10.add (s10.1.toNat * 1)))) rfl rfl (hM11 3 rfl) (rfl) (fun _ hB_=>by exact Y2 (len:=a1.length) ZAu sc2.size (by exact tr rfl hv11) rfl h18 h19) (Zb 12 15) (aL 4 (.int .i64 (a1.getD s10.1.toNat Zsn)) rfl rfl (hM11 4 rfl) (rfl) (fun _ hB_=>by exact J9 (.int .i64 (a1.getD s10.1.toNat Zsn)) (Yj ((hC.grow hB_).getP 0 rfl) hv11 s10.1.toNat (show s10.1.toNat < a1.length by omega)) sc2 rfl) (Zb 12 31) (aF 5 (.int .i64 (Ztb (a1.getD s10.1.toNat Zsn) 2)) rfl rfl (hM10 5 rfl) (rfl) (fun _=>by exact Zlj rfl rfl (by decide)) (Zb 12 63) (aF 6 (.int .i64 s10.1) rfl rfl (hM10 6 rfl) (rfl) (fun _=>by exact Zs (v:=.int .i64 s10.1) rfl) (Zb 12 127) ?_)))
       obtain ⟨⟨h20,h21⟩,h⟩:=h
       refine aL 7 (.pointer (some ⟨b2,s10.1.toNat,none⟩)) rfl rfl (hM11 7 rfl) (rfl) (fun _ hB_=>by exact X8 s10.1.toNat ZBh sc3.size rfl rfl h20 h21 (by omega)) (Zb 12 255) (aL 8 (.int .i64 (a0.get s10.1.toNat)) rfl rfl (hM11 8 rfl) (rfl) (fun _ hB_=>by exact Yc (hC.grow hB_) 2 (.int .i64 (a0.get s10.1.toNat)) rfl sc3 rfl (ZAw _ _ (show s10.1.toNat < 8 by omega))) (Zb 12 511) (aF 9 (.int .i64 (Zu2.wrap ((Ztb (a1.getD s10.1.toNat Zsn) 2) * (a0.get s10.1.toNat)))) rfl rfl (hM10 9 rfl) (rfl) (fun _=>by exact Zc1 rfl rfl) (Zb 12 1023) (Z7 10 (by decide) (by decide) (by kernel_rfl) (by kernel_rfl) rfl (Zp rfl rfl (Zc (v:=.int .i64 (Zu2.wrap (s10.2+(Zu2.wrap ((Ztb (a1.getD s10.1.toNat Zsn) 2) * (a0.get s10.1.toNat)))))) rfl (done (Z8 (Zt (Zd (Zn (Za (v:=.int .i64 s10.1) rfl ?_)))))))))))
       refine Zp rfl rfl (Zc (v:=.int .i64 (Zu2.wrap (s10.1+1))) rfl (done ?_))
       exact hK11 (Zu2.wrap (s10.1+1),Zu2.wrap (s10.2+(Zu2.wrap ((Ztb (a1.getD s10.1.toNat Zsn) 2) * (a0.get s10.1.toNat))))) _ _ ⟨(sl ⟨rfl,rfl,rfl,rfl,rfl,rfl,rfl,rfl,rfl,trivial⟩),hC⟩ h
      ·replace h:=Zh h (cf hb14)
       refine ZAt (Zl (Zl (Z4 ?_)))
       refine Zt (Zd (Zn (Zp rfl rfl (Za (v:=.int .i64 (Zu2.wrap ((i10:Int)+1))) rfl (done ?_)))))
       exact hK10 s10.2 _ _ ⟨(sl ⟨rfl,rfl,rfl,rfl,rfl,rfl,rfl,(tr rfl (congrArg _ (Yb hi10 hN10))),trivial⟩),hC⟩ h
     ·skip
      exact⟨(sl ⟨rfl,rfl,rfl,rfl,rfl,rfl,rfl,rfl,rfl,trivial⟩),hC⟩
    ·replace h:=Zh h (cf hb13)
     refine ZAg (Zt (Zd (Zn (Zp rfl rfl (Za (v:=.int .i64 (Zu2.wrap ((i10:Int)+1))) rfl (done ?_))))))
     exact hK10 s12 _ _ ⟨(sl ⟨rfl,rfl,rfl,rfl,rfl,rfl,rfl,(tr rfl (congrArg _ (Yb hi10 hN10))),trivial⟩),hC⟩ h
 ·clear hC h
  rintro s12 e_ w15 K10 ⟨hS_,hC⟩ h
  rw [ue hS_]
  refine sr (Zq rfl rfl (dn (ZAc (Yd rfl (decide_eq_false (by omega)) ?_))))
  refine ZAt (Zl (Zl (Z4 ?_)))
  refine Zd (ZAc (sr (Za (v:=.int .i64 0) rfl (dn (ZAl ?_)))))
  refine Yp (S:=A8) _ _ (fun i11 s11 e_ w_=>Z1 e_ [(3,.pointer (some ⟨b2,0,none⟩)),(5,.pointer (some ⟨b5,0,none⟩)),(6,.pointer (some ⟨b8,0,none⟩)),(8,.int .i64 s12),(58,.int .i64 (i11:Int))]∧Ctx Nox w0 w_ [blk b8 55 (Zz8 .i64 ZAi),blk b5 55 (Zz8 .i64 a2),blk b2 55 (Zz8 .i64 s11)] [Zz9 ((EI .i64).ty.sl) a1 [u1_0] fp1]) 8 ?_ ?_ (s0:=a0) ?_ h
  ·clear hC h
   rintro i11 s11 e_ w16 nx12 K11 hi11 ⟨hS_,hC⟩ h hK12
   rw [ue hS_]
   refine sr (Zq rfl rfl (dn (ZAc (Yf rfl (decide_eq_true (by omega)) (ZAg (Zd (ZAc (ZAl (sr (Za (v:=.int .i64 (i11:Int)) rfl (Zc (v:=.int .i64 (i11:Int)) rfl ?_)))))))))))
   refine dn ?_
   refine Yq 6 mixed [0,1,3,0,8,24,63,127,255] [1,2,4,5] [0,3] (by kernel_rfl) (by kernel_rfl) (by kernel_rfl) (fun hM12 hM13 w17 hB_=>?_)
   replace hC:=hC.grow hB_
   refine aF 0 (.int .i64 (i11:Int)) rfl rfl (hM13 0 rfl) (rfl) (fun _=>by exact Zs (v:=.int .i64 (i11:Int)) rfl) (Zb 9 1) (aL 1 (.pointer (some ⟨b2,i11,none⟩)) rfl rfl (hM12 1 rfl) (rfl) (fun _ hB_=>by exact X8 i11 ZBh sc3.size rfl rfl (ZAx _) (by omega) (by omega)) (Zb 9 3) (aL 2 (.int .i64 (s11.get i11)) rfl rfl (hM12 2 rfl) (rfl) (fun _ hB_=>by exact Yc (hC.grow hB_) 2 (.int .i64 (s11.get i11)) rfl sc3 rfl (ZAw _ _ hi11)) (Zb 9 7) (aF 3 (.int .i64 (i11:Int)) rfl rfl (hM13 3 rfl) (rfl) (fun _=>by exact Zs (v:=.int .i64 (i11:Int)) rfl) (Zb 9 15) (aL 4 (.pointer (some ⟨b5,i11,none⟩)) rfl rfl (hM12 4 rfl) (rfl) (fun _ hB_=>by exact X8 i11 ZBh sc3.size rfl rfl (ZAx _) (by omega) (by omega)) (Zb 9 31) (aL 5 (.int .i64 (a2.get i11)) rfl rfl (hM12 5 rfl) (rfl) (fun _ hB_=>by exact Yc (hC.grow hB_) 1 (.int .i64 (a2.get i11)) rfl sc3 rfl (ZAw _ _ hi11)) (Zb 9 63) (Z7 6 (by decide) (by decide) (by kernel_rfl) (by kernel_rfl) rfl (Zp rfl rfl (Y1 i11 ZBh sc3.size rfl rfl (ZAx _) (by omega) (by omega) (Zy (v:=.int .i64 (Zu2.wrap ((s11.get i11)+(a2.get i11)))) hC 2 [.int .i64 (Zu2.wrap ((s11.get i11)+(a2.get i11)))] (Zz8 .i64 (s11.set i11 (Zu2.wrap ((s11.get i11)+(a2.get i11))))) rfl sc3.size rfl rfl rfl rfl rfl hi11 (ZA5 _ _ _ hi11) fun w18 hC=>done ?_)))))))))
   refine Z8 (Zt (Zd (Zn (Zp rfl rfl (Za (v:=.int .i64 (Zu2.wrap ((i11:Int)+1))) rfl (done ?_))))))
   exact hK12 (s11.set i11 (Zu2.wrap ((s11.get i11)+(a2.get i11)))) _ _ ⟨(sl ⟨rfl,rfl,rfl,rfl,(tr rfl (congrArg _ (Yb hi11 (by decide)))),trivial⟩),hC⟩ h
  ·clear hC h
   rintro s11 e_ w19 K11 ⟨hS_,hC⟩ h
   rw [ue hS_]
   refine sr (Zq rfl rfl (dn (ZAc (Yd rfl (decide_eq_false (by omega)) ?_))))
   refine ZAt (Zl (Zl (Z4 ?_)))
   refine Zd (ZAc (sr (Za (v:=.int .i64 s12) rfl (Jf rfl rfl (by decide) (Ji rfl rfl (dn ?_))))))
   refine Zr rfl (fun hb15=>?_) (fun hb15=>?_)
   ·replace h:=ift h (ct hb15)
    refine sr (Yl hC 2 (Zz8 .i64 s11) rfl ag55 rfl rfl rfl (Zy (v:=.agg (ZAa (Zz8 .i64 s11))) hC 0 (Zz8 .i64 s11) (Zz8 .i64 s11) rfl ag55.size rfl rfl rfl rfl rfl (ZAe rfl) rfl fun w20 hC=>Zc (v:=.int .i64 (-1)) rfl (dn ?_)))
    refine ZAk (Ze ?_)
    refine Jj (fn:=Try.f97) rfl ?_ ?_ ⟨s11,(-1),rfl,h,hC.below⟩ (.inl rfl)
    ·exact X9 hC 0 rfl ag55 rfl rfl
    ·exact Zf rfl
   ·replace h:=Zh h (cf hb15)
    refine ZAg (Zd (sr (Yl hC 2 (Zz8 .i64 s11) rfl ag55 rfl rfl rfl (Zy (v:=.agg (ZAa (Zz8 .i64 s11))) hC 0 (Zz8 .i64 s11) (Zz8 .i64 s11) rfl ag55.size rfl rfl rfl rfl rfl (ZAe rfl) rfl fun w21 hC=>Zc (v:=.int .i64 1) rfl (dn (ZAk ?_))))))
    refine Jj (fn:=Try.f97) rfl ?_ ?_ ⟨s11,1,rfl,h,hC.below⟩ (.inl rfl)
    ·exact X9 hC 0 rfl ag55 rfl rfl
    ·exact Zf rfl
  ·skip
   exact⟨(sl ⟨rfl,rfl,rfl,rfl,rfl,trivial⟩),hC⟩
 ·skip
  exact⟨(sl ⟨rfl,rfl,rfl,rfl,rfl,rfl,rfl,rfl,trivial⟩),hC⟩
def Zcd (a0:List (A8×Int)) (a1:A8) (a2:Int) (K:List (A8×Int)→Prop):Prop :=
 Za3 (Zu2.wrap (((Xz a0 a1).getD 0)+a2)) (fun r8=>(if r8≠0 then K (Yk a0 a1 r8) else K (Xk a0 a1)))
theorem Zjg (a0:List (A8×Int)) (a1:A8) (a2:Int) {b0:Nat} {K:List (A8×Int)→Prop} (h:Zcd a0 a1 a2 K) (w0:World) (q0:(Zm (kvA .i64) (vvI .i64) b0 a0).holds w0) :
  Calls ZAf 98 #[.map (some b0),.agg (ZAa (Zz8 .i64 a1)),.int .i64 a2] w0 fun e w'=>∃ (m0:List (A8×Int)),
   e=.returned (.tuple #[])∧K m0∧(Zm (kvA .i64) (vvI .i64) b0 m0).holds w'∧BelB b0 w0 w':=by
 unfold Zcd at h
 refine Zz (args:=[.map (some b0),.agg (ZAa (Zz8 .i64 a1)),.int .i64 a2]) Try.func98 rfl 20 Try.ntmps98 (ZAe rfl) ?_
 have hC:=Ctx.start1 w0 b0 (it:=Zm (kvA .i64) (vvI .i64) b0 a0) rfl [] q0 (by simp) (by simp)
 refine sr (Yg (v:=.agg (ZAa (Zz8 .i64 a1))) hC (Zz8 .i64 a1) rfl rfl fun b2 w4 hB_ hC=>dn (sr (Za (v:=.map (some b0)) rfl (Yl hC 0 (Zz8 .i64 a1) rfl ag55 rfl rfl rfl (Zmd a1 0 (hC.getM 1 rfl) X4 ZCy z2 rfl rfl (Za (v:=.int .i64 a2) rfl (Zp rfl rfl ?_)))))))
 refine Zk [.int .i64 (Zu2.wrap (((Xz a0 a1).getD 0)+a2))] _ Try.func86 rfl rfl rfl (Zjf (Zu2.wrap (((Xz a0 a1).getD 0)+a2)) h _) (fun ret5 w7 hR6=>?_)
 obtain ⟨r8,rfl,h,hB9⟩:=hR6
 refine⟨_,rfl,?_⟩
 replace hC:=hC.grow hB9
 refine Zc (v:=.int .i64 r8) rfl (dn (sr (Za (v:=.int .i64 r8) rfl (Y0 rfl rfl (dn ?_)))))
 refine Zr rfl (fun hb10=>?_) (fun hb10=>?_)
 ·replace h:=ift h (ct hb10)
  refine Zn (Za (v:=.map (some b0)) rfl (Yl hC 0 (Zz8 .i64 a1) rfl ag55 rfl rfl rfl (Za (v:=.int .i64 r8) rfl ?_)))
  refine Ziw hC 1 a1 r8 rfl X4 ZCy rfl rfl rfl (fun w10 hC=>?_) (.inl rfl)
  refine done ?_
  refine Zgl (fn:=Try.f98) rfl  ⟨Yk a0 a1 r8,rfl,h,(hC.getM 1 rfl),hC.belB⟩ (.inr rfl)
 ·replace h:=Zh h (cf hb10)
  refine Zn (Za (v:=.map (some b0)) rfl (Yl hC 0 (Zz8 .i64 a1) rfl ag55 rfl rfl rfl (Zmb hC 1 a1 rfl X4 ZCy rfl rfl rfl fun w11 hC=>done ?_)))
  refine Zgl (fn:=Try.f98) rfl  ⟨Xk a0 a1,rfl,h,(hC.getM 1 rfl),hC.belB⟩ (.inr rfl)
def Zce (a0:ZAd) (K:List (A8×Int)→Prop):Prop :=
 Yh (fun i10 (s10:(List (A8×Int))) nx10=>Zak ((a0.terms.getD i10 Zsn).mono) (fun r10=>nx10 (Yk s10 r10 ((a0.terms.getD i10 Zsn).factor)))) (fun (s10:(List (A8×Int)))=>K s10) a0.terms.length 0 ([]:List (A8×Int))
theorem Zjh (a0:ZAd) {u0_0:Value} {fp0:List Nat} {K:List (A8×Int)→Prop} (h:Zce a0 K) (w0:World) (q0:ZAq.rep a0 [u0_0] fp0 w0) :
  Calls ZAf 60 #[.agg #[u0_0]] w0 fun e w'=>∃ (r0:List (A8×Int)) (zb0:Nat),
   e=.returned (.map (some zb0))∧K r0∧(Zm (kvA .i64) (vvI .i64) zb0 r0).holds w'∧w0.heap.size≤zb0∧Bel w0 w':=by
 unfold Zce at h
 refine Zz (args:=[.agg #[u0_0]]) Try.func60 rfl 22 Try.ntmps60 (ZAe rfl) ?_
 have hC:=ZAv (X:=Nox) w0 [Zz9 TForm a0 [u0_0] fp0] (by simp only [Zsj,Zur,or_false,forall_eq_or_imp,forall_eq]; exact q0)
 have hp2:=(hC.getP 0 rfl)
 replace hC:=hC.derive 0 rfl (Zz9 ZAb.ty.sl a0.terms [u0_0] fp0) (fun _=>(Yx hp2)) (fun _ hb_=>hb_)
 refine sr (Yg (v:=.agg #[u0_0]) hC [u0_0] rfl rfl fun b4 w6 hB_ hC=>Zc (v:=.map none) rfl (dn (sr (Zgu hC (kvA .i64) (vvI .i64) fun b7 w9 hB_ hC=>Zc (v:=.map (some b7)) rfl (dn (ZAc (sr (Zx 0 ZAh rfl sc42.size rfl rfl (Z0 hC 1 (u0_0) rfl sc42 rfl rfl ?_)))))))))
 obtain ⟨Ad10,c10,hv11⟩:=Zw (hC.getP 0 rfl)
 refine Zv ZAj (tr rfl hv11) (Za (v:=.int .i64 0) rfl (dn (ZAl ?_)))
 have hN10:a0.terms.length≤9223372036854775807:=Y9 (hC.getP 0 rfl)
 refine Yp (S:=(List (A8×Int))) _ _ (fun i10 s10 e_ w_=>Z1 e_ [(3,.map (some b7)),(8,u0_0),(9,.int .i64 (a0.terms.length:Int)),(10,.int .i64 (i10:Int))]∧Ctx Nox w0 w_ [Zm (kvA .i64) (vvI .i64) b7 s10] [Zz9 ZAb.ty.sl a0.terms [u0_0] fp0,Zz9 TForm a0 [u0_0] fp0]) a0.terms.length ?_ ?_ (s0:=([]:List (A8×Int))) ?_ h
 ·clear hC h
  rintro i10 s10 e_ w10 nx10 K10 hi10 ⟨hS_,hC⟩ h hK10
  rw [ue hS_]
  refine sr (Zq rfl rfl (dn (ZAc (Yf rfl (decide_eq_true (by omega)) (ZAg (Zd (ZAc (ZAl (sr ?_)))))))))
  obtain ⟨Ad11,c11,hv10⟩:=Z6 (hC.getP 0 rfl) i10 hi10
  refine Yv (len:=a0.terms.length) ZAj ag49.size (tr rfl hv10) rfl (ZAx _) (ZBk.2 hi10) (Jh (ZAn (a0.terms.getD i10 Zsn)) (Yj (hC.getP 0 rfl) hv10 i10 hi10) ag49 rfl rfl (Ye hC (ZAn (⟨ZAi,0⟩:Term)) z49 rfl fun b10 w11 hB_ hC=>Zy (v:=.agg (ZAa (ZAn (a0.terms.getD i10 Zsn)))) hC 0 (ZAn (a0.terms.getD i10 Zsn)) (ZAn (a0.terms.getD i10 Zsn)) rfl ag49.size rfl rfl rfl rfl rfl (ZAe rfl) rfl fun w12 hC=>dn ?_))
  refine Yq 6 mixed [0,0,2,6,0,16,63] [2,5] [0,1,4] (by kernel_rfl) (by kernel_rfl) (by kernel_rfl) (fun hM11 hM10 w13 hB_=>?_)
  replace hC:=hC.grow hB_
  refine aF 0 (.map (some b7)) rfl rfl (hM10 0 rfl) (rfl) (fun _=>by exact Zs (v:=.map (some b7)) rfl) (Zb 7 1) (aF 1 (.pointer (some ⟨b10,0,none⟩)) rfl rfl (hM10 1 rfl) (rfl) (fun _=>by exact Yi 0 ZAr rfl ag47.size rfl rfl) (Zb 7 3) (aL 2 (.agg (ZAa (Zz8 .u8 ((a0.terms.getD i10 Zsn).mono)))) rfl rfl (hM11 2 rfl) (rfl) (fun _ hB_=>by exact Y8 (hC.grow hB_) 0 (Zz8 .u8 ((a0.terms.getD i10 Zsn).mono)) rfl ag47 rfl rfl rfl) (Zb 7 7) (aF 4 (.pointer (some ⟨b10,8,none⟩)) rfl rfl (hM10 4 rfl) (rfl) (fun _=>by exact Yi 8 ZAr rfl sc2.size rfl rfl) (Zb 7 23) (aL 5 (.int .i64 ((a0.terms.getD i10 Zsn).factor)) rfl rfl (hM11 5 rfl) (rfl) (fun _ hB_=>by exact Yc (hC.grow hB_) 0 (.int .i64 ((a0.terms.getD i10 Zsn).factor)) rfl sc2 rfl rfl) (Zb 7 55) (aO 3 rfl ?_)))))
  refine Zk [.agg (ZAa (Zz8 .u8 ((a0.terms.getD i10 Zsn).mono)))] _ ZC6 rfl rfl rfl (Zdj ((a0.terms.getD i10 Zsn).mono) h _) (fun ret10 w14 hR10=>?_)
  obtain ⟨r10,rfl,h,hB10⟩:=hR10
  refine⟨_,rfl,?_⟩
  replace hC:=hC.grow hB10
  refine done (aK (by assumption) (Zb 7 63) (Z7 6 (by decide) (by decide) (by kernel_rfl) (by kernel_rfl) rfl ?_))
  refine Ziw hC 1 r10 ((a0.terms.getD i10 Zsn).factor) rfl X4 ZCy rfl rfl rfl (fun w15 hC=>?_) (.inl rfl)
  refine done (Z8 (Zt (Zd (Zn (Zp rfl rfl (Za (v:=.int .i64 (Zu2.wrap ((i10:Int)+1))) rfl (done ?_)))))))
  replace hC:=hC.sM [1] (M':=[Zm (kvA .i64) (vvI .i64) b7 (Yk s10 r10 ((a0.terms.getD i10 Zsn).factor))]) (by decide) rfl
  exact hK10 (Yk s10 r10 ((a0.terms.getD i10 Zsn).factor)) _ _ ⟨(sl ⟨rfl,rfl,rfl,(tr rfl (congrArg _ (Yb hi10 hN10))),trivial⟩),hC⟩ h
 ·clear hC h
  rintro s10 e_ w16 K10 ⟨hS_,hC⟩ h
  rw [ue hS_]
  refine sr (Zq rfl rfl (dn (ZAc (Yd rfl (decide_eq_false (by omega)) ?_))))
  refine ZAt (Zl (Zl (Z4 ?_)))
  refine Zd (sr (Za (v:=.map (some b7)) rfl (Zc (v:=.map (some b7)) rfl (dn (ZAk ?_)))))
  refine Zg (fn:=Try.f60) rfl ?_ ⟨s10,b7,rfl,h,(hC.getM 0 rfl),(Ze6 hC 0 rfl),hC.below⟩ (.inl rfl)
  exact Zf rfl
 ·skip
  replace hC:=hC.sM [0] (M':=[Zm (kvA .i64) (vvI .i64) b7 ([]:List (A8×Int))]) (by decide) rfl
  exact⟨(sl ⟨rfl,rfl,rfl,rfl,trivial⟩),hC⟩
def Zfl (a0:A8) (a1:A8) (K:Int→Prop):Prop :=
 Yh (fun i10 (s10:Unit) nx10=>(if a0.get i10≠a1.get i10 then K (Zu2.wrap ((a1.get i10) - (a0.get i10))) else nx10 ())) (fun (s10:Unit)=>K 0) 8 0 ()
theorem Znv (a0:A8) (a1:A8)  {K:Int→Prop} (h:Zfl a0 a1 K) (w0:World)  :
  Calls ZAf 64 #[.agg (ZAa (Zz8 .i64 a0)),.agg (ZAa (Zz8 .i64 a1))] w0 fun e w'=>∃ (r0:Int),
   e=.returned (.int .i64 r0)∧K r0∧Bel w0 w':=by
 unfold Zfl at h
 refine Zz (args:=[.agg (ZAa (Zz8 .i64 a0)),.agg (ZAa (Zz8 .i64 a1))]) Try.func64 rfl 24 Try.ntmps64 (ZAe rfl) ?_
 have hC:=ZAv (X:=Nox) w0 [] (by simp)
 refine sr (Yg (v:=.agg (ZAa (Zz8 .i64 a0))) hC (Zz8 .i64 a0) rfl rfl fun b1 w3 hB_ hC=>Yg (v:=.agg (ZAa (Zz8 .i64 a1))) hC (Zz8 .i64 a1) rfl rfl fun b4 w6 hB_ hC=>Zc (v:=.int .i64 0) rfl (dn (ZAc (sr (Za (v:=.int .i64 0) rfl (dn (ZAl ?_)))))))
 refine Yp (S:=Unit) _ _ (fun i10 s10 e_ w_=>Z1 e_ [(2,.pointer (some ⟨b1,0,none⟩)),(3,.pointer (some ⟨b4,0,none⟩)),(6,.int .i64 (i10:Int))]∧Ctx Nox w0 w_ [blk b4 55 (Zz8 .i64 a1),blk b1 55 (Zz8 .i64 a0)] []) 8 ?_ ?_ (s0:=()) ?_ h
 ·clear hC h
  rintro i10 s10 e_ w10 nx10 K10 hi10 ⟨hS_,hC⟩ h hK10
  rw [ue hS_]
  refine sr (Zq rfl rfl (dn (ZAc (Yf rfl (decide_eq_true (by omega)) (ZAg (Zd (ZAc (ZAl (sr (Za (v:=.int .i64 (i10:Int)) rfl (Zc (v:=.int .i64 (i10:Int)) rfl ?_)))))))))))
  refine dn (ZAc ?_)
  refine Yq 6 mixed [0,1,3,0,8,24,63] [1,2,4,5] [0,3] (by kernel_rfl) (by kernel_rfl) (by kernel_rfl) (fun hM10 hM12 w11 hB_=>?_)
  replace hC:=hC.grow hB_
  refine aF 0 (.int .i64 (i10:Int)) rfl rfl (hM12 0 rfl) (rfl) (fun _=>by exact Zs (v:=.int .i64 (i10:Int)) rfl) (Zb 7 1) (aL 1 (.pointer (some ⟨b1,i10,none⟩)) rfl rfl (hM10 1 rfl) (rfl) (fun _ hB_=>by exact X8 i10 ZBh sc3.size rfl rfl (ZAx _) (by omega) (by omega)) (Zb 7 3) (aL 2 (.int .i64 (a0.get i10)) rfl rfl (hM10 2 rfl) (rfl) (fun _ hB_=>by exact Yc (hC.grow hB_) 1 (.int .i64 (a0.get i10)) rfl sc3 rfl (ZAw _ _ hi10)) (Zb 7 7) (aF 3 (.int .i64 (i10:Int)) rfl rfl (hM12 3 rfl) (rfl) (fun _=>by exact Zs (v:=.int .i64 (i10:Int)) rfl) (Zb 7 15) (aL 4 (.pointer (some ⟨b4,i10,none⟩)) rfl rfl (hM10 4 rfl) (rfl) (fun _ hB_=>by exact X8 i10 ZBh sc3.size rfl rfl (ZAx _) (by omega) (by omega)) (Zb 7 31) (aL 5 (.int .i64 (a1.get i10)) rfl rfl (hM10 5 rfl) (rfl) (fun _ hB_=>by exact Yc (hC.grow hB_) 0 (.int .i64 (a1.get i10)) rfl sc3 rfl (ZAw _ _ hi10)) (Zb 7 63) (Z7 6 (by decide) (by decide) (by kernel_rfl) (by kernel_rfl) rfl (Y0 rfl rfl (done (Z8 (Zd ?_))))))))))
  refine Zr rfl (fun hb10=>?_) (fun hb10=>?_)
  ·replace h:=ift h (ct hb10)
   refine ZAc ?_
   refine Yq 6 mixed [0,1,3,0,8,24,63,127] [1,2,4,5] [0,3] (by kernel_rfl) (by kernel_rfl) (by kernel_rfl) (fun hM11 hM13 w12 hB_=>?_)
   replace hC:=hC.grow hB_
   refine aF 0 (.int .i64 (i10:Int)) rfl rfl (hM13 0 rfl) (rfl) (fun _=>by exact Zs (v:=.int .i64 (i10:Int)) rfl) (Zb 8 1) (aL 1 (.pointer (some ⟨b4,i10,none⟩)) rfl rfl (hM11 1 rfl) (rfl) (fun _ hB_=>by exact X8 i10 ZBh sc3.size rfl rfl (ZAx _) (by omega) (by omega)) (Zb 8 3) (aL 2 (.int .i64 (a1.get i10)) rfl rfl (hM11 2 rfl) (rfl) (fun _ hB_=>by exact Yc (hC.grow hB_) 0 (.int .i64 (a1.get i10)) rfl sc3 rfl (ZAw _ _ hi10)) (Zb 8 7) (aF 3 (.int .i64 (i10:Int)) rfl rfl (hM13 3 rfl) (rfl) (fun _=>by exact Zs (v:=.int .i64 (i10:Int)) rfl) (Zb 8 15) (aL 4 (.pointer (some ⟨b1,i10,none⟩)) rfl rfl (hM11 4 rfl) (rfl) (fun _ hB_=>by exact X8 i10 ZBh sc3.size rfl rfl (ZAx _) (by omega) (by omega)) (Zb 8 31) (aL 5 (.int .i64 (a0.get i10)) rfl rfl (hM11 5 rfl) (rfl) (fun _ hB_=>by exact Yc (hC.grow hB_) 1 (.int .i64 (a0.get i10)) rfl sc3 rfl (ZAw _ _ hi10)) (Zb 8 63) (Z7 6 (by decide) (by decide) (by kernel_rfl) (by kernel_rfl) rfl (Zbv rfl rfl (Zc (v:=.int .i64 (Zu2.wrap ((a1.get i10) - (a0.get i10)))) rfl (done (Z8 (Zd ?_)))))))))))
   refine ZAk (Z2 (Ze (Ze (Z2 (Ze ?_)))))
   refine Zg (fn:=Try.f64) rfl ?_ ⟨Zu2.wrap ((a1.get i10) - (a0.get i10)),rfl,h,hC.below⟩ (.inl rfl)
   exact Zf rfl
  ·replace h:=Zh h (cf hb10)
   refine ZAg (Zt (Zd (Zn (Zp rfl rfl (Za (v:=.int .i64 (Zu2.wrap ((i10:Int)+1))) rfl (done ?_))))))
   exact hK10 () _ _ ⟨(sl ⟨rfl,rfl,(tr rfl (congrArg _ (Yb hi10 (by decide)))),trivial⟩),hC⟩ h
 ·clear hC h
  rintro s10 e_ w13 K10 ⟨hS_,hC⟩ h
  rw [ue hS_]
  refine sr (Zq rfl rfl (dn (ZAc (Yd rfl (decide_eq_false (by omega)) ?_))))
  refine ZAt (Zl (Zl (Z4 ?_)))
  refine Zd (sr (Zc (v:=.int .i64 0) rfl (dn (ZAk ?_))))
  refine Zg (fn:=Try.f64) rfl ?_ ⟨0,rfl,h,hC.below⟩ (.inl rfl)
  exact Zf rfl
 ·skip
  exact⟨(sl ⟨rfl,rfl,rfl,trivial⟩),hC⟩
def Zbk (a0:List (A8×Int)) (a1:List (A8×Int)) (a2:Int) (K:List (A8×Int)→Prop):Prop :=
 Zag (fun (q10:A8×Int) (s10:(List (A8×Int))) nx10=>Zcd s10 q10.1 (Ztb (Zu2.wrap (q10.2 * a2)) 10007) (fun m10=>nx10 m10)) (fun (s10:(List (A8×Int)))=>K s10) a1.length a1 a0
theorem Znw (a0:List (A8×Int)) (a1:List (A8×Int)) (a2:Int) {b0:Nat} {b1:Nat} {K:List (A8×Int)→Prop} (h:Zbk a0 a1 a2 K) (w0:World) (q0:(Zm (kvA .i64) (vvI .i64) b0 a0).holds w0) (d1:∀ c,c∈[b1]→c≠b0) (q1:(Zm (kvA .i64) (vvI .i64) b1 a1).holds w0) :
  Calls ZAf 85 #[.map (some b0),.map (some b1),.int .i64 a2] w0 fun e w'=>∃ (m0:List (A8×Int)),
   e=.returned (.tuple #[])∧K m0∧(Zm (kvA .i64) (vvI .i64) b0 m0).holds w'∧BelB b0 w0 w':=by
 unfold Zbk at h
 refine Zz (args:=[.map (some b0),.map (some b1),.int .i64 a2]) Try.func85 rfl 22 Try.ntmps85 (ZAe rfl) ?_
 have hC:=Ctx.start1 w0 b0 (it:=Zm (kvA .i64) (vvI .i64) b0 a0) rfl [Zm (kvA .i64) (vvI .i64) b1 a1] q0 (by simp only [Zsj,Zur,or_false,forall_eq_or_imp,forall_eq]; exact q1) (by simp only [Zsj,Zur,or_false,forall_eq_or_imp,forall_eq]; exact d1)
 refine sr (Za (v:=.map (some b1)) rfl (Ze7 hC 0 rfl ZCy rfl fun r3 es4 ck5 w10 hB_ hn6 hbn7 hC=>dn (ZAl ?_)))
 refine Zfa (S:=(List (A8×Int))) _ _ (fun l11 s10 e_ w_=>∃ (la10:Option MapEntry),Z1 e_ [(0,.map (some b0)),(2,.int .i64 a2),(9,.pointer (some ⟨r3,0,none⟩))]∧Ctx (fun c_=>c_=b0) w0 w_ [itI (kvA .i64) (vvI .i64) r3 b1 es4 ck5 la10 l11,Zm (kvA .i64) (vvI .i64) b0 s10] [Xl b1 es4 ck5,Zm (kvA .i64) (vvI .i64) b1 a1]) ?_ (l0:=a1) (s0:=a0) ?_ h
 ·clear hC h
  rintro l11 s10 e_ w11 nx10 K10 ⟨la10,hS_,hC⟩ h hK10
  rw [ue hS_]
  refine sr ?_
  refine Ze8 hC 0 0 rfl rfl hn6 hbn7 rfl (fun hr10=>?_) (fun q10 l10 ent10 w12 hp10 hk10 hv10 hC=>?_)
  ·replace h:=h.1 hr10
   refine Xd (v:=.bool false) rfl rfl (dn (ZAc (Yd rfl rfl ?_)))
   refine ZAt (Zl (Zl (Z4 ?_)))
   refine Zgl (fn:=Try.f85) rfl  ⟨s10,rfl,h,(hC.getM 1 rfl),hC.belB⟩ (.inr rfl)
  ·replace h:=h.2 q10 l10 hp10
   refine Xd (v:=.bool true) rfl rfl (dn (ZAc (Yf rfl rfl (ZAg (Zd (ZAl (sr (Ze9 hC 0 0 q10 rfl rfl hn6 rfl hk10 hv10 (Xd (v:=.agg (ZAa (Zz8 .i64 q10.1))) rfl rfl (Xd (v:=.int .i64 q10.2) rfl rfl (Ye hC (Zz8 .i64 ZAi) z55 rfl fun b10 w13 hB_ hC=>?_)))))))))))
   refine Zy (v:=.agg (ZAa (Zz8 .i64 q10.1))) hC 0 (Zz8 .i64 q10.1) (Zz8 .i64 q10.1) rfl ag55.size rfl rfl rfl rfl rfl (ZAe rfl) rfl fun w14 hC=>Zc (v:=.int .i64 q10.2) rfl (dn (Zn (Za (v:=.map (some b0)) rfl (Yl hC 0 (Zz8 .i64 q10.1) rfl ag55 rfl rfl rfl (Za (v:=.int .i64 q10.2) rfl (Za (v:=.int .i64 a2) rfl (Zaw rfl rfl (Jf rfl rfl (by decide) ?_))))))))
   refine Zk [.map (some b0),.agg (ZAa (Zz8 .i64 q10.1)),.int .i64 (Ztb (Zu2.wrap (q10.2 * a2)) 10007)] _ Try.func98 rfl rfl rfl (Zjg s10 q10.1 (Ztb (Zu2.wrap (q10.2 * a2)) 10007) h _ (hC.getM 2 rfl)) (fun ret10 w15 hR10=>?_)
   obtain ⟨m10,rfl,h,hm10,hB10⟩:=hR10
   refine⟨_,rfl,?_⟩
   replace hC:=hC.turnB 2 rfl hB10 rfl rfl hm10
   refine done (Zt ?_)
   replace hC:=hC.sM [1,2] (M':=[itI (kvA .i64) (vvI .i64) r3 b1 es4 ck5 (some ent10) l10,Zm (kvA .i64) (vvI .i64) b0 m10]) (by decide) rfl
   exact hK10 q10 l10 m10 _ _ hp10 ⟨(some ent10),(sl ⟨rfl,rfl,rfl,trivial⟩),hC⟩ h
 ·skip
  exact⟨none,(sl ⟨rfl,rfl,rfl,trivial⟩),hC⟩
def Zal (a0:List (A8×Int)) (a1:List Int) (a2:List (A8×Int)) (K:List (A8×Int)→Prop):Prop :=
 Zag (fun (q10:A8×Int) (s11:(List (A8×Int))) nx11=>Zag (fun (q11:A8×Int) (s10:(List (A8×Int))) nx10=>Zdk q10.1 a1 q11.1 (fun r10 r11=>(if r11≠0 then Zcd s10 r10 (Ztb (Zu2.wrap ((Zu2.wrap (r11 * q10.2)) * q11.2)) 10007) (fun m10=>nx10 m10) else nx10 s10))) (fun (s10:(List (A8×Int)))=>nx11 s10) a2.length a2 s11) (fun (s11:(List (A8×Int)))=>K s11) a0.length a0 ([]:List (A8×Int))
theorem X5 (a0:List (A8×Int)) (a1:List Int) (a2:List (A8×Int)) {b0:Nat} {b2:Nat} {u1_0:Value} {fp1:List Nat} {K:List (A8×Int)→Prop} (h:Zal a0 a1 a2 K) (w0:World) (q0:(Zm (kvA .i64) (vvI .i64) b0 a0).holds w0) (q1:((EI .i64).ty.sl).rep a1 [u1_0] fp1 w0) (q2:(Zm (kvA .i64) (vvI .i64) b2 a2).holds w0) :
  Calls ZAf 84 #[.map (some b0),u1_0,.map (some b2)] w0 fun e w'=>∃ (r0:List (A8×Int)) (zb0:Nat),
   e=.returned (.map (some zb0))∧K r0∧(Zm (kvA .i64) (vvI .i64) zb0 r0).holds w'∧w0.heap.size≤zb0∧Bel w0 w':=by
 unfold Zal at h
 refine Zz (args:=[.map (some b0),u1_0,.map (some b2)]) ZCz rfl 48 Try.ntmps84 (ZAe rfl) ?_
 have hC:=ZAv (X:=Nox) w0 [Zz9 ((EI .i64).ty.sl) a1 [u1_0] fp1,Zm (kvA .i64) (vvI .i64) b0 a0,Zm (kvA .i64) (vvI .i64) b2 a2] (by simp only [Zsj,Zur,or_false,forall_eq_or_imp,forall_eq]; exact⟨q1,q0,q2⟩)
 refine sr (Zc (v:=.map none) rfl (dn (sr (Zgu hC (kvA .i64) (vvI .i64) fun b4 w6 hB_ hC=>Zc (v:=.map (some b4)) rfl (dn (ZAc (sr (Za (v:=.map (some b0)) rfl (Ze7 hC 1 rfl ZCy rfl fun r7 es8 ck9 w10 hB_ hn10 hbn10 hC=>dn ?_)))))))))
 refine ZAl ?_
 refine Zfa (S:=(List (A8×Int))) _ _ (fun l12 s11 e_ w_=>∃ (la10:Option MapEntry),Z1 e_ [(1,u1_0),(2,.map (some b2)),(7,.map (some b4)),(16,.pointer (some ⟨r7,0,none⟩))]∧Ctx Nox w0 w_ [itI (kvA .i64) (vvI .i64) r7 b0 es8 ck9 la10 l12,Zm (kvA .i64) (vvI .i64) b4 s11] [Xl b0 es8 ck9,Zz9 ((EI .i64).ty.sl) a1 [u1_0] fp1,Zm (kvA .i64) (vvI .i64) b0 a0,Zm (kvA .i64) (vvI .i64) b2 a2]) ?_ (l0:=a0) (s0:=([]:List (A8×Int))) ?_ h
 ·clear hC h
  rintro l12 s11 e_ w11 nx11 K10 ⟨la10,hS_,hC⟩ h hK11
  rw [ue hS_]
  refine sr ?_
  refine Ze8 hC 0 0 rfl rfl hn10 hbn10 rfl (fun hr10=>?_) (fun q10 l10 ent10 w12 hp11 hk10 hv10 hC=>?_)
  ·replace h:=h.1 hr10
   refine Xd (v:=.bool false) rfl rfl (dn (ZAc (Yd rfl rfl ?_)))
   refine ZAt (Zl (Zl (Z4 ?_)))
   refine Zd (sr (Za (v:=.map (some b4)) rfl (Zc (v:=.map (some b4)) rfl (dn (ZAk ?_)))))
   refine Zg (fn:=Try.f84) rfl ?_ ⟨s11,b4,rfl,h,(hC.getM 1 rfl),(Ze6 hC 1 rfl),hC.below⟩ (.inl rfl)
   exact Zf rfl
  ·replace h:=h.2 q10 l10 hp11
   refine Xd (v:=.bool true) rfl rfl (dn (ZAc (Yf rfl rfl (ZAg (Zd (ZAl (sr (Ze9 hC 0 0 q10 rfl rfl hn10 rfl hk10 hv10 (Xd (v:=.agg (ZAa (Zz8 .i64 q10.1))) rfl rfl (Xd (v:=.int .i64 q10.2) rfl rfl (Ye hC (Zz8 .i64 ZAi) z55 rfl fun b10 w13 hB_ hC=>?_)))))))))))
   refine Zy (v:=.agg (ZAa (Zz8 .i64 q10.1))) hC 0 (Zz8 .i64 q10.1) (Zz8 .i64 q10.1) rfl ag55.size rfl rfl rfl rfl rfl (ZAe rfl) rfl fun w14 hC=>Zc (v:=.int .i64 q10.2) rfl (dn (sr (Za (v:=.map (some b2)) rfl (Ze7 hC 3 rfl ZCy rfl fun r12 es10 ck10 w15 hB_ hn11 hbn11 hC=>dn (ZAl ?_)))))
   refine Zfa (S:=(List (A8×Int))) _ _ (fun l13 s10 e_ w_=>∃ (la11:Option MapEntry),Z1 e_ [(1,u1_0),(2,.map (some b2)),(7,.map (some b4)),(8,.pointer (some ⟨b10,0,none⟩)),(9,.int .i64 q10.2),(16,.pointer (some ⟨r7,0,none⟩)),(23,.pointer (some ⟨r12,0,none⟩))]∧Ctx Nox w0 w_ [itI (kvA .i64) (vvI .i64) r12 b2 es10 ck10 la11 l13,blk b10 55 (Zz8 .i64 q10.1),itI (kvA .i64) (vvI .i64) r7 b0 es8 ck9 (some ent10) l10,Zm (kvA .i64) (vvI .i64) b4 s10] [Xl b2 es10 ck10,Xl b0 es8 ck9,Zz9 ((EI .i64).ty.sl) a1 [u1_0] fp1,Zm (kvA .i64) (vvI .i64) b0 a0,Zm (kvA .i64) (vvI .i64) b2 a2]) ?_ (l0:=a2) (s0:=s11) ?_ h
   ·clear hC h
    rintro l13 s10 e_ w16 nx10 K11 ⟨la11,hS_,hC⟩ h hK10
    rw [ue hS_]
    refine sr ?_
    refine Ze8 hC 0 0 rfl rfl hn11 hbn11 rfl (fun hr11=>?_) (fun q11 l11 ent11 w17 hp10 hk11 hv11 hC=>?_)
    ·replace h:=h.1 hr11
     refine Xd (v:=.bool false) rfl rfl (dn (ZAc (Yd rfl rfl ?_)))
     refine ZAt (Zl (Zl (Z4 ?_)))
     refine Zt ?_
     replace hC:=hC.sM [2,3] (M':=[itI (kvA .i64) (vvI .i64) r7 b0 es8 ck9 (some ent10) l10,Zm (kvA .i64) (vvI .i64) b4 s10]) (by decide) rfl
     replace hC:=hC.sP [1,2,3,4] (Ps':=[Xl b0 es8 ck9,Zz9 ((EI .i64).ty.sl) a1 [u1_0] fp1,Zm (kvA .i64) (vvI .i64) b0 a0,Zm (kvA .i64) (vvI .i64) b2 a2]) rfl
     exact hK11 q10 l10 s10 _ _ hp11 ⟨(some ent10),(sl ⟨rfl,rfl,rfl,rfl,trivial⟩),hC⟩ h
    ·replace h:=h.2 q11 l11 hp10
     refine Xd (v:=.bool true) rfl rfl (dn (ZAc (Yf rfl rfl (ZAg (Zd (ZAl (sr (Ze9 hC 0 0 q11 rfl rfl hn11 rfl hk11 hv11 (Xd (v:=.agg (ZAa (Zz8 .i64 q11.1))) rfl rfl (Xd (v:=.int .i64 q11.2) rfl rfl (Ye hC (Zz8 .i64 ZAi) z55 rfl fun b11 w18 hB_ hC=>?_)))))))))))
     refine Zy (v:=.agg (ZAa (Zz8 .i64 q11.1))) hC 0 (Zz8 .i64 q11.1) (Zz8 .i64 q11.1) rfl ag55.size rfl rfl rfl rfl rfl (ZAe rfl) rfl fun w19 hC=>Zc (v:=.int .i64 q11.2) rfl (dn (sr (Yl hC 2 (Zz8 .i64 q10.1) rfl ag55 rfl rfl rfl (Za (v:=u1_0) rfl (Yl hC 0 (Zz8 .i64 q11.1) rfl ag55 rfl rfl rfl ?_)))))
     refine Zk [.agg (ZAa (Zz8 .i64 q10.1)),u1_0,.agg (ZAa (Zz8 .i64 q11.1))] _ Try.func97 rfl rfl rfl (Znu q10.1 a1 q11.1 h _ (hC.getP 2 rfl)) (fun ret10 w20 hR10=>?_)
     obtain ⟨r10,r11,rfl,h,hB10⟩:=hR10
     refine⟨_,rfl,?_⟩
     replace hC:=hC.grow hB10
     refine Za (v:=.tuple #[.agg (ZAa (Zz8 .i64 r10)),.int .i64 r11]) rfl (Xd (v:=.agg (ZAa (Zz8 .i64 r10))) rfl rfl (Xd (v:=.int .i64 r11) rfl rfl (Ye hC (Zz8 .i64 ZAi) z55 rfl fun b12 w21 hB_ hC=>Zy (v:=.agg (ZAa (Zz8 .i64 r10))) hC 0 (Zz8 .i64 r10) (Zz8 .i64 r10) rfl ag55.size rfl rfl rfl rfl rfl (ZAe rfl) rfl fun w22 hC=>Zc (v:=.int .i64 r11) rfl (dn (sr (Za (v:=.int .i64 r11) rfl (Y0 rfl rfl (dn ?_))))))))
     refine Zr rfl (fun hb10=>?_) (fun hb10=>?_)
     ·replace h:=ift h (ct hb10)
      refine Zn (Za (v:=.map (some b4)) rfl (Yl hC 0 (Zz8 .i64 r10) rfl ag55 rfl rfl rfl (Za (v:=.int .i64 r11) rfl (Za (v:=.int .i64 q10.2) rfl (Zaw rfl rfl (Za (v:=.int .i64 q11.2) rfl (Zaw rfl rfl (Jf rfl rfl (by decide) ?_))))))))
      refine Zk [.map (some b4),.agg (ZAa (Zz8 .i64 r10)),.int .i64 (Ztb (Zu2.wrap ((Zu2.wrap (r11 * q10.2)) * q11.2)) 10007)] _ Try.func98 rfl rfl rfl (Zjg s10 r10 (Ztb (Zu2.wrap ((Zu2.wrap (r11 * q10.2)) * q11.2)) 10007) h _ (hC.getM 5 rfl)) (fun ret11 w23 hR11=>?_)
      obtain ⟨m10,rfl,h,hm10,hB11⟩:=hR11
      refine⟨_,rfl,?_⟩
      replace hC:=hC.turnB 5 rfl hB11 rfl rfl hm10
      refine done (Zt ?_)
      replace hC:=hC.sM [2,3,4,5] (M':=[itI (kvA .i64) (vvI .i64) r12 b2 es10 ck10 (some ent11) l11,blk b10 55 (Zz8 .i64 q10.1),itI (kvA .i64) (vvI .i64) r7 b0 es8 ck9 (some ent10) l10,Zm (kvA .i64) (vvI .i64) b4 m10]) (by decide) rfl
      exact hK10 q11 l11 m10 _ _ hp10 ⟨(some ent11),(sl ⟨rfl,rfl,rfl,rfl,rfl,rfl,rfl,trivial⟩),hC⟩ h
     ·replace h:=Zh h (cf hb10)
      refine ZAg (Zt ?_)
      replace hC:=hC.sM [2,3,4,5] (M':=[itI (kvA .i64) (vvI .i64) r12 b2 es10 ck10 (some ent11) l11,blk b10 55 (Zz8 .i64 q10.1),itI (kvA .i64) (vvI .i64) r7 b0 es8 ck9 (some ent10) l10,Zm (kvA .i64) (vvI .i64) b4 s10]) (by decide) rfl
      exact hK10 q11 l11 s10 _ _ hp10 ⟨(some ent11),(sl ⟨rfl,rfl,rfl,rfl,rfl,rfl,rfl,trivial⟩),hC⟩ h
   ·skip
    exact⟨none,(sl ⟨rfl,rfl,rfl,rfl,rfl,rfl,rfl,trivial⟩),hC⟩
 ·skip
  exact⟨none,(sl ⟨rfl,rfl,rfl,rfl,trivial⟩),hC⟩
def Zcf (a0:Int) (a1:Int) (a2:Int) (K:Bool→Prop):Prop :=
 (if a0≥a1 then K (decide (a0≤a2)) else K false)
theorem Zji (a0:Int) (a1:Int) (a2:Int)  {K:Bool→Prop} (h:Zcf a0 a1 a2 K) (w0:World)  :
  Calls ZAf 81 #[.int .i64 a0,.int .i64 a1,.int .i64 a2] w0 fun e w'=>∃ (r0:Bool),
   e=.returned (.bool r0)∧K r0∧Bel w0 w':=by
 unfold Zcf at h
 refine Zz (args:=[.int .i64 a0,.int .i64 a1,.int .i64 a2]) Try.func81 rfl 15 Try.ntmps81 (ZAe rfl) ?_
 have hC:=ZAv (X:=Nox) w0 [] (by simp)
 refine sr (Zc (v:=.bool false) rfl (dn (sr (Za (v:=.int .i64 a0) rfl (Za (v:=.int .i64 a1) rfl (Zao rfl rfl (Za (v:=.bool (decide (a0≥a1))) rfl ?_)))))))
 refine Yy (decide (a0≥a1)) (fun hb1=>?_) (fun hb1=>?_)
 ·replace h:=ift h (ct hb1)
  refine Zj 3 10 rfl rfl hb1 (Za (v:=.int .i64 a0) rfl (Zj 3 10 rfl rfl hb1 (Za (v:=.int .i64 a2) rfl (Zj 3 10 rfl rfl hb1 (Zbc rfl rfl (Z3 (v:=.bool (decide (a0≤a2))) (b:=true) (tr rfl (congrArg _ hb1)) rfl (Zc (v:=.bool (decide (a0≤a2))) rfl (dn (ZAk ?_)))))))))
  refine Zg (fn:=Try.f81) rfl ?_ ⟨decide (a0≤a2),rfl,h,hC.below⟩ (.inl rfl)
  exact Zf rfl
 ·replace h:=Zh h (cf hb1)
  refine Zi (b:=false) 3 10 rfl (tr rfl (congrArg _ hb1)) (by decide) (Zi (b:=false) 3 10 rfl (tr rfl (congrArg _ hb1)) (by decide) (Zi (b:=false) 3 10 rfl (tr rfl (congrArg _ hb1)) (by decide) (Z3 (v:=.bool false) (b:=false) (tr rfl (congrArg _ hb1)) rfl (Zc (v:=.bool false) rfl (dn (ZAk ?_))))))
  refine Zg (fn:=Try.f81) rfl ?_ ⟨false,rfl,h,hC.below⟩ (.inl rfl)
  exact Zf rfl
def Zfm (a0:List Int) (p1:Int→(Bool→Prop)→Prop) (K:Int→Prop):Prop :=
 Yh (fun i10 (s10:Unit) nx10=>p1 (a0.getD i10 Zsn) (fun r10=>(if r10=true then K (i10:Int) else nx10 ()))) (fun (s10:Unit)=>K (-1)) a0.length 0 ()
theorem Znx (a0:List Int) (p1:Int→(Bool→Prop)→Prop) {u0_0:Value} {fp0:List Nat} {K:Int→Prop} (h:Zfm a0 p1 K) (w0:World) (q0:((EI .i64).ty.sl).rep a0 [u0_0] fp0 w0) {g1:Nat} {cp1:List Value} {fn1:Func} (hf1:ZAf.funcs[g1]? = some fn1) (hb1:fn1.body.isNone=false) (hn1:(fn1.name == "runtime.NumGoroutine")=false) (hp1:∀ (y0:Int) (K_:Bool→Prop) (w_:World),Bel w0 w_→p1 y0 K_→Calls ZAf g1 (ZAa ([.int .i64 y0]++cp1)) w_ fun e w'=>∃ (z0:Bool),e=.returned (.bool z0)∧K_ z0∧Bel w_ w') :
  Calls ZAf 95 #[u0_0,.func (.func g1) #[] (ZAa cp1)] w0 fun e w'=>∃ (r0:Int),
   e=.returned (.int .i64 r0)∧K r0∧Bel w0 w':=by
 unfold Zfm at h
 refine Zz (args:=[u0_0,.func (.func g1) #[] (ZAa cp1)]) Try.func95 rfl 19 Try.ntmps95 (ZAe rfl) ?_
 have hC:=ZAv (X:=Nox) w0 [Zz9 ((EI .i64).ty.sl) a0 [u0_0] fp0] (by simp only [Zsj,Zur,or_false,forall_eq_or_imp,forall_eq]; exact q0)
 refine sr (Zc (v:=.int .i64 0) rfl (dn (ZAc (sr (Za (v:=u0_0) rfl ?_)))))
 obtain ⟨Ad2,c3,hv4⟩:=Zw (hC.getP 0 rfl)
 refine Zv ZAu (tr rfl hv4) (Za (v:=.int .i64 0) rfl (dn (ZAl ?_)))
 have hN10:a0.length≤9223372036854775807:=Y9 (hC.getP 0 rfl)
 refine Yp (S:=Unit) _ _ (fun i10 s10 e_ w_=>Z1 e_ [(0,u0_0),(1,.func (.func g1) #[] (ZAa cp1)),(7,.int .i64 (a0.length:Int)),(8,.int .i64 (i10:Int))]∧Ctx Nox w0 w_ [] [Zz9 ((EI .i64).ty.sl) a0 [u0_0] fp0]) a0.length ?_ ?_ (s0:=()) ?_ h
 ·clear hC h
  rintro i10 s10 e_ w10 nx10 K10 hi10 ⟨hS_,hC⟩ h hK10
  rw [ue hS_]
  refine sr (Zq rfl rfl (dn (ZAc (Yf rfl (decide_eq_true (by omega)) (ZAg (Zd (ZAc (ZAl (sr (Za (v:=.int .i64 (i10:Int)) rfl (Zc (v:=.int .i64 (i10:Int)) rfl ?_)))))))))))
  refine dn (sr (Za (v:=.func (.func g1) #[] (ZAa cp1)) rfl (Za (v:=u0_0) rfl (Za (v:=.int .i64 (i10:Int)) rfl ?_))))
  obtain ⟨Ad10,c10,hv10⟩:=Z6 (hC.getP 0 rfl) i10 hi10
  refine Yv (len:=a0.length) ZAu sc2.size (tr rfl hv10) rfl (ZAx _) (ZBk.2 hi10) (Xy (.int .i64 (a0.getD i10 Zsn)) (Yj (hC.getP 0 rfl) hv10 i10 hi10) sc2 rfl ?_)
  refine Zip [.int .i64 (a0.getD i10 Zsn)] _ rfl hf1 hb1 hn1 rfl (hp1 _ _ _ hC.below  h) (fun ret10 w11 hR10=>?_)
  obtain ⟨r10,rfl,h,hB10⟩:=hR10
  refine⟨_,rfl,?_⟩
  replace hC:=hC.grow hB10
  refine dn ?_
  refine Zr rfl (fun hb10=>?_) (fun hb10=>?_)
  ·replace h:=ift h (hb10)
   refine sr (Za (v:=.int .i64 (i10:Int)) rfl (Zc (v:=.int .i64 (i10:Int)) rfl (dn ?_)))
   refine ZAk (Z2 (Ze (Ze (Z2 (Ze ?_)))))
   refine Zg (fn:=Try.f95) rfl ?_ ⟨(i10:Int),rfl,h,hC.below⟩ (.inl rfl)
   exact Zf rfl
  ·replace h:=Zh h (Yw hb10)
   refine ZAg (Zt (Zd (Zn (Zp rfl rfl (Za (v:=.int .i64 (Zu2.wrap ((i10:Int)+1))) rfl (done ?_))))))
   exact hK10 () _ _ ⟨(sl ⟨rfl,rfl,rfl,(tr rfl (congrArg _ (Yb hi10 hN10))),trivial⟩),hC⟩ h
 ·clear hC h
  rintro s10 e_ w12 K10 ⟨hS_,hC⟩ h
  rw [ue hS_]
  refine sr (Zq rfl rfl (dn (ZAc (Yd rfl (decide_eq_false (by omega)) ?_))))
  refine ZAt (Zl (Zl (Z4 ?_)))
  refine Zd (sr (Zc (v:=.int .i64 (-1)) rfl (dn (ZAk ?_))))
  refine Zg (fn:=Try.f95) rfl ?_ ⟨(-1),rfl,h,hC.below⟩ (.inl rfl)
  exact Zf rfl
 ·skip
  exact⟨(sl ⟨rfl,rfl,rfl,rfl,trivial⟩),hC⟩
def Zfn (a0:List Int) (p1:Int→(Bool→Prop)→Prop) (K:Bool→Prop):Prop :=
 Zfm a0 p1 (fun r5=>K (decide (r5≥0)))
theorem Zny (a0:List Int) (p1:Int→(Bool→Prop)→Prop) {u0_0:Value} {fp0:List Nat} {K:Bool→Prop} (h:Zfn a0 p1 K) (w0:World) (q0:((EI .i64).ty.sl).rep a0 [u0_0] fp0 w0) {g1:Nat} {cp1:List Value} {fn1:Func} (hf1:ZAf.funcs[g1]? = some fn1) (hb1:fn1.body.isNone=false) (hn1:(fn1.name == "runtime.NumGoroutine")=false) (hp1:∀ (y0:Int) (K_:Bool→Prop) (w_:World),Bel w0 w_→p1 y0 K_→Calls ZAf g1 (ZAa ([.int .i64 y0]++cp1)) w_ fun e w'=>∃ (z0:Bool),e=.returned (.bool z0)∧K_ z0∧Bel w_ w') :
  Calls ZAf 79 #[u0_0,.func (.func g1) #[] (ZAa cp1)] w0 fun e w'=>∃ (r0:Bool),
   e=.returned (.bool r0)∧K r0∧Bel w0 w':=by
 unfold Zfn at h
 refine Zz (args:=[u0_0,.func (.func g1) #[] (ZAa cp1)]) Try.func79 rfl 9 Try.ntmps79 (ZAe rfl) ?_
 have hC:=ZAv (X:=Nox) w0 [Zz9 ((EI .i64).ty.sl) a0 [u0_0] fp0] (by simp only [Zsj,Zur,or_false,forall_eq_or_imp,forall_eq]; exact q0)
 refine sr (Zc (v:=.bool false) rfl (dn (sr (Za (v:=u0_0) rfl (Za (v:=.func (.func g1) #[] (ZAa cp1)) rfl ?_)))))
 refine Zk [u0_0,.func (.func g1) #[] (ZAa cp1)] _ Try.func95 rfl rfl rfl (Znx a0 p1 h _ (hC.getP 0 rfl) hf1 hb1 hn1 (fun x0_ K_ w_ hb_=>hp1 x0_ K_ w_ (Zis hC.below hb_))) (fun Jj w4 hR3=>?_)
 obtain ⟨r5,rfl,h,hB6⟩:=hR3
 refine⟨_,rfl,?_⟩
 replace hC:=hC.grow hB6
 refine Zao rfl rfl (Zc (v:=.bool (decide (r5≥0))) rfl (dn (ZAk ?_)))
 refine Zg (fn:=Try.f79) rfl ?_ ⟨decide (r5≥0),rfl,h,hC.below⟩ (.inl rfl)
 exact Zf rfl
def Zdl (a0:Int) (K:Bool→Prop):Prop :=
 Zcf a0 1 12 (fun r4=>K (!r4))
theorem Znz (a0:Int)  {K:Bool→Prop} (h:Zdl a0 K) (w0:World)  :
  Calls ZAf 80 #[.int .i64 a0] w0 fun e w'=>∃ (r0:Bool),
   e=.returned (.bool r0)∧K r0∧Bel w0 w':=by
 unfold Zdl at h
 refine Zz (args:=[.int .i64 a0]) Try.func80 rfl 6 Try.ntmps80 (ZAe rfl) ?_
 have hC:=ZAv (X:=Nox) w0 [] (by simp)
 refine sr (Zc (v:=.bool false) rfl (dn (sr (Za (v:=.int .i64 a0) rfl ?_))))
 refine Zk [.int .i64 a0,.int .i64 1,.int .i64 12] _ Try.func81 rfl rfl rfl (Zji a0 1 12 h _) (fun Zg w3 hR2=>?_)
 obtain ⟨r4,rfl,h,hB5⟩:=hR2
 refine⟨_,rfl,?_⟩
 replace hC:=hC.grow hB5
 refine Xc rfl (Zc (v:=.bool (!r4)) rfl (dn (ZAk ?_)))
 refine Zg (fn:=Try.f80) rfl ?_ ⟨!r4,rfl,h,hC.below⟩ (.inl rfl)
 exact Zf rfl
def Zdm (a0:List Int) (K:Bool→Prop):Prop :=
 (if(a0.length:Int)≤8 then Zfn a0 Zdl (fun r9=>K (!r9)) else K false)
theorem Zn0 (a0:List Int) {u0_0:Value} {fp0:List Nat} {K:Bool→Prop} (h:Zdm a0 K) (w0:World) (q0:((EI .i64).ty.sl).rep a0 [u0_0] fp0 w0) :
  Calls ZAf 56 #[u0_0] w0 fun e w'=>∃ (r0:Bool),
   e=.returned (.bool r0)∧K r0∧Bel w0 w':=by
 unfold Zdm at h
 refine Zz (args:=[u0_0]) Try.func56 rfl 11 Try.ntmps56 (ZAe rfl) ?_
 have hC:=ZAv (X:=Nox) w0 [Zz9 ((EI .i64).ty.sl) a0 [u0_0] fp0] (by simp only [Zsj,Zur,or_false,forall_eq_or_imp,forall_eq]; exact q0)
 refine sr (Zc (v:=.bool false) rfl (dn (sr (Za (v:=u0_0) rfl ?_))))
 obtain ⟨Ad2,c3,hv4⟩:=Zw (hC.getP 0 rfl)
 refine Zv ZAu (tr rfl hv4) (Zbc rfl rfl (Za (v:=.bool (decide ((a0.length:Int)≤8))) rfl ?_))
 refine Yy (decide ((a0.length:Int)≤8)) (fun hb5=>?_) (fun hb5=>?_)
 ·replace h:=ift h (ct hb5)
  refine Zj 3 6 rfl rfl hb5 (Za (v:=u0_0) rfl (Zj 3 6 rfl rfl hb5 ?_))
  refine Zk [u0_0,.func (.func 80) #[] (ZAa [])] _ Try.func79 rfl rfl rfl (Zny a0 Zdl h _ (hC.getP 0 rfl) Try.func80 rfl rfl (fun x0_ K_ w_ _ hq_=>Znz x0_ hq_ w_)) (fun ret6 w8 hR7=>?_)
  obtain ⟨r9,rfl,h,hB10⟩:=hR7
  refine⟨_,rfl,?_⟩
  replace hC:=hC.grow hB10
  refine Zj 3 6 rfl rfl hb5 (Xc rfl (Z3 (v:=.bool (!r9)) (b:=true) (tr rfl (congrArg _ hb5)) rfl (Zc (v:=.bool (!r9)) rfl (dn (ZAk ?_)))))
  refine Zg (fn:=Try.f56) rfl ?_ ⟨!r9,rfl,h,hC.below⟩ (.inl rfl)
  exact Zf rfl
 ·replace h:=Zh h (cf hb5)
  refine Zi (b:=false) 3 6 rfl (tr rfl (congrArg _ hb5)) (by decide) (Zi (b:=false) 3 6 rfl (tr rfl (congrArg _ hb5)) (by decide) (Zi (b:=false) 3 6 rfl (tr rfl (congrArg _ hb5)) (by decide) (Z3 (v:=.bool false) (b:=false) (tr rfl (congrArg _ hb5)) rfl (Zc (v:=.bool false) rfl (dn (ZAk ?_))))))
  refine Zg (fn:=Try.f56) rfl ?_ ⟨false,rfl,h,hC.below⟩ (.inl rfl)
  exact Zf rfl
def Zdn (a0:List Int) (a1:A8) (K:Bool→Prop):Prop :=
 Yh (fun i10 (s10:Unit) nx10=>(if(i10:Int) < (a0.length:Int) then((0≤(i10:Int)∧(i10:Int) < (a0.length:Int))∧(if Ztb (a0.getD i10 Zsn) 2=1 then(if a1.get i10 > 1 then K false else nx10 ()) else(if a1.get i10 > 20 then K false else nx10 ()))) else(if a1.get i10 > 0 then K false else nx10 ()))) (fun (s10:Unit)=>K true) 8 0 ()
theorem Zn1 (a0:List Int) (a1:A8) {u0_0:Value} {fp0:List Nat} {K:Bool→Prop} (h:Zdn a0 a1 K) (w0:World) (q0:((EI .i64).ty.sl).rep a0 [u0_0] fp0 w0) :
  Calls ZAf 62 #[u0_0,.agg (ZAa (Zz8 .u8 a1))] w0 fun e w'=>∃ (r0:Bool),
   e=.returned (.bool r0)∧K r0∧Bel w0 w':=by
 unfold Zdn at h
 refine Zz (args:=[u0_0,.agg (ZAa (Zz8 .u8 a1))]) Try.func62 rfl 27 Try.ntmps62 (ZAe rfl) ?_
 have hC:=ZAv (X:=Nox) w0 [Zz9 ((EI .i64).ty.sl) a0 [u0_0] fp0] (by simp only [Zsj,Zur,or_false,forall_eq_or_imp,forall_eq]; exact q0)
 refine sr (Yg (v:=.agg (ZAa (Zz8 .u8 a1))) hC (Zz8 .u8 a1) rfl rfl fun b2 w4 hB_ hC=>Zc (v:=.bool false) rfl (dn (ZAc (sr (Yl hC 0 (Zz8 .u8 a1) rfl ag47 rfl rfl rfl (Za (v:=.int .i64 0) rfl (dn (ZAl ?_))))))))
 refine Yp (S:=Unit) _ _ (fun i10 s10 e_ w_=>Z1 e_ [(0,u0_0),(8,.agg (ZAa (Zz8 .u8 a1))),(9,.int .i64 (i10:Int))]∧Ctx Nox w0 w_ [] [Zz9 ((EI .i64).ty.sl) a0 [u0_0] fp0]) 8 ?_ ?_ (s0:=()) ?_ h
 ·clear hC h
  rintro i10 s10 e_ w10 nx10 K10 hi10 ⟨hS_,hC⟩ h hK10
  rw [ue hS_]
  refine sr (Zq rfl rfl (dn (ZAc (Yf rfl (decide_eq_true (by omega)) (ZAg (Zd (ZAc (ZAl (sr (Za (v:=.int .i64 (i10:Int)) rfl (Zc2 (.int .u8 (a1.get i10)) ZAp rfl rfl (ZAx _) (by omega) sc5 (ZAw _ _ hi10) ?_)))))))))))
  refine Zc (v:=.int .i64 (i10:Int)) rfl (Zc (v:=.int .u8 (a1.get i10)) rfl (dn (sr (Zc (v:=.int .u8 0) rfl (dn (ZAc (sr (Za (v:=.int .i64 (i10:Int)) rfl (Za (v:=u0_0) rfl ?_)))))))))
  obtain ⟨Ad10,c10,hv11⟩:=Zw (hC.getP 0 rfl)
  refine Zv ZAu (tr rfl hv11) (Zq rfl rfl (dn ?_))
  refine Zr rfl (fun hb10=>?_) (fun hb10=>?_)
  ·replace h:=ift h (ct hb10)
   refine sr (Zc (v:=.int .u8 20) rfl (dn (sr (Za (v:=u0_0) rfl (Za (v:=.int .i64 (i10:Int)) rfl ?_)))))
   obtain ⟨⟨h10,h11⟩,h⟩:=h
   obtain ⟨Ad11,c11,hv10⟩:=Z6 (hC.getP 0 rfl) i10 (show i10 < a0.length by omega)
   refine Yv (len:=a0.length) ZAu sc2.size (tr rfl hv10) rfl h10 h11 (Xy (.int .i64 (a0.getD i10 Zsn)) (Yj (hC.getP 0 rfl) hv10 i10 (show i10 < a0.length by omega)) sc2 rfl (Jf rfl rfl (by decide) (Ji rfl rfl (dn ?_))))
   refine Zr rfl (fun hb11=>?_) (fun hb11=>?_)
   ·replace h:=ift h (ct hb11)
    refine Zn (Zc (v:=.int .u8 1) rfl (dn (sr (Za (v:=.int .u8 (a1.get i10)) rfl (Za (v:=.int .u8 1) rfl (Jg rfl rfl (dn ?_)))))))
    refine Zr rfl (fun hb12=>?_) (fun hb12=>?_)
    ·replace h:=ift h (ct hb12)
     refine sr (Zc (v:=.bool false) rfl (dn ?_))
     refine ZAk (Z2 (Ze (Ze (Z2 (Ze ?_)))))
     refine Zg (fn:=Try.f62) rfl ?_ ⟨false,rfl,h,hC.below⟩ (.inl rfl)
     exact Zf rfl
    ·replace h:=Zh h (cf hb12)
     refine ZAg (Zt (Zd (Zn (Zp rfl rfl (Za (v:=.int .i64 (Zu2.wrap ((i10:Int)+1))) rfl (done ?_))))))
     exact hK10 () _ _ ⟨(sl ⟨rfl,rfl,(tr rfl (congrArg _ (Yb hi10 (by decide)))),trivial⟩),hC⟩ h
   ·replace h:=Zh h (cf hb11)
    refine ZAg (Zd (sr (Za (v:=.int .u8 (a1.get i10)) rfl (Za (v:=.int .u8 20) rfl (Jg rfl rfl (dn ?_))))))
    refine Zr rfl (fun hb13=>?_) (fun hb13=>?_)
    ·replace h:=ift h (ct hb13)
     refine sr (Zc (v:=.bool false) rfl (dn ?_))
     refine ZAk (Z2 (Ze (Ze (Z2 (Ze ?_)))))
     refine Zg (fn:=Try.f62) rfl ?_ ⟨false,rfl,h,hC.below⟩ (.inl rfl)
     exact Zf rfl
    ·replace h:=Zh h (cf hb13)
     refine ZAg (Zt (Zd (Zn (Zp rfl rfl (Za (v:=.int .i64 (Zu2.wrap ((i10:Int)+1))) rfl (done ?_))))))
     exact hK10 () _ _ ⟨(sl ⟨rfl,rfl,(tr rfl (congrArg _ (Yb hi10 (by decide)))),trivial⟩),hC⟩ h
  ·replace h:=Zh h (cf hb10)
   refine ZAg (Zd (sr (Za (v:=.int .u8 (a1.get i10)) rfl (Za (v:=.int .u8 0) rfl (Jg rfl rfl (dn ?_))))))
   refine Zr rfl (fun hb14=>?_) (fun hb14=>?_)
   ·replace h:=ift h (ct hb14)
    refine sr (Zc (v:=.bool false) rfl (dn ?_))
    refine ZAk (Z2 (Ze (Ze (Z2 (Ze ?_)))))
    refine Zg (fn:=Try.f62) rfl ?_ ⟨false,rfl,h,hC.below⟩ (.inl rfl)
    exact Zf rfl
   ·replace h:=Zh h (cf hb14)
    refine ZAg (Zt (Zd (Zn (Zp rfl rfl (Za (v:=.int .i64 (Zu2.wrap ((i10:Int)+1))) rfl (done ?_))))))
    exact hK10 () _ _ ⟨(sl ⟨rfl,rfl,(tr rfl (congrArg _ (Yb hi10 (by decide)))),trivial⟩),hC⟩ h
 ·clear hC h
  rintro s10 e_ w11 K10 ⟨hS_,hC⟩ h
  rw [ue hS_]
  refine sr (Zq rfl rfl (dn (ZAc (Yd rfl (decide_eq_false (by omega)) ?_))))
  refine ZAt (Zl (Zl (Z4 ?_)))
  refine Zd (sr (Zc (v:=.bool true) rfl (dn (ZAk ?_))))
  refine Zg (fn:=Try.f62) rfl ?_ ⟨true,rfl,h,hC.below⟩ (.inl rfl)
  exact Zf rfl
 ·skip
  replace hC:=hC.sM [] (M':=[]) (by decide) rfl
  exact⟨(sl ⟨rfl,rfl,rfl,trivial⟩),hC⟩
def Zfo (a0:Int) (K:Bool→Prop):Prop :=
 Zcf a0 1 10006 (fun r4=>K r4)
theorem Zn2 (a0:Int)  {K:Bool→Prop} (h:Zfo a0 K) (w0:World)  :
  Calls ZAf 63 #[.int .i64 a0] w0 fun e w'=>∃ (r0:Bool),
   e=.returned (.bool r0)∧K r0∧Bel w0 w':=by
 unfold Zfo at h
 refine Zz (args:=[.int .i64 a0]) Try.func63 rfl 5 Try.ntmps63 (ZAe rfl) ?_
 have hC:=ZAv (X:=Nox) w0 [] (by simp)
 refine sr (Zc (v:=.bool false) rfl (dn (sr (Za (v:=.int .i64 a0) rfl ?_))))
 refine Zk [.int .i64 a0,.int .i64 1,.int .i64 10006] _ Try.func81 rfl rfl rfl (Zji a0 1 10006 h _) (fun Zg w3 hR2=>?_)
 obtain ⟨r4,rfl,h,hB5⟩:=hR2
 refine⟨_,rfl,?_⟩
 replace hC:=hC.grow hB5
 refine Zc (v:=.bool r4) rfl (dn (ZAk ?_))
 refine Zg (fn:=Try.f63) rfl ?_ ⟨r4,rfl,h,hC.below⟩ (.inl rfl)
 exact Zf rfl
def Zcg (a0:List Int) (a1:ZAd) (K:Bool→Prop):Prop :=
 (if(a1.terms.length:Int) > 400 then K false else Yh (fun i10 (s10:Unit) nx10=>Zdn a0 ((a1.terms.getD i10 Zsn).mono) (fun r10=>(if¬ (r10=true) then K false else Zfo ((a1.terms.getD i10 Zsn).factor) (fun r13=>(if¬ (r13=true) then K false else(if(i10:Int) > 0 then((0≤Zu2.wrap ((i10:Int) - 1)∧Zu2.wrap ((i10:Int) - 1) < (a1.terms.length:Int))∧Zak ((a1.terms.getD ((Zu2.wrap ((i10:Int) - 1)).toNat) Zsn).mono) (fun r11=>Zak ((a1.terms.getD i10 Zsn).mono) (fun r12=>Zfl r11 r12 (fun r14=>(if r14≥0 then K false else nx10 ()))))) else nx10 ())))))) (fun (s10:Unit)=>K true) a1.terms.length 0 ())
theorem Zjj (a0:List Int) (a1:ZAd) {u0_0:Value} {u1_0:Value} {fp0:List Nat} {fp1:List Nat} {K:Bool→Prop} (h:Zcg a0 a1 K) (w0:World) (q0:((EI .i64).ty.sl).rep a0 [u0_0] fp0 w0) (q1:ZAq.rep a1 [u1_0] fp1 w0) :
  Calls ZAf 39 #[u0_0,.agg #[u1_0]] w0 fun e w'=>∃ (r0:Bool),
   e=.returned (.bool r0)∧K r0∧Bel w0 w':=by
 unfold Zcg at h
 refine Zz (args:=[u0_0,.agg #[u1_0]]) Try.func39 rfl 48 Try.ntmps39 (ZAe rfl) ?_
 have hC:=ZAv (X:=Nox) w0 [Zz9 ((EI .i64).ty.sl) a0 [u0_0] fp0,Zz9 TForm a1 [u1_0] fp1] (by simp only [Zsj,Zur,or_false,forall_eq_or_imp,forall_eq]; exact⟨q0,q1⟩)
 have hp3:=(hC.getP 1 rfl)
 replace hC:=hC.derive 1 rfl (Zz9 ZAb.ty.sl a1.terms [u1_0] fp1) (fun _=>(Yx hp3)) (fun _ hb_=>hb_)
 refine sr (Yg (v:=.agg #[u1_0]) hC [u1_0] rfl rfl fun b5 w7 hB_ hC=>Zc (v:=.bool false) rfl (dn (ZAc (sr (Zx 0 ZAh rfl sc42.size rfl rfl (Z0 hC 0 (u1_0) rfl sc42 rfl rfl ?_))))))
 obtain ⟨Ad8,c9,hv12⟩:=Zw (hC.getP 0 rfl)
 refine Zv ZAj (tr rfl hv12) (Jg rfl rfl (dn ?_))
 refine Zr rfl (fun hb12=>?_) (fun hb12=>?_)
 ·replace h:=ift h (ct hb12)
  refine sr (Zc (v:=.bool false) rfl (dn ?_))
  refine ZAk (Ze ?_)
  refine Zg (fn:=Try.f39) rfl ?_ ⟨false,rfl,h,hC.below⟩ (.inl rfl)
  exact Zf rfl
 ·replace h:=Zh h (cf hb12)
  refine ZAg (Zd (ZAc (sr (Zx 0 ZAh rfl sc42.size rfl rfl (Z0 hC 0 (u1_0) rfl sc42 rfl rfl ?_)))))
  obtain ⟨Ad11,c10,hv13⟩:=Zw (hC.getP 0 rfl)
  refine Zv ZAj (tr rfl hv13) (Za (v:=.int .i64 0) rfl (dn (ZAl ?_)))
  have hN10:a1.terms.length≤9223372036854775807:=Y9 (hC.getP 0 rfl)
  refine Yp (S:=Unit) _ _ (fun i10 s10 e_ w_=>Z1 e_ [(0,u0_0),(3,.pointer (some ⟨b5,0,none⟩)),(12,u1_0),(13,.int .i64 (a1.terms.length:Int)),(14,.int .i64 (i10:Int))]∧Ctx Nox w0 w_ [blk b5 44 [u1_0]] [Zz9 ZAb.ty.sl a1.terms [u1_0] fp1,Zz9 ((EI .i64).ty.sl) a0 [u0_0] fp0,Zz9 TForm a1 [u1_0] fp1]) a1.terms.length ?_ ?_ (s0:=()) ?_ h
  ·clear hC h
   rintro i10 s10 e_ w10 nx10 K10 hi10 ⟨hS_,hC⟩ h hK10
   rw [ue hS_]
   refine sr (Zq rfl rfl (dn (ZAc (Yf rfl (decide_eq_true (by omega)) (ZAg (Zd (ZAc (ZAl (sr (Za (v:=.int .i64 (i10:Int)) rfl ?_))))))))))
   obtain ⟨Ad12,c11,hv10⟩:=Z6 (hC.getP 0 rfl) i10 hi10
   refine Yv (len:=a1.terms.length) ZAj ag49.size (tr rfl hv10) rfl (ZAx _) (ZBk.2 hi10) (Jh (ZAn (a1.terms.getD i10 Zsn)) (Yj (hC.getP 0 rfl) hv10 i10 hi10) ag49 rfl rfl (Ye hC (ZAn (⟨ZAi,0⟩:Term)) z49 rfl fun b10 w11 hB_ hC=>Zc (v:=.int .i64 (i10:Int)) rfl (Zy (v:=.agg (ZAa (ZAn (a1.terms.getD i10 Zsn)))) hC 0 (ZAn (a1.terms.getD i10 Zsn)) (ZAn (a1.terms.getD i10 Zsn)) rfl ag49.size rfl rfl rfl rfl rfl (ZAe rfl) rfl fun w12 hC=>dn (ZAc (sr (Za (v:=u0_0) rfl (Zx 0 ZAr rfl ag47.size rfl rfl (Yl hC 0 (Zz8 .u8 ((a1.terms.getD i10 Zsn).mono)) rfl ag47 rfl rfl rfl ?_))))))))
   refine Zk [u0_0,.agg (ZAa (Zz8 .u8 ((a1.terms.getD i10 Zsn).mono)))] _ Try.func62 rfl rfl rfl (Zn1 a0 ((a1.terms.getD i10 Zsn).mono) h _ (hC.getP 1 rfl)) (fun ret10 w13 hR10=>?_)
   obtain ⟨r10,rfl,h,hB10⟩:=hR10
   refine⟨_,rfl,?_⟩
   replace hC:=hC.grow hB10
   refine Xc rfl (Za (v:=.bool (!r10)) rfl ?_)
   refine Yy (!r10) (fun hb11=>?_) (fun hb11=>?_)
   ·replace h:=ift h (Yw (Xg hb11))
    refine Zi (b:=true) 5 24 rfl (tr rfl (congrArg _ hb11)) (by decide) (Zi (b:=true) 5 24 rfl (tr rfl (congrArg _ hb11)) (by decide) (Zi (b:=true) 5 24 rfl (tr rfl (congrArg _ hb11)) (by decide) (Zi (b:=true) 5 24 rfl (tr rfl (congrArg _ hb11)) (by decide) (Z3 (v:=.bool true) (b:=true) (tr rfl (congrArg _ hb11)) rfl (dn (Yf rfl rfl (sr (Zc (v:=.bool false) rfl (dn ?_)))))))))
    refine ZAk (Ze (Z2 (Ze (Ze (Z2 (Ze ?_))))))
    refine Zg (fn:=Try.f39) rfl ?_ ⟨false,rfl,h,hC.below⟩ (.inl rfl)
    exact Zf rfl
   ·replace h:=Zh h (not_not_intro ((Xh hb11)))
    refine Zj 5 24 rfl rfl hb11 (Zx 8 ZAr rfl sc2.size rfl rfl (Zj 5 24 rfl rfl hb11 (Z0 hC 0 (.int .i64 ((a1.terms.getD i10 Zsn).factor)) rfl sc2 rfl rfl (Zj 5 24 rfl rfl hb11 ?_))))
    refine Zk [.int .i64 ((a1.terms.getD i10 Zsn).factor)] _ Try.func63 rfl rfl rfl (Zn2 ((a1.terms.getD i10 Zsn).factor) h _) (fun ret11 w14 hR11=>?_)
    obtain ⟨r13,rfl,h,hB11⟩:=hR11
    refine⟨_,rfl,?_⟩
    replace hC:=hC.grow hB11
    refine Zj 5 24 rfl rfl hb11 (Xc rfl (Z3 (v:=.bool (!r13)) (b:=false) (tr rfl (congrArg _ hb11)) rfl (dn ?_)))
    refine Zr rfl (fun hb13=>?_) (fun hb13=>?_)
    ·replace h:=ift h (Yw (Xg hb13))
     refine sr (Zc (v:=.bool false) rfl (dn ?_))
     refine ZAk (Ze (Z2 (Ze (Ze (Z2 (Ze ?_))))))
     refine Zg (fn:=Try.f39) rfl ?_ ⟨false,rfl,h,hC.below⟩ (.inl rfl)
     exact Zf rfl
    ·replace h:=Zh h (not_not_intro ((Xh hb13)))
     refine ZAg (Zd (ZAc ?_))
     refine Yq 13 mixed [0,1,3,7,15,7,39,127,255,511,1023,7,2055,8191,16383,32767,65535] [4,7,9,12] [0,1,2,3,4,5,6,7,8,9,10,11,12] (by kernel_rfl) (by kernel_rfl) (by kernel_rfl) (fun hM11 hM10 w15 hB_=>?_)
     replace hC:=hC.grow hB_
     refine aF 0 (.int .i64 (i10:Int)) rfl rfl (hM10 0 rfl) (rfl) (fun _=>by exact Zs (v:=.int .i64 (i10:Int)) rfl) (Zb 17 1) (aF 1 (.bool (decide ((i10:Int) > 0))) rfl rfl (hM10 1 rfl) (rfl) (fun _=>by exact Zh4 rfl rfl) (Zb 17 3) (aF 2 (.bool (decide ((i10:Int) > 0))) rfl rfl (hM10 2 rfl) (rfl) (fun _=>by exact Zs (v:=.bool (decide ((i10:Int) > 0))) rfl) (Zb 17 7) ?_))
     refine Yy (decide ((i10:Int) > 0)) (fun hb10=>?_) (fun hb10=>?_)
     ·replace h:=ift h (ct hb10)
      refine aF 3 (.pointer (some ⟨b5,0,none⟩)) rfl rfl (hM10 3 rfl) (Z9 2 32 rfl rfl hb10) (fun _=>by exact Yi 0 ZAh rfl sc42.size rfl rfl) (Zb 17 15) (aL 4 (u1_0) rfl rfl (hM11 4 rfl) (Z9 2 32 rfl rfl hb10) (fun _ hB_=>by exact Yc (hC.grow hB_) 1 (u1_0) rfl sc42 rfl rfl) (Zb 17 31) (aF 5 (.int .i64 (i10:Int)) rfl rfl (hM10 5 rfl) (Z9 2 32 rfl rfl hb10) (fun _=>by exact Zs (v:=.int .i64 (i10:Int)) rfl) (Zb 17 63) (aF 6 (.int .i64 (Zu2.wrap ((i10:Int) - 1))) rfl rfl (hM10 6 rfl) (Z9 2 32 rfl rfl hb10) (fun _=>by exact Zh2 rfl rfl) (Zb 17 127) ?_)))
      obtain ⟨⟨h10,h11⟩,h⟩:=h
      obtain ⟨Ad10,c12,hv11⟩:=Z6 (hC.getP 0 rfl) ((Zu2.wrap ((i10:Int) - 1)).toNat) (show (Zu2.wrap ((i10:Int) - 1)).toNat < a1.terms.length by omega)
      refine aL 7 (.pointer (some (Ad10.add ((Zu2.wrap ((i10:Int) - 1)).toNat * 9)))) rfl rfl (hM11 7 rfl) (Z9 2 32 rfl rfl hb10) (fun _ hB_=>by exact Y2 (len:=a1.terms.length) ZAj ag49.size (by exact tr rfl hv11) rfl h10 h11) (Zb 17 255) (aF 8 (.pointer (some (Ad10.add ((Zu2.wrap ((i10:Int) - 1)).toNat * 9+0)))) rfl rfl (hM10 8 rfl) (Z9 2 32 rfl rfl hb10) (fun _=>by exact Jv ((Zu2.wrap ((i10:Int) - 1)).toNat * 9+0) ZAr rfl ag47.size rfl rfl) (Zb 17 511) (aL 9 (.agg (ZAa (Zz8 .u8 ((a1.terms.getD ((Zu2.wrap ((i10:Int) - 1)).toNat) Zsn).mono)))) rfl rfl (hM11 9 rfl) (Z9 2 32 rfl rfl hb10) (fun _ hB_=>by exact Xs (Zz8 .u8 ((a1.terms.getD ((Zu2.wrap ((i10:Int) - 1)).toNat) Zsn).mono)) (X6 (o:=0) (k:=8) (Yj ((hC.grow hB_).getP 0 rfl) hv11 ((Zu2.wrap ((i10:Int) - 1)).toNat) (show (Zu2.wrap ((i10:Int) - 1)).toNat < a1.terms.length by omega)) rfl) ag47 rfl rfl) (Zb 17 1023) (aF 11 (.pointer (some ⟨b10,0,none⟩)) rfl rfl (hM10 11 rfl) (Z9 2 32 rfl rfl hb10) (fun _=>by exact Yi 0 ZAr rfl ag47.size rfl rfl) (Zb 17 3071) (aL 12 (.agg (ZAa (Zz8 .u8 ((a1.terms.getD i10 Zsn).mono)))) rfl rfl (hM11 12 rfl) (Z9 2 32 rfl rfl hb10) (fun _ hB_=>by exact Y8 (hC.grow hB_) 0 (Zz8 .u8 ((a1.terms.getD i10 Zsn).mono)) rfl ag47 rfl rfl rfl) (Zb 17 7167) (aO 10 rfl ?_)))))
      refine Zj 2 32 rfl rfl hb10 ?_
      refine Zk [.agg (ZAa (Zz8 .u8 ((a1.terms.getD ((Zu2.wrap ((i10:Int) - 1)).toNat) Zsn).mono)))] _ ZC6 rfl rfl rfl (Zdj ((a1.terms.getD ((Zu2.wrap ((i10:Int) - 1)).toNat) Zsn).mono) h _) (fun ret12 w16 hR12=>?_)
      obtain ⟨r11,rfl,h,hB12⟩:=hR12
      refine⟨_,rfl,?_⟩
      replace hC:=hC.grow hB12
      refine done (aK (by assumption) (Zb 17 8191) (Z7 13 (by decide) (by decide) (by kernel_rfl) (by kernel_rfl) rfl (Zj 2 32 rfl rfl hb10 ?_)))
      refine Zk [.agg (ZAa (Zz8 .u8 ((a1.terms.getD i10 Zsn).mono)))] _ ZC6 rfl rfl rfl (Zdj ((a1.terms.getD i10 Zsn).mono) h _) (fun ret13 w17 hR13=>?_)
      obtain ⟨r12,rfl,h,hB13⟩:=hR13
      refine⟨_,rfl,?_⟩
      replace hC:=hC.grow hB13
      refine Zj 2 32 rfl rfl hb10 ?_
      refine Zk [.agg (ZAa (Zz8 .i64 r11)),.agg (ZAa (Zz8 .i64 r12))] _ Try.func64 rfl rfl rfl (Znv r11 r12 h _) (fun ret14 w18 hR14=>?_)
      obtain ⟨r14,rfl,h,hB14⟩:=hR14
      refine⟨_,rfl,?_⟩
      replace hC:=hC.grow hB14
      refine Zj 2 32 rfl rfl hb10 (Zao rfl rfl (Z3 (v:=.bool (decide (r14≥0))) (b:=true) (tr rfl (congrArg _ hb10)) rfl (done (Z8 (Zd ?_)))))
      refine Zr rfl (fun hb14=>?_) (fun hb14=>?_)
      ·replace h:=ift h (ct hb14)
       refine sr (Zc (v:=.bool false) rfl (dn ?_))
       refine ZAk (Z2 (Ze (Ze (Z2 (Ze ?_)))))
       refine Zg (fn:=Try.f39) rfl ?_ ⟨false,rfl,h,hC.below⟩ (.inl rfl)
       exact Zf rfl
      ·replace h:=Zh h (cf hb14)
       refine ZAg (Zt (Zd (Zn (Zp rfl rfl (Za (v:=.int .i64 (Zu2.wrap ((i10:Int)+1))) rfl (done ?_))))))
       replace hC:=hC.sM [1] (M':=[blk b5 44 [u1_0]]) (by decide) rfl
       exact hK10 () _ _ ⟨(sl ⟨rfl,rfl,rfl,rfl,(tr rfl (congrArg _ (Yb hi10 hN10))),trivial⟩),hC⟩ h
     ·replace h:=Zh h (cf hb10)
      refine Zo Zu 3 undef rfl rfl (by kernel_rfl) (hM10 3 rfl) (fun w_=>.inr ⟨Z5 (b:=false) 2 32 rfl (tr rfl (congrArg _ hb10)) (by decide),rfl⟩) (l9:=(Zb 17 15)) (by kernel_rfl) (Zo Zu 4 undef rfl rfl (by kernel_rfl) (hM10 4 rfl) (fun w_=>.inr ⟨Z5 (b:=false) 2 32 rfl (tr rfl (congrArg _ hb10)) (by decide),rfl⟩) (l9:=(Zb 17 31)) (by kernel_rfl) (Zo Zu 5 undef rfl rfl (by kernel_rfl) (hM10 5 rfl) (fun w_=>.inr ⟨Z5 (b:=false) 2 32 rfl (tr rfl (congrArg _ hb10)) (by decide),rfl⟩) (l9:=(Zb 17 63)) (by kernel_rfl) (Zo Zu 6 undef rfl rfl (by kernel_rfl) (hM10 6 rfl) (fun w_=>.inr ⟨Z5 (b:=false) 2 32 rfl (tr rfl (congrArg _ hb10)) (by decide),rfl⟩) (l9:=(Zb 17 127)) (by kernel_rfl) (Zo Zu 7 undef rfl rfl (by kernel_rfl) (hM10 7 rfl) (fun w_=>.inr ⟨Z5 (b:=false) 2 32 rfl (tr rfl (congrArg _ hb10)) (by decide),rfl⟩) (l9:=(Zb 17 255)) (by kernel_rfl) (Zo Zu 8 undef rfl rfl (by kernel_rfl) (hM10 8 rfl) (fun w_=>.inr ⟨Z5 (b:=false) 2 32 rfl (tr rfl (congrArg _ hb10)) (by decide),rfl⟩) (l9:=(Zb 17 511)) (by kernel_rfl) (Zo Zu 9 undef rfl rfl (by kernel_rfl) (hM10 9 rfl) (fun w_=>.inr ⟨Z5 (b:=false) 2 32 rfl (tr rfl (congrArg _ hb10)) (by decide),rfl⟩) (l9:=(Zb 17 1023)) (by kernel_rfl) (Zo Zu 10 undef rfl rfl (by kernel_rfl) (hM10 10 rfl) (fun w_=>.inr ⟨Z5 (b:=false) 2 32 rfl (tr rfl (congrArg _ hb10)) (by decide),rfl⟩) (l9:=(Zb 17 2047)) (by kernel_rfl) ?_)))))))
      refine Zo Zu 11 undef rfl rfl (by kernel_rfl) (hM10 11 rfl) (fun w_=>.inr ⟨Z5 (b:=false) 2 32 rfl (tr rfl (congrArg _ hb10)) (by decide),rfl⟩) (l9:=(Zb 17 4095)) (by kernel_rfl) (Zo Zu 12 undef rfl rfl (by kernel_rfl) (hM10 12 rfl) (fun w_=>.inr ⟨Z5 (b:=false) 2 32 rfl (tr rfl (congrArg _ hb10)) (by decide),rfl⟩) (l9:=(Zb 17 8191)) (by kernel_rfl) (Z7 13 (by decide) (by decide) (by kernel_rfl) (by kernel_rfl) rfl (Zi (b:=false) 2 32 rfl (tr rfl (congrArg _ hb10)) (by decide) (Zi (b:=false) 2 32 rfl (tr rfl (congrArg _ hb10)) (by decide) (Zi (b:=false) 2 32 rfl (tr rfl (congrArg _ hb10)) (by decide) (Z3 (v:=.bool false) (b:=false) (tr rfl (congrArg _ hb10)) rfl (done (Z8 (Zd (Yd rfl rfl (ZAg ?_)))))))))))
      refine Zt (Zd (Zn (Zp rfl rfl (Za (v:=.int .i64 (Zu2.wrap ((i10:Int)+1))) rfl (done ?_)))))
      replace hC:=hC.sM [1] (M':=[blk b5 44 [u1_0]]) (by decide) rfl
      exact hK10 () _ _ ⟨(sl ⟨rfl,rfl,rfl,rfl,(tr rfl (congrArg _ (Yb hi10 hN10))),trivial⟩),hC⟩ h
  ·clear hC h
   rintro s10 e_ w19 K10 ⟨hS_,hC⟩ h
   rw [ue hS_]
   refine sr (Zq rfl rfl (dn (ZAc (Yd rfl (decide_eq_false (by omega)) ?_))))
   refine ZAt (Zl (Zl (Z4 ?_)))
   refine Zd (sr (Zc (v:=.bool true) rfl (dn (ZAk ?_))))
   refine Zg (fn:=Try.f39) rfl ?_ ⟨true,rfl,h,hC.below⟩ (.inl rfl)
   exact Zf rfl
  ·skip
   exact⟨(sl ⟨rfl,rfl,rfl,rfl,rfl,trivial⟩),hC⟩
def Zdo (a0:A8) (a1:List Int) (K:Int→Prop):Prop :=
 Yh (fun i10 (s10:Int) nx10=>((0≤(i10:Int)∧(i10:Int) < 8)∧nx10 (Zu2.wrap (s10+(Zu2.wrap ((a1.getD i10 Zsn) * (a0.get i10))))))) (fun (s10:Int)=>K s10) a1.length 0 0
theorem Zn3 (a0:A8) (a1:List Int) {u1_0:Value} {fp1:List Nat} {K:Int→Prop} (h:Zdo a0 a1 K) (w0:World) (q1:((EI .i64).ty.sl).rep a1 [u1_0] fp1 w0) :
  Calls ZAf 96 #[.agg (ZAa (Zz8 .i64 a0)),u1_0] w0 fun e w'=>∃ (r0:Int),
   e=.returned (.int .i64 r0)∧K r0∧Bel w0 w':=by
 unfold Zdo at h
 refine Zz (args:=[.agg (ZAa (Zz8 .i64 a0)),u1_0]) Try.func96 rfl 24 Try.ntmps96 (ZAe rfl) ?_
 have hC:=ZAv (X:=Nox) w0 [Zz9 ((EI .i64).ty.sl) a1 [u1_0] fp1] (by simp only [Zsj,Zur,or_false,forall_eq_or_imp,forall_eq]; exact q1)
 refine sr (Yg (v:=.agg (ZAa (Zz8 .i64 a0))) hC (Zz8 .i64 a0) rfl rfl fun b2 w4 hB_ hC=>Zc (v:=.int .i64 0) rfl (dn (sr (Zc (v:=.int .i64 0) rfl (dn (ZAc (sr (Za (v:=u1_0) rfl ?_))))))))
 obtain ⟨Ad5,c6,hv7⟩:=Zw (hC.getP 0 rfl)
 refine Zv ZAu (tr rfl hv7) (Za (v:=.int .i64 0) rfl (dn (ZAl ?_)))
 have hN10:a1.length≤9223372036854775807:=Y9 (hC.getP 0 rfl)
 refine Yp (S:=Int) _ _ (fun i10 s10 e_ w_=>Z1 e_ [(2,.pointer (some ⟨b2,0,none⟩)),(5,.int .i64 s10),(8,u1_0),(9,.int .i64 (a1.length:Int)),(10,.int .i64 (i10:Int))]∧Ctx Nox w0 w_ [blk b2 55 (Zz8 .i64 a0)] [Zz9 ((EI .i64).ty.sl) a1 [u1_0] fp1]) a1.length ?_ ?_ (s0:=0) ?_ h
 ·clear hC h
  rintro i10 s10 e_ w10 nx10 K10 hi10 ⟨hS_,hC⟩ h hK10
  rw [ue hS_]
  refine sr (Zq rfl rfl (dn (ZAc (Yf rfl (decide_eq_true (by omega)) (ZAg (Zd (ZAc (ZAl (sr (Za (v:=.int .i64 (i10:Int)) rfl ?_))))))))))
  obtain ⟨Ad10,c10,hv10⟩:=Z6 (hC.getP 0 rfl) i10 hi10
  refine Yv (len:=a1.length) ZAu sc2.size (tr rfl hv10) rfl (ZAx _) (ZBk.2 hi10) (Xy (.int .i64 (a1.getD i10 Zsn)) (Yj (hC.getP 0 rfl) hv10 i10 hi10) sc2 rfl (Zc (v:=.int .i64 (i10:Int)) rfl (Zc (v:=.int .i64 (a1.getD i10 Zsn)) rfl (dn (Zn (Za (v:=.int .i64 s10) rfl (Za (v:=.int .i64 (a1.getD i10 Zsn)) rfl (Za (v:=.int .i64 (i10:Int)) rfl ?_))))))))
  obtain ⟨⟨h10,h11⟩,h⟩:=h
  refine Y1 i10 ZBh sc3.size rfl rfl h10 h11 (by omega) (Z0 hC 0 (.int .i64 (a0.get i10)) rfl sc3 rfl (ZAw _ _ (show i10 < 8 by omega)) (Zaw rfl rfl (Zp rfl rfl (Zc (v:=.int .i64 (Zu2.wrap (s10+(Zu2.wrap ((a1.getD i10 Zsn) * (a0.get i10)))))) rfl (done (Zt (Zd (Zn (Zp rfl rfl (Za (v:=.int .i64 (Zu2.wrap ((i10:Int)+1))) rfl (done ?_)))))))))))
  exact hK10 (Zu2.wrap (s10+(Zu2.wrap ((a1.getD i10 Zsn) * (a0.get i10))))) _ _ ⟨(sl ⟨rfl,rfl,rfl,rfl,(tr rfl (congrArg _ (Yb hi10 hN10))),trivial⟩),hC⟩ h
 ·clear hC h
  rintro s10 e_ w11 K10 ⟨hS_,hC⟩ h
  rw [ue hS_]
  refine sr (Zq rfl rfl (dn (ZAc (Yd rfl (decide_eq_false (by omega)) ?_))))
  refine ZAt (Zl (Zl (Z4 ?_)))
  refine Zd (sr (Za (v:=.int .i64 s10) rfl (Zc (v:=.int .i64 s10) rfl (dn (ZAk ?_)))))
  refine Zg (fn:=Try.f96) rfl ?_ ⟨s10,rfl,h,hC.below⟩ (.inl rfl)
  exact Zf rfl
 ·skip
  exact⟨(sl ⟨rfl,rfl,rfl,rfl,rfl,trivial⟩),hC⟩
def Zdp (a0:List Int) (a1:ZAd) (K:Int→Bool→Prop):Prop :=
 Yh (fun i10 (s10:Int) nx10=>Zak ((a1.terms.getD i10 Zsn).mono) (fun r11=>Zdo r11 a0 (fun r10=>(if s10≥0 then(if r10≠s10 then K 0 false else nx10 r10) else nx10 r10)))) (fun (s10:Int)=>K s10 true) a1.terms.length 0 (-1)
theorem Zn4 (a0:List Int) (a1:ZAd) {u0_0:Value} {u1_0:Value} {fp0:List Nat} {fp1:List Nat} {K:Int→Bool→Prop} (h:Zdp a0 a1 K) (w0:World) (q0:((EI .i64).ty.sl).rep a0 [u0_0] fp0 w0) (q1:ZAq.rep a1 [u1_0] fp1 w0) :
  Calls ZAf 82 #[u0_0,.agg #[u1_0]] w0 fun e w'=>∃ (r0:Int) (r1:Bool),
   e=.returned (.tuple #[.int .i64 r0,.bool r1])∧K r0 r1∧Bel w0 w':=by
 unfold Zdp at h
 refine Zz (args:=[u0_0,.agg #[u1_0]]) Try.func82 rfl 32 Try.ntmps82 (ZAe rfl) ?_
 have hC:=ZAv (X:=Nox) w0 [Zz9 ((EI .i64).ty.sl) a0 [u0_0] fp0,Zz9 TForm a1 [u1_0] fp1] (by simp only [Zsj,Zur,or_false,forall_eq_or_imp,forall_eq]; exact⟨q0,q1⟩)
 have hp3:=(hC.getP 1 rfl)
 replace hC:=hC.derive 1 rfl (Zz9 ZAb.ty.sl a1.terms [u1_0] fp1) (fun _=>(Yx hp3)) (fun _ hb_=>hb_)
 refine sr (Yg (v:=.agg #[u1_0]) hC [u1_0] rfl rfl fun b5 w7 hB_ hC=>Zc (v:=.int .i64 0) rfl (Zc (v:=.bool false) rfl (dn (sr (Zc (v:=.int .i64 (-1)) rfl (dn (ZAc (sr (Zx 0 ZAh rfl sc42.size rfl rfl (Z0 hC 0 (u1_0) rfl sc42 rfl rfl ?_))))))))))
 obtain ⟨Ad8,c9,hv11⟩:=Zw (hC.getP 0 rfl)
 refine Zv ZAj (tr rfl hv11) (Za (v:=.int .i64 0) rfl (dn (ZAl ?_)))
 have hN10:a1.terms.length≤9223372036854775807:=Y9 (hC.getP 0 rfl)
 refine Yp (S:=Int) _ _ (fun i10 s10 e_ w_=>Z1 e_ [(0,u0_0),(6,.int .i64 s10),(11,u1_0),(12,.int .i64 (a1.terms.length:Int)),(13,.int .i64 (i10:Int))]∧Ctx Nox w0 w_ [] [Zz9 ZAb.ty.sl a1.terms [u1_0] fp1,Zz9 ((EI .i64).ty.sl) a0 [u0_0] fp0,Zz9 TForm a1 [u1_0] fp1]) a1.terms.length ?_ ?_ (s0:=(-1)) ?_ h
 ·clear hC h
  rintro i10 s10 e_ w10 nx10 K10 hi10 ⟨hS_,hC⟩ h hK10
  rw [ue hS_]
  refine sr (Zq rfl rfl (dn (ZAc (Yf rfl (decide_eq_true (by omega)) (ZAg (Zd (ZAc (ZAl (sr ?_)))))))))
  obtain ⟨Ad10,c10,hv10⟩:=Z6 (hC.getP 0 rfl) i10 hi10
  refine Yv (len:=a1.terms.length) ZAj ag49.size (tr rfl hv10) rfl (ZAx _) (ZBk.2 hi10) (Jh (ZAn (a1.terms.getD i10 Zsn)) (Yj (hC.getP 0 rfl) hv10 i10 hi10) ag49 rfl rfl (Ye hC (ZAn (⟨ZAi,0⟩:Term)) z49 rfl fun b10 w11 hB_ hC=>Zy (v:=.agg (ZAa (ZAn (a1.terms.getD i10 Zsn)))) hC 0 (ZAn (a1.terms.getD i10 Zsn)) (ZAn (a1.terms.getD i10 Zsn)) rfl ag49.size rfl rfl rfl rfl rfl (ZAe rfl) rfl fun w12 hC=>dn (sr (Zx 0 ZAr rfl ag47.size rfl rfl (Yl hC 0 (Zz8 .u8 ((a1.terms.getD i10 Zsn).mono)) rfl ag47 rfl rfl rfl ?_)))))
  refine Zk [.agg (ZAa (Zz8 .u8 ((a1.terms.getD i10 Zsn).mono)))] _ ZC6 rfl rfl rfl (Zdj ((a1.terms.getD i10 Zsn).mono) h _) (fun ret10 w13 hR10=>?_)
  obtain ⟨r11,rfl,h,hB10⟩:=hR10
  refine⟨_,rfl,?_⟩
  replace hC:=hC.grow hB10
  refine Za (v:=u0_0) rfl ?_
  refine Zk [.agg (ZAa (Zz8 .i64 r11)),u0_0] _ Try.func96 rfl rfl rfl (Zn3 r11 a0 h _ (hC.getP 1 rfl)) (fun ret11 w14 hR11=>?_)
  obtain ⟨r10,rfl,h,hB11⟩:=hR11
  refine⟨_,rfl,?_⟩
  replace hC:=hC.grow hB11
  refine Zc (v:=.int .i64 r10) rfl (dn (ZAc (sr (Za (v:=.int .i64 s10) rfl (Zao rfl rfl (Za (v:=.bool (decide (s10≥0))) rfl ?_))))))
  refine Yy (decide (s10≥0)) (fun hb10=>?_) (fun hb10=>?_)
  ·replace h:=ift h (ct hb10)
   refine Zj 2 24 rfl rfl hb10 (Za (v:=.int .i64 r10) rfl (Zj 2 24 rfl rfl hb10 (Za (v:=.int .i64 s10) rfl (Zj 2 24 rfl rfl hb10 (Y0 rfl rfl (Z3 (v:=.bool (decide (r10≠s10))) (b:=true) (tr rfl (congrArg _ hb10)) rfl (dn ?_)))))))
   refine Zr rfl (fun hb11=>?_) (fun hb11=>?_)
   ·replace h:=ift h (ct hb11)
    refine sr (Zc (v:=.int .i64 0) rfl (Zc (v:=.bool false) rfl (dn ?_)))
    refine ZAk (Ze (Z2 (Ze (Ze (Z2 (Ze ?_))))))
    refine Jj (fn:=Try.f82) rfl ?_ ?_ ⟨0,false,rfl,h,hC.below⟩ (.inl rfl)
    ·exact Zf rfl
    ·exact Zf rfl
   ·replace h:=Zh h (cf hb11)
    refine ZAg (Zd (Zn (Za (v:=.int .i64 r10) rfl (Zc (v:=.int .i64 r10) rfl (done (Zt (Zd (Zn (Zp rfl rfl (Za (v:=.int .i64 (Zu2.wrap ((i10:Int)+1))) rfl (done ?_)))))))))))
    replace hC:=hC.sM [] (M':=[]) (by decide) rfl
    exact hK10 r10 _ _ ⟨(sl ⟨rfl,rfl,rfl,rfl,(tr rfl (congrArg _ (Yb hi10 hN10))),trivial⟩),hC⟩ h
  ·replace h:=Zh h (cf hb10)
   refine Zi (b:=false) 2 24 rfl (tr rfl (congrArg _ hb10)) (by decide) (Zi (b:=false) 2 24 rfl (tr rfl (congrArg _ hb10)) (by decide) (Zi (b:=false) 2 24 rfl (tr rfl (congrArg _ hb10)) (by decide) (Z3 (v:=.bool false) (b:=false) (tr rfl (congrArg _ hb10)) rfl (dn (Yd rfl rfl (ZAg (Zd (Zn (Za (v:=.int .i64 r10) rfl (Zc (v:=.int .i64 r10) rfl (done ?_)))))))))))
   refine Zt (Zd (Zn (Zp rfl rfl (Za (v:=.int .i64 (Zu2.wrap ((i10:Int)+1))) rfl (done ?_)))))
   replace hC:=hC.sM [] (M':=[]) (by decide) rfl
   exact hK10 r10 _ _ ⟨(sl ⟨rfl,rfl,rfl,rfl,(tr rfl (congrArg _ (Yb hi10 hN10))),trivial⟩),hC⟩ h
 ·clear hC h
  rintro s10 e_ w15 K10 ⟨hS_,hC⟩ h
  rw [ue hS_]
  refine sr (Zq rfl rfl (dn (ZAc (Yd rfl (decide_eq_false (by omega)) ?_))))
  refine ZAt (Zl (Zl (Z4 ?_)))
  refine Zd (sr (Za (v:=.int .i64 s10) rfl (Zc (v:=.int .i64 s10) rfl (Zc (v:=.bool true) rfl (dn (ZAk ?_))))))
  refine Jj (fn:=Try.f82) rfl ?_ ?_ ⟨s10,true,rfl,h,hC.below⟩ (.inl rfl)
  ·exact Zf rfl
  ·exact Zf rfl
 ·skip
  replace hC:=hC.sM [] (M':=[]) (by decide) rfl
  exact⟨(sl ⟨rfl,rfl,rfl,rfl,rfl,trivial⟩),hC⟩
def Zdq (a0:List Int) (a1:ZAd) (a2:Int) (K:Bool→Prop):Prop :=
 Zdp a0 a1 (fun r10 r11=>(if r11=true then(if r10=(-1) then K true else K (decide (r10=a2))) else K false))
theorem Zn5 (a0:List Int) (a1:ZAd) (a2:Int) {u0_0:Value} {u1_0:Value} {fp0:List Nat} {fp1:List Nat} {K:Bool→Prop} (h:Zdq a0 a1 a2 K) (w0:World) (q0:((EI .i64).ty.sl).rep a0 [u0_0] fp0 w0) (q1:ZAq.rep a1 [u1_0] fp1 w0) :
  Calls ZAf 57 #[u0_0,.agg #[u1_0],.int .i64 a2] w0 fun e w'=>∃ (r0:Bool),
   e=.returned (.bool r0)∧K r0∧Bel w0 w':=by
 unfold Zdq at h
 refine Zz (args:=[u0_0,.agg #[u1_0],.int .i64 a2]) Try.func57 rfl 25 Try.ntmps57 (ZAe rfl) ?_
 have hC:=ZAv (X:=Nox) w0 [Zz9 ((EI .i64).ty.sl) a0 [u0_0] fp0,Zz9 TForm a1 [u1_0] fp1] (by simp only [Zsj,Zur,or_false,forall_eq_or_imp,forall_eq]; exact⟨q0,q1⟩)
 have hp3:=(hC.getP 1 rfl)
 replace hC:=hC.derive 1 rfl (Zz9 ZAb.ty.sl a1.terms [u1_0] fp1) (fun _=>(Yx hp3)) (fun _ hb_=>hb_)
 refine sr (Yg (v:=.agg #[u1_0]) hC [u1_0] rfl rfl fun b5 w7 hB_ hC=>Zc (v:=.bool false) rfl (dn (sr (Za (v:=u0_0) rfl (Yl hC 0 [u1_0] rfl ag44 rfl rfl rfl ?_)))))
 refine Zk [u0_0,.agg #[u1_0]] _ Try.func82 rfl rfl rfl (Zn4 a0 a1 h _ (hC.getP 1 rfl) (Ys (hC.getP 0 rfl))) (fun ret8 w10 hR9=>?_)
 obtain ⟨r10,r11,rfl,h,hB10⟩:=hR9
 refine⟨_,rfl,?_⟩
 replace hC:=hC.grow hB10
 refine Za (v:=.tuple #[.int .i64 r10,.bool r11]) rfl (Xd (v:=.int .i64 r10) rfl rfl (Xd (v:=.bool r11) rfl rfl (Zc (v:=.int .i64 r10) rfl (Zc (v:=.bool r11) rfl (dn (sr (Za (v:=.bool r11) rfl (Za (v:=.bool r11) rfl ?_))))))))
 refine Yy r11 (fun hb10=>?_) (fun hb10=>?_)
 ·replace h:=ift h (hb10)
  refine Zj 1 16 rfl rfl hb10 (Za (v:=.int .i64 r10) rfl (Zj 1 16 rfl rfl hb10 (Ji rfl rfl (Zj 1 16 rfl rfl hb10 (Za (v:=.bool (decide (r10=(-1)))) rfl ?_)))))
  refine Yy (decide (r10=(-1))) (fun hb11=>?_) (fun hb11=>?_)
  ·replace h:=ift h (ct hb11)
   refine Zi (b:=true) 4 19 rfl (tr rfl (congrArg _ hb11)) (by decide) (Zi (b:=true) 4 19 rfl (tr rfl (congrArg _ hb11)) (by decide) (Zi (b:=true) 4 19 rfl (tr rfl (congrArg _ hb11)) (by decide) (Zj 1 16 rfl rfl hb10 (Z3 (v:=.bool true) (b:=true) (tr rfl (congrArg _ hb11)) rfl (Z3 (v:=.bool true) (b:=true) (tr rfl (congrArg _ hb10)) rfl (Zc (v:=.bool true) rfl (dn (ZAk ?_))))))))
   refine Zg (fn:=Try.f57) rfl ?_ ⟨true,rfl,h,hC.below⟩ (.inl rfl)
   exact Zf rfl
  ·replace h:=Zh h (cf hb11)
   refine Zj 4 19 rfl rfl hb11 (Za (v:=.int .i64 r10) rfl (Zj 4 19 rfl rfl hb11 (Za (v:=.int .i64 a2) rfl (Zj 4 19 rfl rfl hb11 (Ji rfl rfl (Zj 1 16 rfl rfl hb10 (Z3 (v:=.bool (decide (r10=a2))) (b:=false) (tr rfl (congrArg _ hb11)) rfl (Z3 (v:=.bool (decide (r10=a2))) (b:=true) (tr rfl (congrArg _ hb10)) rfl (Zc (v:=.bool (decide (r10=a2))) rfl (dn (ZAk ?_)))))))))))
   refine Zg (fn:=Try.f57) rfl ?_ ⟨decide (r10=a2),rfl,h,hC.below⟩ (.inl rfl)
   exact Zf rfl
 ·replace h:=Zh h (Yw hb10)
  refine Zi (b:=false) 1 16 rfl (tr rfl (congrArg _ hb10)) (by decide) (Zi (b:=false) 1 16 rfl (tr rfl (congrArg _ hb10)) (by decide) (Zi (b:=false) 1 16 rfl (tr rfl (congrArg _ hb10)) (by decide) (X2 4 19 rfl rfl (X2 4 19 rfl rfl (X2 4 19 rfl rfl (Zi (b:=false) 1 16 rfl (tr rfl (congrArg _ hb10)) (by decide) (Z3 (v:=.bool false) (b:=false) (tr rfl (congrArg _ hb10)) rfl (Zc (v:=.bool false) rfl (dn (ZAk ?_))))))))))
  refine Zg (fn:=Try.f57) rfl ?_ ⟨false,rfl,h,hC.below⟩ (.inl rfl)
  exact Zf rfl
def Zdr (a0:Alg) (K:List (Option (List (A8×Int)))→Prop):Prop :=
 Yh (fun i10 (s10:(List (Option (List (A8×Int))))) nx10=>Zce (a0.images.getD i10 Zsn) (fun r10=>((0≤(i10:Int)∧(i10:Int) < 8)∧nx10 (s10.set i10 (some r10))))) (fun (s10:(List (Option (List (A8×Int)))))=>K s10) a0.images.length 0 (Zsi 8 none:List (Option (List (A8×Int))))
theorem Zn6 (a0:Alg) {b0:Nat} {u0_0:Value} {u0_1:Value} {fp0:List Nat} {K:List (Option (List (A8×Int)))→Prop} (h:Zdr a0 K) (w0:World) (q0:TAlg.rep a0 [u0_0,u0_1] fp0 w0) (qb0:(blk b0 32 [u0_0,u0_1]).holds w0) :
  Calls ZAf 83 #[.pointer (some ⟨b0,0,none⟩)] w0 fun e w'=>∃ (r0:List (Option (List (A8×Int)))) (zc0:List Value) (fz0:List Nat),
   e=.returned (.agg (ZAa zc0))∧K r0∧(Y5 (kvA .i64) (vvI .i64) 8).rep r0 zc0 fz0 w'∧(∀ b,b∈fz0→w0.heap.size≤b)∧Bel w0 w':=by
 unfold Zdr at h
 refine Zz (args:=[.pointer (some ⟨b0,0,none⟩)]) Try.func83 rfl 23 Try.ntmps83 (ZAe rfl) ?_
 have hC:=ZAv (X:=Nox) w0 [Zz9 TAlg a0 [u0_0,u0_1] fp0,blk b0 32 [u0_0,u0_1]] (by simp only [Zsj,Zur,or_false,forall_eq_or_imp,forall_eq]; exact⟨q0,qb0⟩)
 have hp3:=(hC.getP 0 rfl)
 replace hC:=hC.derive 0 rfl (Zz9 ((EI .i64).ty.sl) a0.degrees [u0_0] fp0) (fun _=>(Y3 hp3).1) (fun _ hb_=>hb_)
 replace hC:=hC.derive 1 rfl (Zz9 ZAq.sl a0.images [u0_1] fp0) (fun _=>(Y3 hp3).2) (fun _ hb_=>hb_)
 refine sr (Ye hC (Zsi 8 (ZC0 none)) Zha rfl fun b6 w8 hB_ hC=>dn (sr (Jl (v:=.agg (ZAa (Zsi 8 (ZC0 none)))) [] rfl (Znm _) (Ye hC (Zsi 8 (ZC0 none)) Zha rfl fun b9 w10 hB_ hC=>?_))))
 replace hC:=hC.pushE (Zz9 (Y5 (kvA .i64) (vvI .i64) 8) (Zsi 8 none:List (Option (List (A8×Int)))) (Zsi 8 (ZC0 none)) []) (Zfi (kvA .i64) (vvI .i64) 8 _) rfl
 replace hC:=hC.pushE (Zz9 (Y5 (kvA .i64) (vvI .i64) 8) (Zsi 8 none:List (Option (List (A8×Int)))) (Zsi 8 (ZC0 none)) []) (Zfi (kvA .i64) (vvI .i64) 8 _) rfl
 have hl10:=Zat (hC.getP 1 rfl)
 have hl11:=Zat (hC.getP 0 rfl)
 refine Zy (v:=.agg (ZAa (Zsi 8 (ZC0 none)))) hC 0 (Zsi 8 (ZC0 none)) (Zsi 8 (ZC0 none)) rfl ag119.size rfl rfl rfl hl11 (Zg5 (hC.getP 0 rfl)) (by rw [hl10]; exact Zsm _) (Zg6 (hl11.trans hl10.symm)) fun w11 hC=>dn (ZAc (sr (Za (v:=.pointer (some ⟨b0,0,none⟩)) rfl (Zbx rfl (Zx 1 ZAs rfl sc30.size rfl rfl (Zc6 (u0_1) (hC.getP 5 rfl) sc30 rfl rfl ?_))))))
 obtain ⟨Ad10,c10,hv11⟩:=Zw (hC.getP 2 rfl)
 refine Zv ZAy (tr rfl hv11) (Za (v:=.int .i64 0) rfl (dn (ZAl ?_)))
 have hN10:a0.images.length≤9223372036854775807:=Y9 (hC.getP 2 rfl)
 refine Yp (S:=(List (Option (List (A8×Int))))) _ _ (fun i10 s10 e_ w_=>∃ (v10:List Value),∃ (f10:List Nat),Z1 e_ [(2,.pointer (some ⟨b6,0,none⟩)),(3,.pointer (some ⟨b9,0,none⟩)),(10,u0_1),(11,.int .i64 (a0.images.length:Int)),(12,.int .i64 (i10:Int))]∧(∀ b,b∈f10→w0.heap.size≤b)∧Ctx Nox w0 w_ [blk b9 119 v10,blk b6 119 (Zsi 8 (ZC0 none))] [Zz9 (Y5 (kvA .i64) (vvI .i64) 8) s10 v10 f10,Zz9 ZAq.sl a0.images [u0_1] fp0,Zz9 ((EI .i64).ty.sl) a0.degrees [u0_0] fp0,Zz9 TAlg a0 [u0_0,u0_1] fp0,blk b0 32 [u0_0,u0_1]]) a0.images.length ?_ ?_ (s0:=(Zsi 8 none:List (Option (List (A8×Int))))) ?_ h
 ·clear hC h
  rintro i10 s10 e_ w12 nx10 K10 hi10 ⟨v10,f10,hS_,hq10,hC⟩ h hK10
  rw [ue hS_]
  refine sr (Zq rfl rfl (dn (ZAc (Yf rfl (decide_eq_true (by omega)) (ZAg (Zd (ZAc (ZAl (sr (Za (v:=.int .i64 (i10:Int)) rfl ?_))))))))))
  obtain ⟨Ad11,c11,hv10⟩:=Z6 (hC.getP 1 rfl) i10 hi10
  refine Yv (len:=a0.images.length) ZAy ag44.size (tr rfl hv10) rfl (ZAx _) (ZBk.2 hi10) ?_
  obtain ⟨cs_,hl12,hc10,hr10⟩:=Ja (hC.getP 1 rfl) hv10 i10 hi10
  obtain ⟨u10,rfl⟩:=ZA6.1 hl12
  clear hl12
  rw [X3 _ _ hi10] at hr10
  have hp10:=hr10
  replace hC:=hC.derive 1 rfl (Zz9 ZAb.ty.sl ((a0.images.getD i10 Zsn).terms) [u10] fp0) (fun _=>(Yx hp10)) (fun _ hb_=>hb_)
  refine Jh [u10] hc10 ag44 rfl rfl (Ye hC [.slice none 0 0] z44 rfl fun b11 w13 hB_ hC=>Zc (v:=.int .i64 (i10:Int)) rfl (Zy (v:=.agg #[u10]) hC 0 [u10] [u10] rfl ag44.size rfl rfl rfl rfl (Y4 (Zb5 (hC.getP 0 rfl)) rfl) (ZAe rfl) rfl fun w14 hC=>dn (Zn (Za (v:=.int .i64 (i10:Int)) rfl (Yl hC 0 [u10] rfl ag44 rfl rfl rfl ?_)))))
  refine Zk [.agg #[u10]] _ Try.func60 rfl rfl rfl (Zjh (a0.images.getD i10 Zsn) h _ (Ys (hC.getP 0 rfl))) (fun ret10 w15 hR10=>?_)
  obtain ⟨r10,b10,rfl,h,hr11,hf10,hB10⟩:=hR10
  refine⟨_,rfl,?_⟩
  replace hC:=hC.push hB10 (Zm (kvA .i64) (vvI .i64) b10 r10) hr11 (fun b_ hb_=>by obtain rfl:=Zt8.1 hb_; exact hf10)
  obtain ⟨⟨h10,h11⟩,h⟩:=h
  refine Y1 i10 Try.underlying119 sc95.size rfl rfl h10 h11 (by omega) ?_
  have hf11:=Ze6 hC 0 rfl
  replace hC:=hC.thaw 0 rfl (Zm (kvA .i64) (vvI .i64) b10 r10) id (fun _ hb_=>hb_)
  replace hC:=hC.joinP 0 2 rfl rfl (Zz9 (Y5 (kvA .i64) (vvI .i64) 8) (s10.set i10 (some r10)) (v10.set i10 (ZC0 (some b10))) (b10::f10)) (fun a_ b_=>Zna b_ a_) (fun c_ hc_=>(Zsj.1 hc_).elim (fun h_=>.inl (by rw [h_]; exact Zt8.2 rfl)) .inr)
  have hs10:∀ b,b∈(b10::f10)→w0.heap.size≤b:=(fun b hb=>(Zsj.1 hb).elim (fun h_=>by rw [h_]; exact hf11) (fun hb=>hq10 b hb))
  have hl13:=Zat (hC.getP 3 rfl)
  refine Zy (v:=.map (some b10)) hC 1 [.map (some b10)] (v10.set i10 (ZC0 (some b10))) rfl sc95.size rfl rfl rfl rfl rfl (by rw [hl13]; omega) (Zne (by rw [hl13]; omega) (by omega)) fun w16 hC=>done (Zt (Zd (Zn (Zp rfl rfl (Za (v:=.int .i64 (Zu2.wrap ((i10:Int)+1))) rfl (done ?_))))))
  replace hC:=hC.sM [1,2] (M':=[blk b9 119 (v10.set i10 (ZC0 (some b10))),blk b6 119 (Zsi 8 (ZC0 none))]) (by decide) rfl
  replace hC:=hC.sP [0,4,5,6,7] (Ps':=[Zz9 (Y5 (kvA .i64) (vvI .i64) 8) (s10.set i10 (some r10)) (v10.set i10 (ZC0 (some b10))) (b10::f10),Zz9 ZAq.sl a0.images [u0_1] fp0,Zz9 ((EI .i64).ty.sl) a0.degrees [u0_0] fp0,Zz9 TAlg a0 [u0_0,u0_1] fp0,blk b0 32 [u0_0,u0_1]]) rfl
  exact hK10 (s10.set i10 (some r10)) _ _ ⟨v10.set i10 (ZC0 (some b10)),(b10::f10),(sl ⟨rfl,rfl,rfl,rfl,(tr rfl (congrArg _ (Yb hi10 hN10))),trivial⟩),hs10,hC⟩ h
 ·clear hC h
  rintro s10 e_ w17 K10 ⟨v10,f10,hS_,hq10,hC⟩ h
  rw [ue hS_]
  refine sr (Zq rfl rfl (dn (ZAc (Yd rfl (decide_eq_false (by omega)) ?_))))
  refine ZAt (Zl (Zl (Z4 ?_)))
  refine Zd (sr ?_)
  have hl14:=Zat (hC.getP 0 rfl)
  refine Yl hC 0 v10 rfl ag119 rfl (Znc hl14) hl14 ?_
  replace hC:=hC.pushE (Zz9 (Y5 (kvA .i64) (vvI .i64) 8) (Zsi 8 none:List (Option (List (A8×Int)))) (Zsi 8 (ZC0 none)) []) (Zfi (kvA .i64) (vvI .i64) 8 _) rfl
  have hl15:=Zat (hC.getP 0 rfl)
  have hl16:=Zat (hC.getP 1 rfl)
  refine Zy (v:=.agg (ZAa v10)) hC 1 v10 v10 rfl ag119.size rfl rfl rfl hl16 (Zg5 (hC.getP 1 rfl)) (by rw [hl15]; exact Zsm _) (Zg6 (hl16.trans hl15.symm)) fun w18 hC=>dn (ZAk ?_)
  refine Zg (fn:=Try.f83) rfl ?_ ⟨s10,v10,f10,rfl,h,(hC.getP 1 rfl),(fun b hb=>hq10 b hb),hC.below⟩ (.inl rfl)
  exact X9 hC 1 rfl ag119 rfl (Zat (hC.getP 1 rfl))
 ·skip
  replace hC:=hC.sP [0,2,3,4,5] (Ps':=[Zz9 (Y5 (kvA .i64) (vvI .i64) 8) (Zsi 8 none:List (Option (List (A8×Int)))) (Zsi 8 (ZC0 none)) [],Zz9 ZAq.sl a0.images [u0_1] fp0,Zz9 ((EI .i64).ty.sl) a0.degrees [u0_0] fp0,Zz9 TAlg a0 [u0_0,u0_1] fp0,blk b0 32 [u0_0,u0_1]]) rfl
  exact⟨Zsi 8 (ZC0 none),[],(sl ⟨rfl,rfl,rfl,rfl,rfl,trivial⟩),(fun b hb=>absurd hb (by simp)),hC⟩
def Zds (a0:Alg) (a1:List (A8×Int)) (K:List (A8×Int)→Prop):Prop :=
 Zdr a0 (fun r11=>Zag (fun (q10:A8×Int) (s12:(List (A8×Int))) nx11=>Yh (fun i10 (s10:A8×(List (A8×Int))×Int) nx10=>(if q10.1.get i10 > 0 then Xa (fun (s11:A8×Int) nx12=>(if s11.2 < Zu2.wrap ((i10:Int)+1) then((0≤s11.2∧s11.2 < 8)∧nx12 (s11.1.set s11.2.toNat 0,Zu2.wrap (s11.2+1))) else(∃ ml10,r11[i10]? = some (some ml10)∧Zal (Yk ([]:List (A8×Int)) (s10.1.set i10 (Zu2.wrap ((q10.1.get i10) - 1))) 1) a0.degrees ml10 (fun r14=>Zal r14 a0.degrees (Yk ([]:List (A8×Int)) s11.1 1) (fun r13=>Za3 (Zu2.wrap ((Zu2.wrap (s10.2.2 * q10.2)) * (q10.1.get i10))) (fun r12=>Zbk s10.2.1 r13 r12 (fun m10=>(if(i10:Int) < (a0.degrees.length:Int) then((0≤(i10:Int)∧(i10:Int) < (a0.degrees.length:Int))∧(if Ztb (a0.degrees.getD i10 Zsn) 2=1 then(if Ztb (q10.1.get i10) 2=1 then nx10 (s10.1.set i10 (q10.1.get i10),m10,Zu2.wrap (0 - s10.2.2)) else nx10 (s10.1.set i10 (q10.1.get i10),m10,s10.2.2)) else nx10 (s10.1.set i10 (q10.1.get i10),m10,s10.2.2))) else nx10 (s10.1.set i10 (q10.1.get i10),m10,s10.2.2))))))))) (q10.1,0) else(if(i10:Int) < (a0.degrees.length:Int) then((0≤(i10:Int)∧(i10:Int) < (a0.degrees.length:Int))∧(if Ztb (a0.degrees.getD i10 Zsn) 2=1 then(if Ztb (q10.1.get i10) 2=1 then nx10 (s10.1.set i10 (q10.1.get i10),s10.2.1,Zu2.wrap (0 - s10.2.2)) else nx10 (s10.1.set i10 (q10.1.get i10),s10.2.1,s10.2.2)) else nx10 (s10.1.set i10 (q10.1.get i10),s10.2.1,s10.2.2))) else nx10 (s10.1.set i10 (q10.1.get i10),s10.2.1,s10.2.2)))) (fun (s10:A8×(List (A8×Int))×Int)=>nx11 s10.2.1) 8 0 (ZAi,s12,1)) (fun (s12:(List (A8×Int)))=>K s12) a1.length a1 ([]:List (A8×Int)))
theorem Zn7 (a0 : Alg) (a1 : List (A8 × Int)) {b0 : Nat} {b1 : Nat} {u0_0 : Value} {u0_1 : Value} {fp0 : List Nat} {K : List (A8 × Int) → Prop} (h : Zds a0 a1 K) (w0 : World) (q0 : TAlg.rep a0 [u0_0, u0_1] fp0 w0) (qb0 : (blk b0 32 [u0_0, u0_1]).holds w0) (q1 : (Zm (kvA .i64) (vvI .i64) b1 a1).holds w0) :
  Calls ZAf 59 #[.pointer (some ⟨b0,0,none⟩),.map (some b1)] w0 fun e w'=>∃ (r0:List (A8×Int)) (zb0:Nat),
   e=.returned (.map (some zb0))∧K r0∧(Zm (kvA .i64) (vvI .i64) zb0 r0).holds w'∧w0.heap.size≤zb0∧Bel w0 w':=by
 unfold Zds at h
 refine Zz (args:=[.pointer (some ⟨b0,0,none⟩),.map (some b1)]) Try.func59 rfl 107 Try.ntmps59 (ZAe rfl) ?_
 have hC:=ZAv (X:=Nox) w0 [Zz9 TAlg a0 [u0_0,u0_1] fp0,blk b0 32 [u0_0,u0_1],Zm (kvA .i64) (vvI .i64) b1 a1] (by simp only [Zsj,Zur,or_false,forall_eq_or_imp,forall_eq]; exact⟨q0,qb0,q1⟩)
 have hp4:=(hC.getP 0 rfl)
 replace hC:=hC.derive 0 rfl (Zz9 ((EI .i64).ty.sl) a0.degrees [u0_0] fp0) (fun _=>(Y3 hp4).1) (fun _ hb_=>hb_)
 replace hC:=hC.derive 1 rfl (Zz9 ZAq.sl a0.images [u0_1] fp0) (fun _=>(Y3 hp4).2) (fun _ hb_=>hb_)
 refine sr (Zc (v:=.map none) rfl (dn (sr (Zgu hC (kvA .i64) (vvI .i64) fun b7 w9 hB_ hC=>Za (v:=.pointer (some ⟨b0,0,none⟩)) rfl ?_))))
 refine Zk [.pointer (some ⟨b0,0,none⟩)] _ Try.func83 rfl rfl rfl (Zn6 a0 h _ (Jb (hC.getP 1 rfl) (hC.getP 0 rfl)) (hC.getP 3 rfl)) (fun ret10 w11 hR10=>?_)
 obtain ⟨r11,cs10,f10,rfl,h,hr10,hf10,hB10⟩:=hR10
 refine⟨_,rfl,?_⟩
 have hs10:=Zl3 hC.size hf10
 replace hC:=hC.pushR hB10 (Zz9 (Y5 (kvA .i64) (vvI .i64) 8) r11 cs10 f10) hr10 (fun b hb=>.inl (hf10 b hb))
 refine Ye hC (Zsi 8 (ZC0 none)) Zha rfl fun b10 w12 hB_ hC=>Zc (v:=.map (some b7)) rfl ?_
 replace hC:=hC.pushE (Zz9 (Y5 (kvA .i64) (vvI .i64) 8) (Zsi 8 none:List (Option (List (A8×Int)))) (Zsi 8 (ZC0 none)) []) (Zfi (kvA .i64) (vvI .i64) 8 _) rfl
 have hl10:=Zat (hC.getP 0 rfl)
 have hl11:=Zat (hC.getP 1 rfl)
 refine Zy (v:=.agg (ZAa cs10)) hC 0 cs10 cs10 rfl ag119.size rfl rfl rfl hl11 (Zg5 (hC.getP 1 rfl)) (by rw [hl10]; exact Zsm _) (Zg6 (hl11.trans hl10.symm)) fun w13 hC=>dn (ZAc (sr (Za (v:=.map (some b1)) rfl (Ze7 hC 6 rfl ZCy rfl fun r10 es10 ck10 w14 hB_ hn10 hbn10 hC=>dn (ZAl ?_)))))
 refine Zfa (S:=(List (A8×Int))) _ _ (fun l11 s12 e_ w_=>∃ (la10:Option MapEntry),Z1 e_ [(0,.pointer (some ⟨b0,0,none⟩)),(5,.map (some b7)),(6,.pointer (some ⟨b10,0,none⟩)),(21,.pointer (some ⟨r10,0,none⟩))]∧Ctx Nox w0 w_ [itI (kvA .i64) (vvI .i64) r10 b1 es10 ck10 la10 l11,blk b10 119 cs10,Zm (kvA .i64) (vvI .i64) b7 s12] [Xl b1 es10 ck10,Zz9 (Y5 (kvA .i64) (vvI .i64) 8) r11 cs10 f10,Zz9 ZAq.sl a0.images [u0_1] fp0,Zz9 ((EI .i64).ty.sl) a0.degrees [u0_0] fp0,Zz9 TAlg a0 [u0_0,u0_1] fp0,blk b0 32 [u0_0,u0_1],Zm (kvA .i64) (vvI .i64) b1 a1]) ?_ (l0:=a1) (s0:=([]:List (A8×Int))) ?_ h
 ·clear hC h
  rintro l11 s12 e_ w15 nx11 K11 ⟨la10,hS_,hC⟩ h hK11
  rw [ue hS_]
  refine sr ?_
  refine Ze8 hC 0 0 rfl rfl hn10 hbn10 rfl (fun hr11=>?_) (fun q10 l10 ent10 w16 hp10 hk10 hv12 hC=>?_)
  ·replace h:=h.1 hr11
   refine Xd (v:=.bool false) rfl rfl (dn (ZAc (Yd rfl rfl ?_)))
   refine ZAt (Zl (Zl (Z4 ?_)))
   refine Zd (sr (Za (v:=.map (some b7)) rfl (Zc (v:=.map (some b7)) rfl (dn (ZAk ?_)))))
   refine Zg (fn:=Try.f59) rfl ?_ ⟨s12,b7,rfl,h,(hC.getM 2 rfl),(Ze6 hC 2 rfl),hC.below⟩ (.inl rfl)
   exact Zf rfl
  ·replace h := h.2 q10 l10 hp10
   refine Xd (v:=.bool true) rfl rfl (dn (ZAc (Yf rfl rfl (ZAg (Zd (ZAl (sr (Ze9 hC 0 0 q10 rfl rfl hn10 rfl hk10 hv12 (Xd (v:=.agg (ZAa (Zz8 .i64 q10.1))) rfl rfl (Xd (v:=.int .i64 q10.2) rfl rfl (Ye hC (Zz8 .i64 ZAi) z55 rfl fun b11 w17 hB_ hC=>?_)))))))))))
   refine Zy (v:=.agg (ZAa (Zz8 .i64 q10.1))) hC 0 (Zz8 .i64 q10.1) (Zz8 .i64 q10.1) rfl ag55.size rfl rfl rfl rfl rfl (ZAe rfl) rfl fun w18 hC=>Zc (v:=.int .i64 q10.2) rfl (dn (sr (Jl [] rfl (Zg9   _) (Ye hC (Zz8 .i64 ZAi) z55 rfl fun b12 w19 hB_ hC=>Zy (v:=.agg (ZAa (Zz8 .i64 ZAi))) hC 0 (Zz8 .i64 ZAi) (Zz8 .i64 ZAi) rfl ag55.size rfl rfl rfl rfl rfl (ZAe rfl) rfl fun w20 hC=>Zc (v:=.int .i64 1) rfl (dn (sr (Yl hC 1 (Zz8 .i64 q10.1) rfl ag55 rfl rfl rfl (Za (v:=.int .i64 0) rfl ?_))))))))
   refine dn (ZAl ?_)
   refine Yp (S:=A8×(List (A8×Int))×Int) _ _ (fun i10 s10 e_ w_=>Z1 e_ [(0,.pointer (some ⟨b0,0,none⟩)),(5,.map (some b7)),(6,.pointer (some ⟨b10,0,none⟩)),(7,.pointer (some ⟨b11,0,none⟩)),(8,.int .i64 q10.2),(9,.pointer (some ⟨b12,0,none⟩)),(10,.int .i64 s10.2.2),(21,.pointer (some ⟨r10,0,none⟩)),(28,.agg (ZAa (Zz8 .i64 q10.1))),(29,.int .i64 (i10:Int))]∧Ctx Nox w0 w_ [blk b12 55 (Zz8 .i64 s10.1),blk b11 55 (Zz8 .i64 q10.1),itI (kvA .i64) (vvI .i64) r10 b1 es10 ck10 (some ent10) l10,blk b10 119 cs10,Zm (kvA .i64) (vvI .i64) b7 s10.2.1] [Xl b1 es10 ck10,Zz9 (Y5 (kvA .i64) (vvI .i64) 8) r11 cs10 f10,Zz9 ZAq.sl a0.images [u0_1] fp0,Zz9 ((EI .i64).ty.sl) a0.degrees [u0_0] fp0,Zz9 TAlg a0 [u0_0,u0_1] fp0,blk b0 32 [u0_0,u0_1],Zm (kvA .i64) (vvI .i64) b1 a1]) 8 ?_ ?_ (s0:=(ZAi,s12,1)) ?_ h
   ·clear hC h
    rintro i10 s10 e_ w21 nx10 K10 hi10 ⟨hS_,hC⟩ h hK10
    rw [ue hS_]
    refine sr (Zq rfl rfl (dn (ZAc (Yf rfl (decide_eq_true (by omega)) (ZAg (Zd (ZAc (ZAl (sr (Za (v:=.int .i64 (i10:Int)) rfl (Zc2 (.int .i64 (q10.1.get i10)) ZBh rfl rfl (ZAx _) (by omega) sc3 (ZAw _ _ hi10) ?_)))))))))))
    refine Zc (v:=.int .i64 (i10:Int)) rfl (Zc (v:=.int .i64 (q10.1.get i10)) rfl (dn (ZAc (sr (Za (v:=.int .i64 (q10.1.get i10)) rfl (Jg rfl rfl (dn ?_)))))))
    refine Zr rfl (fun hb14=>?_) (fun hb14=>?_)
    ·replace h:=ift h (ct hb14)
     refine sr (Yl hC 1 (Zz8 .i64 q10.1) rfl ag55 rfl rfl rfl (Ye hC (Zz8 .i64 ZAi) z55 rfl fun b32 w22 hB_ hC=>Zy (v:=.agg (ZAa (Zz8 .i64 q10.1))) hC 0 (Zz8 .i64 q10.1) (Zz8 .i64 q10.1) rfl ag55.size rfl rfl rfl rfl rfl (ZAe rfl) rfl fun w23 hC=>dn (ZAc (sr (Za (v:=.int .i64 (i10:Int)) rfl (Zp rfl rfl (Za (v:=.int .i64 0) rfl (dn (ZAl ?_)))))))))
     refine Xq (S:=A8×Int) _ (fun s11 e_ w_=>Z1 e_ [(0,.pointer (some ⟨b0,0,none⟩)),(5,.map (some b7)),(6,.pointer (some ⟨b10,0,none⟩)),(7,.pointer (some ⟨b11,0,none⟩)),(8,.int .i64 q10.2),(9,.pointer (some ⟨b12,0,none⟩)),(10,.int .i64 s10.2.2),(11,.int .i64 (i10:Int)),(12,.int .i64 (q10.1.get i10)),(13,.pointer (some ⟨b32,0,none⟩)),(21,.pointer (some ⟨r10,0,none⟩)),(28,.agg (ZAa (Zz8 .i64 q10.1))),(29,.int .i64 (i10:Int)),(37,.int .i64 (Zu2.wrap ((i10:Int)+1))),(38,.int .i64 s11.2)]∧Ctx Nox w0 w_ [blk b32 55 (Zz8 .i64 s11.1),blk b12 55 (Zz8 .i64 s10.1),blk b11 55 (Zz8 .i64 q10.1),itI (kvA .i64) (vvI .i64) r10 b1 es10 ck10 (some ent10) l10,blk b10 119 cs10,Zm (kvA .i64) (vvI .i64) b7 s10.2.1] [Xl b1 es10 ck10,Zz9 (Y5 (kvA .i64) (vvI .i64) 8) r11 cs10 f10,Zz9 ZAq.sl a0.images [u0_1] fp0,Zz9 ((EI .i64).ty.sl) a0.degrees [u0_0] fp0,Zz9 TAlg a0 [u0_0,u0_1] fp0,blk b0 32 [u0_0,u0_1],Zm (kvA .i64) (vvI .i64) b1 a1]) ?_ (s0:=(q10.1,0)) ?_ h
     ·clear hC h
      rintro s11 e_ w24 nx12 K12 ⟨hS_,hC⟩ h hK12
      rw [ue hS_]
      refine sr (Zq rfl rfl (dn (ZAc ?_)))
      refine Zr rfl (fun hb15=>?_) (fun hb15=>?_)
      ·replace h:=ift h (ct hb15)
       refine ZAg (Zd (ZAc (ZAl (sr (Za (v:=.int .i64 s11.2) rfl (Zc (v:=.int .i64 s11.2) rfl (dn (Zn (Za (v:=.int .i64 s11.2) rfl ?_)))))))))
       obtain ⟨⟨h10,h11⟩,h⟩:=h
       refine Y1 s11.2.toNat ZBh sc3.size rfl rfl h10 h11 (by omega) (Zy (v:=.int .i64 0) hC 0 [.int .i64 0] (Zz8 .i64 (s11.1.set s11.2.toNat 0)) rfl sc3.size rfl rfl rfl rfl rfl (show s11.2.toNat < 8 by omega) (ZA5 _ _ _ (show s11.2.toNat < 8 by omega)) fun w25 hC=>done (Zt (Zd (Zn (Zp rfl rfl (Za (v:=.int .i64 (Zu2.wrap (s11.2+1))) rfl (done ?_)))))))
       exact hK12 (s11.1.set s11.2.toNat 0,Zu2.wrap (s11.2+1)) _ _ ⟨(sl ⟨rfl,rfl,rfl,rfl,rfl,rfl,rfl,rfl,rfl,rfl,rfl,rfl,rfl,rfl,rfl,trivial⟩),hC⟩ h
      ·replace h:=Zh h (cf hb15)
       refine ZAt (Zl (Zl (Z4 ?_)))
       refine Zd (sr (Yl hC 1 (Zz8 .i64 s10.1) rfl ag55 rfl rfl rfl (Ye hC (Zz8 .i64 ZAi) z55 rfl fun b43 w26 hB_ hC=>Zy (v:=.agg (ZAa (Zz8 .i64 s10.1))) hC 0 (Zz8 .i64 s10.1) (Zz8 .i64 s10.1) rfl ag55.size rfl rfl rfl rfl rfl (ZAe rfl) rfl fun w27 hC=>dn (sr (Za (v:=.int .i64 (i10:Int)) rfl (Za (v:=.int .i64 (q10.1.get i10)) rfl (Zbv rfl rfl (Y1 i10 ZBh sc3.size rfl rfl (ZAx _) (by omega) (by omega) (Zy (v:=.int .i64 (Zu2.wrap ((q10.1.get i10) - 1))) hC 0 [.int .i64 (Zu2.wrap ((q10.1.get i10) - 1))] (Zz8 .i64 (s10.1.set i10 (Zu2.wrap ((q10.1.get i10) - 1)))) rfl sc3.size rfl rfl rfl rfl rfl hi10 (ZA5 _ _ _ hi10) fun w28 hC=>?_)))))))))
       refine dn (ZAc ?_)
       refine Zil 20 mixed [0,0,3,7,0,16,48,112,0,256,768,2047,0,4096,12288,28672,0,0,196608,458752,1048575,2097151] [1,7,9,10,15,17] [3,4,5,6,8,12,13,14,19] (by kernel_rfl) (by kernel_rfl) (by kernel_rfl) (fun hM11 hM10 w10 hB_=>?_)
       replace hC:=hC.grow hB_
       have hN_:w10.heap.size≤w10.heap.size:=Zsm _
       refine Zaq (Y6 _) 1 (.agg (ZAa (Zz8 .i64 (s10.1.set i10 (Zu2.wrap ((q10.1.get i10) - 1)))))) rfl rfl (by kernel_rfl) (hM11 1 rfl) (fun w_ hB_=>.inl ⟨rfl,by exact Y8 (hC.grow (Zbh hB_)) 0 (Zz8 .i64 (s10.1.set i10 (Zu2.wrap ((q10.1.get i10) - 1)))) rfl ag55 rfl rfl rfl⟩) (l9:=(Zb 22 2)) (by kernel_rfl) (Zo (Y6 _) 4 (.pointer (some ⟨b0,0,none⟩)) rfl rfl (by kernel_rfl) (hM10 4 rfl) (fun w_=>.inl ⟨rfl,by exact Zs (v:=.pointer (some ⟨b0,0,none⟩)) rfl⟩) (l9:=(Zb 22 18)) (by kernel_rfl) (Zo (Y6 _) 5 (.pointer (some ⟨b0,0,none⟩)) rfl rfl (by kernel_rfl) (hM10 5 rfl) (fun w_=>.inl ⟨rfl,by exact Zgi rfl⟩) (l9:=(Zb 22 50)) (by kernel_rfl) (Zo (Y6 _) 6 (.pointer (some ⟨b0,0,none⟩)) rfl rfl (by kernel_rfl) (hM10 6 rfl) (fun w_=>.inl ⟨rfl,by exact Yi 0 ZAs rfl sc22.size rfl rfl⟩) (l9:=(Zb 22 114)) (by kernel_rfl) (Zaq (Y6 _) 7 (u0_0) rfl rfl (by kernel_rfl) (hM11 7 rfl) (fun w_ hB_=>.inl ⟨rfl,by exact Zc5 (u0_0) ((hC.grow (Zbh hB_)).getP 5 rfl) sc22 rfl rfl⟩) (l9:=(Zb 22 242)) (by kernel_rfl) (Zo (Y6 _) 8 (.int .i64 (i10:Int)) rfl rfl (by kernel_rfl) (hM10 8 rfl) (fun w_=>.inl ⟨rfl,by exact Zs (v:=.int .i64 (i10:Int)) rfl⟩) (l9:=(Zb 22 498)) (by kernel_rfl) (Zaq (Y6 _) 9 (.pointer (some ⟨b10,i10,none⟩)) rfl rfl (by kernel_rfl) (hM11 9 rfl) (fun w_ hB_=>.inl ⟨rfl,by exact X8 i10 Try.underlying119 sc95.size rfl rfl (ZAx _) (by omega) (by omega)⟩) (l9:=(Zb 22 1010)) (by kernel_rfl) ?_))))))
       obtain ⟨ml10,hl12,h⟩:=h
       obtain ⟨b13,hb18,hbf10,hm10⟩:=Znb (hC.getP 1 rfl) hl12
       replace hC:=hC.derive 1 rfl (Zm (kvA .i64) (vvI .i64) b13 ml10) (fun _=>hm10) (fun c_ hc_=>by obtain rfl:=Zt8.1 hc_; exact hbf10)
       refine Zaq (Y6 _) 10 (.map (some b13)) rfl rfl (by kernel_rfl) (hM11 10 rfl) (fun w_ hB_=>.inl ⟨rfl,by exact Yc (hC.grow (Zbh hB_)) 5 (.map (some b13)) rfl sc95 rfl (Znd hb18 (by omega))⟩) (l9:=(Zb 22 2034)) (by kernel_rfl) (Zo (Y6 _) 12 (.pointer (some ⟨b0,0,none⟩)) rfl rfl (by kernel_rfl) (hM10 12 rfl) (fun w_=>.inl ⟨rfl,by exact Zs (v:=.pointer (some ⟨b0,0,none⟩)) rfl⟩) (l9:=(Zb 22 6130)) (by kernel_rfl) (Zo (Y6 _) 13 (.pointer (some ⟨b0,0,none⟩)) rfl rfl (by kernel_rfl) (hM10 13 rfl) (fun w_=>.inl ⟨rfl,by exact Zgi rfl⟩) (l9:=(Zb 22 14322)) (by kernel_rfl) (Zo (Y6 _) 14 (.pointer (some ⟨b0,0,none⟩)) rfl rfl (by kernel_rfl) (hM10 14 rfl) (fun w_=>.inl ⟨rfl,by exact Yi 0 ZAs rfl sc22.size rfl rfl⟩) (l9:=(Zb 22 30706)) (by kernel_rfl) (Zaq (Y6 _) 15 (u0_0) rfl rfl (by kernel_rfl) (hM11 15 rfl) (fun w_ hB_=>.inl ⟨rfl,by exact Zc5 (u0_0) ((hC.grow (Zbh hB_)).getP 6 rfl) sc22 rfl rfl⟩) (l9:=(Zb 22 63474)) (by kernel_rfl) (Zaq (Y6 _) 17 (.agg (ZAa (Zz8 .i64 s11.1))) rfl rfl (by kernel_rfl) (hM11 17 rfl) (fun w_ hB_=>.inl ⟨rfl,by exact Y8 (hC.grow (Zbh hB_)) 1 (Zz8 .i64 s11.1) rfl ag55 rfl rfl rfl⟩) (l9:=(Zb 22 194546)) (by kernel_rfl) ?_)))))
       refine Zc4 (fun e_ w_=>∃ (b19:Nat),∃ (r15:List (A8×Int)),Z1 e_ [(0,.pointer (some ⟨b0,0,none⟩)),(5,.map (some b7)),(6,.pointer (some ⟨b10,0,none⟩)),(7,.pointer (some ⟨b11,0,none⟩)),(8,.int .i64 q10.2),(9,.pointer (some ⟨b12,0,none⟩)),(10,.int .i64 s10.2.2),(11,.int .i64 (i10:Int)),(12,.int .i64 (q10.1.get i10)),(16,.map (some b19)),(21,.pointer (some ⟨r10,0,none⟩)),(28,.agg (ZAa (Zz8 .i64 q10.1))),(29,.int .i64 (i10:Int))]∧Ctx Nox w0 w_ [Zm (kvA .i64) (vvI .i64) b19 r15,blk b12 55 (Zz8 .i64 s10.1),blk b11 55 (Zz8 .i64 q10.1),itI (kvA .i64) (vvI .i64) r10 b1 es10 ck10 (some ent10) l10,blk b10 119 cs10,Zm (kvA .i64) (vvI .i64) b7 s10.2.1] [Xl b1 es10 ck10,Zz9 (Y5 (kvA .i64) (vvI .i64) 8) r11 cs10 f10,Zz9 ZAq.sl a0.images [u0_1] fp0,Zz9 ((EI .i64).ty.sl) a0.degrees [u0_0] fp0,Zz9 TAlg a0 [u0_0,u0_1] fp0,blk b0 32 [u0_0,u0_1],Zm (kvA .i64) (vvI .i64) b1 a1]∧(Za3 (Zu2.wrap ((Zu2.wrap (s10.2.2 * q10.2)) * (q10.1.get i10))) (fun r12=>Zbk s10.2.1 r15 r12 (fun m10=>(if(i10:Int) < (a0.degrees.length:Int) then((0≤(i10:Int)∧(i10:Int) < (a0.degrees.length:Int))∧(if Ztb (a0.degrees.getD i10 Zsn) 2=1 then(if Ztb (q10.1.get i10) 2=1 then nx10 (s10.1.set i10 (q10.1.get i10),m10,Zu2.wrap (0 - s10.2.2)) else nx10 (s10.1.set i10 (q10.1.get i10),m10,s10.2.2)) else nx10 (s10.1.set i10 (q10.1.get i10),m10,s10.2.2))) else nx10 (s10.1.set i10 (q10.1.get i10),m10,s10.2.2)))))) ?_ ?_
       ·clear hC h
        rintro e_ w29 ⟨b19,r15,hS_,hC,h⟩
        rw [ue hS_]
        refine Zd (Zn (Za (v:=.map (some b7)) rfl (Za (v:=.map (some b19)) rfl (Za (v:=.int .i64 s10.2.2) rfl (Za (v:=.int .i64 q10.2) rfl (Zaw rfl rfl (Za (v:=.int .i64 (q10.1.get i10)) rfl (Zaw rfl rfl ?_))))))))
        refine Zk [.int .i64 (Zu2.wrap ((Zu2.wrap (s10.2.2 * q10.2)) * (q10.1.get i10)))] _ Try.func86 rfl rfl rfl (Zjf (Zu2.wrap ((Zu2.wrap (s10.2.2 * q10.2)) * (q10.1.get i10))) h _) (fun ret11 w30 hR11=>?_)
        obtain ⟨r12,rfl,h,hB11⟩:=hR11
        refine⟨_,rfl,?_⟩
        replace hC:=hC.grow hB11
        refine Zk [.map (some b7),.map (some b19),.int .i64 r12] _ Try.func85 rfl rfl rfl (Znw s10.2.1 r15 r12 h _ (hC.getM 5 rfl) (fun c_ hc_ e_=>hC.mm 0 5 rfl rfl (by decide) c_ hc_ (Zt8.2 e_)) (hC.getM 0 rfl)) (fun ret12 w31 hR12=>?_)
        obtain ⟨m10,rfl,h,hm11,hB12⟩:=hR12
        refine⟨_,rfl,?_⟩
        replace hC:=hC.turnB 5 rfl hB12 rfl rfl hm11
        refine dn (sr (Za (v:=.int .i64 (i10:Int)) rfl (Za (v:=.int .i64 (q10.1.get i10)) rfl (Y1 i10 ZBh sc3.size rfl rfl (ZAx _) (by omega) (by omega) (Zy (v:=.int .i64 (q10.1.get i10)) hC 1 [.int .i64 (q10.1.get i10)] (Zz8 .i64 (s10.1.set i10 (q10.1.get i10))) rfl sc3.size rfl rfl rfl rfl rfl hi10 (ZA5 _ _ _ hi10) fun w32 hC=>dn (sr (Za (v:=.int .i64 (i10:Int)) rfl (Za (v:=.pointer (some ⟨b0,0,none⟩)) rfl (Zbx rfl (Zx 0 ZAs rfl sc22.size rfl rfl ?_))))))))))
        refine Zc6 (u0_0) (hC.getP 5 rfl) sc22 rfl rfl ?_
        obtain ⟨Ad10,c10,hv13⟩:=Zw (hC.getP 3 rfl)
        refine Zv ZAu (tr rfl hv13) (Zq rfl rfl (Za (v:=.bool (decide ((i10:Int) < (a0.degrees.length:Int)))) rfl ?_))
        refine Yy (decide ((i10:Int) < (a0.degrees.length:Int))) (fun hb10=>?_) (fun hb10=>?_)
        ·replace h:=ift h (ct hb10)
         refine Zj 7 87 rfl rfl hb10 (Za (v:=.pointer (some ⟨b0,0,none⟩)) rfl (Zj 7 87 rfl rfl hb10 (Zbx rfl (Zj 7 87 rfl rfl hb10 (Zx 0 ZAs rfl sc22.size rfl rfl (Zj 7 87 rfl rfl hb10 (Zc6 (u0_0) (hC.getP 5 rfl) sc22 rfl rfl (Zj 7 87 rfl rfl hb10 (Za (v:=.int .i64 (i10:Int)) rfl (Zj 7 87 rfl rfl hb10 ?_))))))))))
         obtain ⟨⟨h12,h13⟩,h⟩:=h
         obtain ⟨Ad11,c11,hv10⟩:=Z6 (hC.getP 3 rfl) i10 (show i10 < a0.degrees.length by omega)
         refine Yv (len:=a0.degrees.length) ZAu sc2.size (tr rfl hv10) rfl h12 h13 (Zj 7 87 rfl rfl hb10 (Xy (.int .i64 (a0.degrees.getD i10 Zsn)) (Yj (hC.getP 3 rfl) hv10 i10 (show i10 < a0.degrees.length by omega)) sc2 rfl (Zj 7 87 rfl rfl hb10 (Jf rfl rfl (by decide) (Zj 7 87 rfl rfl hb10 (Ji rfl rfl (Z3 (v:=.bool (decide (Ztb (a0.degrees.getD i10 Zsn) 2=1))) (b:=true) (tr rfl (congrArg _ hb10)) rfl (Za (v:=.bool (decide (Ztb (a0.degrees.getD i10 Zsn) 2=1))) rfl ?_))))))))
         refine Yy (decide (Ztb (a0.degrees.getD i10 Zsn) 2=1)) (fun hb12=>?_) (fun hb12=>?_)
         ·replace h:=ift h (ct hb12)
          refine Zj 18 98 rfl rfl hb12 (Za (v:=.int .i64 (q10.1.get i10)) rfl (Zj 18 98 rfl rfl hb12 (Jf rfl rfl (by decide) (Zj 18 98 rfl rfl hb12 (Ji rfl rfl (Z3 (v:=.bool (decide (Ztb (q10.1.get i10) 2=1))) (b:=true) (tr rfl (congrArg _ hb12)) rfl (dn ?_)))))))
          refine Zr rfl (fun hb16=>?_) (fun hb16=>?_)
          ·replace h:=ift h (ct hb16)
           refine Zn (Za (v:=.int .i64 s10.2.2) rfl (Zep rfl (Zc (v:=.int .i64 (Zu2.wrap (0 - s10.2.2))) rfl (done (Zt (Zd (Zn (Zp rfl rfl (Za (v:=.int .i64 (Zu2.wrap ((i10:Int)+1))) rfl (done ?_))))))))))
           replace hC:=hC.sM [1,2,3,4,5] (M':=[blk b12 55 (Zz8 .i64 (s10.1.set i10 (q10.1.get i10))),blk b11 55 (Zz8 .i64 q10.1),itI (kvA .i64) (vvI .i64) r10 b1 es10 ck10 (some ent10) l10,blk b10 119 cs10,Zm (kvA .i64) (vvI .i64) b7 m10]) (by decide) rfl
           exact hK10 (s10.1.set i10 (q10.1.get i10),m10,Zu2.wrap (0 - s10.2.2)) _ _ ⟨(sl ⟨rfl,rfl,rfl,rfl,rfl,rfl,rfl,rfl,rfl,(tr rfl (congrArg _ (Yb hi10 (by decide)))),trivial⟩),hC⟩ h
          ·replace h:=Zh h (cf hb16)
           refine ZAg (Zt (Zd (Zn (Zp rfl rfl (Za (v:=.int .i64 (Zu2.wrap ((i10:Int)+1))) rfl (done ?_))))))
           replace hC:=hC.sM [1,2,3,4,5] (M':=[blk b12 55 (Zz8 .i64 (s10.1.set i10 (q10.1.get i10))),blk b11 55 (Zz8 .i64 q10.1),itI (kvA .i64) (vvI .i64) r10 b1 es10 ck10 (some ent10) l10,blk b10 119 cs10,Zm (kvA .i64) (vvI .i64) b7 m10]) (by decide) rfl
           exact hK10 (s10.1.set i10 (q10.1.get i10),m10,s10.2.2) _ _ ⟨(sl ⟨rfl,rfl,rfl,rfl,rfl,rfl,rfl,rfl,rfl,(tr rfl (congrArg _ (Yb hi10 (by decide)))),trivial⟩),hC⟩ h
         ·replace h:=Zh h (cf hb12)
          refine Zi (b:=false) 18 98 rfl (tr rfl (congrArg _ hb12)) (by decide) (Zi (b:=false) 18 98 rfl (tr rfl (congrArg _ hb12)) (by decide) (Zi (b:=false) 18 98 rfl (tr rfl (congrArg _ hb12)) (by decide) (Z3 (v:=.bool false) (b:=false) (tr rfl (congrArg _ hb12)) rfl (dn (Yd rfl rfl (ZAg (Zt (Zd (Zn (Zp rfl rfl (Za (v:=.int .i64 (Zu2.wrap ((i10:Int)+1))) rfl ?_)))))))))))
          refine done ?_
          replace hC:=hC.sM [1,2,3,4,5] (M':=[blk b12 55 (Zz8 .i64 (s10.1.set i10 (q10.1.get i10))),blk b11 55 (Zz8 .i64 q10.1),itI (kvA .i64) (vvI .i64) r10 b1 es10 ck10 (some ent10) l10,blk b10 119 cs10,Zm (kvA .i64) (vvI .i64) b7 m10]) (by decide) rfl
          exact hK10 (s10.1.set i10 (q10.1.get i10),m10,s10.2.2) _ _ ⟨(sl ⟨rfl,rfl,rfl,rfl,rfl,rfl,rfl,rfl,rfl,(tr rfl (congrArg _ (Yb hi10 (by decide)))),trivial⟩),hC⟩ h
        ·replace h:=Zh h (cf hb10)
         refine Zi (b:=false) 7 87 rfl (tr rfl (congrArg _ hb10)) (by decide) (Zi (b:=false) 7 87 rfl (tr rfl (congrArg _ hb10)) (by decide) (Zi (b:=false) 7 87 rfl (tr rfl (congrArg _ hb10)) (by decide) (Zi (b:=false) 7 87 rfl (tr rfl (congrArg _ hb10)) (by decide) (Zi (b:=false) 7 87 rfl (tr rfl (congrArg _ hb10)) (by decide) (Zi (b:=false) 7 87 rfl (tr rfl (congrArg _ hb10)) (by decide) (Zi (b:=false) 7 87 rfl (tr rfl (congrArg _ hb10)) (by decide) (Zi (b:=false) 7 87 rfl (tr rfl (congrArg _ hb10)) (by decide) (Zi (b:=false) 7 87 rfl (tr rfl (congrArg _ hb10)) (by decide) (Z3 (v:=.bool false) (b:=false) (tr rfl (congrArg _ hb10)) rfl (Za (v:=.bool false) rfl (Zi (b:=false) 18 98 rfl (tr rfl (congrArg _ rfl)) (by decide) ?_)))))))))))
         refine Zi (b:=false) 18 98 rfl (tr rfl (congrArg _ rfl)) (by decide) (Zi (b:=false) 18 98 rfl (tr rfl (congrArg _ rfl)) (by decide) (Z3 (v:=.bool false) (b:=false) rfl rfl (dn (Yd rfl rfl (ZAg (Zt (Zd (Zn (Zp rfl rfl (Za (v:=.int .i64 (Zu2.wrap ((i10:Int)+1))) rfl (done ?_)))))))))))
         replace hC:=hC.sM [1,2,3,4,5] (M':=[blk b12 55 (Zz8 .i64 (s10.1.set i10 (q10.1.get i10))),blk b11 55 (Zz8 .i64 q10.1),itI (kvA .i64) (vvI .i64) r10 b1 es10 ck10 (some ent10) l10,blk b10 119 cs10,Zm (kvA .i64) (vvI .i64) b7 m10]) (by decide) rfl
         exact hK10 (s10.1.set i10 (q10.1.get i10),m10,s10.2.2) _ _ ⟨(sl ⟨rfl,rfl,rfl,rfl,rfl,rfl,rfl,rfl,rfl,(tr rfl (congrArg _ (Yb hi10 (by decide)))),trivial⟩),hC⟩ h
       refine Jm 0 16 rfl rfl (by kernel_rfl) ?_ ?_
       ·skip
        refine Zbi hC (kvA .i64) (vvI .i64) fun b14 w33 hn_ hB_ hC=>?_
        have hnb_b12976:=Zso hN_ hn_
        refine done ?_
        refine Yr (X1 hN_ (by assumption)) hN_ (l9:=(Zb 22 194547)) (by kernel_rfl) (fun hN_=>?_)
        refine Jm 2 16 rfl rfl (by kernel_rfl) ?_ ?_
        ·skip
         refine Jk hC 0 (s10.1.set i10 (Zu2.wrap ((q10.1.get i10) - 1))) 1 rfl X4 ZCy rfl rfl rfl (fun w34 hBB_ hC=>?_) (.inr rfl)
         refine done ?_
         refine Yr (Jc hN_ hnb_b12976 hBB_) hN_ (l9:=(Zb 22 194551)) (by kernel_rfl) (fun hN_=>?_)
         refine Zo (Y6 _) 3 (.map (some b14)) rfl rfl (by kernel_rfl) (hM10 3 rfl) (fun w_=>.inl ⟨rfl,by exact Zs (v:=.map (some b14)) rfl⟩) (l9:=(Zb 22 194559)) (by kernel_rfl) ?_
         refine Jm 11 16 rfl rfl (by kernel_rfl) ?_ ?_
         ·skip
          refine Zk [.map (some b14),u0_0,.map (some b13)] _ ZCz rfl rfl rfl (X5 (Yk ([]:List (A8×Int)) (s10.1.set i10 (Zu2.wrap ((q10.1.get i10) - 1))) 1) a0.degrees ml10 h _ (hC.getM 0 rfl) (hC.getP 4 rfl) (hC.getP 0 rfl)) (fun ret13 w35 hR13=>?_)
          obtain ⟨r14,b33,rfl,h,hr12,hf11,hB13⟩:=hR13
          refine⟨_,rfl,?_⟩
          replace hC:=hC.push hB13 (Zm (kvA .i64) (vvI .i64) b33 r14) hr12 (fun b_ hb_=>by obtain rfl:=Zt8.1 hb_; exact hf11)
          refine done ?_
          refine Yr (X1 hN_ (by assumption)) hN_ (l9:=(Zb 22 196607)) (by kernel_rfl) (fun hN_=>?_)
          refine aO 16 rfl (Zbi hC (kvA .i64) (vvI .i64) fun b30 w36 hn_ hB_ hC=>?_)
          have hnb_b12989:=Zso hN_ hn_
          refine done ?_
          refine Yr (X1 hN_ (by assumption)) hN_ (l9:=(Zb 22 262143)) (by kernel_rfl) (fun hN_=>?_)
          refine aO 18 rfl ?_
          refine Jk hC 0 s11.1 1 rfl X4 ZCy rfl rfl rfl (fun w37 hBB_ hC=>?_) (.inr rfl)
          refine done ?_
          refine Yr (Jc hN_ hnb_b12989 hBB_) hN_ (l9:=(Zb 22 524287)) (by kernel_rfl) (fun hN_=>?_)
          refine Zo (Y6 _) 19 (.map (some b30)) rfl rfl (by kernel_rfl) (hM10 19 rfl) (fun w_=>.inl ⟨rfl,by exact Zs (v:=.map (some b30)) rfl⟩) (l9:=(Zb 22 1048575)) (by kernel_rfl) (Z7 20 (by decide) (by decide) (by kernel_rfl) (by kernel_rfl) rfl ?_)
          refine Zk [.map (some b33),u0_0,.map (some b30)] _ ZCz rfl rfl rfl (X5 r14 a0.degrees (Yk ([]:List (A8×Int)) s11.1 1) h _ (hC.getM 1 rfl) (hC.getP 4 rfl) (hC.getM 0 rfl)) (fun ret14 w38 hR14=>?_)
          obtain ⟨r13,b20,rfl,h,hr13,hf12,hB14⟩:=hR14
          refine⟨_,rfl,?_⟩
          replace hC:=hC.push hB14 (Zm (kvA .i64) (vvI .i64) b20 r13) hr13 (fun b_ hb_=>by obtain rfl:=Zt8.1 hb_; exact hf12)
          refine Zc (v:=.map (some b20)) rfl (done (Z8 ?_))
          replace hC:=hC.sM [0,6,7,8,9,10] (M':=[Zm (kvA .i64) (vvI .i64) b20 r13,blk b12 55 (Zz8 .i64 s10.1),blk b11 55 (Zz8 .i64 q10.1),itI (kvA .i64) (vvI .i64) r10 b1 es10 ck10 (some ent10) l10,blk b10 119 cs10,Zm (kvA .i64) (vvI .i64) b7 s10.2.1]) (by decide) rfl
          replace hC:=hC.sP [1,2,3,4,5,6,7] (Ps':=[Xl b1 es10 ck10,Zz9 (Y5 (kvA .i64) (vvI .i64) 8) r11 cs10 f10,Zz9 ZAq.sl a0.images [u0_1] fp0,Zz9 ((EI .i64).ty.sl) a0.degrees [u0_0] fp0,Zz9 TAlg a0 [u0_0,u0_1] fp0,blk b0 32 [u0_0,u0_1],Zm (kvA .i64) (vvI .i64) b1 a1]) rfl
          exact⟨rfl,_,rfl,⟨b20,r13,(sl ⟨rfl,rfl,rfl,rfl,rfl,rfl,rfl,rfl,rfl,rfl,rfl,rfl,rfl,trivial⟩),hC,h⟩⟩
         ·skip
          refine Zbi hC (kvA .i64) (vvI .i64) fun b18 w39 hn_ hB_ hC=>?_
          have hnb_b13002:=Zso hN_ hn_
          refine done ?_
          refine Yr (X1 hN_ (by assumption)) hN_ (l9:=(Zb 22 260095)) (by kernel_rfl) (fun hN_=>?_)
          refine Jm 11 18 rfl rfl (by kernel_rfl) ?_ ?_
          ·skip
           refine Zk [.map (some b14),u0_0,.map (some b13)] _ ZCz rfl rfl rfl (X5 (Yk ([]:List (A8×Int)) (s10.1.set i10 (Zu2.wrap ((q10.1.get i10) - 1))) 1) a0.degrees ml10 h _ (hC.getM 1 rfl) (hC.getP 4 rfl) (hC.getP 0 rfl)) (fun ret15 w40 hR15=>?_)
           obtain ⟨r25,b34,rfl,h,hr14,hf13,hB15⟩:=hR15
           refine⟨_,rfl,?_⟩
           replace hC:=hC.push hB15 (Zm (kvA .i64) (vvI .i64) b34 r25) hr14 (fun b_ hb_=>by obtain rfl:=Zt8.1 hb_; exact hf13)
           refine done ?_
           refine Yr (X1 hN_ (by assumption)) hN_ (l9:=(Zb 22 262143)) (by kernel_rfl) (fun hN_=>?_)
           refine aO 18 rfl ?_
           refine Jk hC 1 s11.1 1 rfl X4 ZCy rfl rfl rfl (fun w41 hBB_ hC=>?_) (.inr rfl)
           refine done ?_
           refine Yr (Jc hN_ hnb_b13002 hBB_) hN_ (l9:=(Zb 22 524287)) (by kernel_rfl) (fun hN_=>?_)
           refine Zo (Y6 _) 19 (.map (some b18)) rfl rfl (by kernel_rfl) (hM10 19 rfl) (fun w_=>.inl ⟨rfl,by exact Zs (v:=.map (some b18)) rfl⟩) (l9:=(Zb 22 1048575)) (by kernel_rfl) (Z7 20 (by decide) (by decide) (by kernel_rfl) (by kernel_rfl) rfl ?_)
           refine Zk [.map (some b34),u0_0,.map (some b18)] _ ZCz rfl rfl rfl (X5 r25 a0.degrees (Yk ([]:List (A8×Int)) s11.1 1) h _ (hC.getM 0 rfl) (hC.getP 4 rfl) (hC.getM 1 rfl)) (fun ret16 w42 hR16=>?_)
           obtain ⟨r16,b21,rfl,h,hr15,hf14,hB16⟩:=hR16
           refine⟨_,rfl,?_⟩
           replace hC:=hC.push hB16 (Zm (kvA .i64) (vvI .i64) b21 r16) hr15 (fun b_ hb_=>by obtain rfl:=Zt8.1 hb_; exact hf14)
           refine Zc (v:=.map (some b21)) rfl (done (Z8 ?_))
           replace hC:=hC.sM [0,6,7,8,9,10] (M':=[Zm (kvA .i64) (vvI .i64) b21 r16,blk b12 55 (Zz8 .i64 s10.1),blk b11 55 (Zz8 .i64 q10.1),itI (kvA .i64) (vvI .i64) r10 b1 es10 ck10 (some ent10) l10,blk b10 119 cs10,Zm (kvA .i64) (vvI .i64) b7 s10.2.1]) (by decide) rfl
           replace hC:=hC.sP [1,2,3,4,5,6,7] (Ps':=[Xl b1 es10 ck10,Zz9 (Y5 (kvA .i64) (vvI .i64) 8) r11 cs10 f10,Zz9 ZAq.sl a0.images [u0_1] fp0,Zz9 ((EI .i64).ty.sl) a0.degrees [u0_0] fp0,Zz9 TAlg a0 [u0_0,u0_1] fp0,blk b0 32 [u0_0,u0_1],Zm (kvA .i64) (vvI .i64) b1 a1]) rfl
           exact⟨rfl,_,rfl,⟨b21,r16,(sl ⟨rfl,rfl,rfl,rfl,rfl,rfl,rfl,rfl,rfl,rfl,rfl,rfl,rfl,trivial⟩),hC,h⟩⟩
          ·skip
           refine Jk hC 0 s11.1 1 rfl X4 ZCy rfl rfl rfl (fun w43 hBB_ hC=>?_) (.inr rfl)
           refine done ?_
           refine Yr (Jc hN_ hnb_b13002 hBB_) hN_ (l9:=(Zb 22 522239)) (by kernel_rfl) (fun hN_=>?_)
           refine Zo (Y6 _) 19 (.map (some b18)) rfl rfl (by kernel_rfl) (hM10 19 rfl) (fun w_=>.inl ⟨rfl,by exact Zs (v:=.map (some b18)) rfl⟩) (l9:=(Zb 22 1046527)) (by kernel_rfl) (aO 11 rfl ?_)
           refine Zk [.map (some b14),u0_0,.map (some b13)] _ ZCz rfl rfl rfl (X5 (Yk ([]:List (A8×Int)) (s10.1.set i10 (Zu2.wrap ((q10.1.get i10) - 1))) 1) a0.degrees ml10 h _ (hC.getM 1 rfl) (hC.getP 4 rfl) (hC.getP 0 rfl)) (fun ret17 w44 hR17=>?_)
           obtain ⟨r26,b35,rfl,h,hr16,hf15,hB17⟩:=hR17
           refine⟨_,rfl,?_⟩
           replace hC:=hC.push hB17 (Zm (kvA .i64) (vvI .i64) b35 r26) hr16 (fun b_ hb_=>by obtain rfl:=Zt8.1 hb_; exact hf15)
           refine done ?_
           refine Yr (X1 hN_ (by assumption)) hN_ (l9:=(Zb 22 1048575)) (by kernel_rfl) (fun hN_=>?_)
           refine Z7 20 (by decide) (by decide) (by kernel_rfl) (by kernel_rfl) rfl ?_
           refine Zk [.map (some b35),u0_0,.map (some b18)] _ ZCz rfl rfl rfl (X5 r26 a0.degrees (Yk ([]:List (A8×Int)) s11.1 1) h _ (hC.getM 0 rfl) (hC.getP 4 rfl) (hC.getM 1 rfl)) (fun ret18 w45 hR18=>?_)
           obtain ⟨r17,b22,rfl,h,hr17,hf16,hB18⟩:=hR18
           refine⟨_,rfl,?_⟩
           replace hC:=hC.push hB18 (Zm (kvA .i64) (vvI .i64) b22 r17) hr17 (fun b_ hb_=>by obtain rfl:=Zt8.1 hb_; exact hf16)
           refine Zc (v:=.map (some b22)) rfl (done (Z8 ?_))
           replace hC:=hC.sM [0,6,7,8,9,10] (M':=[Zm (kvA .i64) (vvI .i64) b22 r17,blk b12 55 (Zz8 .i64 s10.1),blk b11 55 (Zz8 .i64 q10.1),itI (kvA .i64) (vvI .i64) r10 b1 es10 ck10 (some ent10) l10,blk b10 119 cs10,Zm (kvA .i64) (vvI .i64) b7 s10.2.1]) (by decide) rfl
           replace hC:=hC.sP [1,2,3,4,5,6,7] (Ps':=[Xl b1 es10 ck10,Zz9 (Y5 (kvA .i64) (vvI .i64) 8) r11 cs10 f10,Zz9 ZAq.sl a0.images [u0_1] fp0,Zz9 ((EI .i64).ty.sl) a0.degrees [u0_0] fp0,Zz9 TAlg a0 [u0_0,u0_1] fp0,blk b0 32 [u0_0,u0_1],Zm (kvA .i64) (vvI .i64) b1 a1]) rfl
           exact⟨rfl,_,rfl,⟨b22,r17,(sl ⟨rfl,rfl,rfl,rfl,rfl,rfl,rfl,rfl,rfl,rfl,rfl,rfl,rfl,trivial⟩),hC,h⟩⟩
        ·skip
         refine Zbi hC (kvA .i64) (vvI .i64) fun b16 w46 hn_ hB_ hC=>?_
         have hnb_b13043:=Zso hN_ hn_
         refine done ?_
         refine Yr (X1 hN_ (by assumption)) hN_ (l9:=(Zb 22 260083)) (by kernel_rfl) (fun hN_=>?_)
         refine Jm 2 18 rfl rfl (by kernel_rfl) ?_ ?_
         ·skip
          refine Jk hC 1 (s10.1.set i10 (Zu2.wrap ((q10.1.get i10) - 1))) 1 rfl X4 ZCy rfl rfl rfl (fun w47 hBB_ hC=>?_) (.inr rfl)
          refine done ?_
          refine Yr (Jc hN_ hnb_b12976 hBB_) hN_ (l9:=(Zb 22 260087)) (by kernel_rfl) (fun hN_=>?_)
          refine Zo (Y6 _) 3 (.map (some b14)) rfl rfl (by kernel_rfl) (hM10 3 rfl) (fun w_=>.inl ⟨rfl,by exact Zs (v:=.map (some b14)) rfl⟩) (l9:=(Zb 22 260095)) (by kernel_rfl) ?_
          refine Jm 11 18 rfl rfl (by kernel_rfl) ?_ ?_
          ·skip
           refine Zk [.map (some b14),u0_0,.map (some b13)] _ ZCz rfl rfl rfl (X5 (Yk ([]:List (A8×Int)) (s10.1.set i10 (Zu2.wrap ((q10.1.get i10) - 1))) 1) a0.degrees ml10 h _ (hC.getM 1 rfl) (hC.getP 4 rfl) (hC.getP 0 rfl)) (fun ret19 w48 hR19=>?_)
           obtain ⟨r27,b36,rfl,h,hr18,hf17,hB19⟩:=hR19
           refine⟨_,rfl,?_⟩
           replace hC:=hC.push hB19 (Zm (kvA .i64) (vvI .i64) b36 r27) hr18 (fun b_ hb_=>by obtain rfl:=Zt8.1 hb_; exact hf17)
           refine done ?_
           refine Yr (X1 hN_ (by assumption)) hN_ (l9:=(Zb 22 262143)) (by kernel_rfl) (fun hN_=>?_)
           refine aO 18 rfl ?_
           refine Jk hC 1 s11.1 1 rfl X4 ZCy rfl rfl rfl (fun w49 hBB_ hC=>?_) (.inr rfl)
           refine done ?_
           refine Yr (Jc hN_ hnb_b13043 hBB_) hN_ (l9:=(Zb 22 524287)) (by kernel_rfl) (fun hN_=>?_)
           refine Zo (Y6 _) 19 (.map (some b16)) rfl rfl (by kernel_rfl) (hM10 19 rfl) (fun w_=>.inl ⟨rfl,by exact Zs (v:=.map (some b16)) rfl⟩) (l9:=(Zb 22 1048575)) (by kernel_rfl) (Z7 20 (by decide) (by decide) (by kernel_rfl) (by kernel_rfl) rfl ?_)
           refine Zk [.map (some b36),u0_0,.map (some b16)] _ ZCz rfl rfl rfl (X5 r27 a0.degrees (Yk ([]:List (A8×Int)) s11.1 1) h _ (hC.getM 0 rfl) (hC.getP 4 rfl) (hC.getM 1 rfl)) (fun ret20 w50 hR20=>?_)
           obtain ⟨r18,b23,rfl,h,hr19,hf18,hB20⟩:=hR20
           refine⟨_,rfl,?_⟩
           replace hC:=hC.push hB20 (Zm (kvA .i64) (vvI .i64) b23 r18) hr19 (fun b_ hb_=>by obtain rfl:=Zt8.1 hb_; exact hf18)
           refine Zc (v:=.map (some b23)) rfl (done (Z8 ?_))
           replace hC:=hC.sM [0,6,7,8,9,10] (M':=[Zm (kvA .i64) (vvI .i64) b23 r18,blk b12 55 (Zz8 .i64 s10.1),blk b11 55 (Zz8 .i64 q10.1),itI (kvA .i64) (vvI .i64) r10 b1 es10 ck10 (some ent10) l10,blk b10 119 cs10,Zm (kvA .i64) (vvI .i64) b7 s10.2.1]) (by decide) rfl
           replace hC:=hC.sP [1,2,3,4,5,6,7] (Ps':=[Xl b1 es10 ck10,Zz9 (Y5 (kvA .i64) (vvI .i64) 8) r11 cs10 f10,Zz9 ZAq.sl a0.images [u0_1] fp0,Zz9 ((EI .i64).ty.sl) a0.degrees [u0_0] fp0,Zz9 TAlg a0 [u0_0,u0_1] fp0,blk b0 32 [u0_0,u0_1],Zm (kvA .i64) (vvI .i64) b1 a1]) rfl
           exact⟨rfl,_,rfl,⟨b23,r18,(sl ⟨rfl,rfl,rfl,rfl,rfl,rfl,rfl,rfl,rfl,rfl,rfl,rfl,rfl,trivial⟩),hC,h⟩⟩
          ·skip
           refine Jk hC 0 s11.1 1 rfl X4 ZCy rfl rfl rfl (fun w51 hBB_ hC=>?_) (.inr rfl)
           refine done ?_
           refine Yr (Jc hN_ hnb_b13043 hBB_) hN_ (l9:=(Zb 22 522239)) (by kernel_rfl) (fun hN_=>?_)
           refine Zo (Y6 _) 19 (.map (some b16)) rfl rfl (by kernel_rfl) (hM10 19 rfl) (fun w_=>.inl ⟨rfl,by exact Zs (v:=.map (some b16)) rfl⟩) (l9:=(Zb 22 1046527)) (by kernel_rfl) (aO 11 rfl ?_)
           refine Zk [.map (some b14),u0_0,.map (some b13)] _ ZCz rfl rfl rfl (X5 (Yk ([]:List (A8×Int)) (s10.1.set i10 (Zu2.wrap ((q10.1.get i10) - 1))) 1) a0.degrees ml10 h _ (hC.getM 1 rfl) (hC.getP 4 rfl) (hC.getP 0 rfl)) (fun ret21 w52 hR21=>?_)
           obtain ⟨r28,b37,rfl,h,hr20,hf19,hB21⟩:=hR21
           refine⟨_,rfl,?_⟩
           replace hC:=hC.push hB21 (Zm (kvA .i64) (vvI .i64) b37 r28) hr20 (fun b_ hb_=>by obtain rfl:=Zt8.1 hb_; exact hf19)
           refine done ?_
           refine Yr (X1 hN_ (by assumption)) hN_ (l9:=(Zb 22 1048575)) (by kernel_rfl) (fun hN_=>?_)
           refine Z7 20 (by decide) (by decide) (by kernel_rfl) (by kernel_rfl) rfl ?_
           refine Zk [.map (some b37),u0_0,.map (some b16)] _ ZCz rfl rfl rfl (X5 r28 a0.degrees (Yk ([]:List (A8×Int)) s11.1 1) h _ (hC.getM 0 rfl) (hC.getP 4 rfl) (hC.getM 1 rfl)) (fun ret22 w53 hR22=>?_)
           obtain ⟨r19,b24,rfl,h,hr21,hf20,hB22⟩:=hR22
           refine⟨_,rfl,?_⟩
           replace hC:=hC.push hB22 (Zm (kvA .i64) (vvI .i64) b24 r19) hr21 (fun b_ hb_=>by obtain rfl:=Zt8.1 hb_; exact hf20)
           refine Zc (v:=.map (some b24)) rfl (done (Z8 ?_))
           replace hC:=hC.sM [0,6,7,8,9,10] (M':=[Zm (kvA .i64) (vvI .i64) b24 r19,blk b12 55 (Zz8 .i64 s10.1),blk b11 55 (Zz8 .i64 q10.1),itI (kvA .i64) (vvI .i64) r10 b1 es10 ck10 (some ent10) l10,blk b10 119 cs10,Zm (kvA .i64) (vvI .i64) b7 s10.2.1]) (by decide) rfl
           replace hC:=hC.sP [1,2,3,4,5,6,7] (Ps':=[Xl b1 es10 ck10,Zz9 (Y5 (kvA .i64) (vvI .i64) 8) r11 cs10 f10,Zz9 ZAq.sl a0.images [u0_1] fp0,Zz9 ((EI .i64).ty.sl) a0.degrees [u0_0] fp0,Zz9 TAlg a0 [u0_0,u0_1] fp0,blk b0 32 [u0_0,u0_1],Zm (kvA .i64) (vvI .i64) b1 a1]) rfl
           exact⟨rfl,_,rfl,⟨b24,r19,(sl ⟨rfl,rfl,rfl,rfl,rfl,rfl,rfl,rfl,rfl,rfl,rfl,rfl,rfl,trivial⟩),hC,h⟩⟩
         ·skip
          refine Jk hC 0 s11.1 1 rfl X4 ZCy rfl rfl rfl (fun w54 hBB_ hC=>?_) (.inr rfl)
          refine done ?_
          refine Yr (Jc hN_ hnb_b13043 hBB_) hN_ (l9:=(Zb 22 522227)) (by kernel_rfl) (fun hN_=>?_)
          refine Zo (Y6 _) 19 (.map (some b16)) rfl rfl (by kernel_rfl) (hM10 19 rfl) (fun w_=>.inl ⟨rfl,by exact Zs (v:=.map (some b16)) rfl⟩) (l9:=(Zb 22 1046515)) (by kernel_rfl) (aO 2 rfl ?_)
          refine Jk hC 1 (s10.1.set i10 (Zu2.wrap ((q10.1.get i10) - 1))) 1 rfl X4 ZCy rfl rfl rfl (fun w55 hBB_ hC=>?_) (.inr rfl)
          refine done ?_
          refine Yr (Jc hN_ hnb_b12976 hBB_) hN_ (l9:=(Zb 22 1046519)) (by kernel_rfl) (fun hN_=>?_)
          refine Zo (Y6 _) 3 (.map (some b14)) rfl rfl (by kernel_rfl) (hM10 3 rfl) (fun w_=>.inl ⟨rfl,by exact Zs (v:=.map (some b14)) rfl⟩) (l9:=(Zb 22 1046527)) (by kernel_rfl) (aO 11 rfl ?_)
          refine Zk [.map (some b14),u0_0,.map (some b13)] _ ZCz rfl rfl rfl (X5 (Yk ([]:List (A8×Int)) (s10.1.set i10 (Zu2.wrap ((q10.1.get i10) - 1))) 1) a0.degrees ml10 h _ (hC.getM 1 rfl) (hC.getP 4 rfl) (hC.getP 0 rfl)) (fun ret23 w56 hR23=>?_)
          obtain ⟨r29,b38,rfl,h,hr22,hf21,hB23⟩:=hR23
          refine⟨_,rfl,?_⟩
          replace hC:=hC.push hB23 (Zm (kvA .i64) (vvI .i64) b38 r29) hr22 (fun b_ hb_=>by obtain rfl:=Zt8.1 hb_; exact hf21)
          refine done ?_
          refine Yr (X1 hN_ (by assumption)) hN_ (l9:=(Zb 22 1048575)) (by kernel_rfl) (fun hN_=>?_)
          refine Z7 20 (by decide) (by decide) (by kernel_rfl) (by kernel_rfl) rfl ?_
          refine Zk [.map (some b38),u0_0,.map (some b16)] _ ZCz rfl rfl rfl (X5 r29 a0.degrees (Yk ([]:List (A8×Int)) s11.1 1) h _ (hC.getM 0 rfl) (hC.getP 4 rfl) (hC.getM 1 rfl)) (fun ret24 w57 hR24=>?_)
          obtain ⟨r20,b25,rfl,h,hr23,hf22,hB24⟩:=hR24
          refine⟨_,rfl,?_⟩
          replace hC:=hC.push hB24 (Zm (kvA .i64) (vvI .i64) b25 r20) hr23 (fun b_ hb_=>by obtain rfl:=Zt8.1 hb_; exact hf22)
          refine Zc (v:=.map (some b25)) rfl (done (Z8 ?_))
          replace hC:=hC.sM [0,6,7,8,9,10] (M':=[Zm (kvA .i64) (vvI .i64) b25 r20,blk b12 55 (Zz8 .i64 s10.1),blk b11 55 (Zz8 .i64 q10.1),itI (kvA .i64) (vvI .i64) r10 b1 es10 ck10 (some ent10) l10,blk b10 119 cs10,Zm (kvA .i64) (vvI .i64) b7 s10.2.1]) (by decide) rfl
          replace hC:=hC.sP [1,2,3,4,5,6,7] (Ps':=[Xl b1 es10 ck10,Zz9 (Y5 (kvA .i64) (vvI .i64) 8) r11 cs10 f10,Zz9 ZAq.sl a0.images [u0_1] fp0,Zz9 ((EI .i64).ty.sl) a0.degrees [u0_0] fp0,Zz9 TAlg a0 [u0_0,u0_1] fp0,blk b0 32 [u0_0,u0_1],Zm (kvA .i64) (vvI .i64) b1 a1]) rfl
          exact⟨rfl,_,rfl,⟨b25,r20,(sl ⟨rfl,rfl,rfl,rfl,rfl,rfl,rfl,rfl,rfl,rfl,rfl,rfl,rfl,trivial⟩),hC,h⟩⟩
       ·skip
        refine Zbi hC (kvA .i64) (vvI .i64) fun b15 w58 hn_ hB_ hC=>?_
        have hnb_b13105:=Zso hN_ hn_
        refine done ?_
        refine Yr (X1 hN_ (by assumption)) hN_ (l9:=(Zb 22 260082)) (by kernel_rfl) (fun hN_=>?_)
        refine Jm 0 18 rfl rfl (by kernel_rfl) ?_ ?_
        ·skip
         refine Zbi hC (kvA .i64) (vvI .i64) fun b17 w59 hn_ hB_ hC=>?_
         have hnb_b13108:=Zso hN_ hn_
         refine done ?_
         refine Yr (X1 hN_ (by assumption)) hN_ (l9:=(Zb 22 260083)) (by kernel_rfl) (fun hN_=>?_)
         refine Jm 2 18 rfl rfl (by kernel_rfl) ?_ ?_
         ·skip
          refine Jk hC 0 (s10.1.set i10 (Zu2.wrap ((q10.1.get i10) - 1))) 1 rfl X4 ZCy rfl rfl rfl (fun w60 hBB_ hC=>?_) (.inr rfl)
          refine done ?_
          refine Yr (Jc hN_ hnb_b13108 hBB_) hN_ (l9:=(Zb 22 260087)) (by kernel_rfl) (fun hN_=>?_)
          refine Zo (Y6 _) 3 (.map (some b17)) rfl rfl (by kernel_rfl) (hM10 3 rfl) (fun w_=>.inl ⟨rfl,by exact Zs (v:=.map (some b17)) rfl⟩) (l9:=(Zb 22 260095)) (by kernel_rfl) ?_
          refine Jm 11 18 rfl rfl (by kernel_rfl) ?_ ?_
          ·skip
           refine Zk [.map (some b17),u0_0,.map (some b13)] _ ZCz rfl rfl rfl (X5 (Yk ([]:List (A8×Int)) (s10.1.set i10 (Zu2.wrap ((q10.1.get i10) - 1))) 1) a0.degrees ml10 h _ (hC.getM 0 rfl) (hC.getP 4 rfl) (hC.getP 0 rfl)) (fun ret25 w61 hR25=>?_)
           obtain ⟨r30,b39,rfl,h,hr24,hf23,hB25⟩:=hR25
           refine⟨_,rfl,?_⟩
           replace hC:=hC.push hB25 (Zm (kvA .i64) (vvI .i64) b39 r30) hr24 (fun b_ hb_=>by obtain rfl:=Zt8.1 hb_; exact hf23)
           refine done ?_
           refine Yr (X1 hN_ (by assumption)) hN_ (l9:=(Zb 22 262143)) (by kernel_rfl) (fun hN_=>?_)
           refine aO 18 rfl ?_
           refine Jk hC 2 s11.1 1 rfl X4 ZCy rfl rfl rfl (fun w62 hBB_ hC=>?_) (.inr rfl)
           refine done ?_
           refine Yr (Jc hN_ hnb_b13105 hBB_) hN_ (l9:=(Zb 22 524287)) (by kernel_rfl) (fun hN_=>?_)
           refine Zo (Y6 _) 19 (.map (some b15)) rfl rfl (by kernel_rfl) (hM10 19 rfl) (fun w_=>.inl ⟨rfl,by exact Zs (v:=.map (some b15)) rfl⟩) (l9:=(Zb 22 1048575)) (by kernel_rfl) (Z7 20 (by decide) (by decide) (by kernel_rfl) (by kernel_rfl) rfl ?_)
           refine Zk [.map (some b39),u0_0,.map (some b15)] _ ZCz rfl rfl rfl (X5 r30 a0.degrees (Yk ([]:List (A8×Int)) s11.1 1) h _ (hC.getM 0 rfl) (hC.getP 4 rfl) (hC.getM 2 rfl)) (fun ret26 w63 hR26=>?_)
           obtain ⟨r21,b26,rfl,h,hr25,hf24,hB26⟩:=hR26
           refine⟨_,rfl,?_⟩
           replace hC:=hC.push hB26 (Zm (kvA .i64) (vvI .i64) b26 r21) hr25 (fun b_ hb_=>by obtain rfl:=Zt8.1 hb_; exact hf24)
           refine Zc (v:=.map (some b26)) rfl (done (Z8 ?_))
           replace hC:=hC.sM [0,6,7,8,9,10] (M':=[Zm (kvA .i64) (vvI .i64) b26 r21,blk b12 55 (Zz8 .i64 s10.1),blk b11 55 (Zz8 .i64 q10.1),itI (kvA .i64) (vvI .i64) r10 b1 es10 ck10 (some ent10) l10,blk b10 119 cs10,Zm (kvA .i64) (vvI .i64) b7 s10.2.1]) (by decide) rfl
           replace hC:=hC.sP [1,2,3,4,5,6,7] (Ps':=[Xl b1 es10 ck10,Zz9 (Y5 (kvA .i64) (vvI .i64) 8) r11 cs10 f10,Zz9 ZAq.sl a0.images [u0_1] fp0,Zz9 ((EI .i64).ty.sl) a0.degrees [u0_0] fp0,Zz9 TAlg a0 [u0_0,u0_1] fp0,blk b0 32 [u0_0,u0_1],Zm (kvA .i64) (vvI .i64) b1 a1]) rfl
           exact⟨rfl,_,rfl,⟨b26,r21,(sl ⟨rfl,rfl,rfl,rfl,rfl,rfl,rfl,rfl,rfl,rfl,rfl,rfl,rfl,trivial⟩),hC,h⟩⟩
          ·skip
           refine Jk hC 1 s11.1 1 rfl X4 ZCy rfl rfl rfl (fun w64 hBB_ hC=>?_) (.inr rfl)
           refine done ?_
           refine Yr (Jc hN_ hnb_b13105 hBB_) hN_ (l9:=(Zb 22 522239)) (by kernel_rfl) (fun hN_=>?_)
           refine Zo (Y6 _) 19 (.map (some b15)) rfl rfl (by kernel_rfl) (hM10 19 rfl) (fun w_=>.inl ⟨rfl,by exact Zs (v:=.map (some b15)) rfl⟩) (l9:=(Zb 22 1046527)) (by kernel_rfl) (aO 11 rfl ?_)
           refine Zk [.map (some b17),u0_0,.map (some b13)] _ ZCz rfl rfl rfl (X5 (Yk ([]:List (A8×Int)) (s10.1.set i10 (Zu2.wrap ((q10.1.get i10) - 1))) 1) a0.degrees ml10 h _ (hC.getM 0 rfl) (hC.getP 4 rfl) (hC.getP 0 rfl)) (fun ret27 w65 hR27=>?_)
           obtain ⟨r31,b40,rfl,h,hr26,hf25,hB27⟩:=hR27
           refine⟨_,rfl,?_⟩
           replace hC:=hC.push hB27 (Zm (kvA .i64) (vvI .i64) b40 r31) hr26 (fun b_ hb_=>by obtain rfl:=Zt8.1 hb_; exact hf25)
           refine done ?_
           refine Yr (X1 hN_ (by assumption)) hN_ (l9:=(Zb 22 1048575)) (by kernel_rfl) (fun hN_=>?_)
           refine Z7 20 (by decide) (by decide) (by kernel_rfl) (by kernel_rfl) rfl ?_
           refine Zk [.map (some b40),u0_0,.map (some b15)] _ ZCz rfl rfl rfl (X5 r31 a0.degrees (Yk ([]:List (A8×Int)) s11.1 1) h _ (hC.getM 0 rfl) (hC.getP 4 rfl) (hC.getM 2 rfl)) (fun ret28 w66 hR28=>?_)
           obtain ⟨r22,b27,rfl,h,hr27,hf26,hB28⟩:=hR28
           refine⟨_,rfl,?_⟩
           replace hC:=hC.push hB28 (Zm (kvA .i64) (vvI .i64) b27 r22) hr27 (fun b_ hb_=>by obtain rfl:=Zt8.1 hb_; exact hf26)
           refine Zc (v:=.map (some b27)) rfl (done (Z8 ?_))
           replace hC:=hC.sM [0,6,7,8,9,10] (M':=[Zm (kvA .i64) (vvI .i64) b27 r22,blk b12 55 (Zz8 .i64 s10.1),blk b11 55 (Zz8 .i64 q10.1),itI (kvA .i64) (vvI .i64) r10 b1 es10 ck10 (some ent10) l10,blk b10 119 cs10,Zm (kvA .i64) (vvI .i64) b7 s10.2.1]) (by decide) rfl
           replace hC:=hC.sP [1,2,3,4,5,6,7] (Ps':=[Xl b1 es10 ck10,Zz9 (Y5 (kvA .i64) (vvI .i64) 8) r11 cs10 f10,Zz9 ZAq.sl a0.images [u0_1] fp0,Zz9 ((EI .i64).ty.sl) a0.degrees [u0_0] fp0,Zz9 TAlg a0 [u0_0,u0_1] fp0,blk b0 32 [u0_0,u0_1],Zm (kvA .i64) (vvI .i64) b1 a1]) rfl
           exact⟨rfl,_,rfl,⟨b27,r22,(sl ⟨rfl,rfl,rfl,rfl,rfl,rfl,rfl,rfl,rfl,rfl,rfl,rfl,rfl,trivial⟩),hC,h⟩⟩
         ·skip
          refine Jk hC 1 s11.1 1 rfl X4 ZCy rfl rfl rfl (fun w67 hBB_ hC=>?_) (.inr rfl)
          refine done ?_
          refine Yr (Jc hN_ hnb_b13105 hBB_) hN_ (l9:=(Zb 22 522227)) (by kernel_rfl) (fun hN_=>?_)
          refine Zo (Y6 _) 19 (.map (some b15)) rfl rfl (by kernel_rfl) (hM10 19 rfl) (fun w_=>.inl ⟨rfl,by exact Zs (v:=.map (some b15)) rfl⟩) (l9:=(Zb 22 1046515)) (by kernel_rfl) (aO 2 rfl ?_)
          refine Jk hC 0 (s10.1.set i10 (Zu2.wrap ((q10.1.get i10) - 1))) 1 rfl X4 ZCy rfl rfl rfl (fun w68 hBB_ hC=>?_) (.inr rfl)
          refine done ?_
          refine Yr (Jc hN_ hnb_b13108 hBB_) hN_ (l9:=(Zb 22 1046519)) (by kernel_rfl) (fun hN_=>?_)
          refine Zo (Y6 _) 3 (.map (some b17)) rfl rfl (by kernel_rfl) (hM10 3 rfl) (fun w_=>.inl ⟨rfl,by exact Zs (v:=.map (some b17)) rfl⟩) (l9:=(Zb 22 1046527)) (by kernel_rfl) (aO 11 rfl ?_)
          refine Zk [.map (some b17),u0_0,.map (some b13)] _ ZCz rfl rfl rfl (X5 (Yk ([]:List (A8×Int)) (s10.1.set i10 (Zu2.wrap ((q10.1.get i10) - 1))) 1) a0.degrees ml10 h _ (hC.getM 0 rfl) (hC.getP 4 rfl) (hC.getP 0 rfl)) (fun ret29 w69 hR29=>?_)
          obtain ⟨r32,b41,rfl,h,hr28,hf27,hB29⟩:=hR29
          refine⟨_,rfl,?_⟩
          replace hC:=hC.push hB29 (Zm (kvA .i64) (vvI .i64) b41 r32) hr28 (fun b_ hb_=>by obtain rfl:=Zt8.1 hb_; exact hf27)
          refine done ?_
          refine Yr (X1 hN_ (by assumption)) hN_ (l9:=(Zb 22 1048575)) (by kernel_rfl) (fun hN_=>?_)
          refine Z7 20 (by decide) (by decide) (by kernel_rfl) (by kernel_rfl) rfl ?_
          refine Zk [.map (some b41),u0_0,.map (some b15)] _ ZCz rfl rfl rfl (X5 r32 a0.degrees (Yk ([]:List (A8×Int)) s11.1 1) h _ (hC.getM 0 rfl) (hC.getP 4 rfl) (hC.getM 2 rfl)) (fun ret30 w70 hR30=>?_)
          obtain ⟨r23,b28,rfl,h,hr29,hf28,hB30⟩:=hR30
          refine⟨_,rfl,?_⟩
          replace hC:=hC.push hB30 (Zm (kvA .i64) (vvI .i64) b28 r23) hr29 (fun b_ hb_=>by obtain rfl:=Zt8.1 hb_; exact hf28)
          refine Zc (v:=.map (some b28)) rfl (done (Z8 ?_))
          replace hC:=hC.sM [0,6,7,8,9,10] (M':=[Zm (kvA .i64) (vvI .i64) b28 r23,blk b12 55 (Zz8 .i64 s10.1),blk b11 55 (Zz8 .i64 q10.1),itI (kvA .i64) (vvI .i64) r10 b1 es10 ck10 (some ent10) l10,blk b10 119 cs10,Zm (kvA .i64) (vvI .i64) b7 s10.2.1]) (by decide) rfl
          replace hC:=hC.sP [1,2,3,4,5,6,7] (Ps':=[Xl b1 es10 ck10,Zz9 (Y5 (kvA .i64) (vvI .i64) 8) r11 cs10 f10,Zz9 ZAq.sl a0.images [u0_1] fp0,Zz9 ((EI .i64).ty.sl) a0.degrees [u0_0] fp0,Zz9 TAlg a0 [u0_0,u0_1] fp0,blk b0 32 [u0_0,u0_1],Zm (kvA .i64) (vvI .i64) b1 a1]) rfl
          exact⟨rfl,_,rfl,⟨b28,r23,(sl ⟨rfl,rfl,rfl,rfl,rfl,rfl,rfl,rfl,rfl,rfl,rfl,rfl,rfl,trivial⟩),hC,h⟩⟩
        ·skip
         refine Jk hC 0 s11.1 1 rfl X4 ZCy rfl rfl rfl (fun w71 hBB_ hC=>?_) (.inr rfl)
         refine done ?_
         refine Yr (Jc hN_ hnb_b13105 hBB_) hN_ (l9:=(Zb 22 522226)) (by kernel_rfl) (fun hN_=>?_)
         refine Zo (Y6 _) 19 (.map (some b15)) rfl rfl (by kernel_rfl) (hM10 19 rfl) (fun w_=>.inl ⟨rfl,by exact Zs (v:=.map (some b15)) rfl⟩) (l9:=(Zb 22 1046514)) (by kernel_rfl) (aO 0 rfl (Zbi hC (kvA .i64) (vvI .i64) fun b31 w72 hn_ hB_ hC=>?_))
         have hnb_b13171:=Zso hN_ hn_
         refine done ?_
         refine Yr (X1 hN_ (by assumption)) hN_ (l9:=(Zb 22 1046515)) (by kernel_rfl) (fun hN_=>?_)
         refine aO 2 rfl ?_
         refine Jk hC 0 (s10.1.set i10 (Zu2.wrap ((q10.1.get i10) - 1))) 1 rfl X4 ZCy rfl rfl rfl (fun w73 hBB_ hC=>?_) (.inr rfl)
         refine done ?_
         refine Yr (Jc hN_ hnb_b13171 hBB_) hN_ (l9:=(Zb 22 1046519)) (by kernel_rfl) (fun hN_=>?_)
         refine Zo (Y6 _) 3 (.map (some b31)) rfl rfl (by kernel_rfl) (hM10 3 rfl) (fun w_=>.inl ⟨rfl,by exact Zs (v:=.map (some b31)) rfl⟩) (l9:=(Zb 22 1046527)) (by kernel_rfl) (aO 11 rfl ?_)
         refine Zk [.map (some b31),u0_0,.map (some b13)] _ ZCz rfl rfl rfl (X5 (Yk ([]:List (A8×Int)) (s10.1.set i10 (Zu2.wrap ((q10.1.get i10) - 1))) 1) a0.degrees ml10 h _ (hC.getM 0 rfl) (hC.getP 4 rfl) (hC.getP 0 rfl)) (fun ret31 w74 hR31=>?_)
         obtain ⟨r33,b42,rfl,h,hr30,hf29,hB31⟩:=hR31
         refine⟨_,rfl,?_⟩
         replace hC:=hC.push hB31 (Zm (kvA .i64) (vvI .i64) b42 r33) hr30 (fun b_ hb_=>by obtain rfl:=Zt8.1 hb_; exact hf29)
         refine done ?_
         refine Yr (X1 hN_ (by assumption)) hN_ (l9:=(Zb 22 1048575)) (by kernel_rfl) (fun hN_=>?_)
         refine Z7 20 (by decide) (by decide) (by kernel_rfl) (by kernel_rfl) rfl ?_
         refine Zk [.map (some b42),u0_0,.map (some b15)] _ ZCz rfl rfl rfl (X5 r33 a0.degrees (Yk ([]:List (A8×Int)) s11.1 1) h _ (hC.getM 0 rfl) (hC.getP 4 rfl) (hC.getM 2 rfl)) (fun ret32 w75 hR32=>?_)
         obtain ⟨r24,b29,rfl,h,hr31,hf30,hB32⟩:=hR32
         refine⟨_,rfl,?_⟩
         replace hC:=hC.push hB32 (Zm (kvA .i64) (vvI .i64) b29 r24) hr31 (fun b_ hb_=>by obtain rfl:=Zt8.1 hb_; exact hf30)
         refine Zc (v:=.map (some b29)) rfl (done (Z8 ?_))
         replace hC:=hC.sM [0,6,7,8,9,10] (M':=[Zm (kvA .i64) (vvI .i64) b29 r24,blk b12 55 (Zz8 .i64 s10.1),blk b11 55 (Zz8 .i64 q10.1),itI (kvA .i64) (vvI .i64) r10 b1 es10 ck10 (some ent10) l10,blk b10 119 cs10,Zm (kvA .i64) (vvI .i64) b7 s10.2.1]) (by decide) rfl
         replace hC:=hC.sP [1,2,3,4,5,6,7] (Ps':=[Xl b1 es10 ck10,Zz9 (Y5 (kvA .i64) (vvI .i64) 8) r11 cs10 f10,Zz9 ZAq.sl a0.images [u0_1] fp0,Zz9 ((EI .i64).ty.sl) a0.degrees [u0_0] fp0,Zz9 TAlg a0 [u0_0,u0_1] fp0,blk b0 32 [u0_0,u0_1],Zm (kvA .i64) (vvI .i64) b1 a1]) rfl
         exact⟨rfl,_,rfl,⟨b29,r24,(sl ⟨rfl,rfl,rfl,rfl,rfl,rfl,rfl,rfl,rfl,rfl,rfl,rfl,rfl,trivial⟩),hC,h⟩⟩
     ·skip
      exact⟨(sl ⟨rfl,rfl,rfl,rfl,rfl,rfl,rfl,rfl,rfl,rfl,rfl,rfl,rfl,rfl,rfl,trivial⟩),hC⟩
    ·replace h:=Zh h (cf hb14)
     refine ZAg (Zd (sr (Za (v:=.int .i64 (i10:Int)) rfl (Za (v:=.int .i64 (q10.1.get i10)) rfl (Y1 i10 ZBh sc3.size rfl rfl (ZAx _) (by omega) (by omega) (Zy (v:=.int .i64 (q10.1.get i10)) hC 0 [.int .i64 (q10.1.get i10)] (Zz8 .i64 (s10.1.set i10 (q10.1.get i10))) rfl sc3.size rfl rfl rfl rfl rfl hi10 (ZA5 _ _ _ hi10) fun w76 hC=>dn (sr (Za (v:=.int .i64 (i10:Int)) rfl (Za (v:=.pointer (some ⟨b0,0,none⟩)) rfl (Zbx rfl ?_))))))))))
     refine Zx 0 ZAs rfl sc22.size rfl rfl (Zc6 (u0_0) (hC.getP 5 rfl) sc22 rfl rfl ?_)
     obtain ⟨Ad12,c12,hv14⟩:=Zw (hC.getP 3 rfl)
     refine Zv ZAu (tr rfl hv14) (Zq rfl rfl (Za (v:=.bool (decide ((i10:Int) < (a0.degrees.length:Int)))) rfl ?_))
     refine Yy (decide ((i10:Int) < (a0.degrees.length:Int))) (fun hb11=>?_) (fun hb11=>?_)
     ·replace h:=ift h (ct hb11)
      refine Zj 7 87 rfl rfl hb11 (Za (v:=.pointer (some ⟨b0,0,none⟩)) rfl (Zj 7 87 rfl rfl hb11 (Zbx rfl (Zj 7 87 rfl rfl hb11 (Zx 0 ZAs rfl sc22.size rfl rfl (Zj 7 87 rfl rfl hb11 (Zc6 (u0_0) (hC.getP 5 rfl) sc22 rfl rfl (Zj 7 87 rfl rfl hb11 (Za (v:=.int .i64 (i10:Int)) rfl (Zj 7 87 rfl rfl hb11 ?_))))))))))
      obtain ⟨⟨h14,h15⟩,h⟩:=h
      obtain ⟨Ad13,c13,hv11⟩:=Z6 (hC.getP 3 rfl) i10 (show i10 < a0.degrees.length by omega)
      refine Yv (len:=a0.degrees.length) ZAu sc2.size (tr rfl hv11) rfl h14 h15 (Zj 7 87 rfl rfl hb11 (Xy (.int .i64 (a0.degrees.getD i10 Zsn)) (Yj (hC.getP 3 rfl) hv11 i10 (show i10 < a0.degrees.length by omega)) sc2 rfl (Zj 7 87 rfl rfl hb11 (Jf rfl rfl (by decide) (Zj 7 87 rfl rfl hb11 (Ji rfl rfl (Z3 (v:=.bool (decide (Ztb (a0.degrees.getD i10 Zsn) 2=1))) (b:=true) (tr rfl (congrArg _ hb11)) rfl (Za (v:=.bool (decide (Ztb (a0.degrees.getD i10 Zsn) 2=1))) rfl ?_))))))))
      refine Yy (decide (Ztb (a0.degrees.getD i10 Zsn) 2=1)) (fun hb13=>?_) (fun hb13=>?_)
      ·replace h:=ift h (ct hb13)
       refine Zj 18 98 rfl rfl hb13 (Za (v:=.int .i64 (q10.1.get i10)) rfl (Zj 18 98 rfl rfl hb13 (Jf rfl rfl (by decide) (Zj 18 98 rfl rfl hb13 (Ji rfl rfl (Z3 (v:=.bool (decide (Ztb (q10.1.get i10) 2=1))) (b:=true) (tr rfl (congrArg _ hb13)) rfl (dn ?_)))))))
       refine Zr rfl (fun hb17=>?_) (fun hb17=>?_)
       ·replace h:=ift h (ct hb17)
        refine Zn (Za (v:=.int .i64 s10.2.2) rfl (Zep rfl (Zc (v:=.int .i64 (Zu2.wrap (0 - s10.2.2))) rfl (done (Zt (Zd (Zn (Zp rfl rfl (Za (v:=.int .i64 (Zu2.wrap ((i10:Int)+1))) rfl (done ?_))))))))))
        exact hK10 (s10.1.set i10 (q10.1.get i10),s10.2.1,Zu2.wrap (0 - s10.2.2)) _ _ ⟨(sl ⟨rfl,rfl,rfl,rfl,rfl,rfl,rfl,rfl,rfl,(tr rfl (congrArg _ (Yb hi10 (by decide)))),trivial⟩),hC⟩ h
       ·replace h:=Zh h (cf hb17)
        refine ZAg (Zt (Zd (Zn (Zp rfl rfl (Za (v:=.int .i64 (Zu2.wrap ((i10:Int)+1))) rfl (done ?_))))))
        exact hK10 (s10.1.set i10 (q10.1.get i10),s10.2.1,s10.2.2) _ _ ⟨(sl ⟨rfl,rfl,rfl,rfl,rfl,rfl,rfl,rfl,rfl,(tr rfl (congrArg _ (Yb hi10 (by decide)))),trivial⟩),hC⟩ h
      ·replace h:=Zh h (cf hb13)
       refine Zi (b:=false) 18 98 rfl (tr rfl (congrArg _ hb13)) (by decide) (Zi (b:=false) 18 98 rfl (tr rfl (congrArg _ hb13)) (by decide) (Zi (b:=false) 18 98 rfl (tr rfl (congrArg _ hb13)) (by decide) (Z3 (v:=.bool false) (b:=false) (tr rfl (congrArg _ hb13)) rfl (dn (Yd rfl rfl (ZAg (Zt (Zd (Zn (Zp rfl rfl (Za (v:=.int .i64 (Zu2.wrap ((i10:Int)+1))) rfl ?_)))))))))))
       refine done ?_
       exact hK10 (s10.1.set i10 (q10.1.get i10),s10.2.1,s10.2.2) _ _ ⟨(sl ⟨rfl,rfl,rfl,rfl,rfl,rfl,rfl,rfl,rfl,(tr rfl (congrArg _ (Yb hi10 (by decide)))),trivial⟩),hC⟩ h
     ·replace h:=Zh h (cf hb11)
      refine Zi (b:=false) 7 87 rfl (tr rfl (congrArg _ hb11)) (by decide) (Zi (b:=false) 7 87 rfl (tr rfl (congrArg _ hb11)) (by decide) (Zi (b:=false) 7 87 rfl (tr rfl (congrArg _ hb11)) (by decide) (Zi (b:=false) 7 87 rfl (tr rfl (congrArg _ hb11)) (by decide) (Zi (b:=false) 7 87 rfl (tr rfl (congrArg _ hb11)) (by decide) (Zi (b:=false) 7 87 rfl (tr rfl (congrArg _ hb11)) (by decide) (Zi (b:=false) 7 87 rfl (tr rfl (congrArg _ hb11)) (by decide) (Zi (b:=false) 7 87 rfl (tr rfl (congrArg _ hb11)) (by decide) (Zi (b:=false) 7 87 rfl (tr rfl (congrArg _ hb11)) (by decide) (Z3 (v:=.bool false) (b:=false) (tr rfl (congrArg _ hb11)) rfl (Za (v:=.bool false) rfl (Zi (b:=false) 18 98 rfl (tr rfl (congrArg _ rfl)) (by decide) ?_)))))))))))
      refine Zi (b:=false) 18 98 rfl (tr rfl (congrArg _ rfl)) (by decide) (Zi (b:=false) 18 98 rfl (tr rfl (congrArg _ rfl)) (by decide) (Z3 (v:=.bool false) (b:=false) rfl rfl (dn (Yd rfl rfl (ZAg (Zt (Zd (Zn (Zp rfl rfl (Za (v:=.int .i64 (Zu2.wrap ((i10:Int)+1))) rfl (done ?_)))))))))))
      exact hK10 (s10.1.set i10 (q10.1.get i10),s10.2.1,s10.2.2) _ _ ⟨(sl ⟨rfl,rfl,rfl,rfl,rfl,rfl,rfl,rfl,rfl,(tr rfl (congrArg _ (Yb hi10 (by decide)))),trivial⟩),hC⟩ h
   ·clear hC h
    rintro s10 e_ w77 K10 ⟨hS_,hC⟩ h
    rw [ue hS_]
    refine sr (Zq rfl rfl (dn (ZAc (Yd rfl (decide_eq_false (by omega)) ?_))))
    refine ZAt (Zl (Zl (Z4 ?_)))
    refine Zt ?_
    replace hC:=hC.sM [2,3,4] (M':=[itI (kvA .i64) (vvI .i64) r10 b1 es10 ck10 (some ent10) l10,blk b10 119 cs10,Zm (kvA .i64) (vvI .i64) b7 s10.2.1]) (by decide) rfl
    exact hK11 q10 l10 s10.2.1 _ _ hp10 ⟨(some ent10),(sl ⟨rfl,rfl,rfl,rfl,trivial⟩),hC⟩ h
   ·skip
    exact⟨(sl ⟨rfl,rfl,rfl,rfl,rfl,rfl,rfl,rfl,rfl,rfl,trivial⟩),hC⟩
 ·skip
  replace hC:=hC.sP [0,2,3,4,5,6,7] (Ps':=[Xl b1 es10 ck10,Zz9 (Y5 (kvA .i64) (vvI .i64) 8) r11 cs10 f10,Zz9 ZAq.sl a0.images [u0_1] fp0,Zz9 ((EI .i64).ty.sl) a0.degrees [u0_0] fp0,Zz9 TAlg a0 [u0_0,u0_1] fp0,blk b0 32 [u0_0,u0_1],Zm (kvA .i64) (vvI .i64) b1 a1]) rfl
  exact⟨none,(sl ⟨rfl,rfl,rfl,rfl,trivial⟩),hC⟩
def Zdt (a0:A8) (K:A8→Prop):Prop :=
 Yh (fun i10 (s10:A8) nx10=>nx10 (s10.set i10 (a0.get i10))) (fun (s10:A8)=>K s10) 8 0 ZAi
theorem Zn8 (a0:A8)  {K:A8→Prop} (h:Zdt a0 K) (w0:World)  :
  Calls ZAf 94 #[.agg (ZAa (Zz8 .u8 a0))] w0 fun e w'=>∃ (r0:A8),
   e=.returned (.agg (ZAa (Zz8 .u8 r0)))∧K r0∧Bel w0 w':=by
 unfold Zdt at h
 refine Zz (args:=[.agg (ZAa (Zz8 .u8 a0))]) Try.func94 rfl 15 Try.ntmps94 (ZAe rfl) ?_
 have hC:=ZAv (X:=Nox) w0 [] (by simp)
 refine sr (Yg (v:=.agg (ZAa (Zz8 .u8 a0))) hC (Zz8 .u8 a0) rfl rfl fun b1 w3 hB_ hC=>Ye hC (Zz8 .u8 ZAi) z47 rfl fun b4 w6 hB_ hC=>dn (sr (Ye hC (Zz8 .u8 ZAi) z47 rfl fun b7 w9 hB_ hC=>dn (ZAc (sr (Zc (v:=.int .i64 0) rfl (dn (ZAl ?_))))))))
 refine Yp (S:=A8) _ _ (fun i10 s10 e_ w_=>Z1 e_ [(1,.pointer (some ⟨b1,0,none⟩)),(2,.pointer (some ⟨b4,0,none⟩)),(3,.pointer (some ⟨b7,0,none⟩)),(4,.int .i64 (i10:Int))]∧Ctx Nox w0 w_ [blk b7 47 (Zz8 .u8 s10),blk b4 47 (Zz8 .u8 ZAi),blk b1 46 (Zz8 .u8 a0)] []) 8 ?_ ?_ (s0:=ZAi) ?_ h
 ·clear hC h
  rintro i10 s10 e_ w10 nx10 K10 hi10 ⟨hS_,hC⟩ h hK10
  rw [ue hS_]
  refine ZAc (sr (Za (v:=.int .i64 (i10:Int)) rfl (Zq rfl rfl (dn (Yf rfl (decide_eq_true (by omega)) (ZAg (Zd (ZAc (ZAl (Zn (Za (v:=.int .i64 (i10:Int)) rfl ?_)))))))))))
  refine Za (v:=.int .i64 (i10:Int)) rfl (Y1 i10 Try.underlying46 sc5.size rfl rfl (ZAx _) (by omega) (by omega) (Z0 hC 2 (.int .u8 (a0.get i10)) rfl sc5 rfl (ZAw _ _ hi10) (Y1 i10 ZAp sc5.size rfl rfl (ZAx _) (by omega) (by omega) (Zy (v:=.int .u8 (a0.get i10)) hC 0 [.int .u8 (a0.get i10)] (Zz8 .u8 (s10.set i10 (a0.get i10))) rfl sc5.size rfl rfl rfl rfl rfl hi10 (ZA5 _ _ _ hi10) fun w11 hC=>done (Zt (Zd (Zn (Za (v:=.int .i64 (i10:Int)) rfl (Zp rfl rfl (Zc (v:=.int .i64 (Zu2.wrap ((i10:Int)+1))) rfl ?_))))))))))
  refine done ?_
  exact hK10 (s10.set i10 (a0.get i10)) _ _ ⟨(sl ⟨rfl,rfl,rfl,(tr rfl (congrArg _ (Yb hi10 (by decide)))),trivial⟩),hC⟩ h
 ·clear hC h
  rintro s10 e_ w12 K10 ⟨hS_,hC⟩ h
  rw [ue hS_]
  refine ZAc (sr (Za (v:=.int .i64 8) rfl (Zq rfl rfl (dn (Yd rfl (decide_eq_false (by omega)) ?_)))))
  refine ZAt (Zl (Zl (Z4 ?_)))
  refine Zd (sr (Yl hC 0 (Zz8 .u8 s10) rfl ag47 rfl rfl rfl (Zy (v:=.agg (ZAa (Zz8 .u8 s10))) hC 1 (Zz8 .u8 s10) (Zz8 .u8 s10) rfl ag47.size rfl rfl rfl rfl rfl (ZAe rfl) rfl fun w13 hC=>dn (ZAk ?_))))
  refine Zg (fn:=Try.f94) rfl ?_ ⟨s10,rfl,h,hC.below⟩ (.inl rfl)
  exact X9 hC 1 rfl ag47 rfl rfl
 ·skip
  exact⟨(sl ⟨rfl,rfl,rfl,rfl,trivial⟩),hC⟩
def Zdu (a0:List Int) (K:List Int→Prop):Prop :=
 ((0≤(a0.length:Int)∧(a0.length:Int) * 8≤281474976710656)∧Yh (fun i10 (s10:(List Int)) nx10=>((0≤(i10:Int)∧(i10:Int) < (s10.length:Int))∧nx10 (s10.set i10 (a0.getD i10 Zsn)))) (fun (s10:(List Int))=>K s10) a0.length 0 (Zsi ((a0.length:Int).toNat) (0:Int)))
theorem Zn9 (a0:List Int) {u0_0:Value} {fp0:List Nat} {K:List Int→Prop} (h:Zdu a0 K) (w0:World) (q0:((EI .i64).ty.sl).rep a0 [u0_0] fp0 w0) :
  Calls ZAf 17 #[u0_0] w0 fun e w'=>∃ (r0:List Int) (z0_0:Value) (fz0:List Nat),
   e=.returned (z0_0)∧K r0∧(Tr.item (Tr.sl 2 ((EI .i64).tr)) r0 [z0_0] fz0).holds w'∧(∀ b,b∈fz0→w0.heap.size≤b)∧Bel w0 w':=by
 unfold Zdu at h
 refine Zz (args:=[u0_0]) Try.func17 rfl 22 Try.ntmps17 (ZAe rfl) ?_
 have hC:=ZAv (X:=Nox) w0 [Zz9 ((EI .i64).ty.sl) a0 [u0_0] fp0] (by simp only [Zsj,Zur,or_false,forall_eq_or_imp,forall_eq]; exact q0)
 refine sr (Zc (v:=.slice none 0 0) rfl (dn (sr (Za (v:=u0_0) rfl ?_))))
 obtain ⟨Ad2,c3,hv4⟩:=Zw (hC.getP 0 rfl)
 refine Zv ZAu (tr rfl hv4) ?_
 obtain ⟨hm7,h⟩:=h
 refine Zgo (sz:=1) hC ((EI .i64).encs (Zsi ((a0.length:Int).toNat) (0:Int))) ZAu el2 (tr rfl (congrArg (ZC8 .i64) (ZC9 hm7.1).symm)) (tr rfl (congrArg (ZC8 .i64) (ZC9 hm7.1).symm)) (by omega) (by omega) (Zev (E:=(EI .i64)) _ _) fun v5 w6 hB_ hC=>?_
 replace hC:=Js hC 0 ((Zsi ((a0.length:Int).toNat) (0:Int)).length) ((EI .i64).encs (Zsi ((a0.length:Int).toNat) (0:Int))) rfl (by simp) rfl
 refine Zc (v:=v5) rfl (dn (ZAc (sr (Zc (v:=.int .i64 0) rfl (dn (ZAl ?_))))))
 have hN10:a0.length≤9223372036854775807:=Y9 (hC.getP 0 rfl)
 refine Yp (S:=(List Int)) _ _ (fun i10 s10 e_ w_=>∃ (v10:Value),Z1 e_ [(0,u0_0),(3,v10),(4,.int .i64 (i10:Int))]∧Ctx Nox w0 w_ [own 2 1 v10 s10.length ((EI .i64).encs s10)] [Zz9 ((EI .i64).ty.sl) a0 [u0_0] fp0]) a0.length ?_ ?_ (s0:=(Zsi ((a0.length:Int).toNat) (0:Int))) ?_ h
 ·clear hC h
  rintro i10 s10 e_ w10 nx10 K10 hi10 ⟨v10,hS_,hC⟩ h hK10
  rw [ue hS_]
  refine ZAc (sr (Za (v:=.int .i64 (i10:Int)) rfl (Za (v:=u0_0) rfl ?_)))
  obtain ⟨Ad10,c10,hv12⟩:=Zw (hC.getP 0 rfl)
  refine Zv ZAu (tr rfl hv12) (Zq rfl rfl (dn (Yf rfl (decide_eq_true (by omega)) (ZAg (Zd (ZAc (ZAl (Zn (Za (v:=v10) rfl (Za (v:=.int .i64 (i10:Int)) rfl (Za (v:=u0_0) rfl ?_)))))))))))
  refine Za (v:=.int .i64 (i10:Int)) rfl ?_
  obtain ⟨Ad11,c11,hv10⟩:=Z6 (hC.getP 0 rfl) i10 hi10
  refine Yv (len:=a0.length) ZAu sc2.size (tr rfl hv10) rfl (ZAx _) (ZBk.2 hi10) (Xy (.int .i64 (a0.getD i10 Zsn)) (Yj (hC.getP 0 rfl) hv10 i10 hi10) sc2 rfl ?_)
  obtain ⟨⟨h10,h11⟩,h⟩:=h
  obtain ⟨Ad12,c12,hv11⟩:=Zap (hC.getM 0 rfl) (ZDa (Zun _) (show i10 < s10.length by omega))
  refine Zar (i10 * 1) ZAu sc2.size (tr rfl hv11) rfl h10 h11 rfl (Zb0 (v:=.int .i64 (a0.getD i10 Zsn)) hC 0 [.int .i64 (a0.getD i10 Zsn)] ((EI .i64).encs (s10.set i10 (a0.getD i10 Zsn))) rfl hv11 sc2.size rfl rfl rfl rfl rfl (by rw [ZDb]; exact Zaa (sz:=1) (show i10 < s10.length by omega)) (Zeu _ _ _ (show i10 < s10.length by omega)) fun w11 hC=>?_)
  replace hC:=Js hC 0 ((s10.set i10 (a0.getD i10 Zsn)).length) ((EI .i64).encs (s10.set i10 (a0.getD i10 Zsn))) rfl (by simp) rfl
  refine done (Zt (Zd (Zn (Za (v:=.int .i64 (i10:Int)) rfl (Zp rfl rfl (Zc (v:=.int .i64 (Zu2.wrap ((i10:Int)+1))) rfl (done ?_)))))))
  exact hK10 (s10.set i10 (a0.getD i10 Zsn)) _ _ ⟨v10,(sl ⟨rfl,rfl,(tr rfl (congrArg _ (Yb hi10 hN10))),trivial⟩),hC⟩ h
 ·clear hC h
  rintro s10 e_ w12 K10 ⟨v10,hS_,hC⟩ h
  rw [ue hS_]
  refine ZAc (sr (Za (v:=.int .i64 (a0.length:Int)) rfl (Za (v:=u0_0) rfl ?_)))
  obtain ⟨Ad13,c13,hv13⟩:=Zw (hC.getP 0 rfl)
  refine Zv ZAu (tr rfl hv13) (Zq rfl rfl (dn (Yd rfl (decide_eq_false (by omega)) ?_)))
  refine ZAt (Zl (Zl (Z4 ?_)))
  refine Zd (sr (Za (v:=v10) rfl (Zc (v:=v10) rfl (dn (ZAk ?_)))))
  refine Zg (fn:=Try.f17) rfl ?_ ⟨s10,v10,(ZA7 (Zth v10)),rfl,h,(Jw (hC.getM 0 rfl)),(Zaf hC 0 rfl),hC.below⟩ (.inl rfl)
  exact Zf rfl
 ·skip
  exact⟨v5,(sl ⟨rfl,rfl,rfl,trivial⟩),hC⟩
def Zdv (a0:A8) (a1:A8) (K:Bool→Prop):Prop :=
 Yh (fun i10 (s10:Unit) nx10=>(if a0.get i10≠a1.get i10 then K false else nx10 ())) (fun (s10:Unit)=>K true) 8 0 ()
theorem Zoa (a0:A8) (a1:A8)  {K:Bool→Prop} (h:Zdv a0 a1 K) (w0:World)  :
  Calls ZAf 100 #[.agg (ZAa (Zz8 .u8 a0)),.agg (ZAa (Zz8 .u8 a1))] w0 fun e w'=>∃ (r0:Bool),
   e=.returned (.bool r0)∧K r0∧Bel w0 w':=by
 unfold Zdv at h
 refine Zz (args:=[.agg (ZAa (Zz8 .u8 a0)),.agg (ZAa (Zz8 .u8 a1))]) Try.func100 rfl 17 Try.ntmps100 (ZAe rfl) ?_
 have hC:=ZAv (X:=Nox) w0 [] (by simp)
 refine sr (Yg (v:=.agg (ZAa (Zz8 .u8 a0))) hC (Zz8 .u8 a0) rfl rfl fun b1 w3 hB_ hC=>Yg (v:=.agg (ZAa (Zz8 .u8 a1))) hC (Zz8 .u8 a1) rfl rfl fun b4 w6 hB_ hC=>Zc (v:=.bool false) rfl (dn (ZAc (sr (Zc (v:=.int .i64 0) rfl (dn (ZAl ?_)))))))
 refine Yp (S:=Unit) _ _ (fun i10 s10 e_ w_=>Z1 e_ [(2,.pointer (some ⟨b1,0,none⟩)),(3,.pointer (some ⟨b4,0,none⟩)),(5,.int .i64 (i10:Int))]∧Ctx Nox w0 w_ [blk b4 47 (Zz8 .u8 a1),blk b1 47 (Zz8 .u8 a0)] []) 8 ?_ ?_ (s0:=()) ?_ h
 ·clear hC h
  rintro i10 s10 e_ w10 nx10 K10 hi10 ⟨hS_,hC⟩ h hK10
  rw [ue hS_]
  refine ZAc (sr (Za (v:=.int .i64 (i10:Int)) rfl (Zq rfl rfl (dn (Yf rfl (decide_eq_true (by omega)) (ZAg (Zd (ZAc (ZAl (ZAc ?_))))))))))
  refine Yq 6 mixed [0,1,3,0,8,24,63] [1,2,4,5] [0,3] (by kernel_rfl) (by kernel_rfl) (by kernel_rfl) (fun hM10 hM11 w11 hB_=>?_)
  replace hC:=hC.grow hB_
  refine aF 0 (.int .i64 (i10:Int)) rfl rfl (hM11 0 rfl) (rfl) (fun _=>by exact Zs (v:=.int .i64 (i10:Int)) rfl) (Zb 7 1) (aL 1 (.pointer (some ⟨b1,i10,none⟩)) rfl rfl (hM10 1 rfl) (rfl) (fun _ hB_=>by exact X8 i10 ZAp sc5.size rfl rfl (ZAx _) (by omega) (by omega)) (Zb 7 3) (aL 2 (.int .u8 (a0.get i10)) rfl rfl (hM10 2 rfl) (rfl) (fun _ hB_=>by exact Yc (hC.grow hB_) 1 (.int .u8 (a0.get i10)) rfl sc5 rfl (ZAw _ _ hi10)) (Zb 7 7) (aF 3 (.int .i64 (i10:Int)) rfl rfl (hM11 3 rfl) (rfl) (fun _=>by exact Zs (v:=.int .i64 (i10:Int)) rfl) (Zb 7 15) (aL 4 (.pointer (some ⟨b4,i10,none⟩)) rfl rfl (hM10 4 rfl) (rfl) (fun _ hB_=>by exact X8 i10 ZAp sc5.size rfl rfl (ZAx _) (by omega) (by omega)) (Zb 7 31) (aL 5 (.int .u8 (a1.get i10)) rfl rfl (hM10 5 rfl) (rfl) (fun _ hB_=>by exact Yc (hC.grow hB_) 0 (.int .u8 (a1.get i10)) rfl sc5 rfl (ZAw _ _ hi10)) (Zb 7 63) (Z7 6 (by decide) (by decide) (by kernel_rfl) (by kernel_rfl) rfl (Y0 rfl rfl (done (Z8 (Zd ?_))))))))))
  refine Zr rfl (fun hb10=>?_) (fun hb10=>?_)
  ·replace h:=ift h (ct hb10)
   refine sr (Zc (v:=.bool false) rfl (dn ?_))
   refine ZAk (Z2 (Ze (Ze (Z2 (Ze ?_)))))
   refine Zg (fn:=Try.f100) rfl ?_ ⟨false,rfl,h,hC.below⟩ (.inl rfl)
   exact Zf rfl
  ·replace h:=Zh h (cf hb10)
   refine ZAg (Zt (Zd (Zn (Za (v:=.int .i64 (i10:Int)) rfl (Zp rfl rfl (Zc (v:=.int .i64 (Zu2.wrap ((i10:Int)+1))) rfl (done ?_)))))))
   exact hK10 () _ _ ⟨(sl ⟨rfl,rfl,(tr rfl (congrArg _ (Yb hi10 (by decide)))),trivial⟩),hC⟩ h
 ·clear hC h
  rintro s10 e_ w12 K10 ⟨hS_,hC⟩ h
  rw [ue hS_]
  refine ZAc (sr (Za (v:=.int .i64 8) rfl (Zq rfl rfl (dn (Yd rfl (decide_eq_false (by omega)) ?_)))))
  refine ZAt (Zl (Zl (Z4 ?_)))
  refine Zd (sr (Zc (v:=.bool true) rfl (dn (ZAk ?_))))
  refine Zg (fn:=Try.f100) rfl ?_ ⟨true,rfl,h,hC.below⟩ (.inl rfl)
  exact Zf rfl
 ·skip
  exact⟨(sl ⟨rfl,rfl,rfl,trivial⟩),hC⟩
def Zch (a0:List Int) (a1:List Int) (K:Bool→Prop):Prop :=
 (if(a0.length:Int)≠(a1.length:Int) then K false else Yh (fun i10 (s10:Unit) nx10=>((0≤(i10:Int)∧(i10:Int) < (a1.length:Int))∧(if a0.getD i10 Zsn≠a1.getD i10 Zsn then K false else nx10 ()))) (fun (s10:Unit)=>K true) a0.length 0 ())
theorem Zjk (a0:List Int) (a1:List Int) {u0_0:Value} {u1_0:Value} {fp0:List Nat} {fp1:List Nat} {K:Bool→Prop} (h:Zch a0 a1 K) (w0:World) (q0:((EI .i64).ty.sl).rep a0 [u0_0] fp0 w0) (q1:((EI .i64).ty.sl).rep a1 [u1_0] fp1 w0) :
  Calls ZAf 24 #[u0_0,u1_0] w0 fun e w'=>∃ (r0:Bool),
   e=.returned (.bool r0)∧K r0∧Bel w0 w':=by
 unfold Zch at h
 refine Zz (args:=[u0_0,u1_0]) Try.func24 rfl 26 Try.ntmps24 (ZAe rfl) ?_
 have hC:=ZAv (X:=Nox) w0 [Zz9 ((EI .i64).ty.sl) a0 [u0_0] fp0,Zz9 ((EI .i64).ty.sl) a1 [u1_0] fp1] (by simp only [Zsj,Zur,or_false,forall_eq_or_imp,forall_eq]; exact⟨q0,q1⟩)
 refine sr (Zc (v:=.bool false) rfl (dn (ZAc (sr (Za (v:=u0_0) rfl ?_)))))
 obtain ⟨Ad3,c4,hv5⟩:=Zw (hC.getP 0 rfl)
 refine Zv ZAu (tr rfl hv5) (Za (v:=u1_0) rfl ?_)
 obtain ⟨Ad6,c7,hv8⟩:=Zw (hC.getP 1 rfl)
 refine Zv ZAu (tr rfl hv8) (Y0 rfl rfl (dn ?_))
 refine Zr rfl (fun hb9=>?_) (fun hb9=>?_)
 ·replace h:=ift h (ct hb9)
  refine sr (Zc (v:=.bool false) rfl (dn ?_))
  refine ZAk (Ze ?_)
  refine Zg (fn:=Try.f24) rfl ?_ ⟨false,rfl,h,hC.below⟩ (.inl rfl)
  exact Zf rfl
 ·replace h:=Zh h (cf hb9)
  refine ZAg (Zd (ZAc (sr (Zc (v:=.int .i64 0) rfl (dn (ZAl ?_))))))
  have hN10:a0.length≤9223372036854775807:=Y9 (hC.getP 0 rfl)
  refine Yp (S:=Unit) _ _ (fun i10 s10 e_ w_=>Z1 e_ [(0,u0_0),(1,u1_0),(5,.int .i64 (i10:Int))]∧Ctx Nox w0 w_ [] [Zz9 ((EI .i64).ty.sl) a0 [u0_0] fp0,Zz9 ((EI .i64).ty.sl) a1 [u1_0] fp1]) a0.length ?_ ?_ (s0:=()) ?_ h
  ·clear hC h
   rintro i10 s10 e_ w10 nx10 K10 hi10 ⟨hS_,hC⟩ h hK10
   rw [ue hS_]
   refine ZAc (sr (Za (v:=.int .i64 (i10:Int)) rfl (Za (v:=u0_0) rfl ?_)))
   obtain ⟨Ad12,c10,hv12⟩:=Zw (hC.getP 0 rfl)
   refine Zv ZAu (tr rfl hv12) (Zq rfl rfl (dn (Yf rfl (decide_eq_true (by omega)) (ZAg (Zd (ZAc (ZAl (ZAc ?_))))))))
   refine Yq 8 mixed [0,0,3,7,0,0,48,112,255] [2,3,6,7] [0,1,4,5] (by kernel_rfl) (by kernel_rfl) (by kernel_rfl) (fun hM10 hM11 w11 hB_=>?_)
   replace hC:=hC.grow hB_
   refine aF 0 (u0_0) rfl rfl (hM11 0 rfl) (rfl) (fun _=>by exact Zs (v:=u0_0) rfl) (Zb 9 1) (aF 1 (.int .i64 (i10:Int)) rfl rfl (hM11 1 rfl) (rfl) (fun _=>by exact Zs (v:=.int .i64 (i10:Int)) rfl) (Zb 9 3) ?_)
   obtain ⟨Ad10,c11,hv10⟩:=Z6 (hC.getP 0 rfl) i10 hi10
   refine aL 2 (.pointer (some (Ad10.add (i10 * 1)))) rfl rfl (hM10 2 rfl) (rfl) (fun _ hB_=>by exact Y2 (len:=a0.length) ZAu sc2.size (by exact tr rfl hv10) rfl (ZAx _) (ZBk.2 hi10)) (Zb 9 7) (aL 3 (.int .i64 (a0.getD i10 Zsn)) rfl rfl (hM10 3 rfl) (rfl) (fun _ hB_=>by exact J9 (.int .i64 (a0.getD i10 Zsn)) (Yj ((hC.grow hB_).getP 0 rfl) hv10 i10 hi10) sc2 rfl) (Zb 9 15) (aF 4 (u1_0) rfl rfl (hM11 4 rfl) (rfl) (fun _=>by exact Zs (v:=u1_0) rfl) (Zb 9 31) (aF 5 (.int .i64 (i10:Int)) rfl rfl (hM11 5 rfl) (rfl) (fun _=>by exact Zs (v:=.int .i64 (i10:Int)) rfl) (Zb 9 63) ?_)))
   obtain ⟨⟨h10,h11⟩,h⟩:=h
   obtain ⟨Ad11,c12,hv11⟩:=Z6 (hC.getP 1 rfl) i10 (show i10 < a1.length by omega)
   refine aL 6 (.pointer (some (Ad11.add (i10 * 1)))) rfl rfl (hM10 6 rfl) (rfl) (fun _ hB_=>by exact Y2 (len:=a1.length) ZAu sc2.size (by exact tr rfl hv11) rfl h10 h11) (Zb 9 127) (aL 7 (.int .i64 (a1.getD i10 Zsn)) rfl rfl (hM10 7 rfl) (rfl) (fun _ hB_=>by exact J9 (.int .i64 (a1.getD i10 Zsn)) (Yj ((hC.grow hB_).getP 1 rfl) hv11 i10 (show i10 < a1.length by omega)) sc2 rfl) (Zb 9 255) (Z7 8 (by decide) (by decide) (by kernel_rfl) (by kernel_rfl) rfl (Y0 rfl rfl (done (Z8 (Zd ?_))))))
   refine Zr rfl (fun hb10=>?_) (fun hb10=>?_)
   ·replace h:=ift h (ct hb10)
    refine sr (Zc (v:=.bool false) rfl (dn ?_))
    refine ZAk (Z2 (Ze (Ze (Z2 (Ze ?_)))))
    refine Zg (fn:=Try.f24) rfl ?_ ⟨false,rfl,h,hC.below⟩ (.inl rfl)
    exact Zf rfl
   ·replace h:=Zh h (cf hb10)
    refine ZAg (Zt (Zd (Zn (Za (v:=.int .i64 (i10:Int)) rfl (Zp rfl rfl (Zc (v:=.int .i64 (Zu2.wrap ((i10:Int)+1))) rfl (done ?_)))))))
    exact hK10 () _ _ ⟨(sl ⟨rfl,rfl,(tr rfl (congrArg _ (Yb hi10 hN10))),trivial⟩),hC⟩ h
  ·clear hC h
   rintro s10 e_ w12 K10 ⟨hS_,hC⟩ h
   rw [ue hS_]
   refine ZAc (sr (Za (v:=.int .i64 (a0.length:Int)) rfl (Za (v:=u0_0) rfl ?_)))
   obtain ⟨Ad13,c13,hv13⟩:=Zw (hC.getP 0 rfl)
   refine Zv ZAu (tr rfl hv13) (Zq rfl rfl (dn (Yd rfl (decide_eq_false (by omega)) ?_)))
   refine ZAt (Zl (Zl (Z4 ?_)))
   refine Zd (sr (Zc (v:=.bool true) rfl (dn (ZAk ?_))))
   refine Zg (fn:=Try.f24) rfl ?_ ⟨true,rfl,h,hC.below⟩ (.inl rfl)
   exact Zf rfl
  ·skip
   exact⟨(sl ⟨rfl,rfl,rfl,trivial⟩),hC⟩
def Zdw (a0:Term) (K:Term→Prop):Prop :=
 Zdt a0.mono (fun r10=>K (⟨r10,a0.factor⟩:Term))
theorem Zob (a0:Term)  {K:Term→Prop} (h:Zdw a0 K) (w0:World)  :
  Calls ZAf 78 #[.agg (ZAa (ZAn a0))] w0 fun e w'=>∃ (r0:Term),
   e=.returned (.agg (ZAa (ZAn r0)))∧K r0∧Bel w0 w':=by
 unfold Zdw at h
 refine Zz (args:=[.agg (ZAa (ZAn a0))]) Try.func78 rfl 12 Try.ntmps78 (ZAe rfl) ?_
 have hC:=ZAv (X:=Nox) w0 [] (by simp)
 refine sr (Yg (v:=.agg (ZAa (ZAn a0))) hC (ZAn a0) rfl rfl fun b1 w3 hB_ hC=>Ye hC (ZAn (⟨ZAi,0⟩:Term)) z49 rfl fun b4 w6 hB_ hC=>dn (sr (Ye hC (ZAn (⟨ZAi,0⟩:Term)) z49 rfl fun b7 w9 hB_ hC=>dn (sr (Zx 0 Try.underlying117 rfl ag46.size rfl rfl (Yl hC 2 (Zz8 .u8 a0.mono) rfl ag46 rfl rfl rfl ?_))))))
 refine Zk [.agg (ZAa (Zz8 .u8 a0.mono))] _ Try.func94 rfl rfl rfl (Zn8 a0.mono h _) (fun ret10 w10 hR10=>?_)
 obtain ⟨r10,rfl,h,hB10⟩:=hR10
 refine⟨_,rfl,?_⟩
 replace hC:=hC.grow hB10
 refine Zx 0 ZAr rfl ag47.size rfl rfl (Zy (v:=.agg (ZAa (Zz8 .u8 r10))) hC 0 (Zz8 .u8 r10) (ZAn (⟨r10,0⟩:Term)) rfl ag47.size rfl rfl rfl rfl rfl (ZAe rfl) rfl fun w11 hC=>dn (sr (Zx 8 Try.underlying117 rfl sc2.size rfl rfl (Z0 hC 2 (.int .i64 a0.factor) rfl sc2 rfl rfl (Zx 8 ZAr rfl sc2.size rfl rfl (Zy (v:=.int .i64 a0.factor) hC 0 [.int .i64 a0.factor] (ZAn (⟨r10,a0.factor⟩:Term)) rfl sc2.size rfl rfl rfl rfl rfl (ZAe rfl) rfl fun w12 hC=>dn (sr (Yl hC 0 (ZAn (⟨r10,a0.factor⟩:Term)) rfl ag49 rfl rfl rfl (Zy (v:=.agg (ZAa (ZAn (⟨r10,a0.factor⟩:Term)))) hC 1 (ZAn (⟨r10,a0.factor⟩:Term)) (ZAn (⟨r10,a0.factor⟩:Term)) rfl ag49.size rfl rfl rfl rfl rfl (ZAe rfl) rfl fun w13 hC=>?_)))))))))
 refine dn (ZAk ?_)
 refine Zg (fn:=Try.f78) rfl ?_ ⟨(⟨r10,a0.factor⟩:Term),rfl,h,hC.below⟩ (.inl rfl)
 exact X9 hC 1 rfl ag49 rfl rfl
def Zdx (a0:List Term) (K:List Term→Prop):Prop :=
 ((0≤(a0.length:Int)∧(a0.length:Int) * 16≤281474976710656)∧Yh (fun i10 (s10:(List Term)) nx10=>Zdw (a0.getD i10 Zsn) (fun r10=>((0≤(i10:Int)∧(i10:Int) < (s10.length:Int))∧nx10 (s10.set i10 r10)))) (fun (s10:(List Term))=>K s10) a0.length 0 (Zsi ((a0.length:Int).toNat) ((⟨ZAi,0⟩:Term):Term)))
theorem Zoc (a0:List Term) {u0_0:Value} {fp0:List Nat} {K:List Term→Prop} (h:Zdx a0 K) (w0:World) (q0:ZAb.ty.sl.rep a0 [u0_0] fp0 w0) :
  Calls ZAf 55 #[u0_0] w0 fun e w'=>∃ (r0:List Term) (z0_0:Value) (fz0:List Nat),
   e=.returned (z0_0)∧K r0∧(Tr.item (Tr.sl 49 ZAb.tr) r0 [z0_0] fz0).holds w'∧(∀ b,b∈fz0→w0.heap.size≤b)∧Bel w0 w':=by
 unfold Zdx at h
 refine Zz (args:=[u0_0]) Try.func55 rfl 23 Try.ntmps55 (ZAe rfl) ?_
 have hC:=ZAv (X:=Nox) w0 [Zz9 ZAb.ty.sl a0 [u0_0] fp0] (by simp only [Zsj,Zur,or_false,forall_eq_or_imp,forall_eq]; exact q0)
 refine sr (Zc (v:=.slice none 0 0) rfl (dn (sr (Za (v:=u0_0) rfl ?_))))
 obtain ⟨Ad2,c3,hv4⟩:=Zw (hC.getP 0 rfl)
 refine Zv ZDc (tr rfl hv4) ?_
 obtain ⟨hm7,h⟩:=h
 refine Zgo (sz:=9) hC (ZAb.encs (Zsi ((a0.length:Int).toNat) ((⟨ZAi,0⟩:Term):Term))) ZAj Zca (tr rfl (congrArg (ZC8 .i64) (ZC9 hm7.1).symm)) (tr rfl (congrArg (ZC8 .i64) (ZC9 hm7.1).symm)) (by omega) (by omega) (Zev (E:=ETerm) _ _) fun v5 w6 hB_ hC=>?_
 replace hC:=Js hC 0 ((Zsi ((a0.length:Int).toNat) ((⟨ZAi,0⟩:Term):Term)).length) (ZAb.encs (Zsi ((a0.length:Int).toNat) ((⟨ZAi,0⟩:Term):Term))) rfl (by simp) rfl
 refine Zc (v:=v5) rfl (dn (ZAc (sr (Zc (v:=.int .i64 0) rfl (dn (ZAl ?_))))))
 have hN10:a0.length≤9223372036854775807:=Y9 (hC.getP 0 rfl)
 refine Yp (S:=(List Term)) _ _ (fun i10 s10 e_ w_=>∃ (v10:Value),Z1 e_ [(0,u0_0),(3,v10),(4,.int .i64 (i10:Int))]∧Ctx Nox w0 w_ [own 49 9 v10 s10.length (ZAb.encs s10)] [Zz9 ZAb.ty.sl a0 [u0_0] fp0]) a0.length ?_ ?_ (s0:=(Zsi ((a0.length:Int).toNat) ((⟨ZAi,0⟩:Term):Term))) ?_ h
 ·clear hC h
  rintro i10 s10 e_ w10 nx10 K10 hi10 ⟨v10,hS_,hC⟩ h hK10
  rw [ue hS_]
  refine ZAc (sr (Za (v:=.int .i64 (i10:Int)) rfl (Za (v:=u0_0) rfl ?_)))
  obtain ⟨Ad10,c10,hv12⟩:=Zw (hC.getP 0 rfl)
  refine Zv ZDc (tr rfl hv12) (Zq rfl rfl (dn (Yf rfl (decide_eq_true (by omega)) (ZAg (Zd (ZAc (ZAl (Zn (Za (v:=v10) rfl (Za (v:=.int .i64 (i10:Int)) rfl (Za (v:=u0_0) rfl ?_)))))))))))
  refine Za (v:=.int .i64 (i10:Int)) rfl ?_
  obtain ⟨Ad11,c11,hv10⟩:=Z6 (hC.getP 0 rfl) i10 hi10
  refine Yv (len:=a0.length) ZDc ag117.size (tr rfl hv10) rfl (ZAx _) (ZBk.2 hi10) (Jh (ZAn (a0.getD i10 Zsn)) (Yj (hC.getP 0 rfl) hv10 i10 hi10) ag117 rfl rfl ?_)
  refine Zk [.agg (ZAa (ZAn (a0.getD i10 Zsn)))] _ Try.func78 rfl rfl rfl (Zob (a0.getD i10 Zsn) h _) (fun ret10 w11 hR10=>?_)
  obtain ⟨r10,rfl,h,hB10⟩:=hR10
  refine⟨_,rfl,?_⟩
  replace hC:=hC.grow hB10
  obtain ⟨⟨h10,h11⟩,h⟩:=h
  obtain ⟨Ad12,c12,hv11⟩:=Zap (hC.getM 0 rfl) (ZDa (Zun _) (show i10 < s10.length by omega))
  refine Zar (i10 * 9) ZAj ag49.size (tr rfl hv11) rfl h10 h11 rfl (Zb0 (v:=.agg (ZAa (ZAn r10))) hC 0 (ZAn r10) (ZAb.encs (s10.set i10 r10)) rfl hv11 ag49.size rfl rfl rfl rfl rfl (by rw [ZDb]; exact Zaa (sz:=9) (show i10 < s10.length by omega)) (Zeu _ _ _ (show i10 < s10.length by omega)) fun w12 hC=>?_)
  replace hC:=Js hC 0 ((s10.set i10 r10).length) (ZAb.encs (s10.set i10 r10)) rfl (by simp) rfl
  refine done (Zt (Zd (Zn (Za (v:=.int .i64 (i10:Int)) rfl (Zp rfl rfl (Zc (v:=.int .i64 (Zu2.wrap ((i10:Int)+1))) rfl (done ?_)))))))
  exact hK10 (s10.set i10 r10) _ _ ⟨v10,(sl ⟨rfl,rfl,(tr rfl (congrArg _ (Yb hi10 hN10))),trivial⟩),hC⟩ h
 ·clear hC h
  rintro s10 e_ w13 K10 ⟨v10,hS_,hC⟩ h
  rw [ue hS_]
  refine ZAc (sr (Za (v:=.int .i64 (a0.length:Int)) rfl (Za (v:=u0_0) rfl ?_)))
  obtain ⟨Ad13,c13,hv13⟩:=Zw (hC.getP 0 rfl)
  refine Zv ZDc (tr rfl hv13) (Zq rfl rfl (dn (Yd rfl (decide_eq_false (by omega)) ?_)))
  refine ZAt (Zl (Zl (Z4 ?_)))
  refine Zd (sr (Za (v:=v10) rfl (Zc (v:=v10) rfl (dn (ZAk ?_)))))
  refine Zg (fn:=Try.f55) rfl ?_ ⟨s10,v10,(ZA7 (Zth v10)),rfl,h,(Jw (hC.getM 0 rfl)),(Zaf hC 0 rfl),hC.below⟩ (.inl rfl)
  exact Zf rfl
 ·skip
  exact⟨v5,(sl ⟨rfl,rfl,rfl,trivial⟩),hC⟩
def Zdy (a0:ZAd) (K:ZAd→Prop):Prop :=
 Zdx a0.terms (fun r10=>K (⟨r10⟩:ZAd))
theorem Zod (a0:ZAd) {u0_0:Value} {fp0:List Nat} {K:ZAd→Prop} (h:Zdy a0 K) (w0:World) (q0:ZAq.rep a0 [u0_0] fp0 w0) :
  Calls ZAf 35 #[.agg #[u0_0]] w0 fun e w'=>∃ (r0:ZAd) (z0_0:Value) (fz0:List Nat),
   e=.returned (.agg #[z0_0])∧K r0∧(Tr.item (Ya 49) r0 [z0_0] fz0).holds w'∧(∀ b,b∈fz0→w0.heap.size≤b)∧Bel w0 w':=by
 unfold Zdy at h
 refine Zz (args:=[.agg #[u0_0]]) Try.func35 rfl 9 Try.ntmps35 (ZAe rfl) ?_
 have hC:=ZAv (X:=Nox) w0 [Zz9 TForm a0 [u0_0] fp0] (by simp only [Zsj,Zur,or_false,forall_eq_or_imp,forall_eq]; exact q0)
 have hp2:=(hC.getP 0 rfl)
 replace hC:=hC.derive 0 rfl (Zz9 ZAb.ty.sl a0.terms [u0_0] fp0) (fun _=>(Yx hp2)) (fun _ hb_=>hb_)
 refine sr (Yg (v:=.agg #[u0_0]) hC [u0_0] rfl rfl fun b4 w6 hB_ hC=>Ye hC [.slice none 0 0] z44 rfl fun b7 w9 hB_ hC=>dn (sr (Ye hC [.slice none 0 0] z44 rfl fun b10 w10 hB_ hC=>dn (sr (Zx 0 Try.underlying66 rfl sc64.size rfl rfl (Z0 hC 2 (u0_0) rfl sc64 rfl rfl ?_))))))
 refine Zk [u0_0] _ Try.func55 rfl rfl rfl (Zoc a0.terms h _ (hC.getP 0 rfl)) (fun ret10 w11 hR10=>?_)
 obtain ⟨r10,u10,f10,rfl,h,hr10,hf10,hB10⟩:=hR10
 refine⟨_,rfl,?_⟩
 replace hC:=hC.push hB10 (Tr.item (Tr.sl 49 ZAb.tr) r10 [u10] f10) hr10 hf10
 obtain ⟨ho10,hf11⟩:=Zb7 (hC.getM 0 rfl).1
 subst hf11
 replace hC:=hC.recast (c:=own 49 9 u10 r10.length (ZAb.encs r10)) (fun _ h_=>h_) (fun _=>ho10)
 refine Zx 0 ZAh rfl sc42.size rfl rfl (Zy (v:=u10) hC 1 [u10] [u10] rfl sc42.size rfl rfl (Zbd (hC.getM 0 rfl)) rfl (Y4 (Xe (hC.getM 0 rfl)) rfl) (ZAe rfl) rfl fun w12 hC=>dn (sr (Yl hC 1 [u10] rfl ag44 rfl rfl rfl (Zy (v:=.agg #[u10]) hC 2 [u10] [u10] rfl ag44.size rfl rfl rfl rfl (Y4 (Xe (hC.getM 0 rfl)) rfl) (ZAe rfl) rfl fun w13 hC=>dn (ZAk ?_)))))
 refine Zg (fn:=Try.f35) rfl ?_ ⟨(⟨r10⟩:ZAd),u10,(ZA7 (Zth u10)),rfl,h,(Zaj (Jw (hC.getM 0 rfl))),(Zaf hC 0 rfl),hC.below⟩ (.inl rfl)
 exact X9 hC 2 rfl ag44 rfl rfl
def Zdz (a0:Term) (a1:Term) (K:Bool→Prop):Prop :=
 Zdv a0.mono a1.mono (fun r10=>(if¬ (r10=true) then K false else(if a0.factor≠a1.factor then K false else K true)))
theorem Zoe (a0:Term) (a1:Term)  {K:Bool→Prop} (h:Zdz a0 a1 K) (w0:World)  :
  Calls ZAf 92 #[.agg (ZAa (ZAn a0)),.agg (ZAa (ZAn a1))] w0 fun e w'=>∃ (r0:Bool),
   e=.returned (.bool r0)∧K r0∧Bel w0 w':=by
 unfold Zdz at h
 refine Zz (args:=[.agg (ZAa (ZAn a0)),.agg (ZAa (ZAn a1))]) Try.func92 rfl 16 Try.ntmps92 (ZAe rfl) ?_
 have hC:=ZAv (X:=Nox) w0 [] (by simp)
 refine sr (Yg (v:=.agg (ZAa (ZAn a0))) hC (ZAn a0) rfl rfl fun b1 w3 hB_ hC=>Yg (v:=.agg (ZAa (ZAn a1))) hC (ZAn a1) rfl rfl fun b4 w6 hB_ hC=>Zc (v:=.bool false) rfl (dn (ZAc (sr (Zx 0 ZAr rfl ag47.size rfl rfl (Yl hC 1 (Zz8 .u8 a0.mono) rfl ag47 rfl rfl rfl (Zx 0 ZAr rfl ag47.size rfl rfl (Yl hC 0 (Zz8 .u8 a1.mono) rfl ag47 rfl rfl rfl ?_))))))))
 refine Zk [.agg (ZAa (Zz8 .u8 a0.mono)),.agg (ZAa (Zz8 .u8 a1.mono))] _ Try.func100 rfl rfl rfl (Zoa a0.mono a1.mono h _) (fun ret7 w9 hR8=>?_)
 obtain ⟨r10,rfl,h,hB10⟩:=hR8
 refine⟨_,rfl,?_⟩
 replace hC:=hC.grow hB10
 refine Xc rfl (dn ?_)
 refine Zr rfl (fun hb10=>?_) (fun hb10=>?_)
 ·replace h:=ift h (Yw (Xg hb10))
  refine sr (Zc (v:=.bool false) rfl (dn ?_))
  refine ZAk (Ze ?_)
  refine Zg (fn:=Try.f92) rfl ?_ ⟨false,rfl,h,hC.below⟩ (.inl rfl)
  exact Zf rfl
 ·replace h:=Zh h (not_not_intro ((Xh hb10)))
  refine ZAg (Zd (ZAc (sr (Zx 8 ZAr rfl sc2.size rfl rfl (Z0 hC 1 (.int .i64 a0.factor) rfl sc2 rfl rfl (Zx 8 ZAr rfl sc2.size rfl rfl (Z0 hC 0 (.int .i64 a1.factor) rfl sc2 rfl rfl (Y0 rfl rfl (dn ?_)))))))))
  refine Zr rfl (fun hb11=>?_) (fun hb11=>?_)
  ·replace h:=ift h (ct hb11)
   refine sr (Zc (v:=.bool false) rfl (dn ?_))
   refine ZAk (Ze ?_)
   refine Zg (fn:=Try.f92) rfl ?_ ⟨false,rfl,h,hC.below⟩ (.inl rfl)
   exact Zf rfl
  ·replace h:=Zh h (cf hb11)
   refine ZAg (Zd (sr (Zc (v:=.bool true) rfl (dn (ZAk ?_)))))
   refine Zg (fn:=Try.f92) rfl ?_ ⟨true,rfl,h,hC.below⟩ (.inl rfl)
   exact Zf rfl
def Zfp (a0:List Term) (a1:List Term) (K:Bool→Prop):Prop :=
 (if(a0.length:Int)≠(a1.length:Int) then K false else Yh (fun i10 (s10:Unit) nx10=>((0≤(i10:Int)∧(i10:Int) < (a1.length:Int))∧Zdz (a0.getD i10 Zsn) (a1.getD i10 Zsn) (fun r10=>(if¬ (r10=true) then K false else nx10 ())))) (fun (s10:Unit)=>K true) a0.length 0 ())
theorem Zof (a0:List Term) (a1:List Term) {u0_0:Value} {u1_0:Value} {fp0:List Nat} {fp1:List Nat} {K:Bool→Prop} (h:Zfp a0 a1 K) (w0:World) (q0:ZAb.ty.sl.rep a0 [u0_0] fp0 w0) (q1:ZAb.ty.sl.rep a1 [u1_0] fp1 w0) :
  Calls ZAf 76 #[u0_0,u1_0] w0 fun e w'=>∃ (r0:Bool),
   e=.returned (.bool r0)∧K r0∧Bel w0 w':=by
 unfold Zfp at h
 refine Zz (args:=[u0_0,u1_0]) Try.func76 rfl 27 Try.ntmps76 (ZAe rfl) ?_
 have hC:=ZAv (X:=Nox) w0 [Zz9 ZAb.ty.sl a0 [u0_0] fp0,Zz9 ZAb.ty.sl a1 [u1_0] fp1] (by simp only [Zsj,Zur,or_false,forall_eq_or_imp,forall_eq]; exact⟨q0,q1⟩)
 refine sr (Zc (v:=.bool false) rfl (dn (ZAc (sr (Za (v:=u0_0) rfl ?_)))))
 obtain ⟨Ad3,c4,hv5⟩:=Zw (hC.getP 0 rfl)
 refine Zv ZAj (tr rfl hv5) (Za (v:=u1_0) rfl ?_)
 obtain ⟨Ad6,c7,hv8⟩:=Zw (hC.getP 1 rfl)
 refine Zv ZAj (tr rfl hv8) (Y0 rfl rfl (dn ?_))
 refine Zr rfl (fun hb9=>?_) (fun hb9=>?_)
 ·replace h:=ift h (ct hb9)
  refine sr (Zc (v:=.bool false) rfl (dn ?_))
  refine ZAk (Ze ?_)
  refine Zg (fn:=Try.f76) rfl ?_ ⟨false,rfl,h,hC.below⟩ (.inl rfl)
  exact Zf rfl
 ·replace h:=Zh h (cf hb9)
  refine ZAg (Zd (ZAc (sr (Zc (v:=.int .i64 0) rfl (dn (ZAl ?_))))))
  have hN10:a0.length≤9223372036854775807:=Y9 (hC.getP 0 rfl)
  refine Yp (S:=Unit) _ _ (fun i10 s10 e_ w_=>Z1 e_ [(0,u0_0),(1,u1_0),(5,.int .i64 (i10:Int))]∧Ctx Nox w0 w_ [] [Zz9 ZAb.ty.sl a0 [u0_0] fp0,Zz9 ZAb.ty.sl a1 [u1_0] fp1]) a0.length ?_ ?_ (s0:=()) ?_ h
  ·clear hC h
   rintro i10 s10 e_ w10 nx10 K10 hi10 ⟨hS_,hC⟩ h hK10
   rw [ue hS_]
   refine ZAc (sr (Za (v:=.int .i64 (i10:Int)) rfl (Za (v:=u0_0) rfl ?_)))
   obtain ⟨Ad12,c10,hv12⟩:=Zw (hC.getP 0 rfl)
   refine Zv ZAj (tr rfl hv12) (Zq rfl rfl (dn (Yf rfl (decide_eq_true (by omega)) (ZAg (Zd (ZAc (ZAl (ZAc ?_))))))))
   refine Yq 8 mixed [0,0,3,7,0,0,48,112,255,511] [2,3,6,7] [0,1,4,5] (by kernel_rfl) (by kernel_rfl) (by kernel_rfl) (fun hM10 hM11 w11 hB_=>?_)
   replace hC:=hC.grow hB_
   refine aF 0 (u0_0) rfl rfl (hM11 0 rfl) (rfl) (fun _=>by exact Zs (v:=u0_0) rfl) (Zb 10 1) (aF 1 (.int .i64 (i10:Int)) rfl rfl (hM11 1 rfl) (rfl) (fun _=>by exact Zs (v:=.int .i64 (i10:Int)) rfl) (Zb 10 3) ?_)
   obtain ⟨Ad10,c11,hv10⟩:=Z6 (hC.getP 0 rfl) i10 hi10
   refine aL 2 (.pointer (some (Ad10.add (i10 * 9)))) rfl rfl (hM10 2 rfl) (rfl) (fun _ hB_=>by exact Y2 (len:=a0.length) ZAj ag49.size (by exact tr rfl hv10) rfl (ZAx _) (ZBk.2 hi10)) (Zb 10 7) (aL 3 (.agg (ZAa (ZAn (a0.getD i10 Zsn)))) rfl rfl (hM10 3 rfl) (rfl) (fun _ hB_=>by exact Xs (ZAn (a0.getD i10 Zsn)) (Yj ((hC.grow hB_).getP 0 rfl) hv10 i10 hi10) ag49 rfl rfl) (Zb 10 15) (aF 4 (u1_0) rfl rfl (hM11 4 rfl) (rfl) (fun _=>by exact Zs (v:=u1_0) rfl) (Zb 10 31) (aF 5 (.int .i64 (i10:Int)) rfl rfl (hM11 5 rfl) (rfl) (fun _=>by exact Zs (v:=.int .i64 (i10:Int)) rfl) (Zb 10 63) ?_)))
   obtain ⟨⟨h10,h11⟩,h⟩:=h
   obtain ⟨Ad11,c12,hv11⟩:=Z6 (hC.getP 1 rfl) i10 (show i10 < a1.length by omega)
   refine aL 6 (.pointer (some (Ad11.add (i10 * 9)))) rfl rfl (hM10 6 rfl) (rfl) (fun _ hB_=>by exact Y2 (len:=a1.length) ZAj ag49.size (by exact tr rfl hv11) rfl h10 h11) (Zb 10 127) (aL 7 (.agg (ZAa (ZAn (a1.getD i10 Zsn)))) rfl rfl (hM10 7 rfl) (rfl) (fun _ hB_=>by exact Xs (ZAn (a1.getD i10 Zsn)) (Yj ((hC.grow hB_).getP 1 rfl) hv11 i10 (show i10 < a1.length by omega)) ag49 rfl rfl) (Zb 10 255) (Z7 8 (by decide) (by decide) (by kernel_rfl) (by kernel_rfl) rfl ?_))
   refine Zk [.agg (ZAa (ZAn (a0.getD i10 Zsn))),.agg (ZAa (ZAn (a1.getD i10 Zsn)))] _ Try.func92 rfl rfl rfl (Zoe (a0.getD i10 Zsn) (a1.getD i10 Zsn) h _) (fun ret10 w12 hR10=>?_)
   obtain ⟨r10,rfl,h,hB10⟩:=hR10
   refine⟨_,rfl,?_⟩
   replace hC:=hC.grow hB10
   refine Xc rfl (done (Z8 (Zd ?_)))
   refine Zr rfl (fun hb10=>?_) (fun hb10=>?_)
   ·replace h:=ift h (Yw (Xg hb10))
    refine sr (Zc (v:=.bool false) rfl (dn ?_))
    refine ZAk (Z2 (Ze (Ze (Z2 (Ze ?_)))))
    refine Zg (fn:=Try.f76) rfl ?_ ⟨false,rfl,h,hC.below⟩ (.inl rfl)
    exact Zf rfl
   ·replace h:=Zh h (not_not_intro ((Xh hb10)))
    refine ZAg (Zt (Zd (Zn (Za (v:=.int .i64 (i10:Int)) rfl (Zp rfl rfl (Zc (v:=.int .i64 (Zu2.wrap ((i10:Int)+1))) rfl (done ?_)))))))
    exact hK10 () _ _ ⟨(sl ⟨rfl,rfl,(tr rfl (congrArg _ (Yb hi10 hN10))),trivial⟩),hC⟩ h
  ·clear hC h
   rintro s10 e_ w13 K10 ⟨hS_,hC⟩ h
   rw [ue hS_]
   refine ZAc (sr (Za (v:=.int .i64 (a0.length:Int)) rfl (Za (v:=u0_0) rfl ?_)))
   obtain ⟨Ad13,c13,hv13⟩:=Zw (hC.getP 0 rfl)
   refine Zv ZAj (tr rfl hv13) (Zq rfl rfl (dn (Yd rfl (decide_eq_false (by omega)) ?_)))
   refine ZAt (Zl (Zl (Z4 ?_)))
   refine Zd (sr (Zc (v:=.bool true) rfl (dn (ZAk ?_))))
   refine Zg (fn:=Try.f76) rfl ?_ ⟨true,rfl,h,hC.below⟩ (.inl rfl)
   exact Zf rfl
  ·skip
   exact⟨(sl ⟨rfl,rfl,rfl,trivial⟩),hC⟩
def Zd0 (a0:ZAd) (a1:ZAd) (K:Bool→Prop):Prop :=
 Zfp a0.terms a1.terms (fun r10=>(if¬ (r10=true) then K false else K true))
theorem Zog (a0:ZAd) (a1:ZAd) {u0_0:Value} {u1_0:Value} {fp0:List Nat} {fp1:List Nat} {K:Bool→Prop} (h:Zd0 a0 a1 K) (w0:World) (q0:ZAq.rep a0 [u0_0] fp0 w0) (q1:ZAq.rep a1 [u1_0] fp1 w0) :
  Calls ZAf 44 #[.agg #[u0_0],.agg #[u1_0]] w0 fun e w'=>∃ (r0:Bool),
   e=.returned (.bool r0)∧K r0∧Bel w0 w':=by
 unfold Zd0 at h
 refine Zz (args:=[.agg #[u0_0],.agg #[u1_0]]) Try.func44 rfl 11 Try.ntmps44 (ZAe rfl) ?_
 have hC:=ZAv (X:=Nox) w0 [Zz9 TForm a0 [u0_0] fp0,Zz9 TForm a1 [u1_0] fp1] (by simp only [Zsj,Zur,or_false,forall_eq_or_imp,forall_eq]; exact⟨q0,q1⟩)
 have hp3:=(hC.getP 0 rfl)
 replace hC:=hC.derive 0 rfl (Zz9 ZAb.ty.sl a0.terms [u0_0] fp0) (fun _=>(Yx hp3)) (fun _ hb_=>hb_)
 have hp5:=(hC.getP 2 rfl)
 replace hC:=hC.derive 2 rfl (Zz9 ZAb.ty.sl a1.terms [u1_0] fp1) (fun _=>(Yx hp5)) (fun _ hb_=>hb_)
 refine sr (Yg (v:=.agg #[u0_0]) hC [u0_0] rfl rfl fun b7 w9 hB_ hC=>Yg (v:=.agg #[u1_0]) hC [u1_0] rfl rfl fun b10 w10 hB_ hC=>Zc (v:=.bool false) rfl (dn (ZAc (sr (Zx 0 ZAh rfl sc42.size rfl rfl (Z0 hC 1 (u0_0) rfl sc42 rfl rfl (Zx 0 ZAh rfl sc42.size rfl rfl (Z0 hC 0 (u1_0) rfl sc42 rfl rfl ?_))))))))
 refine Zk [u0_0,u1_0] _ Try.func76 rfl rfl rfl (Zof a0.terms a1.terms h _ (hC.getP 1 rfl) (hC.getP 0 rfl)) (fun ret10 w11 hR10=>?_)
 obtain ⟨r10,rfl,h,hB10⟩:=hR10
 refine⟨_,rfl,?_⟩
 replace hC:=hC.grow hB10
 refine Xc rfl (dn ?_)
 refine Zr rfl (fun hb10=>?_) (fun hb10=>?_)
 ·replace h:=ift h (Yw (Xg hb10))
  refine sr (Zc (v:=.bool false) rfl (dn ?_))
  refine ZAk (Ze ?_)
  refine Zg (fn:=Try.f44) rfl ?_ ⟨false,rfl,h,hC.below⟩ (.inl rfl)
  exact Zf rfl
 ·replace h:=Zh h (not_not_intro ((Xh hb10)))
  refine ZAg (Zd (sr (Zc (v:=.bool true) rfl (dn (ZAk ?_)))))
  refine Zg (fn:=Try.f44) rfl ?_ ⟨true,rfl,h,hC.below⟩ (.inl rfl)
  exact Zf rfl
def Zfq (a0:List ZAd) (a1:List ZAd) (K:Bool→Prop):Prop :=
 (if(a0.length:Int)≠(a1.length:Int) then K false else Yh (fun i10 (s10:Unit) nx10=>((0≤(i10:Int)∧(i10:Int) < (a1.length:Int))∧Zd0 (a0.getD i10 Zsn) (a1.getD i10 Zsn) (fun r10=>(if¬ (r10=true) then K false else nx10 ())))) (fun (s10:Unit)=>K true) a0.length 0 ())
theorem Zoh (a0:List ZAd) (a1:List ZAd) {u0_0:Value} {u1_0:Value} {fp0:List Nat} {fp1:List Nat} {K:Bool→Prop} (h:Zfq a0 a1 K) (w0:World) (q0:ZAq.sl.rep a0 [u0_0] fp0 w0) (q1:ZAq.sl.rep a1 [u1_0] fp1 w0) :
  Calls ZAf 25 #[u0_0,u1_0] w0 fun e w'=>∃ (r0:Bool),
   e=.returned (.bool r0)∧K r0∧Bel w0 w':=by
 unfold Zfq at h
 refine Zz (args:=[u0_0,u1_0]) Try.func25 rfl 27 Try.ntmps25 (ZAe rfl) ?_
 have hC:=ZAv (X:=Nox) w0 [Zz9 ZAq.sl a0 [u0_0] fp0,Zz9 ZAq.sl a1 [u1_0] fp1] (by simp only [Zsj,Zur,or_false,forall_eq_or_imp,forall_eq]; exact⟨q0,q1⟩)
 refine sr (Zc (v:=.bool false) rfl (dn (ZAc (sr (Za (v:=u0_0) rfl ?_)))))
 obtain ⟨Ad3,c4,hv5⟩:=Zw (hC.getP 0 rfl)
 refine Zv ZAy (tr rfl hv5) (Za (v:=u1_0) rfl ?_)
 obtain ⟨Ad6,c7,hv8⟩:=Zw (hC.getP 1 rfl)
 refine Zv ZAy (tr rfl hv8) (Y0 rfl rfl (dn ?_))
 refine Zr rfl (fun hb9=>?_) (fun hb9=>?_)
 ·replace h:=ift h (ct hb9)
  refine sr (Zc (v:=.bool false) rfl (dn ?_))
  refine ZAk (Ze ?_)
  refine Zg (fn:=Try.f25) rfl ?_ ⟨false,rfl,h,hC.below⟩ (.inl rfl)
  exact Zf rfl
 ·replace h:=Zh h (cf hb9)
  refine ZAg (Zd (ZAc (sr (Zc (v:=.int .i64 0) rfl (dn (ZAl ?_))))))
  have hN10:a0.length≤9223372036854775807:=Y9 (hC.getP 0 rfl)
  refine Yp (S:=Unit) _ _ (fun i10 s10 e_ w_=>Z1 e_ [(0,u0_0),(1,u1_0),(5,.int .i64 (i10:Int))]∧Ctx Nox w0 w_ [] [Zz9 ZAq.sl a0 [u0_0] fp0,Zz9 ZAq.sl a1 [u1_0] fp1]) a0.length ?_ ?_ (s0:=()) ?_ h
  ·clear hC h
   rintro i10 s10 e_ w10 nx10 K10 hi10 ⟨hS_,hC⟩ h hK10
   rw [ue hS_]
   refine ZAc (sr (Za (v:=.int .i64 (i10:Int)) rfl (Za (v:=u0_0) rfl ?_)))
   obtain ⟨Ad12,c10,hv12⟩:=Zw (hC.getP 0 rfl)
   refine Zv ZAy (tr rfl hv12) (Zq rfl rfl (dn (Yf rfl (decide_eq_true (by omega)) (ZAg (Zd (ZAc (ZAl (ZAc ?_))))))))
   refine Yq 8 mixed [0,0,3,7,0,0,48,112,255,511] [2,3,6,7] [0,1,4,5] (by kernel_rfl) (by kernel_rfl) (by kernel_rfl) (fun hM10 hM11 w11 hB_=>?_)
   replace hC:=hC.grow hB_
   refine aF 0 (u0_0) rfl rfl (hM11 0 rfl) (rfl) (fun _=>by exact Zs (v:=u0_0) rfl) (Zb 10 1) (aF 1 (.int .i64 (i10:Int)) rfl rfl (hM11 1 rfl) (rfl) (fun _=>by exact Zs (v:=.int .i64 (i10:Int)) rfl) (Zb 10 3) ?_)
   obtain ⟨Ad10,c11,hv10⟩:=Z6 (hC.getP 0 rfl) i10 hi10
   refine aL 2 (.pointer (some (Ad10.add (i10 * 1)))) rfl rfl (hM10 2 rfl) (rfl) (fun _ hB_=>by exact Y2 (len:=a0.length) ZAy ag44.size (by exact tr rfl hv10) rfl (ZAx _) (ZBk.2 hi10)) (Zb 10 7) ?_
   obtain ⟨cs_,hl10,hc10,hr10⟩:=Ja (hC.getP 0 rfl) hv10 i10 hi10
   obtain ⟨u10,rfl⟩:=ZA6.1 hl10
   clear hl10
   rw [X3 _ _ hi10] at hr10
   have hp10:=hr10
   replace hC:=hC.derive 0 rfl (Zz9 ZAb.ty.sl ((a0.getD i10 Zsn).terms) [u10] fp0) (fun _=>(Yx hp10)) (fun _ hb_=>hb_)
   refine aL 3 (.agg #[u10]) rfl rfl (hM10 3 rfl) (rfl) (fun _ hB_=>by exact Xs [u10] (Zas hB_ hc10) ag44 rfl rfl) (Zb 10 15) (aF 4 (u1_0) rfl rfl (hM11 4 rfl) (rfl) (fun _=>by exact Zs (v:=u1_0) rfl) (Zb 10 31) (aF 5 (.int .i64 (i10:Int)) rfl rfl (hM11 5 rfl) (rfl) (fun _=>by exact Zs (v:=.int .i64 (i10:Int)) rfl) (Zb 10 63) ?_))
   obtain ⟨⟨h10,h11⟩,h⟩:=h
   obtain ⟨Ad11,c12,hv11⟩:=Z6 (hC.getP 2 rfl) i10 (show i10 < a1.length by omega)
   refine aL 6 (.pointer (some (Ad11.add (i10 * 1)))) rfl rfl (hM10 6 rfl) (rfl) (fun _ hB_=>by exact Y2 (len:=a1.length) ZAy ag44.size (by exact tr rfl hv11) rfl h10 h11) (Zb 10 127) ?_
   obtain ⟨cs_,hl11,hc11,hr11⟩:=Ja (hC.getP 2 rfl) hv11 i10 (show i10 < a1.length by omega)
   obtain ⟨u11,rfl⟩:=ZA6.1 hl11
   clear hl11
   rw [X3 _ _ (show i10 < a1.length by omega)] at hr11
   have hp11:=hr11
   replace hC:=hC.derive 2 rfl (Zz9 ZAb.ty.sl ((a1.getD i10 Zsn).terms) [u11] fp1) (fun _=>(Yx hp11)) (fun _ hb_=>hb_)
   refine aL 7 (.agg #[u11]) rfl rfl (hM10 7 rfl) (rfl) (fun _ hB_=>by exact Xs [u11] (Zas hB_ hc11) ag44 rfl rfl) (Zb 10 255) (Z7 8 (by decide) (by decide) (by kernel_rfl) (by kernel_rfl) rfl ?_)
   refine Zk [.agg #[u10],.agg #[u11]] _ Try.func44 rfl rfl rfl (Zog (a0.getD i10 Zsn) (a1.getD i10 Zsn) h _ (Ys (hC.getP 1 rfl)) (Ys (hC.getP 0 rfl))) (fun ret10 w12 hR10=>?_)
   obtain ⟨r10,rfl,h,hB10⟩:=hR10
   refine⟨_,rfl,?_⟩
   replace hC:=hC.grow hB10
   refine Xc rfl (done (Z8 (Zd ?_)))
   refine Zr rfl (fun hb10=>?_) (fun hb10=>?_)
   ·replace h:=ift h (Yw (Xg hb10))
    refine sr (Zc (v:=.bool false) rfl (dn ?_))
    refine ZAk (Z2 (Ze (Ze (Z2 (Ze ?_)))))
    refine Zg (fn:=Try.f25) rfl ?_ ⟨false,rfl,h,hC.below⟩ (.inl rfl)
    exact Zf rfl
   ·replace h:=Zh h (not_not_intro ((Xh hb10)))
    refine ZAg (Zt (Zd (Zn (Za (v:=.int .i64 (i10:Int)) rfl (Zp rfl rfl (Zc (v:=.int .i64 (Zu2.wrap ((i10:Int)+1))) rfl (done ?_)))))))
    replace hC:=hC.sP [2,3] (Ps':=[Zz9 ZAq.sl a0 [u0_0] fp0,Zz9 ZAq.sl a1 [u1_0] fp1]) rfl
    exact hK10 () _ _ ⟨(sl ⟨rfl,rfl,(tr rfl (congrArg _ (Yb hi10 hN10))),trivial⟩),hC⟩ h
  ·clear hC h
   rintro s10 e_ w13 K10 ⟨hS_,hC⟩ h
   rw [ue hS_]
   refine ZAc (sr (Za (v:=.int .i64 (a0.length:Int)) rfl (Za (v:=u0_0) rfl ?_)))
   obtain ⟨Ad13,c13,hv13⟩:=Zw (hC.getP 0 rfl)
   refine Zv ZAy (tr rfl hv13) (Zq rfl rfl (dn (Yd rfl (decide_eq_false (by omega)) ?_)))
   refine ZAt (Zl (Zl (Z4 ?_)))
   refine Zd (sr (Zc (v:=.bool true) rfl (dn (ZAk ?_))))
   refine Zg (fn:=Try.f25) rfl ?_ ⟨true,rfl,h,hC.below⟩ (.inl rfl)
   exact Zf rfl
  ·skip
   exact⟨(sl ⟨rfl,rfl,rfl,trivial⟩),hC⟩
def Zd1 (a0:List Term) (a1:Int) (K:Int→List Term→Prop):Prop :=
 Xa (fun (s10:(List Term)×Int×Int) nx10=>(if s10.2.2 < (s10.1.length:Int) then Yh (fun i10 (s11:(List Term)×Int) nx11=>((0≤s10.2.2∧s10.2.2 < (s11.1.length:Int))∧nx11 (s11.1.set s10.2.2.toNat (⟨((s11.1.getD s10.2.2.toNat Zsn).mono).set i10 (ZAm.wrap s11.2),(s11.1.getD s10.2.2.toNat Zsn).factor⟩:Term),Zu2.wrap (s11.2+1)))) (fun (s11:(List Term)×Int)=>((0≤s10.2.2∧s10.2.2 < (s11.1.length:Int))∧nx10 (s11.1.set s10.2.2.toNat (⟨(s11.1.getD s10.2.2.toNat Zsn).mono,s11.2⟩:Term),Zu2.wrap (s11.2+1),Zu2.wrap (s10.2.2+1)))) 8 0 (s10.1,s10.2.1) else K s10.2.1 s10.1)) (a0,a1,0)
theorem Zoi (a0:List Term) (a1:Int) {u0_0:Value} {K:Int→List Term→Prop} (h:Zd1 a0 a1 K) (w0:World) (qw0:(own 49 9 u0_0 a0.length (ZAb.encs a0)).holds w0) :
  Calls ZAf 45 #[u0_0,.int .i64 a1] w0 fun e w'=>∃ (r0:Int) (mw:List Term),
   e=.returned (.int .i64 r0)∧K r0 mw∧(own 49 9 u0_0 mw.length (ZAb.encs mw)).holds w'∧BelO ((ZA7 (Zth u0_0))) w0 w':=by
 unfold Zd1 at h
 refine Zz (args:=[u0_0,.int .i64 a1]) Try.func45 rfl 35 Try.ntmps45 (ZAe rfl) ?_
 have hC:=Ctx.startL w0 ((ZA7 (Zth u0_0))) [own 49 9 u0_0 a0.length (ZAb.encs a0)] [] (by simp only [Zsj,Zur,or_false,forall_eq_or_imp,forall_eq]; exact qw0) (by simp) (by simp only [Zsj,Zur,or_false,forall_eq_or_imp,forall_eq]; exact fun b hb=>hb) (List.pairwise_singleton _ _) (by simp)
 refine sr (Zc (v:=.int .i64 0) rfl (dn (ZAc (sr (Zc (v:=.int .i64 0) rfl (dn (ZAl ?_)))))))
 refine Xq (S:=(List Term)×Int×Int) _ (fun s10 e_ w_=>Z1 e_ [(0,u0_0),(1,.int .i64 s10.2.1),(5,.int .i64 s10.2.2)]∧Ctx (fun c_=>c_∈(ZA7 (Zth u0_0))) w0 w_ [own 49 9 u0_0 s10.1.length (ZAb.encs s10.1)] []) ?_ (s0:=(a0,a1,0)) ?_ h
 ·clear hC h
  rintro s10 e_ w10 nx10 K11 ⟨hS_,hC⟩ h hK10
  rw [ue hS_]
  refine ZAc (sr (Za (v:=.int .i64 s10.2.2) rfl (Za (v:=u0_0) rfl ?_)))
  obtain ⟨Ad10,c10,hv12⟩:=Zax (hC.getM 0 rfl)
  refine Zv ZAj (tr rfl hv12) (Zq rfl rfl (dn ?_))
  refine Zr rfl (fun hb10=>?_) (fun hb10=>?_)
  ·replace h:=ift h (ct hb10)
   refine ZAg (Zd (ZAc (ZAl (ZAc (sr (Zc (v:=.int .i64 0) rfl (dn (ZAl ?_))))))))
   refine Yp (S:=(List Term)×Int) _ _ (fun i10 s11 e_ w_=>Z1 e_ [(0,u0_0),(1,.int .i64 s11.2),(5,.int .i64 s10.2.2),(6,.int .i64 (i10:Int))]∧Ctx (fun c_=>c_∈(ZA7 (Zth u0_0))) w0 w_ [own 49 9 u0_0 s11.1.length (ZAb.encs s11.1)] []) 8 ?_ ?_ (s0:=(s10.1,s10.2.1)) ?_ h
   ·clear hC h
    rintro i10 s11 e_ w11 nx11 K10 hi10 ⟨hS_,hC⟩ h hK11
    rw [ue hS_]
    refine ZAc (sr (Za (v:=.int .i64 (i10:Int)) rfl (Zq rfl rfl (dn (Yf rfl (decide_eq_true (by omega)) (ZAg (Zd (ZAc (ZAl (sr (Za (v:=u0_0) rfl ?_)))))))))))
    refine Za (v:=.int .i64 s10.2.2) rfl (Za (v:=.int .i64 (i10:Int)) rfl (Za (v:=.int .i64 s11.2) rfl (Zgh Try.underlying3 Try.underlying5 rfl ?_)))
    obtain ⟨⟨h10,h11⟩,h⟩:=h
    obtain ⟨Ad11,c11,hv10⟩:=Zap (hC.getM 0 rfl) (ZDa (Zun _) (show s10.2.2.toNat < s11.1.length by omega))
    refine Zar (s10.2.2.toNat * 9) ZAj ag49.size (tr rfl hv10) rfl h10 h11 rfl (Zx (s10.2.2.toNat * 9+0) ZAr rfl ag47.size rfl rfl (Y1 (s10.2.2.toNat * 9+0+i10) ZAp sc5.size rfl rfl (ZAx _) (by omega) (by omega) (Zb0 (v:=.int .u8 (ZAm.wrap s11.2)) hC 0 [.int .u8 (ZAm.wrap s11.2)] (ZAb.encs (s11.1.set s10.2.2.toNat (⟨((s11.1.getD s10.2.2.toNat Zsn).mono).set i10 (ZAm.wrap s11.2),(s11.1.getD s10.2.2.toNat Zsn).factor⟩:Term))) rfl hv10 sc5.size rfl rfl rfl rfl rfl (by rw [ZDb]; have:=Zaa (sz:=9) (show s10.2.2.toNat < s11.1.length by omega); have h9:i10+1≤9:=(show i10+1≤9 by omega); have e9:ZAb.sz=9:=rfl; rw [e9]; omega) (Zi9 (E:=ETerm) (o:=i10) (show s10.2.2.toNat < s11.1.length by omega) (show i10+1≤9 by omega) (Zmz hi10)) fun w12 hC=>?_)))
    replace hC:=Js hC 0 ((s11.1.set s10.2.2.toNat (⟨((s11.1.getD s10.2.2.toNat Zsn).mono).set i10 (ZAm.wrap s11.2),(s11.1.getD s10.2.2.toNat Zsn).factor⟩:Term)).length) (ZAb.encs (s11.1.set s10.2.2.toNat (⟨((s11.1.getD s10.2.2.toNat Zsn).mono).set i10 (ZAm.wrap s11.2),(s11.1.getD s10.2.2.toNat Zsn).factor⟩:Term))) rfl (by simp) rfl
    refine dn (Zn (Za (v:=.int .i64 s11.2) rfl (Zp rfl rfl (Zc (v:=.int .i64 (Zu2.wrap (s11.2+1))) rfl (done (Zt (Zd (Zn (Za (v:=.int .i64 (i10:Int)) rfl (Zp rfl rfl (Zc (v:=.int .i64 (Zu2.wrap ((i10:Int)+1))) rfl ?_)))))))))))
    refine done ?_
    exact hK11 (s11.1.set s10.2.2.toNat (⟨((s11.1.getD s10.2.2.toNat Zsn).mono).set i10 (ZAm.wrap s11.2),(s11.1.getD s10.2.2.toNat Zsn).factor⟩:Term),Zu2.wrap (s11.2+1)) _ _ ⟨(sl ⟨rfl,rfl,rfl,(tr rfl (congrArg _ (Yb hi10 (by decide)))),trivial⟩),hC⟩ h
   ·clear hC h
    rintro s11 e_ w13 K10 ⟨hS_,hC⟩ h
    rw [ue hS_]
    refine ZAc (sr (Za (v:=.int .i64 8) rfl (Zq rfl rfl (dn (Yd rfl (decide_eq_false (by omega)) ?_)))))
    refine ZAt (Zl (Zl (Z4 ?_)))
    refine Zd (sr (Za (v:=u0_0) rfl (Za (v:=.int .i64 s10.2.2) rfl (Za (v:=.int .i64 s11.2) rfl ?_))))
    obtain ⟨⟨h12,h13⟩,h⟩:=h
    obtain ⟨Ad12,c12,hv11⟩:=Zap (hC.getM 0 rfl) (ZDa (Zun _) (show s10.2.2.toNat < s11.1.length by omega))
    refine Zar (s10.2.2.toNat * 9) ZAj ag49.size (tr rfl hv11) rfl h12 h13 rfl (Zx (s10.2.2.toNat * 9+8) ZAr rfl sc2.size rfl rfl (Zb0 (v:=.int .i64 s11.2) hC 0 [.int .i64 s11.2] (ZAb.encs (s11.1.set s10.2.2.toNat (⟨(s11.1.getD s10.2.2.toNat Zsn).mono,s11.2⟩:Term))) rfl hv11 sc2.size rfl rfl rfl rfl rfl (by rw [ZDb]; have:=Zaa (sz:=9) (show s10.2.2.toNat < s11.1.length by omega); have h9:8+1≤9:=(ZAe rfl); have e9:ZAb.sz=9:=rfl; rw [e9]; omega) (Zi9 (E:=ETerm) (o:=8) (show s10.2.2.toNat < s11.1.length by omega) (ZAe rfl) rfl) fun w14 hC=>?_))
    replace hC:=Js hC 0 ((s11.1.set s10.2.2.toNat (⟨(s11.1.getD s10.2.2.toNat Zsn).mono,s11.2⟩:Term)).length) (ZAb.encs (s11.1.set s10.2.2.toNat (⟨(s11.1.getD s10.2.2.toNat Zsn).mono,s11.2⟩:Term))) rfl (by simp) rfl
    refine dn (Zn (Za (v:=.int .i64 s11.2) rfl (Zp rfl rfl (Zc (v:=.int .i64 (Zu2.wrap (s11.2+1))) rfl (done (Zt (Zd (Zn (Za (v:=.int .i64 s10.2.2) rfl (Zp rfl rfl (Zc (v:=.int .i64 (Zu2.wrap (s10.2.2+1))) rfl ?_)))))))))))
    refine done ?_
    exact hK10 (s11.1.set s10.2.2.toNat (⟨(s11.1.getD s10.2.2.toNat Zsn).mono,s11.2⟩:Term),Zu2.wrap (s11.2+1),Zu2.wrap (s10.2.2+1)) _ _ ⟨(sl ⟨rfl,rfl,rfl,trivial⟩),hC⟩ h
   ·skip
    exact⟨(sl ⟨rfl,rfl,rfl,rfl,trivial⟩),hC⟩
  ·replace h:=Zh h (cf hb10)
   refine ZAt (Zl (Zl (Z4 ?_)))
   refine Zd (sr (Za (v:=.int .i64 s10.2.1) rfl (Zc (v:=.int .i64 s10.2.1) rfl (dn (ZAk ?_)))))
   refine Zg (fn:=Try.f45) rfl ?_ ⟨s10.2.1,s10.1,rfl,h,(hC.getM 0 rfl),hC.belO⟩ (.inl rfl)
   exact Zf rfl
 ·skip
  exact⟨(sl ⟨rfl,rfl,rfl,trivial⟩),hC⟩
def Zci (a0:Bool) (a1:Int) (K:Int→Prop):Prop :=
 (if a0=true then K a1 else K 0)
theorem Zjl (a0:Bool) (a1:Int)  {K:Int→Prop} (h:Zci a0 a1 K) (w0:World)  :
  Calls ZAf 40 #[.bool a0,.int .i64 a1] w0 fun e w'=>∃ (r0:Int),
   e=.returned (.int .i64 r0)∧K r0∧Bel w0 w':=by
 unfold Zci at h
 refine Zz (args:=[.bool a0,.int .i64 a1]) Try.func40 rfl 7 Try.ntmps40 (ZAe rfl) ?_
 have hC:=ZAv (X:=Nox) w0 [] (by simp)
 refine sr (Zc (v:=.int .i64 0) rfl (dn (ZAc (sr (Za (v:=.bool a0) rfl (dn ?_))))))
 refine Zr rfl (fun hb1=>?_) (fun hb1=>?_)
 ·replace h:=ift h (hb1)
  refine sr (Za (v:=.int .i64 a1) rfl (Zc (v:=.int .i64 a1) rfl (dn ?_)))
  refine ZAk (Ze ?_)
  refine Zg (fn:=Try.f40) rfl ?_ ⟨a1,rfl,h,hC.below⟩ (.inl rfl)
  exact Zf rfl
 ·replace h:=Zh h (Yw hb1)
  refine ZAg (Zd (sr (Zc (v:=.int .i64 0) rfl (dn (ZAk ?_)))))
  refine Zg (fn:=Try.f40) rfl ?_ ⟨0,rfl,h,hC.below⟩ (.inl rfl)
  exact Zf rfl
def Zd2 (a0:Int) (K:Bool→Prop):Prop :=
 K (decide (a0≠a0))
theorem Zjm (a0:Int)  {K:Bool→Prop} (h:Zd2 a0 K) (w0:World)  :
  Calls ZAf 75 #[.int .i64 a0] w0 fun e w'=>∃ (r0:Bool),
   e=.returned (.bool r0)∧K r0∧Bel w0 w':=by
 unfold Zd2 at h
 refine Zz (args:=[.int .i64 a0]) Try.func75 rfl 6 Try.ntmps75 (ZAe rfl) ?_
 have hC:=ZAv (X:=Nox) w0 [] (by simp)
 refine sr (Zc (v:=.bool false) rfl (dn (sr (Za (v:=.int .i64 a0) rfl (Za (v:=.int .i64 a0) rfl (Y0 rfl rfl (Zc (v:=.bool (decide (a0≠a0))) rfl (dn (ZAk ?_)))))))))
 refine Zg (fn:=Try.f75) rfl ?_ ⟨decide (a0≠a0),rfl,h,hC.below⟩ (.inl rfl)
 exact Zf rfl
def Zd3 (a0:Int) (a1:Int) (K:Int→Prop):Prop :=
 Zd2 a0 (fun r4=>Zd2 a1 (fun r9=>(if r4=true then(if r9=true then K 0 else K (-1)) else(if r9=true then K 1 else(if a0 < a1 then K (-1) else(if a0 > a1 then K 1 else K 0))))))
theorem Zoj (a0:Int) (a1:Int)  {K:Int→Prop} (h:Zd3 a0 a1 K) (w0:World)  :
  Calls ZAf 43 #[.int .i64 a0,.int .i64 a1] w0 fun e w'=>∃ (r0:Int),
   e=.returned (.int .i64 r0)∧K r0∧Bel w0 w':=by
 unfold Zd3 at h
 refine Zz (args:=[.int .i64 a0,.int .i64 a1]) Try.func43 rfl 20 Try.ntmps43 (ZAe rfl) ?_
 have hC:=ZAv (X:=Nox) w0 [] (by simp)
 refine sr (Zc (v:=.int .i64 0) rfl (dn (sr (Za (v:=.int .i64 a0) rfl ?_))))
 refine Zk [.int .i64 a0] _ Try.func75 rfl rfl rfl (Zjm a0 h _) (fun Zg w3 hR2=>?_)
 obtain ⟨r4,rfl,h,hB5⟩:=hR2
 refine⟨_,rfl,?_⟩
 replace hC:=hC.grow hB5
 refine Zc (v:=.bool r4) rfl (dn (sr (Za (v:=.int .i64 a1) rfl ?_)))
 refine Zk [.int .i64 a1] _ Try.func75 rfl rfl rfl (Zjm a1 h _) (fun ret6 w8 hR7=>?_)
 obtain ⟨r9,rfl,h,hB10⟩:=hR7
 refine⟨_,rfl,?_⟩
 replace hC:=hC.grow hB10
 refine Zc (v:=.bool r9) rfl (dn (ZAc (sr (Za (v:=.bool r4) rfl (dn ?_)))))
 refine Zr rfl (fun hb10=>?_) (fun hb10=>?_)
 ·replace h:=ift h (hb10)
  refine ZAc (sr (Za (v:=.bool r9) rfl (dn ?_)))
  refine Zr rfl (fun hb11=>?_) (fun hb11=>?_)
  ·replace h:=ift h (hb11)
   refine sr (Zc (v:=.int .i64 0) rfl (dn ?_))
   refine ZAk (Ze (Ze ?_))
   refine Zg (fn:=ZC2) rfl ?_ ⟨0,rfl,h,hC.below⟩ (.inl rfl)
   exact Zf rfl
  ·replace h:=Zh h (Yw hb11)
   refine ZAg (Zd (sr (Zc (v:=.int .i64 (-1)) rfl (dn ?_))))
   refine ZAk (Ze ?_)
   refine Zg (fn:=ZC2) rfl ?_ ⟨(-1),rfl,h,hC.below⟩ (.inl rfl)
   exact Zf rfl
 ·replace h:=Zh h (Yw hb10)
  refine ZAg (Zd (ZAc (sr (Za (v:=.bool r9) rfl (dn ?_)))))
  refine Zr rfl (fun hb12=>?_) (fun hb12=>?_)
  ·replace h:=ift h (hb12)
   refine sr (Zc (v:=.int .i64 1) rfl (dn ?_))
   refine ZAk (Ze ?_)
   refine Zg (fn:=ZC2) rfl ?_ ⟨1,rfl,h,hC.below⟩ (.inl rfl)
   exact Zf rfl
  ·replace h:=Zh h (Yw hb12)
   refine ZAg (Zd (ZAc (sr (Za (v:=.int .i64 a0) rfl (Za (v:=.int .i64 a1) rfl (Zq rfl rfl (dn ?_)))))))
   refine Zr rfl (fun hb13=>?_) (fun hb13=>?_)
   ·replace h:=ift h (ct hb13)
    refine sr (Zc (v:=.int .i64 (-1)) rfl (dn ?_))
    refine ZAk (Ze ?_)
    refine Zg (fn:=ZC2) rfl ?_ ⟨(-1),rfl,h,hC.below⟩ (.inl rfl)
    exact Zf rfl
   ·replace h:=Zh h (cf hb13)
    refine ZAg (Zd (ZAc (sr (Za (v:=.int .i64 a0) rfl (Za (v:=.int .i64 a1) rfl (Jg rfl rfl (dn ?_)))))))
    refine Zr rfl (fun hb14=>?_) (fun hb14=>?_)
    ·replace h:=ift h (ct hb14)
     refine sr (Zc (v:=.int .i64 1) rfl (dn ?_))
     refine ZAk (Ze ?_)
     refine Zg (fn:=ZC2) rfl ?_ ⟨1,rfl,h,hC.below⟩ (.inl rfl)
     exact Zf rfl
    ·replace h:=Zh h (cf hb14)
     refine ZAg (Zd (sr (Zc (v:=.int .i64 0) rfl (dn (ZAk ?_)))))
     refine Zg (fn:=ZC2) rfl ?_ ⟨0,rfl,h,hC.below⟩ (.inl rfl)
     exact Zf rfl
def Zfr (a0:List Int) (a1:List Int) (K:Int→Prop):Prop :=
 Yh (fun i10 (s10:Unit) nx10=>(if(i10:Int)≥(a1.length:Int) then K 1 else((0≤(i10:Int)∧(i10:Int) < (a1.length:Int))∧Zd3 (a0.getD i10 Zsn) (a1.getD i10 Zsn) (fun r10=>(if r10≠0 then K r10 else nx10 ()))))) (fun (s10:Unit)=>(if(a0.length:Int) < (a1.length:Int) then K (-1) else K 0)) a0.length 0 ()
theorem Zok (a0:List Int) (a1:List Int) {u0_0:Value} {u1_0:Value} {fp0:List Nat} {fp1:List Nat} {K:Int→Prop} (h:Zfr a0 a1 K) (w0:World) (q0:((EI .i64).ty.sl).rep a0 [u0_0] fp0 w0) (q1:((EI .i64).ty.sl).rep a1 [u1_0] fp1 w0) :
  Calls ZAf 23 #[u0_0,u1_0] w0 fun e w'=>∃ (r0:Int),
   e=.returned (.int .i64 r0)∧K r0∧Bel w0 w':=by
 unfold Zfr at h
 refine Zz (args:=[u0_0,u1_0]) Try.func23 rfl 36 Try.ntmps23 (ZAe rfl) ?_
 have hC:=ZAv (X:=Nox) w0 [Zz9 ((EI .i64).ty.sl) a0 [u0_0] fp0,Zz9 ((EI .i64).ty.sl) a1 [u1_0] fp1] (by simp only [Zsj,Zur,or_false,forall_eq_or_imp,forall_eq]; exact⟨q0,q1⟩)
 refine sr (Zc (v:=.int .i64 0) rfl (dn (ZAc (sr (Za (v:=u0_0) rfl ?_)))))
 obtain ⟨Ad3,c4,hv5⟩:=Zw (hC.getP 0 rfl)
 refine Zv ZAu (tr rfl hv5) (Za (v:=.int .i64 0) rfl (dn (ZAl ?_)))
 have hN10:a0.length≤9223372036854775807:=Y9 (hC.getP 0 rfl)
 refine Yp (S:=Unit) _ _ (fun i10 s10 e_ w_=>Z1 e_ [(0,u0_0),(1,u1_0),(9,u0_0),(10,.int .i64 (a0.length:Int)),(11,.int .i64 (i10:Int))]∧Ctx Nox w0 w_ [] [Zz9 ((EI .i64).ty.sl) a0 [u0_0] fp0,Zz9 ((EI .i64).ty.sl) a1 [u1_0] fp1]) a0.length ?_ ?_ (s0:=()) ?_ h
 ·clear hC h
  rintro i10 s10 e_ w10 nx10 K10 hi10 ⟨hS_,hC⟩ h hK10
  rw [ue hS_]
  refine sr (Zq rfl rfl (dn (ZAc (Yf rfl (decide_eq_true (by omega)) (ZAg (Zd (ZAc (ZAl (sr (Za (v:=.int .i64 (i10:Int)) rfl ?_))))))))))
  obtain ⟨Ad10,c10,hv10⟩:=Z6 (hC.getP 0 rfl) i10 hi10
  refine Yv (len:=a0.length) ZAu sc2.size (tr rfl hv10) rfl (ZAx _) (ZBk.2 hi10) (Xy (.int .i64 (a0.getD i10 Zsn)) (Yj (hC.getP 0 rfl) hv10 i10 hi10) sc2 rfl (Zc (v:=.int .i64 (i10:Int)) rfl (Zc (v:=.int .i64 (a0.getD i10 Zsn)) rfl (dn (ZAc (sr (Za (v:=.int .i64 (i10:Int)) rfl (Za (v:=u1_0) rfl ?_))))))))
  obtain ⟨Ad11,c11,hv12⟩:=Zw (hC.getP 1 rfl)
  refine Zv ZAu (tr rfl hv12) (Zao rfl rfl (dn ?_))
  refine Zr rfl (fun hb10=>?_) (fun hb10=>?_)
  ·replace h:=ift h (ct hb10)
   refine sr (Zc (v:=.int .i64 1) rfl (dn ?_))
   refine ZAk (Ze (Z2 (Ze (Ze (Z2 (Ze ?_))))))
   refine Zg (fn:=Try.f23) rfl ?_ ⟨1,rfl,h,hC.below⟩ (.inl rfl)
   exact Zf rfl
  ·replace h:=Zh h (cf hb10)
   refine ZAg (Zd (sr (Za (v:=u1_0) rfl (Za (v:=.int .i64 (i10:Int)) rfl ?_))))
   obtain ⟨⟨h10,h11⟩,h⟩:=h
   obtain ⟨Ad12,c12,hv11⟩:=Z6 (hC.getP 1 rfl) i10 (show i10 < a1.length by omega)
   refine Yv (len:=a1.length) ZAu sc2.size (tr rfl hv11) rfl h10 h11 (Xy (.int .i64 (a1.getD i10 Zsn)) (Yj (hC.getP 1 rfl) hv11 i10 (show i10 < a1.length by omega)) sc2 rfl (Zc (v:=.int .i64 (a1.getD i10 Zsn)) rfl (dn (sr (Za (v:=.int .i64 (a0.getD i10 Zsn)) rfl (Za (v:=.int .i64 (a1.getD i10 Zsn)) rfl ?_))))))
   refine Zk [.int .i64 (a0.getD i10 Zsn),.int .i64 (a1.getD i10 Zsn)] _ Try.func43 rfl rfl rfl (Zoj (a0.getD i10 Zsn) (a1.getD i10 Zsn) h _) (fun ret10 w11 hR10=>?_)
   obtain ⟨r10,rfl,h,hB10⟩:=hR10
   refine⟨_,rfl,?_⟩
   replace hC:=hC.grow hB10
   refine Zc (v:=.int .i64 r10) rfl (dn (sr (Za (v:=.int .i64 r10) rfl (Y0 rfl rfl (dn ?_)))))
   refine Zr rfl (fun hb11=>?_) (fun hb11=>?_)
   ·replace h:=ift h (ct hb11)
    refine sr (Za (v:=.int .i64 r10) rfl (Zc (v:=.int .i64 r10) rfl (dn ?_)))
    refine ZAk (Z2 (Ze (Ze (Z2 (Ze ?_)))))
    refine Zg (fn:=Try.f23) rfl ?_ ⟨r10,rfl,h,hC.below⟩ (.inl rfl)
    exact Zf rfl
   ·replace h:=Zh h (cf hb11)
    refine ZAg (Zt (Zd (Zn (Zp rfl rfl (Za (v:=.int .i64 (Zu2.wrap ((i10:Int)+1))) rfl (done ?_))))))
    exact hK10 () _ _ ⟨(sl ⟨rfl,rfl,rfl,rfl,(tr rfl (congrArg _ (Yb hi10 hN10))),trivial⟩),hC⟩ h
 ·clear hC h
  rintro s10 e_ w12 K10 ⟨hS_,hC⟩ h
  rw [ue hS_]
  refine sr (Zq rfl rfl (dn (ZAc (Yd rfl (decide_eq_false (by omega)) ?_))))
  refine ZAt (Zl (Zl (Z4 ?_)))
  refine Zd (ZAc (sr (Za (v:=u0_0) rfl ?_)))
  obtain ⟨Ad13,c13,hv13⟩:=Zw (hC.getP 0 rfl)
  refine Zv ZAu (tr rfl hv13) (Za (v:=u1_0) rfl ?_)
  obtain ⟨Ad14,c14,hv14⟩:=Zw (hC.getP 1 rfl)
  refine Zv ZAu (tr rfl hv14) (Zq rfl rfl (dn ?_))
  refine Zr rfl (fun hb12=>?_) (fun hb12=>?_)
  ·replace h:=ift h (ct hb12)
   refine sr (Zc (v:=.int .i64 (-1)) rfl (dn ?_))
   refine ZAk (Ze ?_)
   refine Zg (fn:=Try.f23) rfl ?_ ⟨(-1),rfl,h,hC.below⟩ (.inl rfl)
   exact Zf rfl
  ·replace h:=Zh h (cf hb12)
   refine ZAg (Zd (sr (Zc (v:=.int .i64 0) rfl (dn (ZAk ?_)))))
   refine Zg (fn:=Try.f23) rfl ?_ ⟨0,rfl,h,hC.below⟩ (.inl rfl)
   exact Zf rfl
 ·skip
  exact⟨(sl ⟨rfl,rfl,rfl,rfl,rfl,trivial⟩),hC⟩
end Go.Proofs.Ytheenipahifleaa
namespace Go.Proofs.Ytheenipahifleaa
open Go Vc
theorem Zjn {a b c:Int} {K:Bool→Prop} (h:K (decide (b≤a∧a≤c))):Zcb a b c K:=by
  unfold Zcb
  split
  · rename_i h1; simpa [show b≤a from h1] using h
  · rename_i h1; simpa [show ¬ b≤a from h1] using h
theorem Zol {ds:List Int} {K:Bool→Prop} (h:K (decide (OkDeg ds))):Zdb ds K:=by
  unfold Zdb
  refine Yz (fun i _=>∀ j,j < i→1≤ds.getD j Zsn∧ds.getD j Zsn≤12) ds.length ?_ ?_ _ _ _ (by omega) (by intro j hj; omega)
  · intro i s next hi hI hn
    refine Zjn ?_
    split
    · rename_i h1
      have:¬ OkDeg ds:=fun hd=>h1 (by simpa using hd.2 i hi)
      simpa [this] using h
    · rename_i h1
      refine hn _ fun j hj=>?_
      by_cases hji:j=i
      · subst hji; simpa using h1
      · exact hI j (by omega)
  · intro s hI
    have:(decide ((ds.length:Int)≤8))=decide (OkDeg ds):=by
      rw [decide_eq_decide]; unfold OkDeg
      constructor
      · intro h8; exact⟨by omega,hI⟩
      · intro h8; have:=h8.1; omega
    rw [this]; exact h
theorem Zom {ds : List Int} {a : A8} {K : Bool → Prop} (ha : ∀ i, i < 8 → 0 ≤ a.get i) (hl : ds.length ≤ 8) (h : K (decide (OkMono ds a))) : Zdc ds a K := by
  unfold Zdc
  refine Yz (fun i _=>∀ j,j < i→(j < ds.length→a.get j≤20∧(Ztb (ds.getD j Zsn) 2≠0→a.get j≤1))∧(ds.length≤j→a.get j=0)) 8 ?_ ?_ _ _ _ (by omega) (by intro j hj; omega)
  · intro i s next hi hI hn
    have no:¬ ((i < ds.length→a.get i≤20∧(Ztb (ds.getD i Zsn) 2≠0→a.get i≤1))∧(ds.length≤i→a.get i=0))→K false:=by
      intro hno
      have:¬ OkMono ds a:=fun hm=>hno (hm i hi)
      simpa [this] using h
    have yes:((i < ds.length→a.get i≤20∧(Ztb (ds.getD i Zsn) 2≠0→a.get i≤1))∧(ds.length≤i→a.get i=0))→next ():=by
      intro hy
      refine hn _ fun j hj=>?_
      by_cases hji:j=i
      · subst hji; exact hy
      · exact hI j (by omega)
    split
    · split
      · exact no (by intro q; have:=q.2 (by omega); contradiction)
      · rename_i q
        exact yes ⟨by omega,by intro _; simpa using q⟩
    · split
      · exact no (by intro q; have:=(q.1 (by omega)).1; omega)
      · refine⟨by omega,?_⟩
        split
        · split
          · exact no (by intro q; rename_i q1 q2; have:=(q.1 (by omega)).2 q1; omega)
          · exact yes ⟨fun _=>⟨by omega,fun _=>by omega⟩,by omega⟩
        · rename_i q1
          exact yes ⟨fun _=>⟨by omega,fun q2=>absurd q2 q1⟩,by omega⟩
  · intro s hI
    have:OkMono ds a:=fun i hi=>hI i hi
    simpa [this] using h
theorem Zon {ds : List Int} {a : A8} {K : Bool → Prop} (hd : OkDeg ds) (ha : ∀ i, i < 8 → 0 ≤ a.get i) (h : K (decide (OkMono ds a))) : Zdn ds a K := by
  unfold Zdn
  refine Yz (fun i _=>∀ j,j < i→(j < ds.length→a.get j≤20∧(Ztb (ds.getD j Zsn) 2≠0→a.get j≤1))∧(ds.length≤j→a.get j=0)) 8 ?_ ?_ _ _ _ (by omega) (by intro j hj; omega)
  · intro i s next hi hI hn
    have hai:=ha i hi
    have no:¬ ((i < ds.length→a.get i≤20∧(Ztb (ds.getD i Zsn) 2≠0→a.get i≤1))∧(ds.length≤i→a.get i=0))→K false:=by
      intro hno
      have:¬ OkMono ds a:=fun hm=>hno (hm i hi)
      simpa [this] using h
    have yes:((i < ds.length→a.get i≤20∧(Ztb (ds.getD i Zsn) 2≠0→a.get i≤1))∧(ds.length≤i→a.get i=0))→next ():=by
      intro hy
      refine hn _ fun j hj=>?_
      by_cases hji:j=i
      · subst hji; exact hy
      · exact hI j (by omega)
    split
    · refine⟨by omega,?_⟩
      rename_i hl
      have hod:=hd.odd (show i < ds.length by omega)
      split
      · rename_i h1
        split
        · exact no (by intro q; have:=(q.1 (by omega)).2 (by omega); omega)
        · exact yes ⟨fun _=>⟨by omega,fun _=>by omega⟩,by omega⟩
      · rename_i h1
        split
        · exact no (by intro q; have:=(q.1 (by omega)).1; omega)
        · exact yes ⟨fun _=>⟨by omega,fun q=>by omega⟩,by omega⟩
    · split
      · exact no (by intro q; have:=q.2 (by omega); omega)
      · exact yes ⟨by omega,fun _=>by omega⟩
  · intro s hI
    have:OkMono ds a:=fun i hi=>hI i hi
    simpa [this] using h
theorem Zjo {a b c:Int} {K:Bool→Prop} (h:K (decide (b≤a∧a≤c))):Zcf a b c K:=by
  unfold Zcf
  split
  · rename_i h1; simpa [show b≤a from h1] using h
  · rename_i h1; simpa [show ¬ b≤a from h1] using h
theorem Zoo {ds : List Int} {K : Bool → Prop} (h : K (decide (OkDeg ds))) : Zdm ds K := by
  unfold Zdm
  split
  · rename_i h8
    unfold Zfn Zfm
    refine Yz (fun i _=>∀ j,j < i→1≤ds.getD j Zsn∧ds.getD j Zsn≤12) ds.length ?_ ?_ _ _ _ (by omega) (by intro j hj; omega)
    · intro i s next hi hI hn
      unfold Zdl
      refine Zjo ?_
      dsimp only
      split
      · rename_i h1
        have:¬ OkDeg ds:=fun hd=>by have:=hd.2 i hi; simp only [Bool.not_eq_true',decide_eq_false_iff_not] at h1; exact h1 this
        simpa [this,show (i:Int)≥0 by omega] using h
      · rename_i h1
        refine hn _ fun j hj=>?_
        by_cases hji:j=i
        · subst hji; simp only [Bool.not_eq_true',decide_eq_false_iff_not,Decidable.not_not] at h1; exact h1
        · exact hI j (by omega)
    · intro s hI
      have:OkDeg ds:=⟨by omega,hI⟩
      simpa [this] using h
  · have:¬ OkDeg ds:=fun hd=>by have:=hd.1; omega
    simpa [this] using h
theorem Zd4 {a:A8} {K:A8→Prop} (ha:Ju .u8 a) (h:K a):Zak a K:=by
  unfold Zak
  refine Yz (fun i (s:A8)=>∀ j,j < 8→s.get j=if j < i then a.get j else 0) 8 ?_ ?_ _ _ _ (by omega) (by intro j hj; simp [A8.get_zero])
  · intro i s next hi hI hn
    have:=Zgx (Zgy ha hi)
    rw [i64_in _ (by omega)]
    refine hn _ fun j hj=>?_
    rw [ZC4 hi]
    by_cases hji:j=i
    · subst hji; simp
    · rw [if_neg hji,hI j hj]
      by_cases hj2:j < i
      · rw [if_pos hj2,if_pos (by omega)]
      · rw [if_neg hj2,if_neg (by omega)]
  · intro s hI
    have:s=a:=ZC5 fun i hi=>by rw [hI i hi,if_pos hi]
    rw [this]; exact h
theorem Zop {a:A8} {K:A8→Prop} (h:K a):Zdt a K:=by
  unfold Zdt
  refine Yz (fun i (s:A8)=>∀ j,j < 8→s.get j=if j < i then a.get j else 0) 8 ?_ ?_ _ _ _ (by omega) (by intro j hj; simp [A8.get_zero])
  · intro i s next hi hI hn
    refine hn _ fun j hj=>?_
    rw [ZC4 hi]
    by_cases hji:j=i
    · subst hji; simp
    · rw [if_neg hji,hI j hj]
      by_cases hj2:j < i
      · rw [if_pos hj2,if_pos (by omega)]
      · rw [if_neg hj2,if_neg (by omega)]
  · intro s hI
    have:s=a:=ZC5 fun i hi=>by rw [hI i hi,if_pos hi]
    rw [this]; exact h
theorem Zoq {ds:List Int} {K:List Int→Prop} (hl:ds.length≤1048576) (h:K ds):Zdu ds K:=by
  unfold Zdu
  refine⟨by omega,?_⟩
  refine Yz (fun i (s:List Int)=>s.length=ds.length∧∀ j,j < i→s.getD j Zsn=ds.getD j Zsn) ds.length ?_ ?_ _ _ _ (by omega) (by simp)
  · intro i s next hi hI hn
    refine⟨by omega,hn _ ⟨by simpa using hI.1,fun j hj=>?_⟩⟩
    by_cases hji:j=i
    · subst hji; simp [Zsu,hI.1,hi]
    · rw [← hI.2 j (by omega)]; simp [Zsu,List.getElem?_set_ne (fun e=>hji e.symm)]
  · intro s hI
    have:s=ds:=by
      apply List.ext_getElem hI.1
      intro i h1 h2
      have:=hI.2 i h2
      simpa [Zsu,h1,h2] using this
    rw [this]; exact h
theorem Zor {a b:A8} {K:Bool→Prop} (h:K (decide (a=b))):Zdv a b K:=by
  unfold Zdv
  refine Yz (fun i _=>∀ j,j < i→a.get j=b.get j) 8 ?_ ?_ _ _ _ (by omega) (by intro j hj; omega)
  · intro i s next hi hI hn
    split
    · rename_i h1
      have:¬ a=b:=fun e=>h1 (by rw [e])
      simpa [this] using h
    · rename_i h1
      refine hn _ fun j hj=>?_
      by_cases hji:j=i
      · subst hji; simpa using h1
      · exact hI j (by omega)
  · intro s hI
    have:a=b:=ZC5 hI
    simpa [this] using h
theorem Zjp {a b : List Int} {K : Bool → Prop} (h : K (decide (a = b))) : Zch a b K := by
  unfold Zch
  split
  · rename_i h1
    have:¬ a=b:=fun e=>h1 (by rw [e])
    simpa [this] using h
  · rename_i h1
    have hl:a.length=b.length:=by omega
    refine Yz (fun i _=>∀ j,j < i→a.getD j Zsn=b.getD j Zsn) a.length ?_ ?_ _ _ _ (by omega) (by intro j hj; omega)
    · intro i s next hi hI hn
      refine⟨by omega,?_⟩
      split
      · rename_i h1
        have:¬ a=b:=fun e=>h1 (by rw [e])
        simpa [this] using h
      · rename_i h1
        refine hn _ fun j hj=>?_
        by_cases hji:j=i
        · subst hji; simpa using h1
        · exact hI j (by omega)
    · intro s hI
      have:a=b:=by
        apply List.ext_getElem hl
        intro i h1 h2
        have:=hI i h1
        simpa [Zsu,h1,h2] using this
      simpa [this] using h
end Go.Proofs.Ytheenipahifleaa
namespace Go.Proofs.Ytheenipahifleaa
open Go Vc
theorem Zfs {ds:List Int} {a:A8} (h:Xt ds a) (hl:ds.length≤8) {i:Nat} (hi:i < ds.length) (ho:Ztb (ds.getD i Zsn) 2≠0):a.get i≤1:=((h i (by omega)).1 hi).2 ho
theorem Zos {ds:List Int} {a b s:A8} (ha:Xt ds a) (hb:Xt ds b) (hl:ds.length≤8) (h:∀ j,j < 8→s.get j=if j < ds.length then a.get j+b.get j else 0):s=a.add b:=by
  refine ZC5 fun i hi=>?_
  rw [h i hi,A8.get_add]
  split
  · rfl
  · rw [(ha i hi).2 (by omega),(hb i hi).2 (by omega)]; rfl
theorem Zot {ds : List Int} {a b : A8} {K : A8 → Int → Prop} (hd : OkDeg ds) (ha : Xt ds a) (hb : Xt ds b) (pa : ∀ i, i < 8 → 0 ≤ a.get i) (pb : ∀ i, i < 8 → 0 ≤ b.get i)
    (h:K (Yu ds a b).1 (Yu ds a b).2):Zdd ds a b K:=by
  have h8:=hd.1
  unfold Zdd
  refine Yz (fun i (s:A8×Int)=>(∀ j,j < i→j < ds.length→Ztb (ds.getD j Zsn) 2≠0→¬ (0 < a.get j∧0 < b.get j))∧(∀ j,j < 8→s.1.get j=if j < i then a.get j+b.get j else 0)∧(s.2=1∨s.2=-1)∧s.2 * sg (Zai ds a b (ds.length - i) i)=sg (Zai ds a b ds.length 0)) ds.length ?_ ?_ _ _ _ (by omega) ⟨by intro j hj; omega,by intro j hj; simp [A8.get_zero],by simp,by simp⟩
  · rintro i ⟨s1,s2⟩ next hi ⟨h1,h2,h3,h4⟩ hn
    have hi8:i < 8:=by omega
    have pai:=pa i hi8
    have pbi:=pb i hi8
    have a20:=((ha i hi8).1 hi).1
    have b20:=((hb i hi8).1 hi).1
    have hr:ds.length - i=(ds.length - (i+1))+1:=by omega
    rw [hr] at h4
    simp only [Zai] at h4
    dsimp only at h1 h2 h3 h4 ⊢
    have hw:ZAm.wrap (a.get i+b.get i)=a.get i+b.get i:=Zi1 _ (by omega)
    rw [hw]
    have hset:∀ j,j < 8→(s1.set i (a.get i+b.get i)).get j=if j < i+1 then a.get j+b.get j else 0:=by
      intro j hj
      rw [ZC4 hi8]
      by_cases hji:j=i
      · subst hji; simp
      · rw [if_neg hji,h2 j hj]
        by_cases hj2:j < i
        · rw [if_pos hj2,if_pos (by omega)]
        · rw [if_neg hj2,if_neg (by omega)]
    refine⟨by omega,by omega,by omega,?_⟩
    split
    · rename_i he
      rw [if_pos (.inl he),ZC1] at h4
      refine hn _ ⟨fun j hj hjl ho=>?_,hset,h3,h4⟩
      by_cases hji:j=i
      · subst hji; exact absurd he ho
      · exact h1 j (by omega) hjl ho
    · rename_i he
      have a1:=Zfs ha h8 hi he
      have b1:=Zfs hb h8 hi he
      refine⟨by omega,?_⟩
      rw [ZC4 hi8,if_pos rfl]
      split
      · rename_i hc
        have:Clash ds a b:=⟨i,hi,he,by omega,by omega⟩
        simpa [Yu,this] using h
      · rename_i hc
        have hnc:∀ j,j < i+1→j < ds.length→Ztb (ds.getD j Zsn) 2≠0→¬ (0 < a.get j∧0 < b.get j):=by
          intro j hj hjl ho
          by_cases hji:j=i
          · subst hji; omega
          · exact h1 j (by omega) hjl ho
        rw [i64_in _ (by omega)]
        refine Xo (fun (t:Int×Int)=>((i:Int)+1≤t.1∧t.1≤ds.length)∧(t.2=1∨t.2=-1)∧(b.get i=1→t.2 * sg (Zah ds a (ds.length - t.1.toNat) t.1.toNat)=s2 * sg (Zah ds a (ds.length - (i+1)) (i+1)))∧(b.get i≠1→t.2=s2)) (fun t=>ds.length - t.1.toNat) ?_ ⟨by omega,h3,fun _=>by rw [show ((i:Int)+1).toNat=i+1 by omega],fun _=>rfl⟩
        rintro ⟨j,c⟩ next' ⟨⟨q1,q2⟩,q3,q4,q5⟩ hn'
        dsimp only at q1 q2 q3 q4 q5 ⊢
        split
        · rename_i hj
          refine⟨by omega,?_⟩
          split
          · rename_i hb1
            have hjn:j.toNat < ds.length:=by omega
            refine⟨by omega,?_⟩
            have q4:=q4 hb1
            have hr2:ds.length - j.toNat=(ds.length - (j.toNat+1))+1:=by omega
            rw [hr2] at q4
            simp only [Zah] at q4
            have hj1:(j+1).toNat=j.toNat+1:=by omega
            rw [i64_in (j+1) (by omega)]
            have pj:=pa j.toNat (by omega)
            split
            · rename_i ho
              have aj:=Zfs ha h8 hjn ho
              have od:=hd.odd hjn
              have od1:Ztb (ds.getD j.toNat Zsn) 2=1:=by omega
              rw [od1,Int.one_mul] at q4
              refine⟨by omega,?_⟩
              split
              · rename_i haj
                rw [haj,Int.add_comm,Zmv] at q4
                rw [i64_in (0 - c) (by omega)]
                refine hn' _ ⟨⟨by dsimp only; omega,by dsimp only; omega⟩,by dsimp only; omega,fun _=>?_,fun hne=>absurd hb1 hne⟩ (by dsimp only; omega)
                dsimp only
                rw [hj1,Int.zero_sub,Int.neg_mul,← Int.mul_neg]; exact q4
              · rename_i haj
                rw [show a.get j.toNat=0 by omega,ZC1] at q4
                refine hn' _ ⟨⟨by dsimp only; omega,by dsimp only; omega⟩,q3,fun _=>?_,fun hne=>absurd hb1 hne⟩ (by dsimp only; omega)
                dsimp only
                rw [hj1]; exact q4
            · rename_i ho
              rw [show Ztb (ds.getD j.toNat Zsn) 2=0 by simpa using ho,Int.zero_mul,ZC1] at q4
              refine hn' _ ⟨⟨by dsimp only; omega,by dsimp only; omega⟩,q3,fun _=>?_,fun hne=>absurd hb1 hne⟩ (by dsimp only; omega)
              dsimp only
              rw [hj1]; exact q4
          · rename_i hb1
            refine hn _ ⟨hnc,hset,q3,?_⟩
            rw [if_pos (.inr (by omega)),ZC1] at h4
            dsimp only
            rw [q5 hb1]; exact h4
        · rename_i hj
          refine hn _ ⟨hnc,hset,q3,?_⟩
          dsimp only
          by_cases hb1:b.get i=1
          · have q4:=q4 hb1
            rw [show ds.length - j.toNat=0 by omega] at q4
            simp only [Zah] at q4
            rw [show sg 0=1 from rfl,Int.mul_one] at q4
            rw [if_neg (by omega),Zfd,← Int.mul_assoc] at h4
            rw [q4]; exact h4
          · rw [if_pos (.inr (by omega)),ZC1] at h4
            rw [q5 hb1]; exact h4
  · rintro ⟨s1,s2⟩ ⟨h1,h2,h3,h4⟩
    have hnc:¬ Clash ds a b:=fun ⟨i,hi,ho,hp⟩=>h1 i hi hi ho hp
    rw [Nat.sub_self] at h4
    simp only [Zai] at h4
    rw [show sg 0=1 from rfl,Int.mul_one] at h4
    have hs:s1=a.add b:=Zos ha hb h8 h2
    dsimp only at h4 ⊢
    rw [hs,h4]
    simpa [Yu,hnc] using h
theorem Zou {ds : List Int} {a b : A8} {K : A8 → Int → Prop} (hd : OkDeg ds) (ha : Xt ds a) (hb : Xt ds b) (pa : ∀ i, i < 8 → 0 ≤ a.get i) (pb : ∀ i, i < 8 → 0 ≤ b.get i)
    (h:K (Yu ds a b).1 (Yu ds a b).2):Zdk a ds b K:=by
  have h8:=hd.1
  have bnd:∀ (x:A8),Xt ds x→∀ i,i < 8→x.get i≤100:=by
    intro x hx i hi
    by_cases hl:i < ds.length
    · exact((hx i hi).1 hl).1
    · rw [(hx i hi).2 (by omega)]; omega
  unfold Zdk
  refine Yz (fun i (c:Int)=>(∀ j,j < i→j < ds.length→Ztb (ds.getD j Zsn) 2≠0→¬ (0 < a.get j∧0 < b.get j))∧(0≤c∧c≤8 * i)∧c+Zai ds a b (ds.length - i) i=Zai ds a b ds.length 0) ds.length ?_ ?_ _ _ _ (by omega) ⟨by intro j hj; omega,by omega,by simp⟩
  · rintro i c next hi ⟨h1,h2,h4⟩ hn
    have hi8:i < 8:=by omega
    have pai:=pa i hi8
    have pbi:=pb i hi8
    have hr:ds.length - i=(ds.length - (i+1))+1:=by omega
    rw [hr] at h4
    simp only [Zai] at h4
    split
    · rename_i he
      rw [if_pos (.inl he),ZC1] at h4
      refine hn _ ⟨fun j hj hjl ho=>?_,by omega,h4⟩
      by_cases hji:j=i
      · subst hji; exact absurd he ho
      · exact h1 j (by omega) hjl ho
    · rename_i he
      refine⟨by omega,?_⟩
      have hnc:¬ (0 < a.get i∧0 < b.get i)→∀ j,j < i+1→j < ds.length→Ztb (ds.getD j Zsn) 2≠0→¬ (0 < a.get j∧0 < b.get j):=by
        intro hno j hj hjl ho
        by_cases hji:j=i
        · subst hji; exact hno
        · exact h1 j (by omega) hjl ho
      split
      · rename_i hap
        refine⟨by omega,?_⟩
        split
        · rename_i hbp
          have:Clash ds a b:=⟨i,hi,he,by omega,by omega⟩
          simpa [Yu,this] using h
        · rename_i hbp
          rw [if_pos (.inr (by omega)),ZC1] at h4
          exact⟨by omega,hn _ ⟨hnc (by omega),by omega,h4⟩⟩
      · rename_i hap
        refine⟨by omega,?_⟩
        split
        · rename_i hbp
          have he0:¬ (Ztb (ds.getD i Zsn) 2=0∨b.get i≤0):=by rintro (q | q); exact he q; omega
          rw [if_neg he0] at h4
          rw [i64_in _ (by omega)]
          refine Xo (fun (t:Int×Int)=>((i:Int)+1≤t.1∧t.1≤ds.length)∧(0≤t.2∧t.2≤8 * i+(t.1 - (i+1)))∧t.2+Zah ds a (ds.length - t.1.toNat) t.1.toNat=c+Zah ds a (ds.length - (i+1)) (i+1)) (fun t=>ds.length - t.1.toNat) ?_ ⟨by omega,by omega,by rw [show ((i:Int)+1).toNat=i+1 by omega]⟩
          rintro ⟨j,d⟩ next' ⟨⟨q1,q2⟩,q3,q4⟩ hn'
          dsimp only at q1 q2 q3 q4 ⊢
          split
          · rename_i hj
            have hjn:j.toNat < ds.length:=by omega
            refine⟨by omega,by omega,?_⟩
            have hr2:ds.length - j.toNat=(ds.length - (j.toNat+1))+1:=by omega
            rw [hr2] at q4
            simp only [Zah] at q4
            have hj1:(j+1).toNat=j.toNat+1:=by omega
            have pj:=pa j.toNat (by omega)
            have hm:0≤Ztb (ds.getD j.toNat Zsn) 2 * a.get j.toNat∧Ztb (ds.getD j.toNat Zsn) 2 * a.get j.toNat≤1:=by
              rcases hd.odd hjn with od | od
              · rw [od]; omega
              · have:=Zfs ha h8 hjn (by omega)
                rw [od]; omega
            rw [i64_in (Ztb (ds.getD j.toNat Zsn) 2 * a.get j.toNat) (by omega),i64_in (d+Ztb (ds.getD j.toNat Zsn) 2 * a.get j.toNat) (by omega),i64_in (j+1) (by omega)]
            refine hn' _ ⟨⟨by dsimp only; omega,by dsimp only; omega⟩,by dsimp only; omega,?_⟩ (by dsimp only; omega)
            dsimp only
            rw [hj1]; omega
          · rename_i hj
            rw [show ds.length - j.toNat=0 by omega] at q4
            simp only [Zah] at q4
            refine hn _ ⟨hnc (by omega),by omega,by omega⟩
        · rename_i hbp
          rw [if_pos (.inr (by omega)),ZC1] at h4
          exact hn _ ⟨hnc (by omega),by omega,h4⟩
  · rintro c ⟨h1,h2,h4⟩
    have hnc:¬ Clash ds a b:=fun ⟨i,hi,ho,hp⟩=>h1 i hi hi ho hp
    rw [Nat.sub_self] at h4
    simp only [Zai,Int.add_zero] at h4
    refine Yz (fun i (s:A8)=>∀ j,j < 8→s.get j=if j < i then a.get j+b.get j else a.get j) 8 ?_ ?_ _ _ _ (by omega) (by intro j hj; simp)
    · intro i s next hi hI hn
      have e1:=hI i hi
      rw [if_neg (by omega)] at e1
      have:=bnd a ha i hi
      have:=bnd b hb i hi
      have:=pa i hi
      have:=pb i hi
      rw [e1,i64_in _ (by omega)]
      refine hn _ fun j hj=>?_
      rw [ZC4 hi]
      by_cases hji:j=i
      · subst hji; simp
      · rw [if_neg hji,hI j hj]
        by_cases hj2:j < i
        · rw [if_pos hj2,if_pos (by omega)]
        · rw [if_neg hj2,if_neg (by omega)]
    · intro s hI
      have hs:s=a.add b:=ZC5 fun i hi=>by rw [hI i hi,if_pos hi,A8.get_add]
      have hj:Yu ds a b=(a.add b,sg c):=by simp [Yu,hnc,h4]
      rw [hj] at h
      rw [hs]
      split
      · rename_i ho
        have:sg c=-1:=by unfold sg; rw [ZEq (by omega)] at ho; rw [if_neg (by omega)]
        rw [this] at h; exact h
      · rename_i ho
        have:sg c=1:=by unfold sg; rw [ZEq (by omega)] at ho; rw [if_pos (by omega)]
        rw [this] at h; exact h
end Go.Proofs.Ytheenipahifleaa
namespace Go.Proofs.Ytheenipahifleaa
open Go Vc
end Go.Proofs.Ytheenipahifleaa
