import Derived.Test.YtaagfepgbofmlaaGreatQ2
set_option linter.unusedSectionVars false
set_option linter.unusedSimpArgs false
set_option linter.unusedVariables false
open Go renaming wp_seq→ZIa,wp_skip→ZIe,wp_ret→ZIi,wp_block→ZIj,wp_exit→ZIr
open Go.IntKind renaming i64→ZA7
open Go.Proofs.Tryz renaming prog→ZId,underlying22→ZIs,underlying115→ZKw,func192→ZKx,underlying73→ZJf,underlying53→ZIh,underlying162→ZIp,underlying55→ZIf,underlying30→ZIw,underlying32→ZIq,f99→ZKz,func134→ZK2,underlying136→ZIn,f156→ZK3,underlying48→ZK6,func195→ZK8
open Go.Value renaming map→ZKy,int→ZK4,ownBlock→Zzn
open Inhabited renaming default→Zyt
open Int renaming tmod→Zyy,natCast_nonneg→ZIv,ofNat_lt→ZJi,zero_add→ZAd,toNat_of_nonneg→ZK5,tmod_eq_emod_of_nonneg→ZAy
open List renaming toArray→ZH8,replicate→Zy0,mem_cons→Zyz,mem_singleton→ZAs,not_mem_nil→ZAt,getD→Zzm,length_eq_one_iff→ZI4
open Nat renaming le_of_ble_eq_true→ZIc,le_trans→Zy6,le_refl→Zy1
open Option renaming toList→ZI5
open Vc renaming TForm→ZIo,ETerm→ZH9,Form→ZIb
open Vc.A8 renaming enc→ZH6,zero→ZIg,enc_get→ZIu,enc_set→ZI3,get_set→ZK0,ext_get→ZK1
open Vc.Ctx renaming start→ZIt
open Vc.Term renaming enc→ZIl
open Vc.Ty renaming item→ZH7
set_option maxRecDepth 4000
set_option maxHeartbeats 4000000
namespace Go.Proofs.YtaagfepgbofmlaaGreat
open Go Go.RowKit Vc
def Zf9 (a0:A8) (a1:List Int) (a2:A8) (K:A8→Int→Prop):Prop :=
 Yt (fun i10 (s12:Int) nx10=>(if Zyy (a1.getD i10 Zyt) 2=0 then nx10 s12 else((0≤(i10:Int)∧(i10:Int) < 8)∧(if a0.get i10 > 0 then((0≤(i10:Int)∧(i10:Int) < 8)∧(if a2.get i10 > 0 then K ZIg 0 else((0≤(i10:Int)∧(i10:Int) < 8)∧nx10 s12))) else((0≤(i10:Int)∧(i10:Int) < 8)∧(if a2.get i10 > 0 then Xj (fun (s10:Int×Int) nx11=>(if s10.1 < (a1.length:Int) then((0≤s10.1∧s10.1 < (a1.length:Int))∧((0≤s10.1∧s10.1 < 8)∧nx11 (ZA7.wrap (s10.1+1),ZA7.wrap (s10.2+(ZA7.wrap ((Zyy (a1.getD s10.1.toNat Zyt) 2) * (a0.get s10.1.toNat))))))) else nx10 s10.2)) (ZA7.wrap ((i10:Int)+1),s12) else nx10 s12)))))) (fun (s12:Int)=>Yt (fun i11 (s11:A8) nx12=>nx12 (s11.set i11 (ZA7.wrap ((s11.get i11)+(a2.get i11))))) (fun (s11:A8)=>(if Zyy s12 2=1 then K s11 (-1) else K s11 1)) 8 0 a0) a1.length 0 0
theorem Zsy (a0:A8) (a1:List Int) (a2:A8) {u1_0:Value} {fp1:List Nat} {K:A8→Int→Prop} (h:Zf9 a0 a1 a2 K) (w0:World) (q1:((EI .i64).ty.sl).rep a1 [u1_0] fp1 w0) :
  Calls ZId 199 #[.agg (ZH8 (ZH6 .i64 a0)),u1_0,.agg (ZH8 (ZH6 .i64 a2))] w0 fun e w'=>∃ (r0:A8) (r1:Int),
   e=.returned (.tuple #[.agg (ZH8 (ZH6 .i64 r0)),.int .i64 r1])∧K r0 r1∧Bel w0 w':=by
 unfold Zf9 at h
 refine Z4 (args:=[.agg (ZH8 (ZH6 .i64 a0)),u1_0,.agg (ZH8 (ZH6 .i64 a2))]) Tryz.func199 rfl 75 Tryz.ntmps199 (ZIc rfl) ?_
 have hC:=ZIt (X:=Nox) w0 [ZH7 ((EI .i64).ty.sl) a1 [u1_0] fp1] (by simp only [Zyz,ZAt,or_false,forall_eq_or_imp,forall_eq]; exact q1)
 refine sr (Yl (v:=.agg (ZH8 (ZH6 .i64 a0))) hC (ZH6 .i64 a0) rfl rfl fun b2 w4 hB_ hC=>Yl (v:=.agg (ZH8 (ZH6 .i64 a2))) hC (ZH6 .i64 a2) rfl rfl fun b5 w7 hB_ hC=>Yj hC (ZH6 .i64 ZIg) z73 rfl fun b8 w10 hB_ hC=>Zc (v:=.int .i64 0) rfl (dn (sr (Zc (v:=.int .i64 0) rfl (dn (ZIa (sr (Zb (v:=u1_0) rfl ?_))))))))
 obtain ⟨Ad11,c10,hv12⟩:=Z1 (hC.getP 0 rfl)
 refine Zx ZIs (tr rfl hv12) (Zb (v:=.int .i64 0) rfl (dn (ZIj ?_)))
 have hN10:a1.length≤9223372036854775807:=Xp (hC.getP 0 rfl)
 refine Y9 (S:=Int) _ _ (fun i10 s12 e_ w_=>Z3 e_ [(1,u1_0),(3,.pointer (some ⟨b2,0,none⟩)),(5,.pointer (some ⟨b5,0,none⟩)),(6,.pointer (some ⟨b8,0,none⟩)),(8,.int .i64 s12),(13,u1_0),(14,.int .i64 (a1.length:Int)),(15,.int .i64 (i10:Int))]∧Ctx Nox w0 w_ [blk b8 73 (ZH6 .i64 ZIg),blk b5 73 (ZH6 .i64 a2),blk b2 73 (ZH6 .i64 a0)] [ZH7 ((EI .i64).ty.sl) a1 [u1_0] fp1]) a1.length ?_ ?_ (s0:=0) ?_ h
 ·clear hC h
  rintro i10 s12 e_ w11 nx10 K10 hi10 ⟨hS_,hC⟩ h hK10
  rw [ue hS_]
  refine sr (Zt rfl rfl (dn (ZIa (Yr rfl (decide_eq_true (by omega)) (ZIe (Zd (ZIa (ZIj (sr (Zb (v:=.int .i64 (i10:Int)) rfl ?_))))))))))
  obtain ⟨Ad12,c11,hv10⟩:=Z0 (hC.getP 0 rfl) i10 hi10
  refine Xb (len:=a1.length) ZIs sc2.size (tr rfl hv10) rfl (ZIv _) (ZJi.2 hi10) (Xm (.int .i64 (a1.getD i10 Zyt)) (Yf (hC.getP 0 rfl) hv10 i10 hi10) sc2 rfl (Zc (v:=.int .i64 (i10:Int)) rfl (Zc (v:=.int .i64 (a1.getD i10 Zyt)) rfl (dn (ZIa (sr (Zb (v:=.int .i64 (a1.getD i10 Zyt)) rfl (X0 rfl rfl (by decide) (Jm rfl rfl (dn ?_))))))))))
  refine Zr rfl (fun hb12=>?_) (fun hb12=>?_)
  ·replace h:=ift h (ct hb12)
   refine ZIr (Zj (Z9 ?_))
   refine Zd (Zh (Zq rfl rfl (Zb (v:=.int .i64 (ZA7.wrap ((i10:Int)+1))) rfl (done ?_))))
   exact hK10 s12 _ _ ⟨(sl ⟨rfl,rfl,rfl,rfl,rfl,rfl,rfl,(tr rfl (congrArg _ (Yh hi10 hN10))),trivial⟩),hC⟩ h
  ·replace h:=Zk h (cf hb12)
   refine ZIe (Zd (ZIa (sr (Zb (v:=.int .i64 (i10:Int)) rfl ?_))))
   obtain ⟨⟨h10,h11⟩,h⟩:=h
   refine Y5 i10 ZJf sc3.size rfl rfl h10 h11 (by omega) (Z8 hC 2 (.int .i64 (a0.get i10)) rfl sc3 rfl (ZIu _ _ (show i10 < 8 by omega)) (Jj rfl rfl (Zb (v:=.bool (decide (a0.get i10 > 0))) rfl ?_)))
   refine Xh (decide (a0.get i10 > 0)) (fun hb10=>?_) (fun hb10=>?_)
   ·replace h:=ift h (ct hb10)
    refine Zl 4 27 rfl rfl hb10 (Zb (v:=.int .i64 (i10:Int)) rfl (Zl 4 27 rfl rfl hb10 ?_))
    obtain ⟨⟨h12,h13⟩,h⟩:=h
    refine Y5 i10 ZJf sc3.size rfl rfl h12 h13 (by omega) (Zl 4 27 rfl rfl hb10 (Z8 hC 1 (.int .i64 (a2.get i10)) rfl sc3 rfl (ZIu _ _ (show i10 < 8 by omega)) (Zl 4 27 rfl rfl hb10 (Jj rfl rfl (Yc (v:=.bool (decide (a2.get i10 > 0))) (b:=true) (tr rfl (congrArg _ hb10)) rfl (dn ?_))))))
    refine Zr rfl (fun hb11=>?_) (fun hb11=>?_)
    ·replace h:=ift h (ct hb11)
     refine sr (Jn [] rfl (Zf0   _) (Zw (v:=.agg (ZH8 (ZH6 .i64 ZIg))) hC 0 (ZH6 .i64 ZIg) (ZH6 .i64 ZIg) rfl ag73.size rfl rfl rfl rfl rfl (ZIc rfl) rfl fun w12 hC=>Zc (v:=.int .i64 0) rfl (dn ?_)))
     refine ZIi (Zo (Yd (Zo (Zo (Yd (Zo ?_))))))
     refine Jo (fn:=Tryz.f199) rfl ?_ ?_ ⟨ZIg,0,rfl,h,hC.below⟩ (.inl rfl)
     ·exact Zag hC 0 rfl ag73 rfl rfl
     ·exact Zi rfl
    ·replace h:=Zk h (cf hb11)
     refine ZIe (Zd (sr (Zb (v:=.int .i64 (i10:Int)) rfl ?_)))
     obtain ⟨⟨h14,h15⟩,h⟩:=h
     refine Y5 i10 ZJf sc3.size rfl rfl h14 h15 (by omega) (Z8 hC 1 (.int .i64 (a2.get i10)) rfl sc3 rfl (ZIu _ _ (show i10 < 8 by omega)) (Jj rfl rfl (dn (Yi rfl hb11 (ZIe (Zs (Zd (Zh (Zq rfl rfl (Zb (v:=.int .i64 (ZA7.wrap ((i10:Int)+1))) rfl (done ?_)))))))))))
     exact hK10 s12 _ _ ⟨(sl ⟨rfl,rfl,rfl,rfl,rfl,rfl,rfl,(tr rfl (congrArg _ (Yh hi10 hN10))),trivial⟩),hC⟩ h
   ·replace h:=Zk h (cf hb10)
    refine Zn (b:=false) 4 27 rfl (tr rfl (congrArg _ hb10)) (by decide) (Zn (b:=false) 4 27 rfl (tr rfl (congrArg _ hb10)) (by decide) (Zn (b:=false) 4 27 rfl (tr rfl (congrArg _ hb10)) (by decide) (Zn (b:=false) 4 27 rfl (tr rfl (congrArg _ hb10)) (by decide) (Yc (v:=.bool false) (b:=false) (tr rfl (congrArg _ hb10)) rfl (dn (Yi rfl rfl (ZIe (Zd (sr (Zb (v:=.int .i64 (i10:Int)) rfl ?_))))))))))
    obtain ⟨⟨h16,h17⟩,h⟩:=h
    refine Y5 i10 ZJf sc3.size rfl rfl h16 h17 (by omega) (Z8 hC 1 (.int .i64 (a2.get i10)) rfl sc3 rfl (ZIu _ _ (show i10 < 8 by omega)) (Jj rfl rfl (dn ?_)))
    refine Zr rfl (fun hb13=>?_) (fun hb13=>?_)
    ·replace h:=ift h (ct hb13)
     refine sr (Zb (v:=.int .i64 (i10:Int)) rfl (Zq rfl rfl (Zc (v:=.int .i64 (ZA7.wrap ((i10:Int)+1))) rfl (dn (ZIj ?_)))))
     refine X1 (S:=Int×Int) _ (fun s10 e_ w_=>Z3 e_ [(1,u1_0),(3,.pointer (some ⟨b2,0,none⟩)),(5,.pointer (some ⟨b5,0,none⟩)),(6,.pointer (some ⟨b8,0,none⟩)),(8,.int .i64 s10.2),(11,.int .i64 s10.1),(13,u1_0),(14,.int .i64 (a1.length:Int)),(15,.int .i64 (i10:Int))]∧Ctx Nox w0 w_ [blk b8 73 (ZH6 .i64 ZIg),blk b5 73 (ZH6 .i64 a2),blk b2 73 (ZH6 .i64 a0)] [ZH7 ((EI .i64).ty.sl) a1 [u1_0] fp1]) ?_ (s0:=(ZA7.wrap ((i10:Int)+1),s12)) ?_ h
     ·clear hC h
      rintro s10 e_ w13 nx11 K12 ⟨hS_,hC⟩ h hK11
      rw [ue hS_]
      refine ZIa (sr (Zb (v:=.int .i64 s10.1) rfl (Zb (v:=u1_0) rfl ?_)))
      obtain ⟨Ad13,c12,hv13⟩:=Z1 (hC.getP 0 rfl)
      refine Zx ZIs (tr rfl hv13) (Zt rfl rfl (dn ?_))
      refine Zr rfl (fun hb14=>?_) (fun hb14=>?_)
      ·replace h:=ift h (ct hb14)
       refine ZIe (Zd (ZIa (ZIj ?_)))
       refine Yg 10 Ye [0,0,0,6,14,30,0,64,192,510,1023,2047] [3,4,7,8] [0,1,2,5,6,9] (by kernel_rfl) (by kernel_rfl) (by kernel_rfl) (fun hM11 hM10 w14 hB_=>?_)
       replace hC:=hC.grow hB_
       refine aF 0 (.int .i64 s10.2) rfl rfl (hM10 0 rfl) (rfl) (fun _=>by exact Zf (v:=.int .i64 s10.2) rfl) (Za 12 1) (aF 1 (u1_0) rfl rfl (hM10 1 rfl) (rfl) (fun _=>by exact Zf (v:=u1_0) rfl) (Za 12 3) (aF 2 (.int .i64 s10.1) rfl rfl (hM10 2 rfl) (rfl) (fun _=>by exact Zf (v:=.int .i64 s10.1) rfl) (Za 12 7) ?_))
       obtain ⟨⟨h18,h19⟩,h⟩:=h
       obtain ⟨Ad10,c13,hv11⟩:=Z0 (hC.getP 0 rfl) s10.1.toNat (show s10.1.toNat < a1.length by omega)
       refine aL 3 (.pointer (some (Ad10.add (s10.1.toNat * 1)))) rfl rfl (hM11 3 rfl) (rfl) (fun _ hB_=>by exact Yp (len:=a1.length) ZIs sc2.size (by exact tr rfl hv11) rfl h18 h19) (Za 12 15) (aL 4 (.int .i64 (a1.getD s10.1.toNat Zyt)) rfl rfl (hM11 4 rfl) (rfl) (fun _ hB_=>by exact Xc (.int .i64 (a1.getD s10.1.toNat Zyt)) (Yf ((hC.grow hB_).getP 0 rfl) hv11 s10.1.toNat (show s10.1.toNat < a1.length by omega)) sc2 rfl) (Za 12 31) (aF 5 (.int .i64 (Zyy (a1.getD s10.1.toNat Zyt) 2)) rfl rfl (hM10 5 rfl) (rfl) (fun _=>by exact Zmd rfl rfl (by decide)) (Za 12 63) (aF 6 (.int .i64 s10.1) rfl rfl (hM10 6 rfl) (rfl) (fun _=>by exact Zf (v:=.int .i64 s10.1) rfl) (Za 12 127) ?_)))
       obtain ⟨⟨h20,h21⟩,h⟩:=h
       refine aL 7 (.pointer (some ⟨b2,s10.1.toNat,none⟩)) rfl rfl (hM11 7 rfl) (rfl) (fun _ hB_=>by exact Zaa s10.1.toNat ZJf sc3.size rfl rfl h20 h21 (by omega)) (Za 12 255) (aL 8 (.int .i64 (a0.get s10.1.toNat)) rfl rfl (hM11 8 rfl) (rfl) (fun _ hB_=>by exact Z5 (hC.grow hB_) 2 (.int .i64 (a0.get s10.1.toNat)) rfl sc3 rfl (ZIu _ _ (show s10.1.toNat < 8 by omega))) (Za 12 511) (aF 9 (.int .i64 (ZA7.wrap ((Zyy (a1.getD s10.1.toNat Zyt) 2) * (a0.get s10.1.toNat)))) rfl rfl (hM10 9 rfl) (rfl) (fun _=>by exact Zbi rfl rfl) (Za 12 1023) (Zu 10 (by decide) (by decide) (by kernel_rfl) (by kernel_rfl) rfl (Zq rfl rfl (Zc (v:=.int .i64 (ZA7.wrap (s10.2+(ZA7.wrap ((Zyy (a1.getD s10.1.toNat Zyt) 2) * (a0.get s10.1.toNat)))))) rfl (done (Zv (Zs (Zd (Zh (Zb (v:=.int .i64 s10.1) rfl ?_)))))))))))
       refine Zq rfl rfl (Zc (v:=.int .i64 (ZA7.wrap (s10.1+1))) rfl (done ?_))
       exact hK11 (ZA7.wrap (s10.1+1),ZA7.wrap (s10.2+(ZA7.wrap ((Zyy (a1.getD s10.1.toNat Zyt) 2) * (a0.get s10.1.toNat))))) _ _ ⟨(sl ⟨rfl,rfl,rfl,rfl,rfl,rfl,rfl,rfl,rfl,trivial⟩),hC⟩ h
      ·replace h:=Zk h (cf hb14)
       refine ZIr (Zj (Zj (Z9 ?_)))
       refine Zs (Zd (Zh (Zq rfl rfl (Zb (v:=.int .i64 (ZA7.wrap ((i10:Int)+1))) rfl (done ?_)))))
       exact hK10 s10.2 _ _ ⟨(sl ⟨rfl,rfl,rfl,rfl,rfl,rfl,rfl,(tr rfl (congrArg _ (Yh hi10 hN10))),trivial⟩),hC⟩ h
     ·skip
      exact⟨(sl ⟨rfl,rfl,rfl,rfl,rfl,rfl,rfl,rfl,rfl,trivial⟩),hC⟩
    ·replace h:=Zk h (cf hb13)
     refine ZIe (Zs (Zd (Zh (Zq rfl rfl (Zb (v:=.int .i64 (ZA7.wrap ((i10:Int)+1))) rfl (done ?_))))))
     exact hK10 s12 _ _ ⟨(sl ⟨rfl,rfl,rfl,rfl,rfl,rfl,rfl,(tr rfl (congrArg _ (Yh hi10 hN10))),trivial⟩),hC⟩ h
 ·clear hC h
  rintro s12 e_ w15 K10 ⟨hS_,hC⟩ h
  rw [ue hS_]
  refine sr (Zt rfl rfl (dn (ZIa (Yi rfl (decide_eq_false (by omega)) ?_))))
  refine ZIr (Zj (Zj (Z9 ?_)))
  refine Zd (ZIa (sr (Zb (v:=.int .i64 0) rfl (dn (ZIj ?_)))))
  refine Y9 (S:=A8) _ _ (fun i11 s11 e_ w_=>Z3 e_ [(3,.pointer (some ⟨b2,0,none⟩)),(5,.pointer (some ⟨b5,0,none⟩)),(6,.pointer (some ⟨b8,0,none⟩)),(8,.int .i64 s12),(58,.int .i64 (i11:Int))]∧Ctx Nox w0 w_ [blk b8 73 (ZH6 .i64 ZIg),blk b5 73 (ZH6 .i64 a2),blk b2 73 (ZH6 .i64 s11)] [ZH7 ((EI .i64).ty.sl) a1 [u1_0] fp1]) 8 ?_ ?_ (s0:=a0) ?_ h
  ·clear hC h
   rintro i11 s11 e_ w16 nx12 K11 hi11 ⟨hS_,hC⟩ h hK12
   rw [ue hS_]
   refine sr (Zt rfl rfl (dn (ZIa (Yr rfl (decide_eq_true (by omega)) (ZIe (Zd (ZIa (ZIj (sr (Zb (v:=.int .i64 (i11:Int)) rfl (Zc (v:=.int .i64 (i11:Int)) rfl ?_)))))))))))
   refine dn ?_
   refine Yg 6 Ye [0,1,3,0,8,24,63,127,255] [1,2,4,5] [0,3] (by kernel_rfl) (by kernel_rfl) (by kernel_rfl) (fun hM12 hM13 w17 hB_=>?_)
   replace hC:=hC.grow hB_
   refine aF 0 (.int .i64 (i11:Int)) rfl rfl (hM13 0 rfl) (rfl) (fun _=>by exact Zf (v:=.int .i64 (i11:Int)) rfl) (Za 9 1) (aL 1 (.pointer (some ⟨b2,i11,none⟩)) rfl rfl (hM12 1 rfl) (rfl) (fun _ hB_=>by exact Zaa i11 ZJf sc3.size rfl rfl (ZIv _) (by omega) (by omega)) (Za 9 3) (aL 2 (.int .i64 (s11.get i11)) rfl rfl (hM12 2 rfl) (rfl) (fun _ hB_=>by exact Z5 (hC.grow hB_) 2 (.int .i64 (s11.get i11)) rfl sc3 rfl (ZIu _ _ hi11)) (Za 9 7) (aF 3 (.int .i64 (i11:Int)) rfl rfl (hM13 3 rfl) (rfl) (fun _=>by exact Zf (v:=.int .i64 (i11:Int)) rfl) (Za 9 15) (aL 4 (.pointer (some ⟨b5,i11,none⟩)) rfl rfl (hM12 4 rfl) (rfl) (fun _ hB_=>by exact Zaa i11 ZJf sc3.size rfl rfl (ZIv _) (by omega) (by omega)) (Za 9 31) (aL 5 (.int .i64 (a2.get i11)) rfl rfl (hM12 5 rfl) (rfl) (fun _ hB_=>by exact Z5 (hC.grow hB_) 1 (.int .i64 (a2.get i11)) rfl sc3 rfl (ZIu _ _ hi11)) (Za 9 63) (Zu 6 (by decide) (by decide) (by kernel_rfl) (by kernel_rfl) rfl (Zq rfl rfl (Y5 i11 ZJf sc3.size rfl rfl (ZIv _) (by omega) (by omega) (Zw (v:=.int .i64 (ZA7.wrap ((s11.get i11)+(a2.get i11)))) hC 2 [.int .i64 (ZA7.wrap ((s11.get i11)+(a2.get i11)))] (ZH6 .i64 (s11.set i11 (ZA7.wrap ((s11.get i11)+(a2.get i11))))) rfl sc3.size rfl rfl rfl rfl rfl hi11 (ZI3 _ _ _ hi11) fun w18 hC=>done ?_)))))))))
   refine Zv (Zs (Zd (Zh (Zq rfl rfl (Zb (v:=.int .i64 (ZA7.wrap ((i11:Int)+1))) rfl (done ?_))))))
   exact hK12 (s11.set i11 (ZA7.wrap ((s11.get i11)+(a2.get i11)))) _ _ ⟨(sl ⟨rfl,rfl,rfl,rfl,(tr rfl (congrArg _ (Yh hi11 (by decide)))),trivial⟩),hC⟩ h
  ·clear hC h
   rintro s11 e_ w19 K11 ⟨hS_,hC⟩ h
   rw [ue hS_]
   refine sr (Zt rfl rfl (dn (ZIa (Yi rfl (decide_eq_false (by omega)) ?_))))
   refine ZIr (Zj (Zj (Z9 ?_)))
   refine Zd (ZIa (sr (Zb (v:=.int .i64 s12) rfl (X0 rfl rfl (by decide) (Jm rfl rfl (dn ?_))))))
   refine Zr rfl (fun hb15=>?_) (fun hb15=>?_)
   ·replace h:=ift h (ct hb15)
    refine sr (Yy hC 2 (ZH6 .i64 s11) rfl ag73 rfl rfl rfl (Zw (v:=.agg (ZH8 (ZH6 .i64 s11))) hC 0 (ZH6 .i64 s11) (ZH6 .i64 s11) rfl ag73.size rfl rfl rfl rfl rfl (ZIc rfl) rfl fun w20 hC=>Zc (v:=.int .i64 (-1)) rfl (dn ?_)))
    refine ZIi (Zo ?_)
    refine Jo (fn:=Tryz.f199) rfl ?_ ?_ ⟨s11,(-1),rfl,h,hC.below⟩ (.inl rfl)
    ·exact Zag hC 0 rfl ag73 rfl rfl
    ·exact Zi rfl
   ·replace h:=Zk h (cf hb15)
    refine ZIe (Zd (sr (Yy hC 2 (ZH6 .i64 s11) rfl ag73 rfl rfl rfl (Zw (v:=.agg (ZH8 (ZH6 .i64 s11))) hC 0 (ZH6 .i64 s11) (ZH6 .i64 s11) rfl ag73.size rfl rfl rfl rfl rfl (ZIc rfl) rfl fun w21 hC=>Zc (v:=.int .i64 1) rfl (dn (ZIi ?_))))))
    refine Jo (fn:=Tryz.f199) rfl ?_ ?_ ⟨s11,1,rfl,h,hC.below⟩ (.inl rfl)
    ·exact Zag hC 0 rfl ag73 rfl rfl
    ·exact Zi rfl
  ·skip
   exact⟨(sl ⟨rfl,rfl,rfl,rfl,rfl,trivial⟩),hC⟩
 ·skip
  exact⟨(sl ⟨rfl,rfl,rfl,rfl,rfl,rfl,rfl,rfl,trivial⟩),hC⟩
def Zep (a0:List (A8×Int)) (a1:A8) (a2:Int) (K:List (A8×Int)→Prop):Prop :=
 Zak (ZA7.wrap (((Xu a0 a1).getD 0)+a2)) (fun r8=>(if r8≠0 then K (Zz a0 a1 r8) else K (Jw a0 a1)))
theorem Znx (a0:List (A8×Int)) (a1:A8) (a2:Int) {b0:Nat} {K:List (A8×Int)→Prop} (h:Zep a0 a1 a2 K) (w0:World) (q0:(Ze (kvA .i64) (vvI .i64) b0 a0).holds w0) :
  Calls ZId 195 #[.map (some b0),.agg (ZH8 (ZH6 .i64 a1)),.int .i64 a2] w0 fun e w'=>∃ (m0:List (A8×Int)),
   e=.returned (.tuple #[])∧K m0∧(Ze (kvA .i64) (vvI .i64) b0 m0).holds w'∧BelB b0 w0 w':=by
 unfold Zep at h
 refine Z4 (args:=[.map (some b0),.agg (ZH8 (ZH6 .i64 a1)),.int .i64 a2]) ZK8 rfl 20 Tryz.ntmps195 (ZIc rfl) ?_
 have hC:=Ctx.start1 w0 b0 (it:=Ze (kvA .i64) (vvI .i64) b0 a0) rfl [] q0 (by simp) (by simp)
 refine sr (Yl (v:=.agg (ZH8 (ZH6 .i64 a1))) hC (ZH6 .i64 a1) rfl rfl fun b2 w4 hB_ hC=>dn (sr (Zb (v:=.map (some b0)) rfl (Yy hC 0 (ZH6 .i64 a1) rfl ag73 rfl rfl rfl (Zqy a1 0 (hC.getM 1 rfl) Y0 ZKw z2 rfl rfl (Zb (v:=.int .i64 a2) rfl (Zq rfl rfl ?_)))))))
 refine Zg [.int .i64 (ZA7.wrap (((Xu a0 a1).getD 0)+a2))] _ Tryz.func187 rfl rfl rfl (Zf8 (ZA7.wrap (((Xu a0 a1).getD 0)+a2)) h _) (fun ret5 w7 hR6=>?_)
 obtain ⟨r8,rfl,h,hB9⟩:=hR6
 refine⟨_,rfl,?_⟩
 replace hC:=hC.grow hB9
 refine Zc (v:=.int .i64 r8) rfl (dn (sr (Zb (v:=.int .i64 r8) rfl (Xl rfl rfl (dn ?_)))))
 refine Zr rfl (fun hb10=>?_) (fun hb10=>?_)
 ·replace h:=ift h (ct hb10)
  refine Zh (Zb (v:=.map (some b0)) rfl (Yy hC 0 (ZH6 .i64 a1) rfl ag73 rfl rfl rfl (Zb (v:=.int .i64 r8) rfl ?_)))
  refine Zj8 hC 1 a1 r8 rfl Y0 ZKw rfl rfl rfl (fun w10 hC=>?_) (.inl rfl)
  refine done ?_
  refine Zcj (fn:=Tryz.f195) rfl  ⟨Zz a0 a1 r8,rfl,h,(hC.getM 1 rfl),hC.belB⟩ (.inr rfl)
 ·replace h:=Zk h (cf hb10)
  refine Zh (Zb (v:=.map (some b0)) rfl (Yy hC 0 (ZH6 .i64 a1) rfl ag73 rfl rfl rfl (Zqx hC 1 a1 rfl Y0 ZKw rfl rfl rfl fun w11 hC=>done ?_)))
  refine Zcj (fn:=Tryz.f195) rfl  ⟨Jw a0 a1,rfl,h,(hC.getM 1 rfl),hC.belB⟩ (.inr rfl)
def Zdt (a0:ZIb) (K:List (A8×Int)→Prop):Prop :=
 Yt (fun i10 (s10:(List (A8×Int))) nx10=>Zc7 ((a0.terms.getD i10 Zyt).mono) (fun r10=>nx10 (Zz s10 r10 ((a0.terms.getD i10 Zyt).factor)))) (fun (s10:(List (A8×Int)))=>K s10) a0.terms.length 0 ([]:List (A8×Int))
theorem Zkv (a0:ZIb) {u0_0:Value} {fp0:List Nat} {K:List (A8×Int)→Prop} (h:Zdt a0 K) (w0:World) (q0:ZIo.rep a0 [u0_0] fp0 w0) :
  Calls ZId 78 #[.agg #[u0_0]] w0 fun e w'=>∃ (r0:List (A8×Int)) (zb0:Nat),
   e=.returned (.map (some zb0))∧K r0∧(Ze (kvA .i64) (vvI .i64) zb0 r0).holds w'∧w0.heap.size≤zb0∧Bel w0 w':=by
 unfold Zdt at h
 refine Z4 (args:=[.agg #[u0_0]]) Tryz.func78 rfl 22 Tryz.ntmps78 (ZIc rfl) ?_
 have hC:=ZIt (X:=Nox) w0 [ZH7 TForm a0 [u0_0] fp0] (by simp only [Zyz,ZAt,or_false,forall_eq_or_imp,forall_eq]; exact q0)
 have hp2:=(hC.getP 0 rfl)
 replace hC:=hC.derive 0 rfl (ZH7 ZH9.ty.sl a0.terms [u0_0] fp0) (fun _=>(Xi hp2)) (fun _ hb_=>hb_)
 refine sr (Yl (v:=.agg #[u0_0]) hC [u0_0] rfl rfl fun b4 w6 hB_ hC=>Zc (v:=.map none) rfl (dn (sr (Zfj hC (kvA .i64) (vvI .i64) fun b7 w9 hB_ hC=>Zc (v:=.map (some b7)) rfl (dn (ZIa (sr (Z6 0 ZIf rfl sc53.size rfl rfl (Z8 hC 1 (u0_0) rfl sc53 rfl rfl ?_)))))))))
 obtain ⟨Ad10,c10,hv11⟩:=Z1 (hC.getP 0 rfl)
 refine Zx ZIh (tr rfl hv11) (Zb (v:=.int .i64 0) rfl (dn (ZIj ?_)))
 have hN10:a0.terms.length≤9223372036854775807:=Xp (hC.getP 0 rfl)
 refine Y9 (S:=(List (A8×Int))) _ _ (fun i10 s10 e_ w_=>Z3 e_ [(3,.map (some b7)),(8,u0_0),(9,.int .i64 (a0.terms.length:Int)),(10,.int .i64 (i10:Int))]∧Ctx Nox w0 w_ [Ze (kvA .i64) (vvI .i64) b7 s10] [ZH7 ZH9.ty.sl a0.terms [u0_0] fp0,ZH7 TForm a0 [u0_0] fp0]) a0.terms.length ?_ ?_ (s0:=([]:List (A8×Int))) ?_ h
 ·clear hC h
  rintro i10 s10 e_ w10 nx10 K10 hi10 ⟨hS_,hC⟩ h hK10
  rw [ue hS_]
  refine sr (Zt rfl rfl (dn (ZIa (Yr rfl (decide_eq_true (by omega)) (ZIe (Zd (ZIa (ZIj (sr ?_)))))))))
  obtain ⟨Ad11,c11,hv10⟩:=Z0 (hC.getP 0 rfl) i10 hi10
  refine Xb (len:=a0.terms.length) ZIh ag162.size (tr rfl hv10) rfl (ZIv _) (ZJi.2 hi10) (Zav (ZIl (a0.terms.getD i10 Zyt)) (Yf (hC.getP 0 rfl) hv10 i10 hi10) ag162 rfl rfl (Yj hC (ZIl (⟨ZIg,0⟩:Term)) Zen rfl fun b10 w11 hB_ hC=>Zw (v:=.agg (ZH8 (ZIl (a0.terms.getD i10 Zyt)))) hC 0 (ZIl (a0.terms.getD i10 Zyt)) (ZIl (a0.terms.getD i10 Zyt)) rfl ag162.size rfl rfl rfl rfl rfl (ZIc rfl) rfl fun w12 hC=>dn ?_))
  refine Yg 6 Ye [0,0,2,6,0,16,63] [2,5] [0,1,4] (by kernel_rfl) (by kernel_rfl) (by kernel_rfl) (fun hM11 hM10 w13 hB_=>?_)
  replace hC:=hC.grow hB_
  refine aF 0 (.map (some b7)) rfl rfl (hM10 0 rfl) (rfl) (fun _=>by exact Zf (v:=.map (some b7)) rfl) (Za 7 1) (aF 1 (.pointer (some ⟨b10,0,none⟩)) rfl rfl (hM10 1 rfl) (rfl) (fun _=>by exact Z7 0 ZIp rfl ag136.size rfl rfl) (Za 7 3) (aL 2 (.agg (ZH8 (ZH6 .u8 ((a0.terms.getD i10 Zyt).mono)))) rfl rfl (hM11 2 rfl) (rfl) (fun _ hB_=>by exact Yv (hC.grow hB_) 0 (ZH6 .u8 ((a0.terms.getD i10 Zyt).mono)) rfl ag136 rfl rfl rfl) (Za 7 7) (aF 4 (.pointer (some ⟨b10,8,none⟩)) rfl rfl (hM10 4 rfl) (rfl) (fun _=>by exact Z7 8 ZIp rfl sc2.size rfl rfl) (Za 7 23) (aL 5 (.int .i64 ((a0.terms.getD i10 Zyt).factor)) rfl rfl (hM11 5 rfl) (rfl) (fun _ hB_=>by exact Z5 (hC.grow hB_) 0 (.int .i64 ((a0.terms.getD i10 Zyt).factor)) rfl sc2 rfl rfl) (Za 7 55) (aO 3 rfl ?_)))))
  refine Zg [.agg (ZH8 (ZH6 .u8 ((a0.terms.getD i10 Zyt).mono)))] _ ZK2 rfl rfl rfl (Zio ((a0.terms.getD i10 Zyt).mono) h _) (fun ret10 w14 hR10=>?_)
  obtain ⟨r10,rfl,h,hB10⟩:=hR10
  refine⟨_,rfl,?_⟩
  replace hC:=hC.grow hB10
  refine done (aK (by assumption) (Za 7 63) (Zu 6 (by decide) (by decide) (by kernel_rfl) (by kernel_rfl) rfl ?_))
  refine Zj8 hC 1 r10 ((a0.terms.getD i10 Zyt).factor) rfl Y0 ZKw rfl rfl rfl (fun w15 hC=>?_) (.inl rfl)
  refine done (Zv (Zs (Zd (Zh (Zq rfl rfl (Zb (v:=.int .i64 (ZA7.wrap ((i10:Int)+1))) rfl (done ?_)))))))
  replace hC:=hC.sM [1] (M':=[Ze (kvA .i64) (vvI .i64) b7 (Zz s10 r10 ((a0.terms.getD i10 Zyt).factor))]) (by decide) rfl
  exact hK10 (Zz s10 r10 ((a0.terms.getD i10 Zyt).factor)) _ _ ⟨(sl ⟨rfl,rfl,rfl,(tr rfl (congrArg _ (Yh hi10 hN10))),trivial⟩),hC⟩ h
 ·clear hC h
  rintro s10 e_ w16 K10 ⟨hS_,hC⟩ h
  rw [ue hS_]
  refine sr (Zt rfl rfl (dn (ZIa (Yi rfl (decide_eq_false (by omega)) ?_))))
  refine ZIr (Zj (Zj (Z9 ?_)))
  refine Zd (sr (Zb (v:=.map (some b7)) rfl (Zc (v:=.map (some b7)) rfl (dn (ZIi ?_)))))
  refine Zp (fn:=Tryz.f78) rfl ?_ ⟨s10,b7,rfl,h,(hC.getM 0 rfl),(Zfi hC 0 rfl),hC.below⟩ (.inl rfl)
  exact Zi rfl
 ·skip
  replace hC:=hC.sM [0] (M':=[Ze (kvA .i64) (vvI .i64) b7 ([]:List (A8×Int))]) (by decide) rfl
  exact⟨(sl ⟨rfl,rfl,rfl,rfl,trivial⟩),hC⟩
def Zip (a0:A8) (a1:A8) (K:Int→Prop):Prop :=
 Yt (fun i10 (s10:Unit) nx10=>(if a0.get i10≠a1.get i10 then K (ZA7.wrap ((a1.get i10) - (a0.get i10))) else nx10 ())) (fun (s10:Unit)=>K 0) 8 0 ()
theorem Zsz (a0:A8) (a1:A8)  {K:Int→Prop} (h:Zip a0 a1 K) (w0:World)  :
  Calls ZId 158 #[.agg (ZH8 (ZH6 .i64 a0)),.agg (ZH8 (ZH6 .i64 a1))] w0 fun e w'=>∃ (r0:Int),
   e=.returned (.int .i64 r0)∧K r0∧Bel w0 w':=by
 unfold Zip at h
 refine Z4 (args:=[.agg (ZH8 (ZH6 .i64 a0)),.agg (ZH8 (ZH6 .i64 a1))]) Tryz.func158 rfl 24 Tryz.ntmps158 (ZIc rfl) ?_
 have hC:=ZIt (X:=Nox) w0 [] (by simp)
 refine sr (Yl (v:=.agg (ZH8 (ZH6 .i64 a0))) hC (ZH6 .i64 a0) rfl rfl fun b1 w3 hB_ hC=>Yl (v:=.agg (ZH8 (ZH6 .i64 a1))) hC (ZH6 .i64 a1) rfl rfl fun b4 w6 hB_ hC=>Zc (v:=.int .i64 0) rfl (dn (ZIa (sr (Zb (v:=.int .i64 0) rfl (dn (ZIj ?_)))))))
 refine Y9 (S:=Unit) _ _ (fun i10 s10 e_ w_=>Z3 e_ [(2,.pointer (some ⟨b1,0,none⟩)),(3,.pointer (some ⟨b4,0,none⟩)),(6,.int .i64 (i10:Int))]∧Ctx Nox w0 w_ [blk b4 73 (ZH6 .i64 a1),blk b1 73 (ZH6 .i64 a0)] []) 8 ?_ ?_ (s0:=()) ?_ h
 ·clear hC h
  rintro i10 s10 e_ w10 nx10 K10 hi10 ⟨hS_,hC⟩ h hK10
  rw [ue hS_]
  refine sr (Zt rfl rfl (dn (ZIa (Yr rfl (decide_eq_true (by omega)) (ZIe (Zd (ZIa (ZIj (sr (Zb (v:=.int .i64 (i10:Int)) rfl (Zc (v:=.int .i64 (i10:Int)) rfl ?_)))))))))))
  refine dn (ZIa ?_)
  refine Yg 6 Ye [0,1,3,0,8,24,63] [1,2,4,5] [0,3] (by kernel_rfl) (by kernel_rfl) (by kernel_rfl) (fun hM10 hM12 w11 hB_=>?_)
  replace hC:=hC.grow hB_
  refine aF 0 (.int .i64 (i10:Int)) rfl rfl (hM12 0 rfl) (rfl) (fun _=>by exact Zf (v:=.int .i64 (i10:Int)) rfl) (Za 7 1) (aL 1 (.pointer (some ⟨b1,i10,none⟩)) rfl rfl (hM10 1 rfl) (rfl) (fun _ hB_=>by exact Zaa i10 ZJf sc3.size rfl rfl (ZIv _) (by omega) (by omega)) (Za 7 3) (aL 2 (.int .i64 (a0.get i10)) rfl rfl (hM10 2 rfl) (rfl) (fun _ hB_=>by exact Z5 (hC.grow hB_) 1 (.int .i64 (a0.get i10)) rfl sc3 rfl (ZIu _ _ hi10)) (Za 7 7) (aF 3 (.int .i64 (i10:Int)) rfl rfl (hM12 3 rfl) (rfl) (fun _=>by exact Zf (v:=.int .i64 (i10:Int)) rfl) (Za 7 15) (aL 4 (.pointer (some ⟨b4,i10,none⟩)) rfl rfl (hM10 4 rfl) (rfl) (fun _ hB_=>by exact Zaa i10 ZJf sc3.size rfl rfl (ZIv _) (by omega) (by omega)) (Za 7 31) (aL 5 (.int .i64 (a1.get i10)) rfl rfl (hM10 5 rfl) (rfl) (fun _ hB_=>by exact Z5 (hC.grow hB_) 0 (.int .i64 (a1.get i10)) rfl sc3 rfl (ZIu _ _ hi10)) (Za 7 63) (Zu 6 (by decide) (by decide) (by kernel_rfl) (by kernel_rfl) rfl (Xl rfl rfl (done (Zv (Zd ?_))))))))))
  refine Zr rfl (fun hb10=>?_) (fun hb10=>?_)
  ·replace h:=ift h (ct hb10)
   refine ZIa ?_
   refine Yg 6 Ye [0,1,3,0,8,24,63,127] [1,2,4,5] [0,3] (by kernel_rfl) (by kernel_rfl) (by kernel_rfl) (fun hM11 hM13 w12 hB_=>?_)
   replace hC:=hC.grow hB_
   refine aF 0 (.int .i64 (i10:Int)) rfl rfl (hM13 0 rfl) (rfl) (fun _=>by exact Zf (v:=.int .i64 (i10:Int)) rfl) (Za 8 1) (aL 1 (.pointer (some ⟨b4,i10,none⟩)) rfl rfl (hM11 1 rfl) (rfl) (fun _ hB_=>by exact Zaa i10 ZJf sc3.size rfl rfl (ZIv _) (by omega) (by omega)) (Za 8 3) (aL 2 (.int .i64 (a1.get i10)) rfl rfl (hM11 2 rfl) (rfl) (fun _ hB_=>by exact Z5 (hC.grow hB_) 0 (.int .i64 (a1.get i10)) rfl sc3 rfl (ZIu _ _ hi10)) (Za 8 7) (aF 3 (.int .i64 (i10:Int)) rfl rfl (hM13 3 rfl) (rfl) (fun _=>by exact Zf (v:=.int .i64 (i10:Int)) rfl) (Za 8 15) (aL 4 (.pointer (some ⟨b1,i10,none⟩)) rfl rfl (hM11 4 rfl) (rfl) (fun _ hB_=>by exact Zaa i10 ZJf sc3.size rfl rfl (ZIv _) (by omega) (by omega)) (Za 8 31) (aL 5 (.int .i64 (a0.get i10)) rfl rfl (hM11 5 rfl) (rfl) (fun _ hB_=>by exact Z5 (hC.grow hB_) 1 (.int .i64 (a0.get i10)) rfl sc3 rfl (ZIu _ _ hi10)) (Za 8 63) (Zu 6 (by decide) (by decide) (by kernel_rfl) (by kernel_rfl) rfl (Jt rfl rfl (Zc (v:=.int .i64 (ZA7.wrap ((a1.get i10) - (a0.get i10)))) rfl (done (Zv (Zd ?_)))))))))))
   refine ZIi (Yd (Zo (Zo (Yd (Zo ?_)))))
   refine Zp (fn:=Tryz.f158) rfl ?_ ⟨ZA7.wrap ((a1.get i10) - (a0.get i10)),rfl,h,hC.below⟩ (.inl rfl)
   exact Zi rfl
  ·replace h:=Zk h (cf hb10)
   refine ZIe (Zs (Zd (Zh (Zq rfl rfl (Zb (v:=.int .i64 (ZA7.wrap ((i10:Int)+1))) rfl (done ?_))))))
   exact hK10 () _ _ ⟨(sl ⟨rfl,rfl,(tr rfl (congrArg _ (Yh hi10 (by decide)))),trivial⟩),hC⟩ h
 ·clear hC h
  rintro s10 e_ w13 K10 ⟨hS_,hC⟩ h
  rw [ue hS_]
  refine sr (Zt rfl rfl (dn (ZIa (Yi rfl (decide_eq_false (by omega)) ?_))))
  refine ZIr (Zj (Zj (Z9 ?_)))
  refine Zd (sr (Zc (v:=.int .i64 0) rfl (dn (ZIi ?_))))
  refine Zp (fn:=Tryz.f158) rfl ?_ ⟨0,rfl,h,hC.below⟩ (.inl rfl)
  exact Zi rfl
 ·skip
  exact⟨(sl ⟨rfl,rfl,rfl,trivial⟩),hC⟩
def Zam (a0:List (A8×Int)) (a1:List (A8×Int)) (a2:Int) (K:List (A8×Int)→Prop):Prop :=
 Zbx (fun (q10:A8×Int) (s10:(List (A8×Int))) nx10=>Zep s10 q10.1 (Zyy (ZA7.wrap (q10.2 * a2)) 10007) (fun m10=>nx10 m10)) (fun (s10:(List (A8×Int)))=>K s10) a1.length a1 a0
theorem Ziq (a0:List (A8×Int)) (a1:List (A8×Int)) (a2:Int) {b0:Nat} {b1:Nat} {K:List (A8×Int)→Prop} (h:Zam a0 a1 a2 K) (w0:World) (q0:(Ze (kvA .i64) (vvI .i64) b0 a0).holds w0) (d1:∀ c,c∈[b1]→c≠b0) (q1:(Ze (kvA .i64) (vvI .i64) b1 a1).holds w0) :
  Calls ZId 165 #[.map (some b0),.map (some b1),.int .i64 a2] w0 fun e w'=>∃ (m0:List (A8×Int)),
   e=.returned (.tuple #[])∧K m0∧(Ze (kvA .i64) (vvI .i64) b0 m0).holds w'∧BelB b0 w0 w':=by
 unfold Zam at h
 refine Z4 (args:=[.map (some b0),.map (some b1),.int .i64 a2]) Tryz.func165 rfl 22 Tryz.ntmps165 (ZIc rfl) ?_
 have hC:=Ctx.start1 w0 b0 (it:=Ze (kvA .i64) (vvI .i64) b0 a0) rfl [Ze (kvA .i64) (vvI .i64) b1 a1] q0 (by simp only [Zyz,ZAt,or_false,forall_eq_or_imp,forall_eq]; exact q1) (by simp only [Zyz,ZAt,or_false,forall_eq_or_imp,forall_eq]; exact d1)
 refine sr (Zb (v:=.map (some b1)) rfl (Zfk hC 0 rfl ZKw rfl fun r3 es4 ck5 w10 hB_ hn6 hbn7 hC=>dn (ZIj ?_)))
 refine Zfo (S:=(List (A8×Int))) _ _ (fun l11 s10 e_ w_=>∃ (la10:Option MapEntry),Z3 e_ [(0,.map (some b0)),(2,.int .i64 a2),(9,.pointer (some ⟨r3,0,none⟩))]∧Ctx (fun c_=>c_=b0) w0 w_ [itI (kvA .i64) (vvI .i64) r3 b1 es4 ck5 la10 l11,Ze (kvA .i64) (vvI .i64) b0 s10] [Y3 b1 es4 ck5,Ze (kvA .i64) (vvI .i64) b1 a1]) ?_ (l0:=a1) (s0:=a0) ?_ h
 ·clear hC h
  rintro l11 s10 e_ w11 nx10 K10 ⟨la10,hS_,hC⟩ h hK10
  rw [ue hS_]
  refine sr ?_
  refine Zfl hC 0 0 rfl rfl hn6 hbn7 rfl (fun hr10=>?_) (fun q10 l10 ent10 w12 hp10 hk10 hv10 hC=>?_)
  ·replace h:=h.1 hr10
   refine Xk (v:=.bool false) rfl rfl (dn (ZIa (Yi rfl rfl ?_)))
   refine ZIr (Zj (Zj (Z9 ?_)))
   refine Zcj (fn:=Tryz.f165) rfl  ⟨s10,rfl,h,(hC.getM 1 rfl),hC.belB⟩ (.inr rfl)
  ·replace h:=h.2 q10 l10 hp10
   refine Xk (v:=.bool true) rfl rfl (dn (ZIa (Yr rfl rfl (ZIe (Zd (ZIj (sr (Zfm hC 0 0 q10 rfl rfl hn6 rfl hk10 hv10 (Xk (v:=.agg (ZH8 (ZH6 .i64 q10.1))) rfl rfl (Xk (v:=.int .i64 q10.2) rfl rfl (Yj hC (ZH6 .i64 ZIg) z73 rfl fun b10 w13 hB_ hC=>?_)))))))))))
   refine Zw (v:=.agg (ZH8 (ZH6 .i64 q10.1))) hC 0 (ZH6 .i64 q10.1) (ZH6 .i64 q10.1) rfl ag73.size rfl rfl rfl rfl rfl (ZIc rfl) rfl fun w14 hC=>Zc (v:=.int .i64 q10.2) rfl (dn (Zh (Zb (v:=.map (some b0)) rfl (Yy hC 0 (ZH6 .i64 q10.1) rfl ag73 rfl rfl rfl (Zb (v:=.int .i64 q10.2) rfl (Zb (v:=.int .i64 a2) rfl (Ju rfl rfl (X0 rfl rfl (by decide) ?_))))))))
   refine Zg [.map (some b0),.agg (ZH8 (ZH6 .i64 q10.1)),.int .i64 (Zyy (ZA7.wrap (q10.2 * a2)) 10007)] _ ZK8 rfl rfl rfl (Znx s10 q10.1 (Zyy (ZA7.wrap (q10.2 * a2)) 10007) h _ (hC.getM 2 rfl)) (fun ret10 w15 hR10=>?_)
   obtain ⟨m10,rfl,h,hm10,hB10⟩:=hR10
   refine⟨_,rfl,?_⟩
   replace hC:=hC.turnB 2 rfl hB10 rfl rfl hm10
   refine done (Zs ?_)
   replace hC:=hC.sM [1,2] (M':=[itI (kvA .i64) (vvI .i64) r3 b1 es4 ck5 (some ent10) l10,Ze (kvA .i64) (vvI .i64) b0 m10]) (by decide) rfl
   exact hK10 q10 l10 m10 _ _ hp10 ⟨(some ent10),(sl ⟨rfl,rfl,rfl,trivial⟩),hC⟩ h
 ·skip
  exact⟨none,(sl ⟨rfl,rfl,rfl,trivial⟩),hC⟩
def Jc (a0:List (A8×Int)) (a1:List Int) (a2:List (A8×Int)) (K:List (A8×Int)→Prop):Prop :=
 Zbx (fun (q10:A8×Int) (s11:(List (A8×Int))) nx11=>Zbx (fun (q11:A8×Int) (s10:(List (A8×Int))) nx10=>Zf9 q10.1 a1 q11.1 (fun r10 r11=>(if r11≠0 then Zep s10 r10 (Zyy (ZA7.wrap ((ZA7.wrap (r11 * q10.2)) * q11.2)) 10007) (fun m10=>nx10 m10) else nx10 s10))) (fun (s10:(List (A8×Int)))=>nx11 s10) a2.length a2 s11) (fun (s11:(List (A8×Int)))=>K s11) a0.length a0 ([]:List (A8×Int))
theorem Yu (a0:List (A8×Int)) (a1:List Int) (a2:List (A8×Int)) {b0:Nat} {b2:Nat} {u1_0:Value} {fp1:List Nat} {K:List (A8×Int)→Prop} (h:Jc a0 a1 a2 K) (w0:World) (q0:(Ze (kvA .i64) (vvI .i64) b0 a0).holds w0) (q1:((EI .i64).ty.sl).rep a1 [u1_0] fp1 w0) (q2:(Ze (kvA .i64) (vvI .i64) b2 a2).holds w0) :
  Calls ZId 192 #[.map (some b0),u1_0,.map (some b2)] w0 fun e w'=>∃ (r0:List (A8×Int)) (zb0:Nat),
   e=.returned (.map (some zb0))∧K r0∧(Ze (kvA .i64) (vvI .i64) zb0 r0).holds w'∧w0.heap.size≤zb0∧Bel w0 w':=by
 unfold Jc at h
 refine Z4 (args:=[.map (some b0),u1_0,.map (some b2)]) ZKx rfl 48 Tryz.ntmps192 (ZIc rfl) ?_
 have hC:=ZIt (X:=Nox) w0 [ZH7 ((EI .i64).ty.sl) a1 [u1_0] fp1,Ze (kvA .i64) (vvI .i64) b0 a0,Ze (kvA .i64) (vvI .i64) b2 a2] (by simp only [Zyz,ZAt,or_false,forall_eq_or_imp,forall_eq]; exact⟨q1,q0,q2⟩)
 refine sr (Zc (v:=.map none) rfl (dn (sr (Zfj hC (kvA .i64) (vvI .i64) fun b4 w6 hB_ hC=>Zc (v:=.map (some b4)) rfl (dn (ZIa (sr (Zb (v:=.map (some b0)) rfl (Zfk hC 1 rfl ZKw rfl fun r7 es8 ck9 w10 hB_ hn10 hbn10 hC=>dn ?_)))))))))
 refine ZIj ?_
 refine Zfo (S:=(List (A8×Int))) _ _ (fun l12 s11 e_ w_=>∃ (la10:Option MapEntry),Z3 e_ [(1,u1_0),(2,.map (some b2)),(7,.map (some b4)),(16,.pointer (some ⟨r7,0,none⟩))]∧Ctx Nox w0 w_ [itI (kvA .i64) (vvI .i64) r7 b0 es8 ck9 la10 l12,Ze (kvA .i64) (vvI .i64) b4 s11] [Y3 b0 es8 ck9,ZH7 ((EI .i64).ty.sl) a1 [u1_0] fp1,Ze (kvA .i64) (vvI .i64) b0 a0,Ze (kvA .i64) (vvI .i64) b2 a2]) ?_ (l0:=a0) (s0:=([]:List (A8×Int))) ?_ h
 ·clear hC h
  rintro l12 s11 e_ w11 nx11 K10 ⟨la10,hS_,hC⟩ h hK11
  rw [ue hS_]
  refine sr ?_
  refine Zfl hC 0 0 rfl rfl hn10 hbn10 rfl (fun hr10=>?_) (fun q10 l10 ent10 w12 hp11 hk10 hv10 hC=>?_)
  ·replace h:=h.1 hr10
   refine Xk (v:=.bool false) rfl rfl (dn (ZIa (Yi rfl rfl ?_)))
   refine ZIr (Zj (Zj (Z9 ?_)))
   refine Zd (sr (Zb (v:=.map (some b4)) rfl (Zc (v:=.map (some b4)) rfl (dn (ZIi ?_)))))
   refine Zp (fn:=Tryz.f192) rfl ?_ ⟨s11,b4,rfl,h,(hC.getM 1 rfl),(Zfi hC 1 rfl),hC.below⟩ (.inl rfl)
   exact Zi rfl
  ·replace h:=h.2 q10 l10 hp11
   refine Xk (v:=.bool true) rfl rfl (dn (ZIa (Yr rfl rfl (ZIe (Zd (ZIj (sr (Zfm hC 0 0 q10 rfl rfl hn10 rfl hk10 hv10 (Xk (v:=.agg (ZH8 (ZH6 .i64 q10.1))) rfl rfl (Xk (v:=.int .i64 q10.2) rfl rfl (Yj hC (ZH6 .i64 ZIg) z73 rfl fun b10 w13 hB_ hC=>?_)))))))))))
   refine Zw (v:=.agg (ZH8 (ZH6 .i64 q10.1))) hC 0 (ZH6 .i64 q10.1) (ZH6 .i64 q10.1) rfl ag73.size rfl rfl rfl rfl rfl (ZIc rfl) rfl fun w14 hC=>Zc (v:=.int .i64 q10.2) rfl (dn (sr (Zb (v:=.map (some b2)) rfl (Zfk hC 3 rfl ZKw rfl fun r12 es10 ck10 w15 hB_ hn11 hbn11 hC=>dn (ZIj ?_)))))
   refine Zfo (S:=(List (A8×Int))) _ _ (fun l13 s10 e_ w_=>∃ (la11:Option MapEntry),Z3 e_ [(1,u1_0),(2,.map (some b2)),(7,.map (some b4)),(8,.pointer (some ⟨b10,0,none⟩)),(9,.int .i64 q10.2),(16,.pointer (some ⟨r7,0,none⟩)),(23,.pointer (some ⟨r12,0,none⟩))]∧Ctx Nox w0 w_ [itI (kvA .i64) (vvI .i64) r12 b2 es10 ck10 la11 l13,blk b10 73 (ZH6 .i64 q10.1),itI (kvA .i64) (vvI .i64) r7 b0 es8 ck9 (some ent10) l10,Ze (kvA .i64) (vvI .i64) b4 s10] [Y3 b2 es10 ck10,Y3 b0 es8 ck9,ZH7 ((EI .i64).ty.sl) a1 [u1_0] fp1,Ze (kvA .i64) (vvI .i64) b0 a0,Ze (kvA .i64) (vvI .i64) b2 a2]) ?_ (l0:=a2) (s0:=s11) ?_ h
   ·clear hC h
    rintro l13 s10 e_ w16 nx10 K11 ⟨la11,hS_,hC⟩ h hK10
    rw [ue hS_]
    refine sr ?_
    refine Zfl hC 0 0 rfl rfl hn11 hbn11 rfl (fun hr11=>?_) (fun q11 l11 ent11 w17 hp10 hk11 hv11 hC=>?_)
    ·replace h:=h.1 hr11
     refine Xk (v:=.bool false) rfl rfl (dn (ZIa (Yi rfl rfl ?_)))
     refine ZIr (Zj (Zj (Z9 ?_)))
     refine Zs ?_
     replace hC:=hC.sM [2,3] (M':=[itI (kvA .i64) (vvI .i64) r7 b0 es8 ck9 (some ent10) l10,Ze (kvA .i64) (vvI .i64) b4 s10]) (by decide) rfl
     replace hC:=hC.sP [1,2,3,4] (Ps':=[Y3 b0 es8 ck9,ZH7 ((EI .i64).ty.sl) a1 [u1_0] fp1,Ze (kvA .i64) (vvI .i64) b0 a0,Ze (kvA .i64) (vvI .i64) b2 a2]) rfl
     exact hK11 q10 l10 s10 _ _ hp11 ⟨(some ent10),(sl ⟨rfl,rfl,rfl,rfl,trivial⟩),hC⟩ h
    ·replace h:=h.2 q11 l11 hp10
     refine Xk (v:=.bool true) rfl rfl (dn (ZIa (Yr rfl rfl (ZIe (Zd (ZIj (sr (Zfm hC 0 0 q11 rfl rfl hn11 rfl hk11 hv11 (Xk (v:=.agg (ZH8 (ZH6 .i64 q11.1))) rfl rfl (Xk (v:=.int .i64 q11.2) rfl rfl (Yj hC (ZH6 .i64 ZIg) z73 rfl fun b11 w18 hB_ hC=>?_)))))))))))
     refine Zw (v:=.agg (ZH8 (ZH6 .i64 q11.1))) hC 0 (ZH6 .i64 q11.1) (ZH6 .i64 q11.1) rfl ag73.size rfl rfl rfl rfl rfl (ZIc rfl) rfl fun w19 hC=>Zc (v:=.int .i64 q11.2) rfl (dn (sr (Yy hC 2 (ZH6 .i64 q10.1) rfl ag73 rfl rfl rfl (Zb (v:=u1_0) rfl (Yy hC 0 (ZH6 .i64 q11.1) rfl ag73 rfl rfl rfl ?_)))))
     refine Zg [.agg (ZH8 (ZH6 .i64 q10.1)),u1_0,.agg (ZH8 (ZH6 .i64 q11.1))] _ Tryz.func199 rfl rfl rfl (Zsy q10.1 a1 q11.1 h _ (hC.getP 2 rfl)) (fun ret10 w20 hR10=>?_)
     obtain ⟨r10,r11,rfl,h,hB10⟩:=hR10
     refine⟨_,rfl,?_⟩
     replace hC:=hC.grow hB10
     refine Zb (v:=.tuple #[.agg (ZH8 (ZH6 .i64 r10)),.int .i64 r11]) rfl (Xk (v:=.agg (ZH8 (ZH6 .i64 r10))) rfl rfl (Xk (v:=.int .i64 r11) rfl rfl (Yj hC (ZH6 .i64 ZIg) z73 rfl fun b12 w21 hB_ hC=>Zw (v:=.agg (ZH8 (ZH6 .i64 r10))) hC 0 (ZH6 .i64 r10) (ZH6 .i64 r10) rfl ag73.size rfl rfl rfl rfl rfl (ZIc rfl) rfl fun w22 hC=>Zc (v:=.int .i64 r11) rfl (dn (sr (Zb (v:=.int .i64 r11) rfl (Xl rfl rfl (dn ?_))))))))
     refine Zr rfl (fun hb10=>?_) (fun hb10=>?_)
     ·replace h:=ift h (ct hb10)
      refine Zh (Zb (v:=.map (some b4)) rfl (Yy hC 0 (ZH6 .i64 r10) rfl ag73 rfl rfl rfl (Zb (v:=.int .i64 r11) rfl (Zb (v:=.int .i64 q10.2) rfl (Ju rfl rfl (Zb (v:=.int .i64 q11.2) rfl (Ju rfl rfl (X0 rfl rfl (by decide) ?_))))))))
      refine Zg [.map (some b4),.agg (ZH8 (ZH6 .i64 r10)),.int .i64 (Zyy (ZA7.wrap ((ZA7.wrap (r11 * q10.2)) * q11.2)) 10007)] _ ZK8 rfl rfl rfl (Znx s10 r10 (Zyy (ZA7.wrap ((ZA7.wrap (r11 * q10.2)) * q11.2)) 10007) h _ (hC.getM 5 rfl)) (fun ret11 w23 hR11=>?_)
      obtain ⟨m10,rfl,h,hm10,hB11⟩:=hR11
      refine⟨_,rfl,?_⟩
      replace hC:=hC.turnB 5 rfl hB11 rfl rfl hm10
      refine done (Zs ?_)
      replace hC:=hC.sM [2,3,4,5] (M':=[itI (kvA .i64) (vvI .i64) r12 b2 es10 ck10 (some ent11) l11,blk b10 73 (ZH6 .i64 q10.1),itI (kvA .i64) (vvI .i64) r7 b0 es8 ck9 (some ent10) l10,Ze (kvA .i64) (vvI .i64) b4 m10]) (by decide) rfl
      exact hK10 q11 l11 m10 _ _ hp10 ⟨(some ent11),(sl ⟨rfl,rfl,rfl,rfl,rfl,rfl,rfl,trivial⟩),hC⟩ h
     ·replace h:=Zk h (cf hb10)
      refine ZIe (Zs ?_)
      replace hC:=hC.sM [2,3,4,5] (M':=[itI (kvA .i64) (vvI .i64) r12 b2 es10 ck10 (some ent11) l11,blk b10 73 (ZH6 .i64 q10.1),itI (kvA .i64) (vvI .i64) r7 b0 es8 ck9 (some ent10) l10,Ze (kvA .i64) (vvI .i64) b4 s10]) (by decide) rfl
      exact hK10 q11 l11 s10 _ _ hp10 ⟨(some ent11),(sl ⟨rfl,rfl,rfl,rfl,rfl,rfl,rfl,trivial⟩),hC⟩ h
   ·skip
    exact⟨none,(sl ⟨rfl,rfl,rfl,rfl,rfl,rfl,rfl,trivial⟩),hC⟩
 ·skip
  exact⟨none,(sl ⟨rfl,rfl,rfl,rfl,trivial⟩),hC⟩
def Zdu (a0:Int) (a1:Int) (a2:Int) (K:Bool→Prop):Prop :=
 (if a0≥a1 then K (decide (a0≤a2)) else K false)
theorem Zkw (a0:Int) (a1:Int) (a2:Int)  {K:Bool→Prop} (h:Zdu a0 a1 a2 K) (w0:World)  :
  Calls ZId 46 #[.int .i64 a0,.int .i64 a1,.int .i64 a2] w0 fun e w'=>∃ (r0:Bool),
   e=.returned (.bool r0)∧K r0∧Bel w0 w':=by
 unfold Zdu at h
 refine Z4 (args:=[.int .i64 a0,.int .i64 a1,.int .i64 a2]) Tryz.func46 rfl 15 Tryz.ntmps46 (ZIc rfl) ?_
 have hC:=ZIt (X:=Nox) w0 [] (by simp)
 refine sr (Zc (v:=.bool false) rfl (dn (sr (Zb (v:=.int .i64 a0) rfl (Zb (v:=.int .i64 a1) rfl (Zat rfl rfl (Zb (v:=.bool (decide (a0≥a1))) rfl ?_)))))))
 refine Xh (decide (a0≥a1)) (fun hb1=>?_) (fun hb1=>?_)
 ·replace h:=ift h (ct hb1)
  refine Zl 3 10 rfl rfl hb1 (Zb (v:=.int .i64 a0) rfl (Zl 3 10 rfl rfl hb1 (Zb (v:=.int .i64 a2) rfl (Zl 3 10 rfl rfl hb1 (Zb4 rfl rfl (Yc (v:=.bool (decide (a0≤a2))) (b:=true) (tr rfl (congrArg _ hb1)) rfl (Zc (v:=.bool (decide (a0≤a2))) rfl (dn (ZIi ?_)))))))))
  refine Zp (fn:=Tryz.f46) rfl ?_ ⟨decide (a0≤a2),rfl,h,hC.below⟩ (.inl rfl)
  exact Zi rfl
 ·replace h:=Zk h (cf hb1)
  refine Zn (b:=false) 3 10 rfl (tr rfl (congrArg _ hb1)) (by decide) (Zn (b:=false) 3 10 rfl (tr rfl (congrArg _ hb1)) (by decide) (Zn (b:=false) 3 10 rfl (tr rfl (congrArg _ hb1)) (by decide) (Yc (v:=.bool false) (b:=false) (tr rfl (congrArg _ hb1)) rfl (Zc (v:=.bool false) rfl (dn (ZIi ?_))))))
  refine Zp (fn:=Tryz.f46) rfl ?_ ⟨false,rfl,h,hC.below⟩ (.inl rfl)
  exact Zi rfl
def Zir (a0:List Int) (p1:Int→(Bool→Prop)→Prop) (K:Int→Prop):Prop :=
 Yt (fun i10 (s10:Unit) nx10=>p1 (a0.getD i10 Zyt) (fun r10=>(if r10=true then K (i10:Int) else nx10 ()))) (fun (s10:Unit)=>K (-1)) a0.length 0 ()
theorem Zs0 (a0:List Int) (p1:Int→(Bool→Prop)→Prop) {u0_0:Value} {fp0:List Nat} {K:Int→Prop} (h:Zir a0 p1 K) (w0:World) (q0:((EI .i64).ty.sl).rep a0 [u0_0] fp0 w0) {g1:Nat} {cp1:List Value} {fn1:Func} (hf1:ZId.funcs[g1]?=some fn1) (hb1:fn1.body.isNone=false) (hn1:(fn1.name == "runtime.NumGoroutine")=false) (hp1:∀ (y0:Int) (K_:Bool→Prop) (w_:World),Bel w0 w_→p1 y0 K_→Calls ZId g1 (ZH8 ([.int .i64 y0]++cp1)) w_ fun e w'=>∃ (z0:Bool),e=.returned (.bool z0)∧K_ z0∧Bel w_ w') :
  Calls ZId 185 #[u0_0,.func (.func g1) #[] (ZH8 cp1)] w0 fun e w'=>∃ (r0:Int),
   e=.returned (.int .i64 r0)∧K r0∧Bel w0 w':=by
 unfold Zir at h
 refine Z4 (args:=[u0_0,.func (.func g1) #[] (ZH8 cp1)]) Tryz.func185 rfl 19 Tryz.ntmps185 (ZIc rfl) ?_
 have hC:=ZIt (X:=Nox) w0 [ZH7 ((EI .i64).ty.sl) a0 [u0_0] fp0] (by simp only [Zyz,ZAt,or_false,forall_eq_or_imp,forall_eq]; exact q0)
 refine sr (Zc (v:=.int .i64 0) rfl (dn (ZIa (sr (Zb (v:=u0_0) rfl ?_)))))
 obtain ⟨Ad2,c3,hv4⟩:=Z1 (hC.getP 0 rfl)
 refine Zx ZIs (tr rfl hv4) (Zb (v:=.int .i64 0) rfl (dn (ZIj ?_)))
 have hN10:a0.length≤9223372036854775807:=Xp (hC.getP 0 rfl)
 refine Y9 (S:=Unit) _ _ (fun i10 s10 e_ w_=>Z3 e_ [(0,u0_0),(1,.func (.func g1) #[] (ZH8 cp1)),(7,.int .i64 (a0.length:Int)),(8,.int .i64 (i10:Int))]∧Ctx Nox w0 w_ [] [ZH7 ((EI .i64).ty.sl) a0 [u0_0] fp0]) a0.length ?_ ?_ (s0:=()) ?_ h
 ·clear hC h
  rintro i10 s10 e_ w10 nx10 K10 hi10 ⟨hS_,hC⟩ h hK10
  rw [ue hS_]
  refine sr (Zt rfl rfl (dn (ZIa (Yr rfl (decide_eq_true (by omega)) (ZIe (Zd (ZIa (ZIj (sr (Zb (v:=.int .i64 (i10:Int)) rfl (Zc (v:=.int .i64 (i10:Int)) rfl ?_)))))))))))
  refine dn (sr (Zb (v:=.func (.func g1) #[] (ZH8 cp1)) rfl (Zb (v:=u0_0) rfl (Zb (v:=.int .i64 (i10:Int)) rfl ?_))))
  obtain ⟨Ad10,c10,hv10⟩:=Z0 (hC.getP 0 rfl) i10 hi10
  refine Xb (len:=a0.length) ZIs sc2.size (tr rfl hv10) rfl (ZIv _) (ZJi.2 hi10) (Xm (.int .i64 (a0.getD i10 Zyt)) (Yf (hC.getP 0 rfl) hv10 i10 hi10) sc2 rfl ?_)
  refine Zj4 [.int .i64 (a0.getD i10 Zyt)] _ rfl hf1 hb1 hn1 rfl (hp1 _ _ _ hC.below  h) (fun ret10 w11 hR10=>?_)
  obtain ⟨r10,rfl,h,hB10⟩:=hR10
  refine⟨_,rfl,?_⟩
  replace hC:=hC.grow hB10
  refine dn ?_
  refine Zr rfl (fun hb10=>?_) (fun hb10=>?_)
  ·replace h:=ift h (hb10)
   refine sr (Zb (v:=.int .i64 (i10:Int)) rfl (Zc (v:=.int .i64 (i10:Int)) rfl (dn ?_)))
   refine ZIi (Yd (Zo (Zo (Yd (Zo ?_)))))
   refine Zp (fn:=Tryz.f185) rfl ?_ ⟨(i10:Int),rfl,h,hC.below⟩ (.inl rfl)
   exact Zi rfl
  ·replace h:=Zk h (Xz hb10)
   refine ZIe (Zs (Zd (Zh (Zq rfl rfl (Zb (v:=.int .i64 (ZA7.wrap ((i10:Int)+1))) rfl (done ?_))))))
   exact hK10 () _ _ ⟨(sl ⟨rfl,rfl,rfl,(tr rfl (congrArg _ (Yh hi10 hN10))),trivial⟩),hC⟩ h
 ·clear hC h
  rintro s10 e_ w12 K10 ⟨hS_,hC⟩ h
  rw [ue hS_]
  refine sr (Zt rfl rfl (dn (ZIa (Yi rfl (decide_eq_false (by omega)) ?_))))
  refine ZIr (Zj (Zj (Z9 ?_)))
  refine Zd (sr (Zc (v:=.int .i64 (-1)) rfl (dn (ZIi ?_))))
  refine Zp (fn:=Tryz.f185) rfl ?_ ⟨(-1),rfl,h,hC.below⟩ (.inl rfl)
  exact Zi rfl
 ·skip
  exact⟨(sl ⟨rfl,rfl,rfl,rfl,trivial⟩),hC⟩
def Zis (a0:List Int) (p1:Int→(Bool→Prop)→Prop) (K:Bool→Prop):Prop :=
 Zir a0 p1 (fun r5=>K (decide (r5≥0)))
theorem Zs1 (a0:List Int) (p1:Int→(Bool→Prop)→Prop) {u0_0:Value} {fp0:List Nat} {K:Bool→Prop} (h:Zis a0 p1 K) (w0:World) (q0:((EI .i64).ty.sl).rep a0 [u0_0] fp0 w0) {g1:Nat} {cp1:List Value} {fn1:Func} (hf1:ZId.funcs[g1]?=some fn1) (hb1:fn1.body.isNone=false) (hn1:(fn1.name == "runtime.NumGoroutine")=false) (hp1:∀ (y0:Int) (K_:Bool→Prop) (w_:World),Bel w0 w_→p1 y0 K_→Calls ZId g1 (ZH8 ([.int .i64 y0]++cp1)) w_ fun e w'=>∃ (z0:Bool),e=.returned (.bool z0)∧K_ z0∧Bel w_ w') :
  Calls ZId 181 #[u0_0,.func (.func g1) #[] (ZH8 cp1)] w0 fun e w'=>∃ (r0:Bool),
   e=.returned (.bool r0)∧K r0∧Bel w0 w':=by
 unfold Zis at h
 refine Z4 (args:=[u0_0,.func (.func g1) #[] (ZH8 cp1)]) Tryz.func181 rfl 9 Tryz.ntmps181 (ZIc rfl) ?_
 have hC:=ZIt (X:=Nox) w0 [ZH7 ((EI .i64).ty.sl) a0 [u0_0] fp0] (by simp only [Zyz,ZAt,or_false,forall_eq_or_imp,forall_eq]; exact q0)
 refine sr (Zc (v:=.bool false) rfl (dn (sr (Zb (v:=u0_0) rfl (Zb (v:=.func (.func g1) #[] (ZH8 cp1)) rfl ?_)))))
 refine Zg [u0_0,.func (.func g1) #[] (ZH8 cp1)] _ Tryz.func185 rfl rfl rfl (Zs0 a0 p1 h _ (hC.getP 0 rfl) hf1 hb1 hn1 (fun x0_ K_ w_ hb_=>hp1 x0_ K_ w_ (Zmw hC.below hb_))) (fun Jo w4 hR3=>?_)
 obtain ⟨r5,rfl,h,hB6⟩:=hR3
 refine⟨_,rfl,?_⟩
 replace hC:=hC.grow hB6
 refine Zat rfl rfl (Zc (v:=.bool (decide (r5≥0))) rfl (dn (ZIi ?_)))
 refine Zp (fn:=Tryz.f181) rfl ?_ ⟨decide (r5≥0),rfl,h,hC.below⟩ (.inl rfl)
 exact Zi rfl
def Zga (a0:Int) (K:Bool→Prop):Prop :=
 Zdu a0 1 12 (fun r4=>K (!r4))
theorem Zs2 (a0:Int)  {K:Bool→Prop} (h:Zga a0 K) (w0:World)  :
  Calls ZId 190 #[.int .i64 a0] w0 fun e w'=>∃ (r0:Bool),
   e=.returned (.bool r0)∧K r0∧Bel w0 w':=by
 unfold Zga at h
 refine Z4 (args:=[.int .i64 a0]) Tryz.func190 rfl 6 Tryz.ntmps190 (ZIc rfl) ?_
 have hC:=ZIt (X:=Nox) w0 [] (by simp)
 refine sr (Zc (v:=.bool false) rfl (dn (sr (Zb (v:=.int .i64 a0) rfl ?_))))
 refine Zg [.int .i64 a0,.int .i64 1,.int .i64 12] _ Tryz.func46 rfl rfl rfl (Zkw a0 1 12 h _) (fun Zp w3 hR2=>?_)
 obtain ⟨r4,rfl,h,hB5⟩:=hR2
 refine⟨_,rfl,?_⟩
 replace hC:=hC.grow hB5
 refine Jf rfl (Zc (v:=.bool (!r4)) rfl (dn (ZIi ?_)))
 refine Zp (fn:=Tryz.f190) rfl ?_ ⟨!r4,rfl,h,hC.below⟩ (.inl rfl)
 exact Zi rfl
def Zgb (a0:List Int) (K:Bool→Prop):Prop :=
 (if(a0.length:Int)≤8 then Zis a0 Zga (fun r9=>K (!r9)) else K false)
theorem Zs3 (a0:List Int) {u0_0:Value} {fp0:List Nat} {K:Bool→Prop} (h:Zgb a0 K) (w0:World) (q0:((EI .i64).ty.sl).rep a0 [u0_0] fp0 w0) :
  Calls ZId 151 #[u0_0] w0 fun e w'=>∃ (r0:Bool),
   e=.returned (.bool r0)∧K r0∧Bel w0 w':=by
 unfold Zgb at h
 refine Z4 (args:=[u0_0]) Tryz.func151 rfl 11 Tryz.ntmps151 (ZIc rfl) ?_
 have hC:=ZIt (X:=Nox) w0 [ZH7 ((EI .i64).ty.sl) a0 [u0_0] fp0] (by simp only [Zyz,ZAt,or_false,forall_eq_or_imp,forall_eq]; exact q0)
 refine sr (Zc (v:=.bool false) rfl (dn (sr (Zb (v:=u0_0) rfl ?_))))
 obtain ⟨Ad2,c3,hv4⟩:=Z1 (hC.getP 0 rfl)
 refine Zx ZIs (tr rfl hv4) (Zb4 rfl rfl (Zb (v:=.bool (decide ((a0.length:Int)≤8))) rfl ?_))
 refine Xh (decide ((a0.length:Int)≤8)) (fun hb5=>?_) (fun hb5=>?_)
 ·replace h:=ift h (ct hb5)
  refine Zl 3 6 rfl rfl hb5 (Zb (v:=u0_0) rfl (Zl 3 6 rfl rfl hb5 ?_))
  refine Zg [u0_0,.func (.func 190) #[] (ZH8 [])] _ Tryz.func181 rfl rfl rfl (Zs1 a0 Zga h _ (hC.getP 0 rfl) Tryz.func190 rfl rfl (fun x0_ K_ w_ _ hq_=>Zs2 x0_ hq_ w_)) (fun ret6 w8 hR7=>?_)
  obtain ⟨r9,rfl,h,hB10⟩:=hR7
  refine⟨_,rfl,?_⟩
  replace hC:=hC.grow hB10
  refine Zl 3 6 rfl rfl hb5 (Jf rfl (Yc (v:=.bool (!r9)) (b:=true) (tr rfl (congrArg _ hb5)) rfl (Zc (v:=.bool (!r9)) rfl (dn (ZIi ?_)))))
  refine Zp (fn:=Tryz.f151) rfl ?_ ⟨!r9,rfl,h,hC.below⟩ (.inl rfl)
  exact Zi rfl
 ·replace h:=Zk h (cf hb5)
  refine Zn (b:=false) 3 6 rfl (tr rfl (congrArg _ hb5)) (by decide) (Zn (b:=false) 3 6 rfl (tr rfl (congrArg _ hb5)) (by decide) (Zn (b:=false) 3 6 rfl (tr rfl (congrArg _ hb5)) (by decide) (Yc (v:=.bool false) (b:=false) (tr rfl (congrArg _ hb5)) rfl (Zc (v:=.bool false) rfl (dn (ZIi ?_))))))
  refine Zp (fn:=Tryz.f151) rfl ?_ ⟨false,rfl,h,hC.below⟩ (.inl rfl)
  exact Zi rfl
def Zgc (a0:List Int) (a1:A8) (K:Bool→Prop):Prop :=
 Yt (fun i10 (s10:Unit) nx10=>(if(i10:Int) < (a0.length:Int) then((0≤(i10:Int)∧(i10:Int) < (a0.length:Int))∧(if Zyy (a0.getD i10 Zyt) 2=1 then(if a1.get i10 > 1 then K false else nx10 ()) else(if a1.get i10 > 20 then K false else nx10 ()))) else(if a1.get i10 > 0 then K false else nx10 ()))) (fun (s10:Unit)=>K true) 8 0 ()
theorem Zs4 (a0:List Int) (a1:A8) {u0_0:Value} {fp0:List Nat} {K:Bool→Prop} (h:Zgc a0 a1 K) (w0:World) (q0:((EI .i64).ty.sl).rep a0 [u0_0] fp0 w0) :
  Calls ZId 156 #[u0_0,.agg (ZH8 (ZH6 .u8 a1))] w0 fun e w'=>∃ (r0:Bool),
   e=.returned (.bool r0)∧K r0∧Bel w0 w':=by
 unfold Zgc at h
 refine Z4 (args:=[u0_0,.agg (ZH8 (ZH6 .u8 a1))]) Tryz.func156 rfl 27 Tryz.ntmps156 (ZIc rfl) ?_
 have hC:=ZIt (X:=Nox) w0 [ZH7 ((EI .i64).ty.sl) a0 [u0_0] fp0] (by simp only [Zyz,ZAt,or_false,forall_eq_or_imp,forall_eq]; exact q0)
 refine sr (Yl (v:=.agg (ZH8 (ZH6 .u8 a1))) hC (ZH6 .u8 a1) rfl rfl fun b2 w4 hB_ hC=>Zc (v:=.bool false) rfl (dn (ZIa (sr (Yy hC 0 (ZH6 .u8 a1) rfl ag136 rfl rfl rfl (Zb (v:=.int .i64 0) rfl (dn (ZIj ?_))))))))
 refine Y9 (S:=Unit) _ _ (fun i10 s10 e_ w_=>Z3 e_ [(0,u0_0),(8,.agg (ZH8 (ZH6 .u8 a1))),(9,.int .i64 (i10:Int))]∧Ctx Nox w0 w_ [] [ZH7 ((EI .i64).ty.sl) a0 [u0_0] fp0]) 8 ?_ ?_ (s0:=()) ?_ h
 ·clear hC h
  rintro i10 s10 e_ w10 nx10 K10 hi10 ⟨hS_,hC⟩ h hK10
  rw [ue hS_]
  refine sr (Zt rfl rfl (dn (ZIa (Yr rfl (decide_eq_true (by omega)) (ZIe (Zd (ZIa (ZIj (sr (Zb (v:=.int .i64 (i10:Int)) rfl (Zjw (.int .u8 (a1.get i10)) ZIn rfl rfl (ZIv _) (by omega) sc5 (ZIu _ _ hi10) ?_)))))))))))
  refine Zc (v:=.int .i64 (i10:Int)) rfl (Zc (v:=.int .u8 (a1.get i10)) rfl (dn (sr (Zc (v:=.int .u8 0) rfl (dn (ZIa (sr (Zb (v:=.int .i64 (i10:Int)) rfl (Zb (v:=u0_0) rfl ?_)))))))))
  obtain ⟨Ad10,c10,hv11⟩:=Z1 (hC.getP 0 rfl)
  refine Zx ZIs (tr rfl hv11) (Zt rfl rfl (dn ?_))
  refine Zr rfl (fun hb10=>?_) (fun hb10=>?_)
  ·replace h:=ift h (ct hb10)
   refine sr (Zc (v:=.int .u8 20) rfl (dn (sr (Zb (v:=u0_0) rfl (Zb (v:=.int .i64 (i10:Int)) rfl ?_)))))
   obtain ⟨⟨h10,h11⟩,h⟩:=h
   obtain ⟨Ad11,c11,hv10⟩:=Z0 (hC.getP 0 rfl) i10 (show i10 < a0.length by omega)
   refine Xb (len:=a0.length) ZIs sc2.size (tr rfl hv10) rfl h10 h11 (Xm (.int .i64 (a0.getD i10 Zyt)) (Yf (hC.getP 0 rfl) hv10 i10 (show i10 < a0.length by omega)) sc2 rfl (X0 rfl rfl (by decide) (Jm rfl rfl (dn ?_))))
   refine Zr rfl (fun hb11=>?_) (fun hb11=>?_)
   ·replace h:=ift h (ct hb11)
    refine Zh (Zc (v:=.int .u8 1) rfl (dn (sr (Zb (v:=.int .u8 (a1.get i10)) rfl (Zb (v:=.int .u8 1) rfl (Jj rfl rfl (dn ?_)))))))
    refine Zr rfl (fun hb12=>?_) (fun hb12=>?_)
    ·replace h:=ift h (ct hb12)
     refine sr (Zc (v:=.bool false) rfl (dn ?_))
     refine ZIi (Yd (Zo (Zo (Yd (Zo ?_)))))
     refine Zp (fn:=ZK3) rfl ?_ ⟨false,rfl,h,hC.below⟩ (.inl rfl)
     exact Zi rfl
    ·replace h:=Zk h (cf hb12)
     refine ZIe (Zs (Zd (Zh (Zq rfl rfl (Zb (v:=.int .i64 (ZA7.wrap ((i10:Int)+1))) rfl (done ?_))))))
     exact hK10 () _ _ ⟨(sl ⟨rfl,rfl,(tr rfl (congrArg _ (Yh hi10 (by decide)))),trivial⟩),hC⟩ h
   ·replace h:=Zk h (cf hb11)
    refine ZIe (Zd (sr (Zb (v:=.int .u8 (a1.get i10)) rfl (Zb (v:=.int .u8 20) rfl (Jj rfl rfl (dn ?_))))))
    refine Zr rfl (fun hb13=>?_) (fun hb13=>?_)
    ·replace h:=ift h (ct hb13)
     refine sr (Zc (v:=.bool false) rfl (dn ?_))
     refine ZIi (Yd (Zo (Zo (Yd (Zo ?_)))))
     refine Zp (fn:=ZK3) rfl ?_ ⟨false,rfl,h,hC.below⟩ (.inl rfl)
     exact Zi rfl
    ·replace h:=Zk h (cf hb13)
     refine ZIe (Zs (Zd (Zh (Zq rfl rfl (Zb (v:=.int .i64 (ZA7.wrap ((i10:Int)+1))) rfl (done ?_))))))
     exact hK10 () _ _ ⟨(sl ⟨rfl,rfl,(tr rfl (congrArg _ (Yh hi10 (by decide)))),trivial⟩),hC⟩ h
  ·replace h:=Zk h (cf hb10)
   refine ZIe (Zd (sr (Zb (v:=.int .u8 (a1.get i10)) rfl (Zb (v:=.int .u8 0) rfl (Jj rfl rfl (dn ?_))))))
   refine Zr rfl (fun hb14=>?_) (fun hb14=>?_)
   ·replace h:=ift h (ct hb14)
    refine sr (Zc (v:=.bool false) rfl (dn ?_))
    refine ZIi (Yd (Zo (Zo (Yd (Zo ?_)))))
    refine Zp (fn:=ZK3) rfl ?_ ⟨false,rfl,h,hC.below⟩ (.inl rfl)
    exact Zi rfl
   ·replace h:=Zk h (cf hb14)
    refine ZIe (Zs (Zd (Zh (Zq rfl rfl (Zb (v:=.int .i64 (ZA7.wrap ((i10:Int)+1))) rfl (done ?_))))))
    exact hK10 () _ _ ⟨(sl ⟨rfl,rfl,(tr rfl (congrArg _ (Yh hi10 (by decide)))),trivial⟩),hC⟩ h
 ·clear hC h
  rintro s10 e_ w11 K10 ⟨hS_,hC⟩ h
  rw [ue hS_]
  refine sr (Zt rfl rfl (dn (ZIa (Yi rfl (decide_eq_false (by omega)) ?_))))
  refine ZIr (Zj (Zj (Z9 ?_)))
  refine Zd (sr (Zc (v:=.bool true) rfl (dn (ZIi ?_))))
  refine Zp (fn:=ZK3) rfl ?_ ⟨true,rfl,h,hC.below⟩ (.inl rfl)
  exact Zi rfl
 ·skip
  replace hC:=hC.sM [] (M':=[]) (by decide) rfl
  exact⟨(sl ⟨rfl,rfl,rfl,trivial⟩),hC⟩
def Zit (a0:Int) (K:Bool→Prop):Prop :=
 Zdu a0 1 10006 (fun r4=>K r4)
theorem Zs5 (a0:Int)  {K:Bool→Prop} (h:Zit a0 K) (w0:World)  :
  Calls ZId 157 #[.int .i64 a0] w0 fun e w'=>∃ (r0:Bool),
   e=.returned (.bool r0)∧K r0∧Bel w0 w':=by
 unfold Zit at h
 refine Z4 (args:=[.int .i64 a0]) Tryz.func157 rfl 5 Tryz.ntmps157 (ZIc rfl) ?_
 have hC:=ZIt (X:=Nox) w0 [] (by simp)
 refine sr (Zc (v:=.bool false) rfl (dn (sr (Zb (v:=.int .i64 a0) rfl ?_))))
 refine Zg [.int .i64 a0,.int .i64 1,.int .i64 10006] _ Tryz.func46 rfl rfl rfl (Zkw a0 1 10006 h _) (fun Zp w3 hR2=>?_)
 obtain ⟨r4,rfl,h,hB5⟩:=hR2
 refine⟨_,rfl,?_⟩
 replace hC:=hC.grow hB5
 refine Zc (v:=.bool r4) rfl (dn (ZIi ?_))
 refine Zp (fn:=Tryz.f157) rfl ?_ ⟨r4,rfl,h,hC.below⟩ (.inl rfl)
 exact Zi rfl
def Zeq (a0:List Int) (a1:ZIb) (K:Bool→Prop):Prop :=
 (if(a1.terms.length:Int) > 400 then K false else Yt (fun i10 (s10:Unit) nx10=>Zgc a0 ((a1.terms.getD i10 Zyt).mono) (fun r10=>(if¬ (r10=true) then K false else Zit ((a1.terms.getD i10 Zyt).factor) (fun r13=>(if¬ (r13=true) then K false else(if(i10:Int) > 0 then((0≤ZA7.wrap ((i10:Int) - 1)∧ZA7.wrap ((i10:Int) - 1) < (a1.terms.length:Int))∧Zc7 ((a1.terms.getD ((ZA7.wrap ((i10:Int) - 1)).toNat) Zyt).mono) (fun r11=>Zc7 ((a1.terms.getD i10 Zyt).mono) (fun r12=>Zip r11 r12 (fun r14=>(if r14≥0 then K false else nx10 ()))))) else nx10 ())))))) (fun (s10:Unit)=>K true) a1.terms.length 0 ())
theorem Zny (a0:List Int) (a1:ZIb) {u0_0:Value} {u1_0:Value} {fp0:List Nat} {fp1:List Nat} {K:Bool→Prop} (h:Zeq a0 a1 K) (w0:World) (q0:((EI .i64).ty.sl).rep a0 [u0_0] fp0 w0) (q1:ZIo.rep a1 [u1_0] fp1 w0) :
  Calls ZId 99 #[u0_0,.agg #[u1_0]] w0 fun e w'=>∃ (r0:Bool),
   e=.returned (.bool r0)∧K r0∧Bel w0 w':=by
 unfold Zeq at h
 refine Z4 (args:=[u0_0,.agg #[u1_0]]) Tryz.func99 rfl 48 Tryz.ntmps99 (ZIc rfl) ?_
 have hC:=ZIt (X:=Nox) w0 [ZH7 ((EI .i64).ty.sl) a0 [u0_0] fp0,ZH7 TForm a1 [u1_0] fp1] (by simp only [Zyz,ZAt,or_false,forall_eq_or_imp,forall_eq]; exact⟨q0,q1⟩)
 have hp3:=(hC.getP 1 rfl)
 replace hC:=hC.derive 1 rfl (ZH7 ZH9.ty.sl a1.terms [u1_0] fp1) (fun _=>(Xi hp3)) (fun _ hb_=>hb_)
 refine sr (Yl (v:=.agg #[u1_0]) hC [u1_0] rfl rfl fun b5 w7 hB_ hC=>Zc (v:=.bool false) rfl (dn (ZIa (sr (Z6 0 ZIf rfl sc53.size rfl rfl (Z8 hC 0 (u1_0) rfl sc53 rfl rfl ?_))))))
 obtain ⟨Ad8,c9,hv12⟩:=Z1 (hC.getP 0 rfl)
 refine Zx ZIh (tr rfl hv12) (Jj rfl rfl (dn ?_))
 refine Zr rfl (fun hb12=>?_) (fun hb12=>?_)
 ·replace h:=ift h (ct hb12)
  refine sr (Zc (v:=.bool false) rfl (dn ?_))
  refine ZIi (Zo ?_)
  refine Zp (fn:=ZKz) rfl ?_ ⟨false,rfl,h,hC.below⟩ (.inl rfl)
  exact Zi rfl
 ·replace h:=Zk h (cf hb12)
  refine ZIe (Zd (ZIa (sr (Z6 0 ZIf rfl sc53.size rfl rfl (Z8 hC 0 (u1_0) rfl sc53 rfl rfl ?_)))))
  obtain ⟨Ad11,c10,hv13⟩:=Z1 (hC.getP 0 rfl)
  refine Zx ZIh (tr rfl hv13) (Zb (v:=.int .i64 0) rfl (dn (ZIj ?_)))
  have hN10:a1.terms.length≤9223372036854775807:=Xp (hC.getP 0 rfl)
  refine Y9 (S:=Unit) _ _ (fun i10 s10 e_ w_=>Z3 e_ [(0,u0_0),(3,.pointer (some ⟨b5,0,none⟩)),(12,u1_0),(13,.int .i64 (a1.terms.length:Int)),(14,.int .i64 (i10:Int))]∧Ctx Nox w0 w_ [blk b5 55 [u1_0]] [ZH7 ZH9.ty.sl a1.terms [u1_0] fp1,ZH7 ((EI .i64).ty.sl) a0 [u0_0] fp0,ZH7 TForm a1 [u1_0] fp1]) a1.terms.length ?_ ?_ (s0:=()) ?_ h
  ·clear hC h
   rintro i10 s10 e_ w10 nx10 K10 hi10 ⟨hS_,hC⟩ h hK10
   rw [ue hS_]
   refine sr (Zt rfl rfl (dn (ZIa (Yr rfl (decide_eq_true (by omega)) (ZIe (Zd (ZIa (ZIj (sr (Zb (v:=.int .i64 (i10:Int)) rfl ?_))))))))))
   obtain ⟨Ad12,c11,hv10⟩:=Z0 (hC.getP 0 rfl) i10 hi10
   refine Xb (len:=a1.terms.length) ZIh ag162.size (tr rfl hv10) rfl (ZIv _) (ZJi.2 hi10) (Zav (ZIl (a1.terms.getD i10 Zyt)) (Yf (hC.getP 0 rfl) hv10 i10 hi10) ag162 rfl rfl (Yj hC (ZIl (⟨ZIg,0⟩:Term)) Zen rfl fun b10 w11 hB_ hC=>Zc (v:=.int .i64 (i10:Int)) rfl (Zw (v:=.agg (ZH8 (ZIl (a1.terms.getD i10 Zyt)))) hC 0 (ZIl (a1.terms.getD i10 Zyt)) (ZIl (a1.terms.getD i10 Zyt)) rfl ag162.size rfl rfl rfl rfl rfl (ZIc rfl) rfl fun w12 hC=>dn (ZIa (sr (Zb (v:=u0_0) rfl (Z6 0 ZIp rfl ag136.size rfl rfl (Yy hC 0 (ZH6 .u8 ((a1.terms.getD i10 Zyt).mono)) rfl ag136 rfl rfl rfl ?_))))))))
   refine Zg [u0_0,.agg (ZH8 (ZH6 .u8 ((a1.terms.getD i10 Zyt).mono)))] _ Tryz.func156 rfl rfl rfl (Zs4 a0 ((a1.terms.getD i10 Zyt).mono) h _ (hC.getP 1 rfl)) (fun ret10 w13 hR10=>?_)
   obtain ⟨r10,rfl,h,hB10⟩:=hR10
   refine⟨_,rfl,?_⟩
   replace hC:=hC.grow hB10
   refine Jf rfl (Zb (v:=.bool (!r10)) rfl ?_)
   refine Xh (!r10) (fun hb11=>?_) (fun hb11=>?_)
   ·replace h:=ift h (Xz (Jp hb11))
    refine Zn (b:=true) 5 24 rfl (tr rfl (congrArg _ hb11)) (by decide) (Zn (b:=true) 5 24 rfl (tr rfl (congrArg _ hb11)) (by decide) (Zn (b:=true) 5 24 rfl (tr rfl (congrArg _ hb11)) (by decide) (Zn (b:=true) 5 24 rfl (tr rfl (congrArg _ hb11)) (by decide) (Yc (v:=.bool true) (b:=true) (tr rfl (congrArg _ hb11)) rfl (dn (Yr rfl rfl (sr (Zc (v:=.bool false) rfl (dn ?_)))))))))
    refine ZIi (Zo (Yd (Zo (Zo (Yd (Zo ?_))))))
    refine Zp (fn:=ZKz) rfl ?_ ⟨false,rfl,h,hC.below⟩ (.inl rfl)
    exact Zi rfl
   ·replace h:=Zk h (not_not_intro ((Jq hb11)))
    refine Zl 5 24 rfl rfl hb11 (Z6 8 ZIp rfl sc2.size rfl rfl (Zl 5 24 rfl rfl hb11 (Z8 hC 0 (.int .i64 ((a1.terms.getD i10 Zyt).factor)) rfl sc2 rfl rfl (Zl 5 24 rfl rfl hb11 ?_))))
    refine Zg [.int .i64 ((a1.terms.getD i10 Zyt).factor)] _ Tryz.func157 rfl rfl rfl (Zs5 ((a1.terms.getD i10 Zyt).factor) h _) (fun ret11 w14 hR11=>?_)
    obtain ⟨r13,rfl,h,hB11⟩:=hR11
    refine⟨_,rfl,?_⟩
    replace hC:=hC.grow hB11
    refine Zl 5 24 rfl rfl hb11 (Jf rfl (Yc (v:=.bool (!r13)) (b:=false) (tr rfl (congrArg _ hb11)) rfl (dn ?_)))
    refine Zr rfl (fun hb13=>?_) (fun hb13=>?_)
    ·replace h:=ift h (Xz (Jp hb13))
     refine sr (Zc (v:=.bool false) rfl (dn ?_))
     refine ZIi (Zo (Yd (Zo (Zo (Yd (Zo ?_))))))
     refine Zp (fn:=ZKz) rfl ?_ ⟨false,rfl,h,hC.below⟩ (.inl rfl)
     exact Zi rfl
    ·replace h:=Zk h (not_not_intro ((Jq hb13)))
     refine ZIe (Zd (ZIa ?_))
     refine Yg 13 Ye [0,1,3,7,15,7,39,127,255,511,1023,7,2055,8191,16383,32767,65535] [4,7,9,12] [0,1,2,3,4,5,6,7,8,9,10,11,12] (by kernel_rfl) (by kernel_rfl) (by kernel_rfl) (fun hM11 hM10 w15 hB_=>?_)
     replace hC:=hC.grow hB_
     refine aF 0 (.int .i64 (i10:Int)) rfl rfl (hM10 0 rfl) (rfl) (fun _=>by exact Zf (v:=.int .i64 (i10:Int)) rfl) (Za 17 1) (aF 1 (.bool (decide ((i10:Int) > 0))) rfl rfl (hM10 1 rfl) (rfl) (fun _=>by exact Zmh rfl rfl) (Za 17 3) (aF 2 (.bool (decide ((i10:Int) > 0))) rfl rfl (hM10 2 rfl) (rfl) (fun _=>by exact Zf (v:=.bool (decide ((i10:Int) > 0))) rfl) (Za 17 7) ?_))
     refine Xh (decide ((i10:Int) > 0)) (fun hb10=>?_) (fun hb10=>?_)
     ·replace h:=ift h (ct hb10)
      refine aF 3 (.pointer (some ⟨b5,0,none⟩)) rfl rfl (hM10 3 rfl) (Yn 2 32 rfl rfl hb10) (fun _=>by exact Z7 0 ZIf rfl sc53.size rfl rfl) (Za 17 15) (aL 4 (u1_0) rfl rfl (hM11 4 rfl) (Yn 2 32 rfl rfl hb10) (fun _ hB_=>by exact Z5 (hC.grow hB_) 1 (u1_0) rfl sc53 rfl rfl) (Za 17 31) (aF 5 (.int .i64 (i10:Int)) rfl rfl (hM10 5 rfl) (Yn 2 32 rfl rfl hb10) (fun _=>by exact Zf (v:=.int .i64 (i10:Int)) rfl) (Za 17 63) (aF 6 (.int .i64 (ZA7.wrap ((i10:Int) - 1))) rfl rfl (hM10 6 rfl) (Yn 2 32 rfl rfl hb10) (fun _=>by exact Zci rfl rfl) (Za 17 127) ?_)))
      obtain ⟨⟨h10,h11⟩,h⟩:=h
      obtain ⟨Ad10,c12,hv11⟩:=Z0 (hC.getP 0 rfl) ((ZA7.wrap ((i10:Int) - 1)).toNat) (show (ZA7.wrap ((i10:Int) - 1)).toNat < a1.terms.length by omega)
      refine aL 7 (.pointer (some (Ad10.add ((ZA7.wrap ((i10:Int) - 1)).toNat * 9)))) rfl rfl (hM11 7 rfl) (Yn 2 32 rfl rfl hb10) (fun _ hB_=>by exact Yp (len:=a1.terms.length) ZIh ag162.size (by exact tr rfl hv11) rfl h10 h11) (Za 17 255) (aF 8 (.pointer (some (Ad10.add ((ZA7.wrap ((i10:Int) - 1)).toNat * 9+0)))) rfl rfl (hM10 8 rfl) (Yn 2 32 rfl rfl hb10) (fun _=>by exact Zau ((ZA7.wrap ((i10:Int) - 1)).toNat * 9+0) ZIp rfl ag136.size rfl rfl) (Za 17 511) (aL 9 (.agg (ZH8 (ZH6 .u8 ((a1.terms.getD ((ZA7.wrap ((i10:Int) - 1)).toNat) Zyt).mono)))) rfl rfl (hM11 9 rfl) (Yn 2 32 rfl rfl hb10) (fun _ hB_=>by exact X4 (ZH6 .u8 ((a1.terms.getD ((ZA7.wrap ((i10:Int) - 1)).toNat) Zyt).mono)) (J2 (o:=0) (k:=8) (Yf ((hC.grow hB_).getP 0 rfl) hv11 ((ZA7.wrap ((i10:Int) - 1)).toNat) (show (ZA7.wrap ((i10:Int) - 1)).toNat < a1.terms.length by omega)) rfl) ag136 rfl rfl) (Za 17 1023) (aF 11 (.pointer (some ⟨b10,0,none⟩)) rfl rfl (hM10 11 rfl) (Yn 2 32 rfl rfl hb10) (fun _=>by exact Z7 0 ZIp rfl ag136.size rfl rfl) (Za 17 3071) (aL 12 (.agg (ZH8 (ZH6 .u8 ((a1.terms.getD i10 Zyt).mono)))) rfl rfl (hM11 12 rfl) (Yn 2 32 rfl rfl hb10) (fun _ hB_=>by exact Yv (hC.grow hB_) 0 (ZH6 .u8 ((a1.terms.getD i10 Zyt).mono)) rfl ag136 rfl rfl rfl) (Za 17 7167) ?_))))
      refine aO 10 rfl (Zl 2 32 rfl rfl hb10 ?_)
      refine Zg [.agg (ZH8 (ZH6 .u8 ((a1.terms.getD ((ZA7.wrap ((i10:Int) - 1)).toNat) Zyt).mono)))] _ ZK2 rfl rfl rfl (Zio ((a1.terms.getD ((ZA7.wrap ((i10:Int) - 1)).toNat) Zyt).mono) h _) (fun ret12 w16 hR12=>?_)
      obtain ⟨r11,rfl,h,hB12⟩:=hR12
      refine⟨_,rfl,?_⟩
      replace hC:=hC.grow hB12
      refine done (aK (by assumption) (Za 17 8191) (Zu 13 (by decide) (by decide) (by kernel_rfl) (by kernel_rfl) rfl (Zl 2 32 rfl rfl hb10 ?_)))
      refine Zg [.agg (ZH8 (ZH6 .u8 ((a1.terms.getD i10 Zyt).mono)))] _ ZK2 rfl rfl rfl (Zio ((a1.terms.getD i10 Zyt).mono) h _) (fun ret13 w17 hR13=>?_)
      obtain ⟨r12,rfl,h,hB13⟩:=hR13
      refine⟨_,rfl,?_⟩
      replace hC:=hC.grow hB13
      refine Zl 2 32 rfl rfl hb10 ?_
      refine Zg [.agg (ZH8 (ZH6 .i64 r11)),.agg (ZH8 (ZH6 .i64 r12))] _ Tryz.func158 rfl rfl rfl (Zsz r11 r12 h _) (fun ret14 w18 hR14=>?_)
      obtain ⟨r14,rfl,h,hB14⟩:=hR14
      refine⟨_,rfl,?_⟩
      replace hC:=hC.grow hB14
      refine Zl 2 32 rfl rfl hb10 (Zat rfl rfl (Yc (v:=.bool (decide (r14≥0))) (b:=true) (tr rfl (congrArg _ hb10)) rfl (done (Zv (Zd ?_)))))
      refine Zr rfl (fun hb14=>?_) (fun hb14=>?_)
      ·replace h:=ift h (ct hb14)
       refine sr (Zc (v:=.bool false) rfl (dn ?_))
       refine ZIi (Yd (Zo (Zo (Yd (Zo ?_)))))
       refine Zp (fn:=ZKz) rfl ?_ ⟨false,rfl,h,hC.below⟩ (.inl rfl)
       exact Zi rfl
      ·replace h:=Zk h (cf hb14)
       refine ZIe (Zs (Zd (Zh (Zq rfl rfl (Zb (v:=.int .i64 (ZA7.wrap ((i10:Int)+1))) rfl (done ?_))))))
       replace hC:=hC.sM [1] (M':=[blk b5 55 [u1_0]]) (by decide) rfl
       exact hK10 () _ _ ⟨(sl ⟨rfl,rfl,rfl,rfl,(tr rfl (congrArg _ (Yh hi10 hN10))),trivial⟩),hC⟩ h
     ·replace h:=Zk h (cf hb10)
      refine Zm Z2 3 undef rfl rfl (by kernel_rfl) (hM10 3 rfl) (fun w_=>.inr ⟨Yk (b:=false) 2 32 rfl (tr rfl (congrArg _ hb10)) (by decide),rfl⟩) (l9:=(Za 17 15)) (by kernel_rfl) (Zm Z2 4 undef rfl rfl (by kernel_rfl) (hM10 4 rfl) (fun w_=>.inr ⟨Yk (b:=false) 2 32 rfl (tr rfl (congrArg _ hb10)) (by decide),rfl⟩) (l9:=(Za 17 31)) (by kernel_rfl) (Zm Z2 5 undef rfl rfl (by kernel_rfl) (hM10 5 rfl) (fun w_=>.inr ⟨Yk (b:=false) 2 32 rfl (tr rfl (congrArg _ hb10)) (by decide),rfl⟩) (l9:=(Za 17 63)) (by kernel_rfl) (Zm Z2 6 undef rfl rfl (by kernel_rfl) (hM10 6 rfl) (fun w_=>.inr ⟨Yk (b:=false) 2 32 rfl (tr rfl (congrArg _ hb10)) (by decide),rfl⟩) (l9:=(Za 17 127)) (by kernel_rfl) (Zm Z2 7 undef rfl rfl (by kernel_rfl) (hM10 7 rfl) (fun w_=>.inr ⟨Yk (b:=false) 2 32 rfl (tr rfl (congrArg _ hb10)) (by decide),rfl⟩) (l9:=(Za 17 255)) (by kernel_rfl) (Zm Z2 8 undef rfl rfl (by kernel_rfl) (hM10 8 rfl) (fun w_=>.inr ⟨Yk (b:=false) 2 32 rfl (tr rfl (congrArg _ hb10)) (by decide),rfl⟩) (l9:=(Za 17 511)) (by kernel_rfl) (Zm Z2 9 undef rfl rfl (by kernel_rfl) (hM10 9 rfl) (fun w_=>.inr ⟨Yk (b:=false) 2 32 rfl (tr rfl (congrArg _ hb10)) (by decide),rfl⟩) (l9:=(Za 17 1023)) (by kernel_rfl) (Zm Z2 10 undef rfl rfl (by kernel_rfl) (hM10 10 rfl) (fun w_=>.inr ⟨Yk (b:=false) 2 32 rfl (tr rfl (congrArg _ hb10)) (by decide),rfl⟩) (l9:=(Za 17 2047)) (by kernel_rfl) ?_)))))))
      refine Zm Z2 11 undef rfl rfl (by kernel_rfl) (hM10 11 rfl) (fun w_=>.inr ⟨Yk (b:=false) 2 32 rfl (tr rfl (congrArg _ hb10)) (by decide),rfl⟩) (l9:=(Za 17 4095)) (by kernel_rfl) (Zm Z2 12 undef rfl rfl (by kernel_rfl) (hM10 12 rfl) (fun w_=>.inr ⟨Yk (b:=false) 2 32 rfl (tr rfl (congrArg _ hb10)) (by decide),rfl⟩) (l9:=(Za 17 8191)) (by kernel_rfl) (Zu 13 (by decide) (by decide) (by kernel_rfl) (by kernel_rfl) rfl (Zn (b:=false) 2 32 rfl (tr rfl (congrArg _ hb10)) (by decide) (Zn (b:=false) 2 32 rfl (tr rfl (congrArg _ hb10)) (by decide) (Zn (b:=false) 2 32 rfl (tr rfl (congrArg _ hb10)) (by decide) (Yc (v:=.bool false) (b:=false) (tr rfl (congrArg _ hb10)) rfl (done (Zv (Zd (Yi rfl rfl (ZIe ?_)))))))))))
      refine Zs (Zd (Zh (Zq rfl rfl (Zb (v:=.int .i64 (ZA7.wrap ((i10:Int)+1))) rfl (done ?_)))))
      replace hC:=hC.sM [1] (M':=[blk b5 55 [u1_0]]) (by decide) rfl
      exact hK10 () _ _ ⟨(sl ⟨rfl,rfl,rfl,rfl,(tr rfl (congrArg _ (Yh hi10 hN10))),trivial⟩),hC⟩ h
  ·clear hC h
   rintro s10 e_ w19 K10 ⟨hS_,hC⟩ h
   rw [ue hS_]
   refine sr (Zt rfl rfl (dn (ZIa (Yi rfl (decide_eq_false (by omega)) ?_))))
   refine ZIr (Zj (Zj (Z9 ?_)))
   refine Zd (sr (Zc (v:=.bool true) rfl (dn (ZIi ?_))))
   refine Zp (fn:=ZKz) rfl ?_ ⟨true,rfl,h,hC.below⟩ (.inl rfl)
   exact Zi rfl
  ·skip
   exact⟨(sl ⟨rfl,rfl,rfl,rfl,rfl,trivial⟩),hC⟩
def Zer (a0:A8) (a1:List Int) (K:Int→Prop):Prop :=
 Yt (fun i10 (s10:Int) nx10=>((0≤(i10:Int)∧(i10:Int) < 8)∧nx10 (ZA7.wrap (s10+(ZA7.wrap ((a1.getD i10 Zyt) * (a0.get i10))))))) (fun (s10:Int)=>K s10) a1.length 0 0
theorem Znz (a0:A8) (a1:List Int) {u1_0:Value} {fp1:List Nat} {K:Int→Prop} (h:Zer a0 a1 K) (w0:World) (q1:((EI .i64).ty.sl).rep a1 [u1_0] fp1 w0) :
  Calls ZId 183 #[.agg (ZH8 (ZH6 .i64 a0)),u1_0] w0 fun e w'=>∃ (r0:Int),
   e=.returned (.int .i64 r0)∧K r0∧Bel w0 w':=by
 unfold Zer at h
 refine Z4 (args:=[.agg (ZH8 (ZH6 .i64 a0)),u1_0]) Tryz.func183 rfl 24 Tryz.ntmps183 (ZIc rfl) ?_
 have hC:=ZIt (X:=Nox) w0 [ZH7 ((EI .i64).ty.sl) a1 [u1_0] fp1] (by simp only [Zyz,ZAt,or_false,forall_eq_or_imp,forall_eq]; exact q1)
 refine sr (Yl (v:=.agg (ZH8 (ZH6 .i64 a0))) hC (ZH6 .i64 a0) rfl rfl fun b2 w4 hB_ hC=>Zc (v:=.int .i64 0) rfl (dn (sr (Zc (v:=.int .i64 0) rfl (dn (ZIa (sr (Zb (v:=u1_0) rfl ?_))))))))
 obtain ⟨Ad5,c6,hv7⟩:=Z1 (hC.getP 0 rfl)
 refine Zx ZIs (tr rfl hv7) (Zb (v:=.int .i64 0) rfl (dn (ZIj ?_)))
 have hN10:a1.length≤9223372036854775807:=Xp (hC.getP 0 rfl)
 refine Y9 (S:=Int) _ _ (fun i10 s10 e_ w_=>Z3 e_ [(2,.pointer (some ⟨b2,0,none⟩)),(5,.int .i64 s10),(8,u1_0),(9,.int .i64 (a1.length:Int)),(10,.int .i64 (i10:Int))]∧Ctx Nox w0 w_ [blk b2 73 (ZH6 .i64 a0)] [ZH7 ((EI .i64).ty.sl) a1 [u1_0] fp1]) a1.length ?_ ?_ (s0:=0) ?_ h
 ·clear hC h
  rintro i10 s10 e_ w10 nx10 K10 hi10 ⟨hS_,hC⟩ h hK10
  rw [ue hS_]
  refine sr (Zt rfl rfl (dn (ZIa (Yr rfl (decide_eq_true (by omega)) (ZIe (Zd (ZIa (ZIj (sr (Zb (v:=.int .i64 (i10:Int)) rfl ?_))))))))))
  obtain ⟨Ad10,c10,hv10⟩:=Z0 (hC.getP 0 rfl) i10 hi10
  refine Xb (len:=a1.length) ZIs sc2.size (tr rfl hv10) rfl (ZIv _) (ZJi.2 hi10) (Xm (.int .i64 (a1.getD i10 Zyt)) (Yf (hC.getP 0 rfl) hv10 i10 hi10) sc2 rfl (Zc (v:=.int .i64 (i10:Int)) rfl (Zc (v:=.int .i64 (a1.getD i10 Zyt)) rfl (dn (Zh (Zb (v:=.int .i64 s10) rfl (Zb (v:=.int .i64 (a1.getD i10 Zyt)) rfl (Zb (v:=.int .i64 (i10:Int)) rfl ?_))))))))
  obtain ⟨⟨h10,h11⟩,h⟩:=h
  refine Y5 i10 ZJf sc3.size rfl rfl h10 h11 (by omega) (Z8 hC 0 (.int .i64 (a0.get i10)) rfl sc3 rfl (ZIu _ _ (show i10 < 8 by omega)) (Ju rfl rfl (Zq rfl rfl (Zc (v:=.int .i64 (ZA7.wrap (s10+(ZA7.wrap ((a1.getD i10 Zyt) * (a0.get i10)))))) rfl (done (Zs (Zd (Zh (Zq rfl rfl (Zb (v:=.int .i64 (ZA7.wrap ((i10:Int)+1))) rfl (done ?_)))))))))))
  exact hK10 (ZA7.wrap (s10+(ZA7.wrap ((a1.getD i10 Zyt) * (a0.get i10))))) _ _ ⟨(sl ⟨rfl,rfl,rfl,rfl,(tr rfl (congrArg _ (Yh hi10 hN10))),trivial⟩),hC⟩ h
 ·clear hC h
  rintro s10 e_ w11 K10 ⟨hS_,hC⟩ h
  rw [ue hS_]
  refine sr (Zt rfl rfl (dn (ZIa (Yi rfl (decide_eq_false (by omega)) ?_))))
  refine ZIr (Zj (Zj (Z9 ?_)))
  refine Zd (sr (Zb (v:=.int .i64 s10) rfl (Zc (v:=.int .i64 s10) rfl (dn (ZIi ?_)))))
  refine Zp (fn:=Tryz.f183) rfl ?_ ⟨s10,rfl,h,hC.below⟩ (.inl rfl)
  exact Zi rfl
 ·skip
  exact⟨(sl ⟨rfl,rfl,rfl,rfl,rfl,trivial⟩),hC⟩
def Zgd (a0:List Int) (a1:ZIb) (K:Int→Bool→Prop):Prop :=
 Yt (fun i10 (s10:Int) nx10=>Zc7 ((a1.terms.getD i10 Zyt).mono) (fun r11=>Zer r11 a0 (fun r10=>(if s10≥0 then(if r10≠s10 then K 0 false else nx10 r10) else nx10 r10)))) (fun (s10:Int)=>K s10 true) a1.terms.length 0 (-1)
theorem Zs6 (a0:List Int) (a1:ZIb) {u0_0:Value} {u1_0:Value} {fp0:List Nat} {fp1:List Nat} {K:Int→Bool→Prop} (h:Zgd a0 a1 K) (w0:World) (q0:((EI .i64).ty.sl).rep a0 [u0_0] fp0 w0) (q1:ZIo.rep a1 [u1_0] fp1 w0) :
  Calls ZId 132 #[u0_0,.agg #[u1_0]] w0 fun e w'=>∃ (r0:Int) (r1:Bool),
   e=.returned (.tuple #[.int .i64 r0,.bool r1])∧K r0 r1∧Bel w0 w':=by
 unfold Zgd at h
 refine Z4 (args:=[u0_0,.agg #[u1_0]]) Tryz.func132 rfl 32 Tryz.ntmps132 (ZIc rfl) ?_
 have hC:=ZIt (X:=Nox) w0 [ZH7 ((EI .i64).ty.sl) a0 [u0_0] fp0,ZH7 TForm a1 [u1_0] fp1] (by simp only [Zyz,ZAt,or_false,forall_eq_or_imp,forall_eq]; exact⟨q0,q1⟩)
 have hp3:=(hC.getP 1 rfl)
 replace hC:=hC.derive 1 rfl (ZH7 ZH9.ty.sl a1.terms [u1_0] fp1) (fun _=>(Xi hp3)) (fun _ hb_=>hb_)
 refine sr (Yl (v:=.agg #[u1_0]) hC [u1_0] rfl rfl fun b5 w7 hB_ hC=>Zc (v:=.int .i64 0) rfl (Zc (v:=.bool false) rfl (dn (sr (Zc (v:=.int .i64 (-1)) rfl (dn (ZIa (sr (Z6 0 ZIf rfl sc53.size rfl rfl (Z8 hC 0 (u1_0) rfl sc53 rfl rfl ?_))))))))))
 obtain ⟨Ad8,c9,hv11⟩:=Z1 (hC.getP 0 rfl)
 refine Zx ZIh (tr rfl hv11) (Zb (v:=.int .i64 0) rfl (dn (ZIj ?_)))
 have hN10:a1.terms.length≤9223372036854775807:=Xp (hC.getP 0 rfl)
 refine Y9 (S:=Int) _ _ (fun i10 s10 e_ w_=>Z3 e_ [(0,u0_0),(6,.int .i64 s10),(11,u1_0),(12,.int .i64 (a1.terms.length:Int)),(13,.int .i64 (i10:Int))]∧Ctx Nox w0 w_ [] [ZH7 ZH9.ty.sl a1.terms [u1_0] fp1,ZH7 ((EI .i64).ty.sl) a0 [u0_0] fp0,ZH7 TForm a1 [u1_0] fp1]) a1.terms.length ?_ ?_ (s0:=(-1)) ?_ h
 ·clear hC h
  rintro i10 s10 e_ w10 nx10 K10 hi10 ⟨hS_,hC⟩ h hK10
  rw [ue hS_]
  refine sr (Zt rfl rfl (dn (ZIa (Yr rfl (decide_eq_true (by omega)) (ZIe (Zd (ZIa (ZIj (sr ?_)))))))))
  obtain ⟨Ad10,c10,hv10⟩:=Z0 (hC.getP 0 rfl) i10 hi10
  refine Xb (len:=a1.terms.length) ZIh ag162.size (tr rfl hv10) rfl (ZIv _) (ZJi.2 hi10) (Zav (ZIl (a1.terms.getD i10 Zyt)) (Yf (hC.getP 0 rfl) hv10 i10 hi10) ag162 rfl rfl (Yj hC (ZIl (⟨ZIg,0⟩:Term)) Zen rfl fun b10 w11 hB_ hC=>Zw (v:=.agg (ZH8 (ZIl (a1.terms.getD i10 Zyt)))) hC 0 (ZIl (a1.terms.getD i10 Zyt)) (ZIl (a1.terms.getD i10 Zyt)) rfl ag162.size rfl rfl rfl rfl rfl (ZIc rfl) rfl fun w12 hC=>dn (sr (Z6 0 ZIp rfl ag136.size rfl rfl (Yy hC 0 (ZH6 .u8 ((a1.terms.getD i10 Zyt).mono)) rfl ag136 rfl rfl rfl ?_)))))
  refine Zg [.agg (ZH8 (ZH6 .u8 ((a1.terms.getD i10 Zyt).mono)))] _ ZK2 rfl rfl rfl (Zio ((a1.terms.getD i10 Zyt).mono) h _) (fun ret10 w13 hR10=>?_)
  obtain ⟨r11,rfl,h,hB10⟩:=hR10
  refine⟨_,rfl,?_⟩
  replace hC:=hC.grow hB10
  refine Zb (v:=u0_0) rfl ?_
  refine Zg [.agg (ZH8 (ZH6 .i64 r11)),u0_0] _ Tryz.func183 rfl rfl rfl (Znz r11 a0 h _ (hC.getP 1 rfl)) (fun ret11 w14 hR11=>?_)
  obtain ⟨r10,rfl,h,hB11⟩:=hR11
  refine⟨_,rfl,?_⟩
  replace hC:=hC.grow hB11
  refine Zc (v:=.int .i64 r10) rfl (dn (ZIa (sr (Zb (v:=.int .i64 s10) rfl (Zat rfl rfl (Zb (v:=.bool (decide (s10≥0))) rfl ?_))))))
  refine Xh (decide (s10≥0)) (fun hb10=>?_) (fun hb10=>?_)
  ·replace h:=ift h (ct hb10)
   refine Zl 2 24 rfl rfl hb10 (Zb (v:=.int .i64 r10) rfl (Zl 2 24 rfl rfl hb10 (Zb (v:=.int .i64 s10) rfl (Zl 2 24 rfl rfl hb10 (Xl rfl rfl (Yc (v:=.bool (decide (r10≠s10))) (b:=true) (tr rfl (congrArg _ hb10)) rfl (dn ?_)))))))
   refine Zr rfl (fun hb11=>?_) (fun hb11=>?_)
   ·replace h:=ift h (ct hb11)
    refine sr (Zc (v:=.int .i64 0) rfl (Zc (v:=.bool false) rfl (dn ?_)))
    refine ZIi (Zo (Yd (Zo (Zo (Yd (Zo ?_))))))
    refine Jo (fn:=Tryz.f132) rfl ?_ ?_ ⟨0,false,rfl,h,hC.below⟩ (.inl rfl)
    ·exact Zi rfl
    ·exact Zi rfl
   ·replace h:=Zk h (cf hb11)
    refine ZIe (Zd (Zh (Zb (v:=.int .i64 r10) rfl (Zc (v:=.int .i64 r10) rfl (done (Zs (Zd (Zh (Zq rfl rfl (Zb (v:=.int .i64 (ZA7.wrap ((i10:Int)+1))) rfl (done ?_)))))))))))
    replace hC:=hC.sM [] (M':=[]) (by decide) rfl
    exact hK10 r10 _ _ ⟨(sl ⟨rfl,rfl,rfl,rfl,(tr rfl (congrArg _ (Yh hi10 hN10))),trivial⟩),hC⟩ h
  ·replace h:=Zk h (cf hb10)
   refine Zn (b:=false) 2 24 rfl (tr rfl (congrArg _ hb10)) (by decide) (Zn (b:=false) 2 24 rfl (tr rfl (congrArg _ hb10)) (by decide) (Zn (b:=false) 2 24 rfl (tr rfl (congrArg _ hb10)) (by decide) (Yc (v:=.bool false) (b:=false) (tr rfl (congrArg _ hb10)) rfl (dn (Yi rfl rfl (ZIe (Zd (Zh (Zb (v:=.int .i64 r10) rfl (Zc (v:=.int .i64 r10) rfl (done ?_)))))))))))
   refine Zs (Zd (Zh (Zq rfl rfl (Zb (v:=.int .i64 (ZA7.wrap ((i10:Int)+1))) rfl (done ?_)))))
   replace hC:=hC.sM [] (M':=[]) (by decide) rfl
   exact hK10 r10 _ _ ⟨(sl ⟨rfl,rfl,rfl,rfl,(tr rfl (congrArg _ (Yh hi10 hN10))),trivial⟩),hC⟩ h
 ·clear hC h
  rintro s10 e_ w15 K10 ⟨hS_,hC⟩ h
  rw [ue hS_]
  refine sr (Zt rfl rfl (dn (ZIa (Yi rfl (decide_eq_false (by omega)) ?_))))
  refine ZIr (Zj (Zj (Z9 ?_)))
  refine Zd (sr (Zb (v:=.int .i64 s10) rfl (Zc (v:=.int .i64 s10) rfl (Zc (v:=.bool true) rfl (dn (ZIi ?_))))))
  refine Jo (fn:=Tryz.f132) rfl ?_ ?_ ⟨s10,true,rfl,h,hC.below⟩ (.inl rfl)
  ·exact Zi rfl
  ·exact Zi rfl
 ·skip
  replace hC:=hC.sM [] (M':=[]) (by decide) rfl
  exact⟨(sl ⟨rfl,rfl,rfl,rfl,rfl,trivial⟩),hC⟩
def Zge (a0:List Int) (a1:ZIb) (a2:Int) (K:Bool→Prop):Prop :=
 Zgd a0 a1 (fun r10 r11=>(if r11=true then(if r10=(-1) then K true else K (decide (r10=a2))) else K false))
theorem Zs7 (a0:List Int) (a1:ZIb) (a2:Int) {u0_0:Value} {u1_0:Value} {fp0:List Nat} {fp1:List Nat} {K:Bool→Prop} (h:Zge a0 a1 a2 K) (w0:World) (q0:((EI .i64).ty.sl).rep a0 [u0_0] fp0 w0) (q1:ZIo.rep a1 [u1_0] fp1 w0) :
  Calls ZId 152 #[u0_0,.agg #[u1_0],.int .i64 a2] w0 fun e w'=>∃ (r0:Bool),
   e=.returned (.bool r0)∧K r0∧Bel w0 w':=by
 unfold Zge at h
 refine Z4 (args:=[u0_0,.agg #[u1_0],.int .i64 a2]) Tryz.func152 rfl 25 Tryz.ntmps152 (ZIc rfl) ?_
 have hC:=ZIt (X:=Nox) w0 [ZH7 ((EI .i64).ty.sl) a0 [u0_0] fp0,ZH7 TForm a1 [u1_0] fp1] (by simp only [Zyz,ZAt,or_false,forall_eq_or_imp,forall_eq]; exact⟨q0,q1⟩)
 have hp3:=(hC.getP 1 rfl)
 replace hC:=hC.derive 1 rfl (ZH7 ZH9.ty.sl a1.terms [u1_0] fp1) (fun _=>(Xi hp3)) (fun _ hb_=>hb_)
 refine sr (Yl (v:=.agg #[u1_0]) hC [u1_0] rfl rfl fun b5 w7 hB_ hC=>Zc (v:=.bool false) rfl (dn (sr (Zb (v:=u0_0) rfl (Yy hC 0 [u1_0] rfl ag55 rfl rfl rfl ?_)))))
 refine Zg [u0_0,.agg #[u1_0]] _ Tryz.func132 rfl rfl rfl (Zs6 a0 a1 h _ (hC.getP 1 rfl) (Yq (hC.getP 0 rfl))) (fun ret8 w10 hR9=>?_)
 obtain ⟨r10,r11,rfl,h,hB10⟩:=hR9
 refine⟨_,rfl,?_⟩
 replace hC:=hC.grow hB10
 refine Zb (v:=.tuple #[.int .i64 r10,.bool r11]) rfl (Xk (v:=.int .i64 r10) rfl rfl (Xk (v:=.bool r11) rfl rfl (Zc (v:=.int .i64 r10) rfl (Zc (v:=.bool r11) rfl (dn (sr (Zb (v:=.bool r11) rfl (Zb (v:=.bool r11) rfl ?_))))))))
 refine Xh r11 (fun hb10=>?_) (fun hb10=>?_)
 ·replace h:=ift h (hb10)
  refine Zl 1 16 rfl rfl hb10 (Zb (v:=.int .i64 r10) rfl (Zl 1 16 rfl rfl hb10 (Jm rfl rfl (Zl 1 16 rfl rfl hb10 (Zb (v:=.bool (decide (r10=(-1)))) rfl ?_)))))
  refine Xh (decide (r10=(-1))) (fun hb11=>?_) (fun hb11=>?_)
  ·replace h:=ift h (ct hb11)
   refine Zn (b:=true) 4 19 rfl (tr rfl (congrArg _ hb11)) (by decide) (Zn (b:=true) 4 19 rfl (tr rfl (congrArg _ hb11)) (by decide) (Zn (b:=true) 4 19 rfl (tr rfl (congrArg _ hb11)) (by decide) (Zl 1 16 rfl rfl hb10 (Yc (v:=.bool true) (b:=true) (tr rfl (congrArg _ hb11)) rfl (Yc (v:=.bool true) (b:=true) (tr rfl (congrArg _ hb10)) rfl (Zc (v:=.bool true) rfl (dn (ZIi ?_))))))))
   refine Zp (fn:=Tryz.f152) rfl ?_ ⟨true,rfl,h,hC.below⟩ (.inl rfl)
   exact Zi rfl
  ·replace h:=Zk h (cf hb11)
   refine Zl 4 19 rfl rfl hb11 (Zb (v:=.int .i64 r10) rfl (Zl 4 19 rfl rfl hb11 (Zb (v:=.int .i64 a2) rfl (Zl 4 19 rfl rfl hb11 (Jm rfl rfl (Zl 1 16 rfl rfl hb10 (Yc (v:=.bool (decide (r10=a2))) (b:=false) (tr rfl (congrArg _ hb11)) rfl (Yc (v:=.bool (decide (r10=a2))) (b:=true) (tr rfl (congrArg _ hb10)) rfl (Zc (v:=.bool (decide (r10=a2))) rfl (dn (ZIi ?_)))))))))))
   refine Zp (fn:=Tryz.f152) rfl ?_ ⟨decide (r10=a2),rfl,h,hC.below⟩ (.inl rfl)
   exact Zi rfl
 ·replace h:=Zk h (Xz hb10)
  refine Zn (b:=false) 1 16 rfl (tr rfl (congrArg _ hb10)) (by decide) (Zn (b:=false) 1 16 rfl (tr rfl (congrArg _ hb10)) (by decide) (Zn (b:=false) 1 16 rfl (tr rfl (congrArg _ hb10)) (by decide) (Zae 4 19 rfl rfl (Zae 4 19 rfl rfl (Zae 4 19 rfl rfl (Zn (b:=false) 1 16 rfl (tr rfl (congrArg _ hb10)) (by decide) (Yc (v:=.bool false) (b:=false) (tr rfl (congrArg _ hb10)) rfl (Zc (v:=.bool false) rfl (dn (ZIi ?_))))))))))
  refine Zp (fn:=Tryz.f152) rfl ?_ ⟨false,rfl,h,hC.below⟩ (.inl rfl)
  exact Zi rfl
def Zgf (a0:Alg) (K:List (Option (List (A8×Int)))→Prop):Prop :=
 Yt (fun i10 (s10:(List (Option (List (A8×Int))))) nx10=>Zdt (a0.images.getD i10 Zyt) (fun r10=>((0≤(i10:Int)∧(i10:Int) < 8)∧nx10 (s10.set i10 (some r10))))) (fun (s10:(List (Option (List (A8×Int)))))=>K s10) a0.images.length 0 (Zy0 8 none:List (Option (List (A8×Int))))
theorem Zs8 (a0:Alg) {b0:Nat} {u0_0:Value} {u0_1:Value} {fp0:List Nat} {K:List (Option (List (A8×Int)))→Prop} (h:Zgf a0 K) (w0:World) (q0:TAlg.rep a0 [u0_0,u0_1] fp0 w0) (qb0:(blk b0 32 [u0_0,u0_1]).holds w0) :
  Calls ZId 191 #[.pointer (some ⟨b0,0,none⟩)] w0 fun e w'=>∃ (r0:List (Option (List (A8×Int)))) (zc0:List Value) (fz0:List Nat),
   e=.returned (.agg (ZH8 zc0))∧K r0∧(X3 (kvA .i64) (vvI .i64) 8).rep r0 zc0 fz0 w'∧(∀ b,b∈fz0→w0.heap.size≤b)∧Bel w0 w':=by
 unfold Zgf at h
 refine Z4 (args:=[.pointer (some ⟨b0,0,none⟩)]) Tryz.func191 rfl 23 Tryz.ntmps191 (ZIc rfl) ?_
 have hC:=ZIt (X:=Nox) w0 [ZH7 TAlg a0 [u0_0,u0_1] fp0,blk b0 32 [u0_0,u0_1]] (by simp only [Zyz,ZAt,or_false,forall_eq_or_imp,forall_eq]; exact⟨q0,qb0⟩)
 have hp3:=(hC.getP 0 rfl)
 replace hC:=hC.derive 0 rfl (ZH7 ((EI .i64).ty.sl) a0.degrees [u0_0] fp0) (fun _=>(Yw hp3).1) (fun _ hb_=>hb_)
 replace hC:=hC.derive 1 rfl (ZH7 ZIo.sl a0.images [u0_1] fp0) (fun _=>(Yw hp3).2) (fun _ hb_=>hb_)
 refine sr (Yj hC (Zy0 8 (ZKy none)) Zkr rfl fun b6 w8 hB_ hC=>dn (sr (Jn (v:=.agg (ZH8 (Zy0 8 (ZKy none)))) [] rfl (Zsr _) (Yj hC (Zy0 8 (ZKy none)) Zkr rfl fun b9 w10 hB_ hC=>?_))))
 replace hC:=hC.pushE (ZH7 (X3 (kvA .i64) (vvI .i64) 8) (Zy0 8 none:List (Option (List (A8×Int)))) (Zy0 8 (ZKy none)) []) (Zil (kvA .i64) (vvI .i64) 8 _) rfl
 replace hC:=hC.pushE (ZH7 (X3 (kvA .i64) (vvI .i64) 8) (Zy0 8 none:List (Option (List (A8×Int)))) (Zy0 8 (ZKy none)) []) (Zil (kvA .i64) (vvI .i64) 8 _) rfl
 have hl10:=Zcr (hC.getP 1 rfl)
 have hl11:=Zcr (hC.getP 0 rfl)
 refine Zw (v:=.agg (ZH8 (Zy0 8 (ZKy none)))) hC 0 (Zy0 8 (ZKy none)) (Zy0 8 (ZKy none)) rfl ag211.size rfl rfl rfl hl11 (Zko (hC.getP 0 rfl)) (by rw [hl10]; exact Zy1 _) (Zkp (hl11.trans hl10.symm)) fun w11 hC=>dn (ZIa (sr (Zb (v:=.pointer (some ⟨b0,0,none⟩)) rfl (Zaf rfl (Z6 1 ZIq rfl sc30.size rfl rfl (Zbv (u0_1) (hC.getP 5 rfl) sc30 rfl rfl ?_))))))
 obtain ⟨Ad10,c10,hv11⟩:=Z1 (hC.getP 2 rfl)
 refine Zx ZIw (tr rfl hv11) (Zb (v:=.int .i64 0) rfl (dn (ZIj ?_)))
 have hN10:a0.images.length≤9223372036854775807:=Xp (hC.getP 2 rfl)
 refine Y9 (S:=(List (Option (List (A8×Int))))) _ _ (fun i10 s10 e_ w_=>∃ (v10:List Value),∃ (f10:List Nat),Z3 e_ [(2,.pointer (some ⟨b6,0,none⟩)),(3,.pointer (some ⟨b9,0,none⟩)),(10,u0_1),(11,.int .i64 (a0.images.length:Int)),(12,.int .i64 (i10:Int))]∧(∀ b,b∈f10→w0.heap.size≤b)∧Ctx Nox w0 w_ [blk b9 211 v10,blk b6 211 (Zy0 8 (ZKy none))] [ZH7 (X3 (kvA .i64) (vvI .i64) 8) s10 v10 f10,ZH7 ZIo.sl a0.images [u0_1] fp0,ZH7 ((EI .i64).ty.sl) a0.degrees [u0_0] fp0,ZH7 TAlg a0 [u0_0,u0_1] fp0,blk b0 32 [u0_0,u0_1]]) a0.images.length ?_ ?_ (s0:=(Zy0 8 none:List (Option (List (A8×Int))))) ?_ h
 ·clear hC h
  rintro i10 s10 e_ w12 nx10 K10 hi10 ⟨v10,f10,hS_,hq10,hC⟩ h hK10
  rw [ue hS_]
  refine sr (Zt rfl rfl (dn (ZIa (Yr rfl (decide_eq_true (by omega)) (ZIe (Zd (ZIa (ZIj (sr (Zb (v:=.int .i64 (i10:Int)) rfl ?_))))))))))
  obtain ⟨Ad11,c11,hv10⟩:=Z0 (hC.getP 1 rfl) i10 hi10
  refine Xb (len:=a0.images.length) ZIw ag55.size (tr rfl hv10) rfl (ZIv _) (ZJi.2 hi10) ?_
  obtain ⟨cs_,hl12,hc10,hr10⟩:=Xs (hC.getP 1 rfl) hv10 i10 hi10
  obtain ⟨u10,rfl⟩:=ZI4.1 hl12
  clear hl12
  rw [Xt _ _ hi10] at hr10
  have hp10:=hr10
  replace hC:=hC.derive 1 rfl (ZH7 ZH9.ty.sl ((a0.images.getD i10 Zyt).terms) [u10] fp0) (fun _=>(Xi hp10)) (fun _ hb_=>hb_)
  refine Zav [u10] hc10 ag55 rfl rfl (Yj hC [.slice none 0 0] z55 rfl fun b11 w13 hB_ hC=>Zc (v:=.int .i64 (i10:Int)) rfl (Zw (v:=.agg #[u10]) hC 0 [u10] [u10] rfl ag55.size rfl rfl rfl rfl (Y6 (Zbw (hC.getP 0 rfl)) rfl) (ZIc rfl) rfl fun w14 hC=>dn (Zh (Zb (v:=.int .i64 (i10:Int)) rfl (Yy hC 0 [u10] rfl ag55 rfl rfl rfl ?_)))))
  refine Zg [.agg #[u10]] _ Tryz.func78 rfl rfl rfl (Zkv (a0.images.getD i10 Zyt) h _ (Yq (hC.getP 0 rfl))) (fun ret10 w15 hR10=>?_)
  obtain ⟨r10,b10,rfl,h,hr11,hf10,hB10⟩:=hR10
  refine⟨_,rfl,?_⟩
  replace hC:=hC.push hB10 (Ze (kvA .i64) (vvI .i64) b10 r10) hr11 (fun b_ hb_=>by obtain rfl:=ZAs.1 hb_; exact hf10)
  obtain ⟨⟨h10,h11⟩,h⟩:=h
  refine Y5 i10 Tryz.underlying211 sc115.size rfl rfl h10 h11 (by omega) ?_
  have hf11:=Zfi hC 0 rfl
  replace hC:=hC.thaw 0 rfl (Ze (kvA .i64) (vvI .i64) b10 r10) id (fun _ hb_=>hb_)
  replace hC:=hC.joinP 0 2 rfl rfl (ZH7 (X3 (kvA .i64) (vvI .i64) 8) (s10.set i10 (some r10)) (v10.set i10 (ZKy (some b10))) (b10::f10)) (fun a_ b_=>Zsg b_ a_) (fun c_ hc_=>(Zyz.1 hc_).elim (fun h_=>.inl (by rw [h_]; exact ZAs.2 rfl)) .inr)
  have hs10:∀ b,b∈(b10::f10)→w0.heap.size≤b:=(fun b hb=>(Zyz.1 hb).elim (fun h_=>by rw [h_]; exact hf11) (fun hb=>hq10 b hb))
  have hl13:=Zcr (hC.getP 3 rfl)
  refine Zw (v:=.map (some b10)) hC 1 [.map (some b10)] (v10.set i10 (ZKy (some b10))) rfl sc115.size rfl rfl rfl rfl rfl (by rw [hl13]; omega) (Zns (by rw [hl13]; omega) (by omega)) fun w16 hC=>done (Zs (Zd (Zh (Zq rfl rfl (Zb (v:=.int .i64 (ZA7.wrap ((i10:Int)+1))) rfl (done ?_))))))
  replace hC:=hC.sM [1,2] (M':=[blk b9 211 (v10.set i10 (ZKy (some b10))),blk b6 211 (Zy0 8 (ZKy none))]) (by decide) rfl
  replace hC:=hC.sP [0,4,5,6,7] (Ps':=[ZH7 (X3 (kvA .i64) (vvI .i64) 8) (s10.set i10 (some r10)) (v10.set i10 (ZKy (some b10))) (b10::f10),ZH7 ZIo.sl a0.images [u0_1] fp0,ZH7 ((EI .i64).ty.sl) a0.degrees [u0_0] fp0,ZH7 TAlg a0 [u0_0,u0_1] fp0,blk b0 32 [u0_0,u0_1]]) rfl
  exact hK10 (s10.set i10 (some r10)) _ _ ⟨v10.set i10 (ZKy (some b10)),(b10::f10),(sl ⟨rfl,rfl,rfl,rfl,(tr rfl (congrArg _ (Yh hi10 hN10))),trivial⟩),hs10,hC⟩ h
 ·clear hC h
  rintro s10 e_ w17 K10 ⟨v10,f10,hS_,hq10,hC⟩ h
  rw [ue hS_]
  refine sr (Zt rfl rfl (dn (ZIa (Yi rfl (decide_eq_false (by omega)) ?_))))
  refine ZIr (Zj (Zj (Z9 ?_)))
  refine Zd (sr ?_)
  have hl14:=Zcr (hC.getP 0 rfl)
  refine Yy hC 0 v10 rfl ag211 rfl (Zsi hl14) hl14 ?_
  replace hC:=hC.pushE (ZH7 (X3 (kvA .i64) (vvI .i64) 8) (Zy0 8 none:List (Option (List (A8×Int)))) (Zy0 8 (ZKy none)) []) (Zil (kvA .i64) (vvI .i64) 8 _) rfl
  have hl15:=Zcr (hC.getP 0 rfl)
  have hl16:=Zcr (hC.getP 1 rfl)
  refine Zw (v:=.agg (ZH8 v10)) hC 1 v10 v10 rfl ag211.size rfl rfl rfl hl16 (Zko (hC.getP 1 rfl)) (by rw [hl15]; exact Zy1 _) (Zkp (hl16.trans hl15.symm)) fun w18 hC=>dn (ZIi ?_)
  refine Zp (fn:=Tryz.f191) rfl ?_ ⟨s10,v10,f10,rfl,h,(hC.getP 1 rfl),(fun b hb=>hq10 b hb),hC.below⟩ (.inl rfl)
  exact Zag hC 1 rfl ag211 rfl (Zcr (hC.getP 1 rfl))
 ·skip
  replace hC:=hC.sP [0,2,3,4,5] (Ps':=[ZH7 (X3 (kvA .i64) (vvI .i64) 8) (Zy0 8 none:List (Option (List (A8×Int)))) (Zy0 8 (ZKy none)) [],ZH7 ZIo.sl a0.images [u0_1] fp0,ZH7 ((EI .i64).ty.sl) a0.degrees [u0_0] fp0,ZH7 TAlg a0 [u0_0,u0_1] fp0,blk b0 32 [u0_0,u0_1]]) rfl
  exact⟨Zy0 8 (ZKy none),[],(sl ⟨rfl,rfl,rfl,rfl,rfl,trivial⟩),(fun b hb=>absurd hb (by simp)),hC⟩
def Zes (a0:Alg) (a1:List (A8×Int)) (K:List (A8×Int)→Prop):Prop :=
 Zgf a0 (fun r11=>Zbx (fun (q10:A8×Int) (s12:(List (A8×Int))) nx11=>Yt (fun i10 (s10:A8×(List (A8×Int))×Int) nx10=>(if q10.1.get i10 > 0 then Xj (fun (s11:A8×Int) nx12=>(if s11.2 < ZA7.wrap ((i10:Int)+1) then((0≤s11.2∧s11.2 < 8)∧nx12 (s11.1.set s11.2.toNat 0,ZA7.wrap (s11.2+1))) else(∃ ml10,r11[i10]?=some (some ml10)∧Jc (Zz ([]:List (A8×Int)) (s10.1.set i10 (ZA7.wrap ((q10.1.get i10) - 1))) 1) a0.degrees ml10 (fun r14=>Jc r14 a0.degrees (Zz ([]:List (A8×Int)) s11.1 1) (fun r13=>Zak (ZA7.wrap ((ZA7.wrap (s10.2.2 * q10.2)) * (q10.1.get i10))) (fun r12=>Zam s10.2.1 r13 r12 (fun m10=>(if(i10:Int) < (a0.degrees.length:Int) then((0≤(i10:Int)∧(i10:Int) < (a0.degrees.length:Int))∧(if Zyy (a0.degrees.getD i10 Zyt) 2=1 then(if Zyy (q10.1.get i10) 2=1 then nx10 (s10.1.set i10 (q10.1.get i10),m10,ZA7.wrap (0 - s10.2.2)) else nx10 (s10.1.set i10 (q10.1.get i10),m10,s10.2.2)) else nx10 (s10.1.set i10 (q10.1.get i10),m10,s10.2.2))) else nx10 (s10.1.set i10 (q10.1.get i10),m10,s10.2.2))))))))) (q10.1,0) else(if(i10:Int) < (a0.degrees.length:Int) then((0≤(i10:Int)∧(i10:Int) < (a0.degrees.length:Int))∧(if Zyy (a0.degrees.getD i10 Zyt) 2=1 then(if Zyy (q10.1.get i10) 2=1 then nx10 (s10.1.set i10 (q10.1.get i10),s10.2.1,ZA7.wrap (0 - s10.2.2)) else nx10 (s10.1.set i10 (q10.1.get i10),s10.2.1,s10.2.2)) else nx10 (s10.1.set i10 (q10.1.get i10),s10.2.1,s10.2.2))) else nx10 (s10.1.set i10 (q10.1.get i10),s10.2.1,s10.2.2)))) (fun (s10:A8×(List (A8×Int))×Int)=>nx11 s10.2.1) 8 0 (ZIg,s12,1)) (fun (s12:(List (A8×Int)))=>K s12) a1.length a1 ([]:List (A8×Int)))
theorem Zn0 (a0 : Alg) (a1 : List (A8 × Int)) {b0 : Nat} {b1 : Nat} {u0_0 : Value} {u0_1 : Value} {fp0 : List Nat} {K : List (A8 × Int) → Prop} (h : Zes a0 a1 K) (w0 : World) (q0 : TAlg.rep a0 [u0_0, u0_1] fp0 w0) (qb0 : (blk b0 32 [u0_0, u0_1]).holds w0) (q1 : (Ze (kvA .i64) (vvI .i64) b1 a1).holds w0) :
  Calls ZId 154 #[.pointer (some ⟨b0,0,none⟩),.map (some b1)] w0 fun e w'=>∃ (r0:List (A8×Int)) (zb0:Nat),
   e=.returned (.map (some zb0))∧K r0∧(Ze (kvA .i64) (vvI .i64) zb0 r0).holds w'∧w0.heap.size≤zb0∧Bel w0 w':=by
 unfold Zes at h
 refine Z4 (args:=[.pointer (some ⟨b0,0,none⟩),.map (some b1)]) Tryz.func154 rfl 107 Tryz.ntmps154 (ZIc rfl) ?_
 have hC:=ZIt (X:=Nox) w0 [ZH7 TAlg a0 [u0_0,u0_1] fp0,blk b0 32 [u0_0,u0_1],Ze (kvA .i64) (vvI .i64) b1 a1] (by simp only [Zyz,ZAt,or_false,forall_eq_or_imp,forall_eq]; exact⟨q0,qb0,q1⟩)
 have hp4:=(hC.getP 0 rfl)
 replace hC:=hC.derive 0 rfl (ZH7 ((EI .i64).ty.sl) a0.degrees [u0_0] fp0) (fun _=>(Yw hp4).1) (fun _ hb_=>hb_)
 replace hC:=hC.derive 1 rfl (ZH7 ZIo.sl a0.images [u0_1] fp0) (fun _=>(Yw hp4).2) (fun _ hb_=>hb_)
 refine sr (Zc (v:=.map none) rfl (dn (sr (Zfj hC (kvA .i64) (vvI .i64) fun b7 w9 hB_ hC=>Zb (v:=.pointer (some ⟨b0,0,none⟩)) rfl ?_))))
 refine Zg [.pointer (some ⟨b0,0,none⟩)] _ Tryz.func191 rfl rfl rfl (Zs8 a0 h _ (Xy (hC.getP 1 rfl) (hC.getP 0 rfl)) (hC.getP 3 rfl)) (fun ret10 w11 hR10=>?_)
 obtain ⟨r11,cs10,f10,rfl,h,hr10,hf10,hB10⟩:=hR10
 refine⟨_,rfl,?_⟩
 have hs10:=Zqr hC.size hf10
 replace hC:=hC.pushR hB10 (ZH7 (X3 (kvA .i64) (vvI .i64) 8) r11 cs10 f10) hr10 (fun b hb=>.inl (hf10 b hb))
 refine Yj hC (Zy0 8 (ZKy none)) Zkr rfl fun b10 w12 hB_ hC=>Zc (v:=.map (some b7)) rfl ?_
 replace hC:=hC.pushE (ZH7 (X3 (kvA .i64) (vvI .i64) 8) (Zy0 8 none:List (Option (List (A8×Int)))) (Zy0 8 (ZKy none)) []) (Zil (kvA .i64) (vvI .i64) 8 _) rfl
 have hl10:=Zcr (hC.getP 0 rfl)
 have hl11:=Zcr (hC.getP 1 rfl)
 refine Zw (v:=.agg (ZH8 cs10)) hC 0 cs10 cs10 rfl ag211.size rfl rfl rfl hl11 (Zko (hC.getP 1 rfl)) (by rw [hl10]; exact Zy1 _) (Zkp (hl11.trans hl10.symm)) fun w13 hC=>dn (ZIa (sr (Zb (v:=.map (some b1)) rfl (Zfk hC 6 rfl ZKw rfl fun r10 es10 ck10 w14 hB_ hn10 hbn10 hC=>dn (ZIj ?_)))))
 refine Zfo (S:=(List (A8×Int))) _ _ (fun l11 s12 e_ w_=>∃ (la10:Option MapEntry),Z3 e_ [(0,.pointer (some ⟨b0,0,none⟩)),(5,.map (some b7)),(6,.pointer (some ⟨b10,0,none⟩)),(21,.pointer (some ⟨r10,0,none⟩))]∧Ctx Nox w0 w_ [itI (kvA .i64) (vvI .i64) r10 b1 es10 ck10 la10 l11,blk b10 211 cs10,Ze (kvA .i64) (vvI .i64) b7 s12] [Y3 b1 es10 ck10,ZH7 (X3 (kvA .i64) (vvI .i64) 8) r11 cs10 f10,ZH7 ZIo.sl a0.images [u0_1] fp0,ZH7 ((EI .i64).ty.sl) a0.degrees [u0_0] fp0,ZH7 TAlg a0 [u0_0,u0_1] fp0,blk b0 32 [u0_0,u0_1],Ze (kvA .i64) (vvI .i64) b1 a1]) ?_ (l0:=a1) (s0:=([]:List (A8×Int))) ?_ h
 ·clear hC h
  rintro l11 s12 e_ w15 nx11 K11 ⟨la10,hS_,hC⟩ h hK11
  rw [ue hS_]
  refine sr ?_
  refine Zfl hC 0 0 rfl rfl hn10 hbn10 rfl (fun hr11=>?_) (fun q10 l10 ent10 w16 hp10 hk10 hv12 hC=>?_)
  ·replace h:=h.1 hr11
   refine Xk (v:=.bool false) rfl rfl (dn (ZIa (Yi rfl rfl ?_)))
   refine ZIr (Zj (Zj (Z9 ?_)))
   refine Zd (sr (Zb (v:=.map (some b7)) rfl (Zc (v:=.map (some b7)) rfl (dn (ZIi ?_)))))
   refine Zp (fn:=Tryz.f154) rfl ?_ ⟨s12,b7,rfl,h,(hC.getM 2 rfl),(Zfi hC 2 rfl),hC.below⟩ (.inl rfl)
   exact Zi rfl
  ·replace h := h.2 q10 l10 hp10
   refine Xk (v:=.bool true) rfl rfl (dn (ZIa (Yr rfl rfl (ZIe (Zd (ZIj (sr (Zfm hC 0 0 q10 rfl rfl hn10 rfl hk10 hv12 (Xk (v:=.agg (ZH8 (ZH6 .i64 q10.1))) rfl rfl (Xk (v:=.int .i64 q10.2) rfl rfl (Yj hC (ZH6 .i64 ZIg) z73 rfl fun b11 w17 hB_ hC=>?_)))))))))))
   refine Zw (v:=.agg (ZH8 (ZH6 .i64 q10.1))) hC 0 (ZH6 .i64 q10.1) (ZH6 .i64 q10.1) rfl ag73.size rfl rfl rfl rfl rfl (ZIc rfl) rfl fun w18 hC=>Zc (v:=.int .i64 q10.2) rfl (dn (sr (Jn [] rfl (Zf0   _) (Yj hC (ZH6 .i64 ZIg) z73 rfl fun b12 w19 hB_ hC=>Zw (v:=.agg (ZH8 (ZH6 .i64 ZIg))) hC 0 (ZH6 .i64 ZIg) (ZH6 .i64 ZIg) rfl ag73.size rfl rfl rfl rfl rfl (ZIc rfl) rfl fun w20 hC=>Zc (v:=.int .i64 1) rfl (dn (sr (Yy hC 1 (ZH6 .i64 q10.1) rfl ag73 rfl rfl rfl (Zb (v:=.int .i64 0) rfl ?_))))))))
   refine dn (ZIj ?_)
   refine Y9 (S:=A8×(List (A8×Int))×Int) _ _ (fun i10 s10 e_ w_=>Z3 e_ [(0,.pointer (some ⟨b0,0,none⟩)),(5,.map (some b7)),(6,.pointer (some ⟨b10,0,none⟩)),(7,.pointer (some ⟨b11,0,none⟩)),(8,.int .i64 q10.2),(9,.pointer (some ⟨b12,0,none⟩)),(10,.int .i64 s10.2.2),(21,.pointer (some ⟨r10,0,none⟩)),(28,.agg (ZH8 (ZH6 .i64 q10.1))),(29,.int .i64 (i10:Int))]∧Ctx Nox w0 w_ [blk b12 73 (ZH6 .i64 s10.1),blk b11 73 (ZH6 .i64 q10.1),itI (kvA .i64) (vvI .i64) r10 b1 es10 ck10 (some ent10) l10,blk b10 211 cs10,Ze (kvA .i64) (vvI .i64) b7 s10.2.1] [Y3 b1 es10 ck10,ZH7 (X3 (kvA .i64) (vvI .i64) 8) r11 cs10 f10,ZH7 ZIo.sl a0.images [u0_1] fp0,ZH7 ((EI .i64).ty.sl) a0.degrees [u0_0] fp0,ZH7 TAlg a0 [u0_0,u0_1] fp0,blk b0 32 [u0_0,u0_1],Ze (kvA .i64) (vvI .i64) b1 a1]) 8 ?_ ?_ (s0:=(ZIg,s12,1)) ?_ h
   ·clear hC h
    rintro i10 s10 e_ w21 nx10 K10 hi10 ⟨hS_,hC⟩ h hK10
    rw [ue hS_]
    refine sr (Zt rfl rfl (dn (ZIa (Yr rfl (decide_eq_true (by omega)) (ZIe (Zd (ZIa (ZIj (sr (Zb (v:=.int .i64 (i10:Int)) rfl (Zjw (.int .i64 (q10.1.get i10)) ZJf rfl rfl (ZIv _) (by omega) sc3 (ZIu _ _ hi10) ?_)))))))))))
    refine Zc (v:=.int .i64 (i10:Int)) rfl (Zc (v:=.int .i64 (q10.1.get i10)) rfl (dn (ZIa (sr (Zb (v:=.int .i64 (q10.1.get i10)) rfl (Jj rfl rfl (dn ?_)))))))
    refine Zr rfl (fun hb14=>?_) (fun hb14=>?_)
    ·replace h:=ift h (ct hb14)
     refine sr (Yy hC 1 (ZH6 .i64 q10.1) rfl ag73 rfl rfl rfl (Yj hC (ZH6 .i64 ZIg) z73 rfl fun b32 w22 hB_ hC=>Zw (v:=.agg (ZH8 (ZH6 .i64 q10.1))) hC 0 (ZH6 .i64 q10.1) (ZH6 .i64 q10.1) rfl ag73.size rfl rfl rfl rfl rfl (ZIc rfl) rfl fun w23 hC=>dn (ZIa (sr (Zb (v:=.int .i64 (i10:Int)) rfl (Zq rfl rfl (Zb (v:=.int .i64 0) rfl (dn (ZIj ?_)))))))))
     refine X1 (S:=A8×Int) _ (fun s11 e_ w_=>Z3 e_ [(0,.pointer (some ⟨b0,0,none⟩)),(5,.map (some b7)),(6,.pointer (some ⟨b10,0,none⟩)),(7,.pointer (some ⟨b11,0,none⟩)),(8,.int .i64 q10.2),(9,.pointer (some ⟨b12,0,none⟩)),(10,.int .i64 s10.2.2),(11,.int .i64 (i10:Int)),(12,.int .i64 (q10.1.get i10)),(13,.pointer (some ⟨b32,0,none⟩)),(21,.pointer (some ⟨r10,0,none⟩)),(28,.agg (ZH8 (ZH6 .i64 q10.1))),(29,.int .i64 (i10:Int)),(37,.int .i64 (ZA7.wrap ((i10:Int)+1))),(38,.int .i64 s11.2)]∧Ctx Nox w0 w_ [blk b32 73 (ZH6 .i64 s11.1),blk b12 73 (ZH6 .i64 s10.1),blk b11 73 (ZH6 .i64 q10.1),itI (kvA .i64) (vvI .i64) r10 b1 es10 ck10 (some ent10) l10,blk b10 211 cs10,Ze (kvA .i64) (vvI .i64) b7 s10.2.1] [Y3 b1 es10 ck10,ZH7 (X3 (kvA .i64) (vvI .i64) 8) r11 cs10 f10,ZH7 ZIo.sl a0.images [u0_1] fp0,ZH7 ((EI .i64).ty.sl) a0.degrees [u0_0] fp0,ZH7 TAlg a0 [u0_0,u0_1] fp0,blk b0 32 [u0_0,u0_1],Ze (kvA .i64) (vvI .i64) b1 a1]) ?_ (s0:=(q10.1,0)) ?_ h
     ·clear hC h
      rintro s11 e_ w24 nx12 K12 ⟨hS_,hC⟩ h hK12
      rw [ue hS_]
      refine sr (Zt rfl rfl (dn (ZIa ?_)))
      refine Zr rfl (fun hb15=>?_) (fun hb15=>?_)
      ·replace h:=ift h (ct hb15)
       refine ZIe (Zd (ZIa (ZIj (sr (Zb (v:=.int .i64 s11.2) rfl (Zc (v:=.int .i64 s11.2) rfl (dn (Zh (Zb (v:=.int .i64 s11.2) rfl ?_)))))))))
       obtain ⟨⟨h10,h11⟩,h⟩:=h
       refine Y5 s11.2.toNat ZJf sc3.size rfl rfl h10 h11 (by omega) (Zw (v:=.int .i64 0) hC 0 [.int .i64 0] (ZH6 .i64 (s11.1.set s11.2.toNat 0)) rfl sc3.size rfl rfl rfl rfl rfl (show s11.2.toNat < 8 by omega) (ZI3 _ _ _ (show s11.2.toNat < 8 by omega)) fun w25 hC=>done (Zs (Zd (Zh (Zq rfl rfl (Zb (v:=.int .i64 (ZA7.wrap (s11.2+1))) rfl (done ?_)))))))
       exact hK12 (s11.1.set s11.2.toNat 0,ZA7.wrap (s11.2+1)) _ _ ⟨(sl ⟨rfl,rfl,rfl,rfl,rfl,rfl,rfl,rfl,rfl,rfl,rfl,rfl,rfl,rfl,rfl,trivial⟩),hC⟩ h
      ·replace h:=Zk h (cf hb15)
       refine ZIr (Zj (Zj (Z9 ?_)))
       refine Zd (sr (Yy hC 1 (ZH6 .i64 s10.1) rfl ag73 rfl rfl rfl (Yj hC (ZH6 .i64 ZIg) z73 rfl fun b43 w26 hB_ hC=>Zw (v:=.agg (ZH8 (ZH6 .i64 s10.1))) hC 0 (ZH6 .i64 s10.1) (ZH6 .i64 s10.1) rfl ag73.size rfl rfl rfl rfl rfl (ZIc rfl) rfl fun w27 hC=>dn (sr (Zb (v:=.int .i64 (i10:Int)) rfl (Zb (v:=.int .i64 (q10.1.get i10)) rfl (Jt rfl rfl (Y5 i10 ZJf sc3.size rfl rfl (ZIv _) (by omega) (by omega) (Zw (v:=.int .i64 (ZA7.wrap ((q10.1.get i10) - 1))) hC 0 [.int .i64 (ZA7.wrap ((q10.1.get i10) - 1))] (ZH6 .i64 (s10.1.set i10 (ZA7.wrap ((q10.1.get i10) - 1)))) rfl sc3.size rfl rfl rfl rfl rfl hi10 (ZI3 _ _ _ hi10) fun w28 hC=>?_)))))))))
       refine dn (ZIa ?_)
       refine Zei 20 Ye [0,0,3,7,0,16,48,112,0,256,768,2047,0,4096,12288,28672,0,0,196608,458752,1048575,2097151] [1,7,9,10,15,17] [3,4,5,6,8,12,13,14,19] (by kernel_rfl) (by kernel_rfl) (by kernel_rfl) (fun hM11 hM10 w10 hB_=>?_)
       replace hC:=hC.grow hB_
       have hN_:w10.heap.size≤w10.heap.size:=Zy1 _
       refine Jy (Yb _) 1 (.agg (ZH8 (ZH6 .i64 (s10.1.set i10 (ZA7.wrap ((q10.1.get i10) - 1)))))) rfl rfl (by kernel_rfl) (hM11 1 rfl) (fun w_ hB_=>.inl ⟨rfl,by exact Yv (hC.grow (Zaj hB_)) 0 (ZH6 .i64 (s10.1.set i10 (ZA7.wrap ((q10.1.get i10) - 1)))) rfl ag73 rfl rfl rfl⟩) (l9:=(Za 22 2)) (by kernel_rfl) (Zm (Yb _) 4 (.pointer (some ⟨b0,0,none⟩)) rfl rfl (by kernel_rfl) (hM10 4 rfl) (fun w_=>.inl ⟨rfl,by exact Zf (v:=.pointer (some ⟨b0,0,none⟩)) rfl⟩) (l9:=(Za 22 18)) (by kernel_rfl) (Zm (Yb _) 5 (.pointer (some ⟨b0,0,none⟩)) rfl rfl (by kernel_rfl) (hM10 5 rfl) (fun w_=>.inl ⟨rfl,by exact J9 rfl⟩) (l9:=(Za 22 50)) (by kernel_rfl) (Zm (Yb _) 6 (.pointer (some ⟨b0,0,none⟩)) rfl rfl (by kernel_rfl) (hM10 6 rfl) (fun w_=>.inl ⟨rfl,by exact Z7 0 ZIq rfl sc22.size rfl rfl⟩) (l9:=(Za 22 114)) (by kernel_rfl) (Jy (Yb _) 7 (u0_0) rfl rfl (by kernel_rfl) (hM11 7 rfl) (fun w_ hB_=>.inl ⟨rfl,by exact Zaz (u0_0) ((hC.grow (Zaj hB_)).getP 5 rfl) sc22 rfl rfl⟩) (l9:=(Za 22 242)) (by kernel_rfl) (Zm (Yb _) 8 (.int .i64 (i10:Int)) rfl rfl (by kernel_rfl) (hM10 8 rfl) (fun w_=>.inl ⟨rfl,by exact Zf (v:=.int .i64 (i10:Int)) rfl⟩) (l9:=(Za 22 498)) (by kernel_rfl) (Jy (Yb _) 9 (.pointer (some ⟨b10,i10,none⟩)) rfl rfl (by kernel_rfl) (hM11 9 rfl) (fun w_ hB_=>.inl ⟨rfl,by exact Zaa i10 Tryz.underlying211 sc115.size rfl rfl (ZIv _) (by omega) (by omega)⟩) (l9:=(Za 22 1010)) (by kernel_rfl) ?_))))))
       obtain ⟨ml10,hl12,h⟩:=h
       obtain ⟨b13,hb18,hbf10,hm10⟩:=Zsh (hC.getP 1 rfl) hl12
       replace hC:=hC.derive 1 rfl (Ze (kvA .i64) (vvI .i64) b13 ml10) (fun _=>hm10) (fun c_ hc_=>by obtain rfl:=ZAs.1 hc_; exact hbf10)
       refine Jy (Yb _) 10 (.map (some b13)) rfl rfl (by kernel_rfl) (hM11 10 rfl) (fun w_ hB_=>.inl ⟨rfl,by exact Z5 (hC.grow (Zaj hB_)) 5 (.map (some b13)) rfl sc115 rfl (Zsj hb18 (by omega))⟩) (l9:=(Za 22 2034)) (by kernel_rfl) (Zm (Yb _) 12 (.pointer (some ⟨b0,0,none⟩)) rfl rfl (by kernel_rfl) (hM10 12 rfl) (fun w_=>.inl ⟨rfl,by exact Zf (v:=.pointer (some ⟨b0,0,none⟩)) rfl⟩) (l9:=(Za 22 6130)) (by kernel_rfl) (Zm (Yb _) 13 (.pointer (some ⟨b0,0,none⟩)) rfl rfl (by kernel_rfl) (hM10 13 rfl) (fun w_=>.inl ⟨rfl,by exact J9 rfl⟩) (l9:=(Za 22 14322)) (by kernel_rfl) (Zm (Yb _) 14 (.pointer (some ⟨b0,0,none⟩)) rfl rfl (by kernel_rfl) (hM10 14 rfl) (fun w_=>.inl ⟨rfl,by exact Z7 0 ZIq rfl sc22.size rfl rfl⟩) (l9:=(Za 22 30706)) (by kernel_rfl) (Jy (Yb _) 15 (u0_0) rfl rfl (by kernel_rfl) (hM11 15 rfl) (fun w_ hB_=>.inl ⟨rfl,by exact Zaz (u0_0) ((hC.grow (Zaj hB_)).getP 6 rfl) sc22 rfl rfl⟩) (l9:=(Za 22 63474)) (by kernel_rfl) (Jy (Yb _) 17 (.agg (ZH8 (ZH6 .i64 s11.1))) rfl rfl (by kernel_rfl) (hM11 17 rfl) (fun w_ hB_=>.inl ⟨rfl,by exact Yv (hC.grow (Zaj hB_)) 1 (ZH6 .i64 s11.1) rfl ag73 rfl rfl rfl⟩) (l9:=(Za 22 194546)) (by kernel_rfl) ?_)))))
       refine Zbj (fun e_ w_=>∃ (b19:Nat),∃ (r15:List (A8×Int)),Z3 e_ [(0,.pointer (some ⟨b0,0,none⟩)),(5,.map (some b7)),(6,.pointer (some ⟨b10,0,none⟩)),(7,.pointer (some ⟨b11,0,none⟩)),(8,.int .i64 q10.2),(9,.pointer (some ⟨b12,0,none⟩)),(10,.int .i64 s10.2.2),(11,.int .i64 (i10:Int)),(12,.int .i64 (q10.1.get i10)),(16,.map (some b19)),(21,.pointer (some ⟨r10,0,none⟩)),(28,.agg (ZH8 (ZH6 .i64 q10.1))),(29,.int .i64 (i10:Int))]∧Ctx Nox w0 w_ [Ze (kvA .i64) (vvI .i64) b19 r15,blk b12 73 (ZH6 .i64 s10.1),blk b11 73 (ZH6 .i64 q10.1),itI (kvA .i64) (vvI .i64) r10 b1 es10 ck10 (some ent10) l10,blk b10 211 cs10,Ze (kvA .i64) (vvI .i64) b7 s10.2.1] [Y3 b1 es10 ck10,ZH7 (X3 (kvA .i64) (vvI .i64) 8) r11 cs10 f10,ZH7 ZIo.sl a0.images [u0_1] fp0,ZH7 ((EI .i64).ty.sl) a0.degrees [u0_0] fp0,ZH7 TAlg a0 [u0_0,u0_1] fp0,blk b0 32 [u0_0,u0_1],Ze (kvA .i64) (vvI .i64) b1 a1]∧(Zak (ZA7.wrap ((ZA7.wrap (s10.2.2 * q10.2)) * (q10.1.get i10))) (fun r12=>Zam s10.2.1 r15 r12 (fun m10=>(if(i10:Int) < (a0.degrees.length:Int) then((0≤(i10:Int)∧(i10:Int) < (a0.degrees.length:Int))∧(if Zyy (a0.degrees.getD i10 Zyt) 2=1 then(if Zyy (q10.1.get i10) 2=1 then nx10 (s10.1.set i10 (q10.1.get i10),m10,ZA7.wrap (0 - s10.2.2)) else nx10 (s10.1.set i10 (q10.1.get i10),m10,s10.2.2)) else nx10 (s10.1.set i10 (q10.1.get i10),m10,s10.2.2))) else nx10 (s10.1.set i10 (q10.1.get i10),m10,s10.2.2)))))) ?_ ?_
       ·clear hC h
        rintro e_ w29 ⟨b19,r15,hS_,hC,h⟩
        rw [ue hS_]
        refine Zd (Zh (Zb (v:=.map (some b7)) rfl (Zb (v:=.map (some b19)) rfl (Zb (v:=.int .i64 s10.2.2) rfl (Zb (v:=.int .i64 q10.2) rfl (Ju rfl rfl (Zb (v:=.int .i64 (q10.1.get i10)) rfl (Ju rfl rfl ?_))))))))
        refine Zg [.int .i64 (ZA7.wrap ((ZA7.wrap (s10.2.2 * q10.2)) * (q10.1.get i10)))] _ Tryz.func187 rfl rfl rfl (Zf8 (ZA7.wrap ((ZA7.wrap (s10.2.2 * q10.2)) * (q10.1.get i10))) h _) (fun ret11 w30 hR11=>?_)
        obtain ⟨r12,rfl,h,hB11⟩:=hR11
        refine⟨_,rfl,?_⟩
        replace hC:=hC.grow hB11
        refine Zg [.map (some b7),.map (some b19),.int .i64 r12] _ Tryz.func165 rfl rfl rfl (Ziq s10.2.1 r15 r12 h _ (hC.getM 5 rfl) (fun c_ hc_ e_=>hC.mm 0 5 rfl rfl (by decide) c_ hc_ (ZAs.2 e_)) (hC.getM 0 rfl)) (fun ret12 w31 hR12=>?_)
        obtain ⟨m10,rfl,h,hm11,hB12⟩:=hR12
        refine⟨_,rfl,?_⟩
        replace hC:=hC.turnB 5 rfl hB12 rfl rfl hm11
        refine dn (sr (Zb (v:=.int .i64 (i10:Int)) rfl (Zb (v:=.int .i64 (q10.1.get i10)) rfl (Y5 i10 ZJf sc3.size rfl rfl (ZIv _) (by omega) (by omega) (Zw (v:=.int .i64 (q10.1.get i10)) hC 1 [.int .i64 (q10.1.get i10)] (ZH6 .i64 (s10.1.set i10 (q10.1.get i10))) rfl sc3.size rfl rfl rfl rfl rfl hi10 (ZI3 _ _ _ hi10) fun w32 hC=>dn (sr (Zb (v:=.int .i64 (i10:Int)) rfl (Zb (v:=.pointer (some ⟨b0,0,none⟩)) rfl (Zaf rfl (Z6 0 ZIq rfl sc22.size rfl rfl ?_))))))))))
        refine Zbv (u0_0) (hC.getP 5 rfl) sc22 rfl rfl ?_
        obtain ⟨Ad10,c10,hv13⟩:=Z1 (hC.getP 3 rfl)
        refine Zx ZIs (tr rfl hv13) (Zt rfl rfl (Zb (v:=.bool (decide ((i10:Int) < (a0.degrees.length:Int)))) rfl ?_))
        refine Xh (decide ((i10:Int) < (a0.degrees.length:Int))) (fun hb10=>?_) (fun hb10=>?_)
        ·replace h:=ift h (ct hb10)
         refine Zl 7 87 rfl rfl hb10 (Zb (v:=.pointer (some ⟨b0,0,none⟩)) rfl (Zl 7 87 rfl rfl hb10 (Zaf rfl (Zl 7 87 rfl rfl hb10 (Z6 0 ZIq rfl sc22.size rfl rfl (Zl 7 87 rfl rfl hb10 (Zbv (u0_0) (hC.getP 5 rfl) sc22 rfl rfl (Zl 7 87 rfl rfl hb10 (Zb (v:=.int .i64 (i10:Int)) rfl (Zl 7 87 rfl rfl hb10 ?_))))))))))
         obtain ⟨⟨h12,h13⟩,h⟩:=h
         obtain ⟨Ad11,c11,hv10⟩:=Z0 (hC.getP 3 rfl) i10 (show i10 < a0.degrees.length by omega)
         refine Xb (len:=a0.degrees.length) ZIs sc2.size (tr rfl hv10) rfl h12 h13 (Zl 7 87 rfl rfl hb10 (Xm (.int .i64 (a0.degrees.getD i10 Zyt)) (Yf (hC.getP 3 rfl) hv10 i10 (show i10 < a0.degrees.length by omega)) sc2 rfl (Zl 7 87 rfl rfl hb10 (X0 rfl rfl (by decide) (Zl 7 87 rfl rfl hb10 (Jm rfl rfl (Yc (v:=.bool (decide (Zyy (a0.degrees.getD i10 Zyt) 2=1))) (b:=true) (tr rfl (congrArg _ hb10)) rfl (Zb (v:=.bool (decide (Zyy (a0.degrees.getD i10 Zyt) 2=1))) rfl ?_))))))))
         refine Xh (decide (Zyy (a0.degrees.getD i10 Zyt) 2=1)) (fun hb12=>?_) (fun hb12=>?_)
         ·replace h:=ift h (ct hb12)
          refine Zl 18 98 rfl rfl hb12 (Zb (v:=.int .i64 (q10.1.get i10)) rfl (Zl 18 98 rfl rfl hb12 (X0 rfl rfl (by decide) (Zl 18 98 rfl rfl hb12 (Jm rfl rfl (Yc (v:=.bool (decide (Zyy (q10.1.get i10) 2=1))) (b:=true) (tr rfl (congrArg _ hb12)) rfl (dn ?_)))))))
          refine Zr rfl (fun hb16=>?_) (fun hb16=>?_)
          ·replace h:=ift h (ct hb16)
           refine Zh (Zb (v:=.int .i64 s10.2.2) rfl (Zfa rfl (Zc (v:=.int .i64 (ZA7.wrap (0 - s10.2.2))) rfl (done (Zs (Zd (Zh (Zq rfl rfl (Zb (v:=.int .i64 (ZA7.wrap ((i10:Int)+1))) rfl (done ?_))))))))))
           replace hC:=hC.sM [1,2,3,4,5] (M':=[blk b12 73 (ZH6 .i64 (s10.1.set i10 (q10.1.get i10))),blk b11 73 (ZH6 .i64 q10.1),itI (kvA .i64) (vvI .i64) r10 b1 es10 ck10 (some ent10) l10,blk b10 211 cs10,Ze (kvA .i64) (vvI .i64) b7 m10]) (by decide) rfl
           exact hK10 (s10.1.set i10 (q10.1.get i10),m10,ZA7.wrap (0 - s10.2.2)) _ _ ⟨(sl ⟨rfl,rfl,rfl,rfl,rfl,rfl,rfl,rfl,rfl,(tr rfl (congrArg _ (Yh hi10 (by decide)))),trivial⟩),hC⟩ h
          ·replace h:=Zk h (cf hb16)
           refine ZIe (Zs (Zd (Zh (Zq rfl rfl (Zb (v:=.int .i64 (ZA7.wrap ((i10:Int)+1))) rfl (done ?_))))))
           replace hC:=hC.sM [1,2,3,4,5] (M':=[blk b12 73 (ZH6 .i64 (s10.1.set i10 (q10.1.get i10))),blk b11 73 (ZH6 .i64 q10.1),itI (kvA .i64) (vvI .i64) r10 b1 es10 ck10 (some ent10) l10,blk b10 211 cs10,Ze (kvA .i64) (vvI .i64) b7 m10]) (by decide) rfl
           exact hK10 (s10.1.set i10 (q10.1.get i10),m10,s10.2.2) _ _ ⟨(sl ⟨rfl,rfl,rfl,rfl,rfl,rfl,rfl,rfl,rfl,(tr rfl (congrArg _ (Yh hi10 (by decide)))),trivial⟩),hC⟩ h
         ·replace h:=Zk h (cf hb12)
          refine Zn (b:=false) 18 98 rfl (tr rfl (congrArg _ hb12)) (by decide) (Zn (b:=false) 18 98 rfl (tr rfl (congrArg _ hb12)) (by decide) (Zn (b:=false) 18 98 rfl (tr rfl (congrArg _ hb12)) (by decide) (Yc (v:=.bool false) (b:=false) (tr rfl (congrArg _ hb12)) rfl (dn (Yi rfl rfl (ZIe (Zs (Zd (Zh (Zq rfl rfl (Zb (v:=.int .i64 (ZA7.wrap ((i10:Int)+1))) rfl ?_)))))))))))
          refine done ?_
          replace hC:=hC.sM [1,2,3,4,5] (M':=[blk b12 73 (ZH6 .i64 (s10.1.set i10 (q10.1.get i10))),blk b11 73 (ZH6 .i64 q10.1),itI (kvA .i64) (vvI .i64) r10 b1 es10 ck10 (some ent10) l10,blk b10 211 cs10,Ze (kvA .i64) (vvI .i64) b7 m10]) (by decide) rfl
          exact hK10 (s10.1.set i10 (q10.1.get i10),m10,s10.2.2) _ _ ⟨(sl ⟨rfl,rfl,rfl,rfl,rfl,rfl,rfl,rfl,rfl,(tr rfl (congrArg _ (Yh hi10 (by decide)))),trivial⟩),hC⟩ h
        ·replace h:=Zk h (cf hb10)
         refine Zn (b:=false) 7 87 rfl (tr rfl (congrArg _ hb10)) (by decide) (Zn (b:=false) 7 87 rfl (tr rfl (congrArg _ hb10)) (by decide) (Zn (b:=false) 7 87 rfl (tr rfl (congrArg _ hb10)) (by decide) (Zn (b:=false) 7 87 rfl (tr rfl (congrArg _ hb10)) (by decide) (Zn (b:=false) 7 87 rfl (tr rfl (congrArg _ hb10)) (by decide) (Zn (b:=false) 7 87 rfl (tr rfl (congrArg _ hb10)) (by decide) (Zn (b:=false) 7 87 rfl (tr rfl (congrArg _ hb10)) (by decide) (Zn (b:=false) 7 87 rfl (tr rfl (congrArg _ hb10)) (by decide) (Zn (b:=false) 7 87 rfl (tr rfl (congrArg _ hb10)) (by decide) (Yc (v:=.bool false) (b:=false) (tr rfl (congrArg _ hb10)) rfl (Zb (v:=.bool false) rfl (Zn (b:=false) 18 98 rfl (tr rfl (congrArg _ rfl)) (by decide) ?_)))))))))))
         refine Zn (b:=false) 18 98 rfl (tr rfl (congrArg _ rfl)) (by decide) (Zn (b:=false) 18 98 rfl (tr rfl (congrArg _ rfl)) (by decide) (Yc (v:=.bool false) (b:=false) rfl rfl (dn (Yi rfl rfl (ZIe (Zs (Zd (Zh (Zq rfl rfl (Zb (v:=.int .i64 (ZA7.wrap ((i10:Int)+1))) rfl (done ?_)))))))))))
         replace hC:=hC.sM [1,2,3,4,5] (M':=[blk b12 73 (ZH6 .i64 (s10.1.set i10 (q10.1.get i10))),blk b11 73 (ZH6 .i64 q10.1),itI (kvA .i64) (vvI .i64) r10 b1 es10 ck10 (some ent10) l10,blk b10 211 cs10,Ze (kvA .i64) (vvI .i64) b7 m10]) (by decide) rfl
         exact hK10 (s10.1.set i10 (q10.1.get i10),m10,s10.2.2) _ _ ⟨(sl ⟨rfl,rfl,rfl,rfl,rfl,rfl,rfl,rfl,rfl,(tr rfl (congrArg _ (Yh hi10 (by decide)))),trivial⟩),hC⟩ h
       refine Xg 0 16 rfl rfl (by kernel_rfl) ?_ ?_
       ·skip
        refine Zad hC (kvA .i64) (vvI .i64) fun b14 w33 hn_ hB_ hC=>?_
        have hnb_b12976:=Zy6 hN_ hn_
        refine done ?_
        refine Zy (Ys hN_ (by assumption)) hN_ (l9:=(Za 22 194547)) (by kernel_rfl) (fun hN_=>?_)
        refine Xg 2 16 rfl rfl (by kernel_rfl) ?_ ?_
        ·skip
         refine Y7 hC 0 (s10.1.set i10 (ZA7.wrap ((q10.1.get i10) - 1))) 1 rfl Y0 ZKw rfl rfl rfl (fun w34 hBB_ hC=>?_) (.inr rfl)
         refine done ?_
         refine Zy (Yz hN_ hnb_b12976 hBB_) hN_ (l9:=(Za 22 194551)) (by kernel_rfl) (fun hN_=>?_)
         refine Zm (Yb _) 3 (.map (some b14)) rfl rfl (by kernel_rfl) (hM10 3 rfl) (fun w_=>.inl ⟨rfl,by exact Zf (v:=.map (some b14)) rfl⟩) (l9:=(Za 22 194559)) (by kernel_rfl) ?_
         refine Xg 11 16 rfl rfl (by kernel_rfl) ?_ ?_
         ·skip
          refine Zg [.map (some b14),u0_0,.map (some b13)] _ ZKx rfl rfl rfl (Yu (Zz ([]:List (A8×Int)) (s10.1.set i10 (ZA7.wrap ((q10.1.get i10) - 1))) 1) a0.degrees ml10 h _ (hC.getM 0 rfl) (hC.getP 4 rfl) (hC.getP 0 rfl)) (fun ret13 w35 hR13=>?_)
          obtain ⟨r14,b33,rfl,h,hr12,hf11,hB13⟩:=hR13
          refine⟨_,rfl,?_⟩
          replace hC:=hC.push hB13 (Ze (kvA .i64) (vvI .i64) b33 r14) hr12 (fun b_ hb_=>by obtain rfl:=ZAs.1 hb_; exact hf11)
          refine done ?_
          refine Zy (Ys hN_ (by assumption)) hN_ (l9:=(Za 22 196607)) (by kernel_rfl) (fun hN_=>?_)
          refine aO 16 rfl (Zad hC (kvA .i64) (vvI .i64) fun b30 w36 hn_ hB_ hC=>?_)
          have hnb_b12989:=Zy6 hN_ hn_
          refine done ?_
          refine Zy (Ys hN_ (by assumption)) hN_ (l9:=(Za 22 262143)) (by kernel_rfl) (fun hN_=>?_)
          refine aO 18 rfl ?_
          refine Y7 hC 0 s11.1 1 rfl Y0 ZKw rfl rfl rfl (fun w37 hBB_ hC=>?_) (.inr rfl)
          refine done ?_
          refine Zy (Yz hN_ hnb_b12989 hBB_) hN_ (l9:=(Za 22 524287)) (by kernel_rfl) (fun hN_=>?_)
          refine Zm (Yb _) 19 (.map (some b30)) rfl rfl (by kernel_rfl) (hM10 19 rfl) (fun w_=>.inl ⟨rfl,by exact Zf (v:=.map (some b30)) rfl⟩) (l9:=(Za 22 1048575)) (by kernel_rfl) (Zu 20 (by decide) (by decide) (by kernel_rfl) (by kernel_rfl) rfl ?_)
          refine Zg [.map (some b33),u0_0,.map (some b30)] _ ZKx rfl rfl rfl (Yu r14 a0.degrees (Zz ([]:List (A8×Int)) s11.1 1) h _ (hC.getM 1 rfl) (hC.getP 4 rfl) (hC.getM 0 rfl)) (fun ret14 w38 hR14=>?_)
          obtain ⟨r13,b20,rfl,h,hr13,hf12,hB14⟩:=hR14
          refine⟨_,rfl,?_⟩
          replace hC:=hC.push hB14 (Ze (kvA .i64) (vvI .i64) b20 r13) hr13 (fun b_ hb_=>by obtain rfl:=ZAs.1 hb_; exact hf12)
          refine Zc (v:=.map (some b20)) rfl (done (Zv ?_))
          replace hC:=hC.sM [0,6,7,8,9,10] (M':=[Ze (kvA .i64) (vvI .i64) b20 r13,blk b12 73 (ZH6 .i64 s10.1),blk b11 73 (ZH6 .i64 q10.1),itI (kvA .i64) (vvI .i64) r10 b1 es10 ck10 (some ent10) l10,blk b10 211 cs10,Ze (kvA .i64) (vvI .i64) b7 s10.2.1]) (by decide) rfl
          replace hC:=hC.sP [1,2,3,4,5,6,7] (Ps':=[Y3 b1 es10 ck10,ZH7 (X3 (kvA .i64) (vvI .i64) 8) r11 cs10 f10,ZH7 ZIo.sl a0.images [u0_1] fp0,ZH7 ((EI .i64).ty.sl) a0.degrees [u0_0] fp0,ZH7 TAlg a0 [u0_0,u0_1] fp0,blk b0 32 [u0_0,u0_1],Ze (kvA .i64) (vvI .i64) b1 a1]) rfl
          exact⟨rfl,_,rfl,⟨b20,r13,(sl ⟨rfl,rfl,rfl,rfl,rfl,rfl,rfl,rfl,rfl,rfl,rfl,rfl,rfl,trivial⟩),hC,h⟩⟩
         ·skip
          refine Zad hC (kvA .i64) (vvI .i64) fun b18 w39 hn_ hB_ hC=>?_
          have hnb_b13002:=Zy6 hN_ hn_
          refine done ?_
          refine Zy (Ys hN_ (by assumption)) hN_ (l9:=(Za 22 260095)) (by kernel_rfl) (fun hN_=>?_)
          refine Xg 11 18 rfl rfl (by kernel_rfl) ?_ ?_
          ·skip
           refine Zg [.map (some b14),u0_0,.map (some b13)] _ ZKx rfl rfl rfl (Yu (Zz ([]:List (A8×Int)) (s10.1.set i10 (ZA7.wrap ((q10.1.get i10) - 1))) 1) a0.degrees ml10 h _ (hC.getM 1 rfl) (hC.getP 4 rfl) (hC.getP 0 rfl)) (fun ret15 w40 hR15=>?_)
           obtain ⟨r25,b34,rfl,h,hr14,hf13,hB15⟩:=hR15
           refine⟨_,rfl,?_⟩
           replace hC:=hC.push hB15 (Ze (kvA .i64) (vvI .i64) b34 r25) hr14 (fun b_ hb_=>by obtain rfl:=ZAs.1 hb_; exact hf13)
           refine done ?_
           refine Zy (Ys hN_ (by assumption)) hN_ (l9:=(Za 22 262143)) (by kernel_rfl) (fun hN_=>?_)
           refine aO 18 rfl ?_
           refine Y7 hC 1 s11.1 1 rfl Y0 ZKw rfl rfl rfl (fun w41 hBB_ hC=>?_) (.inr rfl)
           refine done ?_
           refine Zy (Yz hN_ hnb_b13002 hBB_) hN_ (l9:=(Za 22 524287)) (by kernel_rfl) (fun hN_=>?_)
           refine Zm (Yb _) 19 (.map (some b18)) rfl rfl (by kernel_rfl) (hM10 19 rfl) (fun w_=>.inl ⟨rfl,by exact Zf (v:=.map (some b18)) rfl⟩) (l9:=(Za 22 1048575)) (by kernel_rfl) (Zu 20 (by decide) (by decide) (by kernel_rfl) (by kernel_rfl) rfl ?_)
           refine Zg [.map (some b34),u0_0,.map (some b18)] _ ZKx rfl rfl rfl (Yu r25 a0.degrees (Zz ([]:List (A8×Int)) s11.1 1) h _ (hC.getM 0 rfl) (hC.getP 4 rfl) (hC.getM 1 rfl)) (fun ret16 w42 hR16=>?_)
           obtain ⟨r16,b21,rfl,h,hr15,hf14,hB16⟩:=hR16
           refine⟨_,rfl,?_⟩
           replace hC:=hC.push hB16 (Ze (kvA .i64) (vvI .i64) b21 r16) hr15 (fun b_ hb_=>by obtain rfl:=ZAs.1 hb_; exact hf14)
           refine Zc (v:=.map (some b21)) rfl (done (Zv ?_))
           replace hC:=hC.sM [0,6,7,8,9,10] (M':=[Ze (kvA .i64) (vvI .i64) b21 r16,blk b12 73 (ZH6 .i64 s10.1),blk b11 73 (ZH6 .i64 q10.1),itI (kvA .i64) (vvI .i64) r10 b1 es10 ck10 (some ent10) l10,blk b10 211 cs10,Ze (kvA .i64) (vvI .i64) b7 s10.2.1]) (by decide) rfl
           replace hC:=hC.sP [1,2,3,4,5,6,7] (Ps':=[Y3 b1 es10 ck10,ZH7 (X3 (kvA .i64) (vvI .i64) 8) r11 cs10 f10,ZH7 ZIo.sl a0.images [u0_1] fp0,ZH7 ((EI .i64).ty.sl) a0.degrees [u0_0] fp0,ZH7 TAlg a0 [u0_0,u0_1] fp0,blk b0 32 [u0_0,u0_1],Ze (kvA .i64) (vvI .i64) b1 a1]) rfl
           exact⟨rfl,_,rfl,⟨b21,r16,(sl ⟨rfl,rfl,rfl,rfl,rfl,rfl,rfl,rfl,rfl,rfl,rfl,rfl,rfl,trivial⟩),hC,h⟩⟩
          ·skip
           refine Y7 hC 0 s11.1 1 rfl Y0 ZKw rfl rfl rfl (fun w43 hBB_ hC=>?_) (.inr rfl)
           refine done ?_
           refine Zy (Yz hN_ hnb_b13002 hBB_) hN_ (l9:=(Za 22 522239)) (by kernel_rfl) (fun hN_=>?_)
           refine Zm (Yb _) 19 (.map (some b18)) rfl rfl (by kernel_rfl) (hM10 19 rfl) (fun w_=>.inl ⟨rfl,by exact Zf (v:=.map (some b18)) rfl⟩) (l9:=(Za 22 1046527)) (by kernel_rfl) (aO 11 rfl ?_)
           refine Zg [.map (some b14),u0_0,.map (some b13)] _ ZKx rfl rfl rfl (Yu (Zz ([]:List (A8×Int)) (s10.1.set i10 (ZA7.wrap ((q10.1.get i10) - 1))) 1) a0.degrees ml10 h _ (hC.getM 1 rfl) (hC.getP 4 rfl) (hC.getP 0 rfl)) (fun ret17 w44 hR17=>?_)
           obtain ⟨r26,b35,rfl,h,hr16,hf15,hB17⟩:=hR17
           refine⟨_,rfl,?_⟩
           replace hC:=hC.push hB17 (Ze (kvA .i64) (vvI .i64) b35 r26) hr16 (fun b_ hb_=>by obtain rfl:=ZAs.1 hb_; exact hf15)
           refine done ?_
           refine Zy (Ys hN_ (by assumption)) hN_ (l9:=(Za 22 1048575)) (by kernel_rfl) (fun hN_=>?_)
           refine Zu 20 (by decide) (by decide) (by kernel_rfl) (by kernel_rfl) rfl ?_
           refine Zg [.map (some b35),u0_0,.map (some b18)] _ ZKx rfl rfl rfl (Yu r26 a0.degrees (Zz ([]:List (A8×Int)) s11.1 1) h _ (hC.getM 0 rfl) (hC.getP 4 rfl) (hC.getM 1 rfl)) (fun ret18 w45 hR18=>?_)
           obtain ⟨r17,b22,rfl,h,hr17,hf16,hB18⟩:=hR18
           refine⟨_,rfl,?_⟩
           replace hC:=hC.push hB18 (Ze (kvA .i64) (vvI .i64) b22 r17) hr17 (fun b_ hb_=>by obtain rfl:=ZAs.1 hb_; exact hf16)
           refine Zc (v:=.map (some b22)) rfl (done (Zv ?_))
           replace hC:=hC.sM [0,6,7,8,9,10] (M':=[Ze (kvA .i64) (vvI .i64) b22 r17,blk b12 73 (ZH6 .i64 s10.1),blk b11 73 (ZH6 .i64 q10.1),itI (kvA .i64) (vvI .i64) r10 b1 es10 ck10 (some ent10) l10,blk b10 211 cs10,Ze (kvA .i64) (vvI .i64) b7 s10.2.1]) (by decide) rfl
           replace hC:=hC.sP [1,2,3,4,5,6,7] (Ps':=[Y3 b1 es10 ck10,ZH7 (X3 (kvA .i64) (vvI .i64) 8) r11 cs10 f10,ZH7 ZIo.sl a0.images [u0_1] fp0,ZH7 ((EI .i64).ty.sl) a0.degrees [u0_0] fp0,ZH7 TAlg a0 [u0_0,u0_1] fp0,blk b0 32 [u0_0,u0_1],Ze (kvA .i64) (vvI .i64) b1 a1]) rfl
           exact⟨rfl,_,rfl,⟨b22,r17,(sl ⟨rfl,rfl,rfl,rfl,rfl,rfl,rfl,rfl,rfl,rfl,rfl,rfl,rfl,trivial⟩),hC,h⟩⟩
        ·skip
         refine Zad hC (kvA .i64) (vvI .i64) fun b16 w46 hn_ hB_ hC=>?_
         have hnb_b13043:=Zy6 hN_ hn_
         refine done ?_
         refine Zy (Ys hN_ (by assumption)) hN_ (l9:=(Za 22 260083)) (by kernel_rfl) (fun hN_=>?_)
         refine Xg 2 18 rfl rfl (by kernel_rfl) ?_ ?_
         ·skip
          refine Y7 hC 1 (s10.1.set i10 (ZA7.wrap ((q10.1.get i10) - 1))) 1 rfl Y0 ZKw rfl rfl rfl (fun w47 hBB_ hC=>?_) (.inr rfl)
          refine done ?_
          refine Zy (Yz hN_ hnb_b12976 hBB_) hN_ (l9:=(Za 22 260087)) (by kernel_rfl) (fun hN_=>?_)
          refine Zm (Yb _) 3 (.map (some b14)) rfl rfl (by kernel_rfl) (hM10 3 rfl) (fun w_=>.inl ⟨rfl,by exact Zf (v:=.map (some b14)) rfl⟩) (l9:=(Za 22 260095)) (by kernel_rfl) ?_
          refine Xg 11 18 rfl rfl (by kernel_rfl) ?_ ?_
          ·skip
           refine Zg [.map (some b14),u0_0,.map (some b13)] _ ZKx rfl rfl rfl (Yu (Zz ([]:List (A8×Int)) (s10.1.set i10 (ZA7.wrap ((q10.1.get i10) - 1))) 1) a0.degrees ml10 h _ (hC.getM 1 rfl) (hC.getP 4 rfl) (hC.getP 0 rfl)) (fun ret19 w48 hR19=>?_)
           obtain ⟨r27,b36,rfl,h,hr18,hf17,hB19⟩:=hR19
           refine⟨_,rfl,?_⟩
           replace hC:=hC.push hB19 (Ze (kvA .i64) (vvI .i64) b36 r27) hr18 (fun b_ hb_=>by obtain rfl:=ZAs.1 hb_; exact hf17)
           refine done ?_
           refine Zy (Ys hN_ (by assumption)) hN_ (l9:=(Za 22 262143)) (by kernel_rfl) (fun hN_=>?_)
           refine aO 18 rfl ?_
           refine Y7 hC 1 s11.1 1 rfl Y0 ZKw rfl rfl rfl (fun w49 hBB_ hC=>?_) (.inr rfl)
           refine done ?_
           refine Zy (Yz hN_ hnb_b13043 hBB_) hN_ (l9:=(Za 22 524287)) (by kernel_rfl) (fun hN_=>?_)
           refine Zm (Yb _) 19 (.map (some b16)) rfl rfl (by kernel_rfl) (hM10 19 rfl) (fun w_=>.inl ⟨rfl,by exact Zf (v:=.map (some b16)) rfl⟩) (l9:=(Za 22 1048575)) (by kernel_rfl) (Zu 20 (by decide) (by decide) (by kernel_rfl) (by kernel_rfl) rfl ?_)
           refine Zg [.map (some b36),u0_0,.map (some b16)] _ ZKx rfl rfl rfl (Yu r27 a0.degrees (Zz ([]:List (A8×Int)) s11.1 1) h _ (hC.getM 0 rfl) (hC.getP 4 rfl) (hC.getM 1 rfl)) (fun ret20 w50 hR20=>?_)
           obtain ⟨r18,b23,rfl,h,hr19,hf18,hB20⟩:=hR20
           refine⟨_,rfl,?_⟩
           replace hC:=hC.push hB20 (Ze (kvA .i64) (vvI .i64) b23 r18) hr19 (fun b_ hb_=>by obtain rfl:=ZAs.1 hb_; exact hf18)
           refine Zc (v:=.map (some b23)) rfl (done (Zv ?_))
           replace hC:=hC.sM [0,6,7,8,9,10] (M':=[Ze (kvA .i64) (vvI .i64) b23 r18,blk b12 73 (ZH6 .i64 s10.1),blk b11 73 (ZH6 .i64 q10.1),itI (kvA .i64) (vvI .i64) r10 b1 es10 ck10 (some ent10) l10,blk b10 211 cs10,Ze (kvA .i64) (vvI .i64) b7 s10.2.1]) (by decide) rfl
           replace hC:=hC.sP [1,2,3,4,5,6,7] (Ps':=[Y3 b1 es10 ck10,ZH7 (X3 (kvA .i64) (vvI .i64) 8) r11 cs10 f10,ZH7 ZIo.sl a0.images [u0_1] fp0,ZH7 ((EI .i64).ty.sl) a0.degrees [u0_0] fp0,ZH7 TAlg a0 [u0_0,u0_1] fp0,blk b0 32 [u0_0,u0_1],Ze (kvA .i64) (vvI .i64) b1 a1]) rfl
           exact⟨rfl,_,rfl,⟨b23,r18,(sl ⟨rfl,rfl,rfl,rfl,rfl,rfl,rfl,rfl,rfl,rfl,rfl,rfl,rfl,trivial⟩),hC,h⟩⟩
          ·skip
           refine Y7 hC 0 s11.1 1 rfl Y0 ZKw rfl rfl rfl (fun w51 hBB_ hC=>?_) (.inr rfl)
           refine done ?_
           refine Zy (Yz hN_ hnb_b13043 hBB_) hN_ (l9:=(Za 22 522239)) (by kernel_rfl) (fun hN_=>?_)
           refine Zm (Yb _) 19 (.map (some b16)) rfl rfl (by kernel_rfl) (hM10 19 rfl) (fun w_=>.inl ⟨rfl,by exact Zf (v:=.map (some b16)) rfl⟩) (l9:=(Za 22 1046527)) (by kernel_rfl) (aO 11 rfl ?_)
           refine Zg [.map (some b14),u0_0,.map (some b13)] _ ZKx rfl rfl rfl (Yu (Zz ([]:List (A8×Int)) (s10.1.set i10 (ZA7.wrap ((q10.1.get i10) - 1))) 1) a0.degrees ml10 h _ (hC.getM 1 rfl) (hC.getP 4 rfl) (hC.getP 0 rfl)) (fun ret21 w52 hR21=>?_)
           obtain ⟨r28,b37,rfl,h,hr20,hf19,hB21⟩:=hR21
           refine⟨_,rfl,?_⟩
           replace hC:=hC.push hB21 (Ze (kvA .i64) (vvI .i64) b37 r28) hr20 (fun b_ hb_=>by obtain rfl:=ZAs.1 hb_; exact hf19)
           refine done ?_
           refine Zy (Ys hN_ (by assumption)) hN_ (l9:=(Za 22 1048575)) (by kernel_rfl) (fun hN_=>?_)
           refine Zu 20 (by decide) (by decide) (by kernel_rfl) (by kernel_rfl) rfl ?_
           refine Zg [.map (some b37),u0_0,.map (some b16)] _ ZKx rfl rfl rfl (Yu r28 a0.degrees (Zz ([]:List (A8×Int)) s11.1 1) h _ (hC.getM 0 rfl) (hC.getP 4 rfl) (hC.getM 1 rfl)) (fun ret22 w53 hR22=>?_)
           obtain ⟨r19,b24,rfl,h,hr21,hf20,hB22⟩:=hR22
           refine⟨_,rfl,?_⟩
           replace hC:=hC.push hB22 (Ze (kvA .i64) (vvI .i64) b24 r19) hr21 (fun b_ hb_=>by obtain rfl:=ZAs.1 hb_; exact hf20)
           refine Zc (v:=.map (some b24)) rfl (done (Zv ?_))
           replace hC:=hC.sM [0,6,7,8,9,10] (M':=[Ze (kvA .i64) (vvI .i64) b24 r19,blk b12 73 (ZH6 .i64 s10.1),blk b11 73 (ZH6 .i64 q10.1),itI (kvA .i64) (vvI .i64) r10 b1 es10 ck10 (some ent10) l10,blk b10 211 cs10,Ze (kvA .i64) (vvI .i64) b7 s10.2.1]) (by decide) rfl
           replace hC:=hC.sP [1,2,3,4,5,6,7] (Ps':=[Y3 b1 es10 ck10,ZH7 (X3 (kvA .i64) (vvI .i64) 8) r11 cs10 f10,ZH7 ZIo.sl a0.images [u0_1] fp0,ZH7 ((EI .i64).ty.sl) a0.degrees [u0_0] fp0,ZH7 TAlg a0 [u0_0,u0_1] fp0,blk b0 32 [u0_0,u0_1],Ze (kvA .i64) (vvI .i64) b1 a1]) rfl
           exact⟨rfl,_,rfl,⟨b24,r19,(sl ⟨rfl,rfl,rfl,rfl,rfl,rfl,rfl,rfl,rfl,rfl,rfl,rfl,rfl,trivial⟩),hC,h⟩⟩
         ·skip
          refine Y7 hC 0 s11.1 1 rfl Y0 ZKw rfl rfl rfl (fun w54 hBB_ hC=>?_) (.inr rfl)
          refine done ?_
          refine Zy (Yz hN_ hnb_b13043 hBB_) hN_ (l9:=(Za 22 522227)) (by kernel_rfl) (fun hN_=>?_)
          refine Zm (Yb _) 19 (.map (some b16)) rfl rfl (by kernel_rfl) (hM10 19 rfl) (fun w_=>.inl ⟨rfl,by exact Zf (v:=.map (some b16)) rfl⟩) (l9:=(Za 22 1046515)) (by kernel_rfl) (aO 2 rfl ?_)
          refine Y7 hC 1 (s10.1.set i10 (ZA7.wrap ((q10.1.get i10) - 1))) 1 rfl Y0 ZKw rfl rfl rfl (fun w55 hBB_ hC=>?_) (.inr rfl)
          refine done ?_
          refine Zy (Yz hN_ hnb_b12976 hBB_) hN_ (l9:=(Za 22 1046519)) (by kernel_rfl) (fun hN_=>?_)
          refine Zm (Yb _) 3 (.map (some b14)) rfl rfl (by kernel_rfl) (hM10 3 rfl) (fun w_=>.inl ⟨rfl,by exact Zf (v:=.map (some b14)) rfl⟩) (l9:=(Za 22 1046527)) (by kernel_rfl) (aO 11 rfl ?_)
          refine Zg [.map (some b14),u0_0,.map (some b13)] _ ZKx rfl rfl rfl (Yu (Zz ([]:List (A8×Int)) (s10.1.set i10 (ZA7.wrap ((q10.1.get i10) - 1))) 1) a0.degrees ml10 h _ (hC.getM 1 rfl) (hC.getP 4 rfl) (hC.getP 0 rfl)) (fun ret23 w56 hR23=>?_)
          obtain ⟨r29,b38,rfl,h,hr22,hf21,hB23⟩:=hR23
          refine⟨_,rfl,?_⟩
          replace hC:=hC.push hB23 (Ze (kvA .i64) (vvI .i64) b38 r29) hr22 (fun b_ hb_=>by obtain rfl:=ZAs.1 hb_; exact hf21)
          refine done ?_
          refine Zy (Ys hN_ (by assumption)) hN_ (l9:=(Za 22 1048575)) (by kernel_rfl) (fun hN_=>?_)
          refine Zu 20 (by decide) (by decide) (by kernel_rfl) (by kernel_rfl) rfl ?_
          refine Zg [.map (some b38),u0_0,.map (some b16)] _ ZKx rfl rfl rfl (Yu r29 a0.degrees (Zz ([]:List (A8×Int)) s11.1 1) h _ (hC.getM 0 rfl) (hC.getP 4 rfl) (hC.getM 1 rfl)) (fun ret24 w57 hR24=>?_)
          obtain ⟨r20,b25,rfl,h,hr23,hf22,hB24⟩:=hR24
          refine⟨_,rfl,?_⟩
          replace hC:=hC.push hB24 (Ze (kvA .i64) (vvI .i64) b25 r20) hr23 (fun b_ hb_=>by obtain rfl:=ZAs.1 hb_; exact hf22)
          refine Zc (v:=.map (some b25)) rfl (done (Zv ?_))
          replace hC:=hC.sM [0,6,7,8,9,10] (M':=[Ze (kvA .i64) (vvI .i64) b25 r20,blk b12 73 (ZH6 .i64 s10.1),blk b11 73 (ZH6 .i64 q10.1),itI (kvA .i64) (vvI .i64) r10 b1 es10 ck10 (some ent10) l10,blk b10 211 cs10,Ze (kvA .i64) (vvI .i64) b7 s10.2.1]) (by decide) rfl
          replace hC:=hC.sP [1,2,3,4,5,6,7] (Ps':=[Y3 b1 es10 ck10,ZH7 (X3 (kvA .i64) (vvI .i64) 8) r11 cs10 f10,ZH7 ZIo.sl a0.images [u0_1] fp0,ZH7 ((EI .i64).ty.sl) a0.degrees [u0_0] fp0,ZH7 TAlg a0 [u0_0,u0_1] fp0,blk b0 32 [u0_0,u0_1],Ze (kvA .i64) (vvI .i64) b1 a1]) rfl
          exact⟨rfl,_,rfl,⟨b25,r20,(sl ⟨rfl,rfl,rfl,rfl,rfl,rfl,rfl,rfl,rfl,rfl,rfl,rfl,rfl,trivial⟩),hC,h⟩⟩
       ·skip
        refine Zad hC (kvA .i64) (vvI .i64) fun b15 w58 hn_ hB_ hC=>?_
        have hnb_b13105:=Zy6 hN_ hn_
        refine done ?_
        refine Zy (Ys hN_ (by assumption)) hN_ (l9:=(Za 22 260082)) (by kernel_rfl) (fun hN_=>?_)
        refine Xg 0 18 rfl rfl (by kernel_rfl) ?_ ?_
        ·skip
         refine Zad hC (kvA .i64) (vvI .i64) fun b17 w59 hn_ hB_ hC=>?_
         have hnb_b13108:=Zy6 hN_ hn_
         refine done ?_
         refine Zy (Ys hN_ (by assumption)) hN_ (l9:=(Za 22 260083)) (by kernel_rfl) (fun hN_=>?_)
         refine Xg 2 18 rfl rfl (by kernel_rfl) ?_ ?_
         ·skip
          refine Y7 hC 0 (s10.1.set i10 (ZA7.wrap ((q10.1.get i10) - 1))) 1 rfl Y0 ZKw rfl rfl rfl (fun w60 hBB_ hC=>?_) (.inr rfl)
          refine done ?_
          refine Zy (Yz hN_ hnb_b13108 hBB_) hN_ (l9:=(Za 22 260087)) (by kernel_rfl) (fun hN_=>?_)
          refine Zm (Yb _) 3 (.map (some b17)) rfl rfl (by kernel_rfl) (hM10 3 rfl) (fun w_=>.inl ⟨rfl,by exact Zf (v:=.map (some b17)) rfl⟩) (l9:=(Za 22 260095)) (by kernel_rfl) ?_
          refine Xg 11 18 rfl rfl (by kernel_rfl) ?_ ?_
          ·skip
           refine Zg [.map (some b17),u0_0,.map (some b13)] _ ZKx rfl rfl rfl (Yu (Zz ([]:List (A8×Int)) (s10.1.set i10 (ZA7.wrap ((q10.1.get i10) - 1))) 1) a0.degrees ml10 h _ (hC.getM 0 rfl) (hC.getP 4 rfl) (hC.getP 0 rfl)) (fun ret25 w61 hR25=>?_)
           obtain ⟨r30,b39,rfl,h,hr24,hf23,hB25⟩:=hR25
           refine⟨_,rfl,?_⟩
           replace hC:=hC.push hB25 (Ze (kvA .i64) (vvI .i64) b39 r30) hr24 (fun b_ hb_=>by obtain rfl:=ZAs.1 hb_; exact hf23)
           refine done ?_
           refine Zy (Ys hN_ (by assumption)) hN_ (l9:=(Za 22 262143)) (by kernel_rfl) (fun hN_=>?_)
           refine aO 18 rfl ?_
           refine Y7 hC 2 s11.1 1 rfl Y0 ZKw rfl rfl rfl (fun w62 hBB_ hC=>?_) (.inr rfl)
           refine done ?_
           refine Zy (Yz hN_ hnb_b13105 hBB_) hN_ (l9:=(Za 22 524287)) (by kernel_rfl) (fun hN_=>?_)
           refine Zm (Yb _) 19 (.map (some b15)) rfl rfl (by kernel_rfl) (hM10 19 rfl) (fun w_=>.inl ⟨rfl,by exact Zf (v:=.map (some b15)) rfl⟩) (l9:=(Za 22 1048575)) (by kernel_rfl) (Zu 20 (by decide) (by decide) (by kernel_rfl) (by kernel_rfl) rfl ?_)
           refine Zg [.map (some b39),u0_0,.map (some b15)] _ ZKx rfl rfl rfl (Yu r30 a0.degrees (Zz ([]:List (A8×Int)) s11.1 1) h _ (hC.getM 0 rfl) (hC.getP 4 rfl) (hC.getM 2 rfl)) (fun ret26 w63 hR26=>?_)
           obtain ⟨r21,b26,rfl,h,hr25,hf24,hB26⟩:=hR26
           refine⟨_,rfl,?_⟩
           replace hC:=hC.push hB26 (Ze (kvA .i64) (vvI .i64) b26 r21) hr25 (fun b_ hb_=>by obtain rfl:=ZAs.1 hb_; exact hf24)
           refine Zc (v:=.map (some b26)) rfl (done (Zv ?_))
           replace hC:=hC.sM [0,6,7,8,9,10] (M':=[Ze (kvA .i64) (vvI .i64) b26 r21,blk b12 73 (ZH6 .i64 s10.1),blk b11 73 (ZH6 .i64 q10.1),itI (kvA .i64) (vvI .i64) r10 b1 es10 ck10 (some ent10) l10,blk b10 211 cs10,Ze (kvA .i64) (vvI .i64) b7 s10.2.1]) (by decide) rfl
           replace hC:=hC.sP [1,2,3,4,5,6,7] (Ps':=[Y3 b1 es10 ck10,ZH7 (X3 (kvA .i64) (vvI .i64) 8) r11 cs10 f10,ZH7 ZIo.sl a0.images [u0_1] fp0,ZH7 ((EI .i64).ty.sl) a0.degrees [u0_0] fp0,ZH7 TAlg a0 [u0_0,u0_1] fp0,blk b0 32 [u0_0,u0_1],Ze (kvA .i64) (vvI .i64) b1 a1]) rfl
           exact⟨rfl,_,rfl,⟨b26,r21,(sl ⟨rfl,rfl,rfl,rfl,rfl,rfl,rfl,rfl,rfl,rfl,rfl,rfl,rfl,trivial⟩),hC,h⟩⟩
          ·skip
           refine Y7 hC 1 s11.1 1 rfl Y0 ZKw rfl rfl rfl (fun w64 hBB_ hC=>?_) (.inr rfl)
           refine done ?_
           refine Zy (Yz hN_ hnb_b13105 hBB_) hN_ (l9:=(Za 22 522239)) (by kernel_rfl) (fun hN_=>?_)
           refine Zm (Yb _) 19 (.map (some b15)) rfl rfl (by kernel_rfl) (hM10 19 rfl) (fun w_=>.inl ⟨rfl,by exact Zf (v:=.map (some b15)) rfl⟩) (l9:=(Za 22 1046527)) (by kernel_rfl) (aO 11 rfl ?_)
           refine Zg [.map (some b17),u0_0,.map (some b13)] _ ZKx rfl rfl rfl (Yu (Zz ([]:List (A8×Int)) (s10.1.set i10 (ZA7.wrap ((q10.1.get i10) - 1))) 1) a0.degrees ml10 h _ (hC.getM 0 rfl) (hC.getP 4 rfl) (hC.getP 0 rfl)) (fun ret27 w65 hR27=>?_)
           obtain ⟨r31,b40,rfl,h,hr26,hf25,hB27⟩:=hR27
           refine⟨_,rfl,?_⟩
           replace hC:=hC.push hB27 (Ze (kvA .i64) (vvI .i64) b40 r31) hr26 (fun b_ hb_=>by obtain rfl:=ZAs.1 hb_; exact hf25)
           refine done ?_
           refine Zy (Ys hN_ (by assumption)) hN_ (l9:=(Za 22 1048575)) (by kernel_rfl) (fun hN_=>?_)
           refine Zu 20 (by decide) (by decide) (by kernel_rfl) (by kernel_rfl) rfl ?_
           refine Zg [.map (some b40),u0_0,.map (some b15)] _ ZKx rfl rfl rfl (Yu r31 a0.degrees (Zz ([]:List (A8×Int)) s11.1 1) h _ (hC.getM 0 rfl) (hC.getP 4 rfl) (hC.getM 2 rfl)) (fun ret28 w66 hR28=>?_)
           obtain ⟨r22,b27,rfl,h,hr27,hf26,hB28⟩:=hR28
           refine⟨_,rfl,?_⟩
           replace hC:=hC.push hB28 (Ze (kvA .i64) (vvI .i64) b27 r22) hr27 (fun b_ hb_=>by obtain rfl:=ZAs.1 hb_; exact hf26)
           refine Zc (v:=.map (some b27)) rfl (done (Zv ?_))
           replace hC:=hC.sM [0,6,7,8,9,10] (M':=[Ze (kvA .i64) (vvI .i64) b27 r22,blk b12 73 (ZH6 .i64 s10.1),blk b11 73 (ZH6 .i64 q10.1),itI (kvA .i64) (vvI .i64) r10 b1 es10 ck10 (some ent10) l10,blk b10 211 cs10,Ze (kvA .i64) (vvI .i64) b7 s10.2.1]) (by decide) rfl
           replace hC:=hC.sP [1,2,3,4,5,6,7] (Ps':=[Y3 b1 es10 ck10,ZH7 (X3 (kvA .i64) (vvI .i64) 8) r11 cs10 f10,ZH7 ZIo.sl a0.images [u0_1] fp0,ZH7 ((EI .i64).ty.sl) a0.degrees [u0_0] fp0,ZH7 TAlg a0 [u0_0,u0_1] fp0,blk b0 32 [u0_0,u0_1],Ze (kvA .i64) (vvI .i64) b1 a1]) rfl
           exact⟨rfl,_,rfl,⟨b27,r22,(sl ⟨rfl,rfl,rfl,rfl,rfl,rfl,rfl,rfl,rfl,rfl,rfl,rfl,rfl,trivial⟩),hC,h⟩⟩
         ·skip
          refine Y7 hC 1 s11.1 1 rfl Y0 ZKw rfl rfl rfl (fun w67 hBB_ hC=>?_) (.inr rfl)
          refine done ?_
          refine Zy (Yz hN_ hnb_b13105 hBB_) hN_ (l9:=(Za 22 522227)) (by kernel_rfl) (fun hN_=>?_)
          refine Zm (Yb _) 19 (.map (some b15)) rfl rfl (by kernel_rfl) (hM10 19 rfl) (fun w_=>.inl ⟨rfl,by exact Zf (v:=.map (some b15)) rfl⟩) (l9:=(Za 22 1046515)) (by kernel_rfl) (aO 2 rfl ?_)
          refine Y7 hC 0 (s10.1.set i10 (ZA7.wrap ((q10.1.get i10) - 1))) 1 rfl Y0 ZKw rfl rfl rfl (fun w68 hBB_ hC=>?_) (.inr rfl)
          refine done ?_
          refine Zy (Yz hN_ hnb_b13108 hBB_) hN_ (l9:=(Za 22 1046519)) (by kernel_rfl) (fun hN_=>?_)
          refine Zm (Yb _) 3 (.map (some b17)) rfl rfl (by kernel_rfl) (hM10 3 rfl) (fun w_=>.inl ⟨rfl,by exact Zf (v:=.map (some b17)) rfl⟩) (l9:=(Za 22 1046527)) (by kernel_rfl) (aO 11 rfl ?_)
          refine Zg [.map (some b17),u0_0,.map (some b13)] _ ZKx rfl rfl rfl (Yu (Zz ([]:List (A8×Int)) (s10.1.set i10 (ZA7.wrap ((q10.1.get i10) - 1))) 1) a0.degrees ml10 h _ (hC.getM 0 rfl) (hC.getP 4 rfl) (hC.getP 0 rfl)) (fun ret29 w69 hR29=>?_)
          obtain ⟨r32,b41,rfl,h,hr28,hf27,hB29⟩:=hR29
          refine⟨_,rfl,?_⟩
          replace hC:=hC.push hB29 (Ze (kvA .i64) (vvI .i64) b41 r32) hr28 (fun b_ hb_=>by obtain rfl:=ZAs.1 hb_; exact hf27)
          refine done ?_
          refine Zy (Ys hN_ (by assumption)) hN_ (l9:=(Za 22 1048575)) (by kernel_rfl) (fun hN_=>?_)
          refine Zu 20 (by decide) (by decide) (by kernel_rfl) (by kernel_rfl) rfl ?_
          refine Zg [.map (some b41),u0_0,.map (some b15)] _ ZKx rfl rfl rfl (Yu r32 a0.degrees (Zz ([]:List (A8×Int)) s11.1 1) h _ (hC.getM 0 rfl) (hC.getP 4 rfl) (hC.getM 2 rfl)) (fun ret30 w70 hR30=>?_)
          obtain ⟨r23,b28,rfl,h,hr29,hf28,hB30⟩:=hR30
          refine⟨_,rfl,?_⟩
          replace hC:=hC.push hB30 (Ze (kvA .i64) (vvI .i64) b28 r23) hr29 (fun b_ hb_=>by obtain rfl:=ZAs.1 hb_; exact hf28)
          refine Zc (v:=.map (some b28)) rfl (done (Zv ?_))
          replace hC:=hC.sM [0,6,7,8,9,10] (M':=[Ze (kvA .i64) (vvI .i64) b28 r23,blk b12 73 (ZH6 .i64 s10.1),blk b11 73 (ZH6 .i64 q10.1),itI (kvA .i64) (vvI .i64) r10 b1 es10 ck10 (some ent10) l10,blk b10 211 cs10,Ze (kvA .i64) (vvI .i64) b7 s10.2.1]) (by decide) rfl
          replace hC:=hC.sP [1,2,3,4,5,6,7] (Ps':=[Y3 b1 es10 ck10,ZH7 (X3 (kvA .i64) (vvI .i64) 8) r11 cs10 f10,ZH7 ZIo.sl a0.images [u0_1] fp0,ZH7 ((EI .i64).ty.sl) a0.degrees [u0_0] fp0,ZH7 TAlg a0 [u0_0,u0_1] fp0,blk b0 32 [u0_0,u0_1],Ze (kvA .i64) (vvI .i64) b1 a1]) rfl
          exact⟨rfl,_,rfl,⟨b28,r23,(sl ⟨rfl,rfl,rfl,rfl,rfl,rfl,rfl,rfl,rfl,rfl,rfl,rfl,rfl,trivial⟩),hC,h⟩⟩
        ·skip
         refine Y7 hC 0 s11.1 1 rfl Y0 ZKw rfl rfl rfl (fun w71 hBB_ hC=>?_) (.inr rfl)
         refine done ?_
         refine Zy (Yz hN_ hnb_b13105 hBB_) hN_ (l9:=(Za 22 522226)) (by kernel_rfl) (fun hN_=>?_)
         refine Zm (Yb _) 19 (.map (some b15)) rfl rfl (by kernel_rfl) (hM10 19 rfl) (fun w_=>.inl ⟨rfl,by exact Zf (v:=.map (some b15)) rfl⟩) (l9:=(Za 22 1046514)) (by kernel_rfl) (aO 0 rfl (Zad hC (kvA .i64) (vvI .i64) fun b31 w72 hn_ hB_ hC=>?_))
         have hnb_b13171:=Zy6 hN_ hn_
         refine done ?_
         refine Zy (Ys hN_ (by assumption)) hN_ (l9:=(Za 22 1046515)) (by kernel_rfl) (fun hN_=>?_)
         refine aO 2 rfl ?_
         refine Y7 hC 0 (s10.1.set i10 (ZA7.wrap ((q10.1.get i10) - 1))) 1 rfl Y0 ZKw rfl rfl rfl (fun w73 hBB_ hC=>?_) (.inr rfl)
         refine done ?_
         refine Zy (Yz hN_ hnb_b13171 hBB_) hN_ (l9:=(Za 22 1046519)) (by kernel_rfl) (fun hN_=>?_)
         refine Zm (Yb _) 3 (.map (some b31)) rfl rfl (by kernel_rfl) (hM10 3 rfl) (fun w_=>.inl ⟨rfl,by exact Zf (v:=.map (some b31)) rfl⟩) (l9:=(Za 22 1046527)) (by kernel_rfl) (aO 11 rfl ?_)
         refine Zg [.map (some b31),u0_0,.map (some b13)] _ ZKx rfl rfl rfl (Yu (Zz ([]:List (A8×Int)) (s10.1.set i10 (ZA7.wrap ((q10.1.get i10) - 1))) 1) a0.degrees ml10 h _ (hC.getM 0 rfl) (hC.getP 4 rfl) (hC.getP 0 rfl)) (fun ret31 w74 hR31=>?_)
         obtain ⟨r33,b42,rfl,h,hr30,hf29,hB31⟩:=hR31
         refine⟨_,rfl,?_⟩
         replace hC:=hC.push hB31 (Ze (kvA .i64) (vvI .i64) b42 r33) hr30 (fun b_ hb_=>by obtain rfl:=ZAs.1 hb_; exact hf29)
         refine done ?_
         refine Zy (Ys hN_ (by assumption)) hN_ (l9:=(Za 22 1048575)) (by kernel_rfl) (fun hN_=>?_)
         refine Zu 20 (by decide) (by decide) (by kernel_rfl) (by kernel_rfl) rfl ?_
         refine Zg [.map (some b42),u0_0,.map (some b15)] _ ZKx rfl rfl rfl (Yu r33 a0.degrees (Zz ([]:List (A8×Int)) s11.1 1) h _ (hC.getM 0 rfl) (hC.getP 4 rfl) (hC.getM 2 rfl)) (fun ret32 w75 hR32=>?_)
         obtain ⟨r24,b29,rfl,h,hr31,hf30,hB32⟩:=hR32
         refine⟨_,rfl,?_⟩
         replace hC:=hC.push hB32 (Ze (kvA .i64) (vvI .i64) b29 r24) hr31 (fun b_ hb_=>by obtain rfl:=ZAs.1 hb_; exact hf30)
         refine Zc (v:=.map (some b29)) rfl (done (Zv ?_))
         replace hC:=hC.sM [0,6,7,8,9,10] (M':=[Ze (kvA .i64) (vvI .i64) b29 r24,blk b12 73 (ZH6 .i64 s10.1),blk b11 73 (ZH6 .i64 q10.1),itI (kvA .i64) (vvI .i64) r10 b1 es10 ck10 (some ent10) l10,blk b10 211 cs10,Ze (kvA .i64) (vvI .i64) b7 s10.2.1]) (by decide) rfl
         replace hC:=hC.sP [1,2,3,4,5,6,7] (Ps':=[Y3 b1 es10 ck10,ZH7 (X3 (kvA .i64) (vvI .i64) 8) r11 cs10 f10,ZH7 ZIo.sl a0.images [u0_1] fp0,ZH7 ((EI .i64).ty.sl) a0.degrees [u0_0] fp0,ZH7 TAlg a0 [u0_0,u0_1] fp0,blk b0 32 [u0_0,u0_1],Ze (kvA .i64) (vvI .i64) b1 a1]) rfl
         exact⟨rfl,_,rfl,⟨b29,r24,(sl ⟨rfl,rfl,rfl,rfl,rfl,rfl,rfl,rfl,rfl,rfl,rfl,rfl,rfl,trivial⟩),hC,h⟩⟩
     ·skip
      exact⟨(sl ⟨rfl,rfl,rfl,rfl,rfl,rfl,rfl,rfl,rfl,rfl,rfl,rfl,rfl,rfl,rfl,trivial⟩),hC⟩
    ·replace h:=Zk h (cf hb14)
     refine ZIe (Zd (sr (Zb (v:=.int .i64 (i10:Int)) rfl (Zb (v:=.int .i64 (q10.1.get i10)) rfl (Y5 i10 ZJf sc3.size rfl rfl (ZIv _) (by omega) (by omega) (Zw (v:=.int .i64 (q10.1.get i10)) hC 0 [.int .i64 (q10.1.get i10)] (ZH6 .i64 (s10.1.set i10 (q10.1.get i10))) rfl sc3.size rfl rfl rfl rfl rfl hi10 (ZI3 _ _ _ hi10) fun w76 hC=>dn (sr (Zb (v:=.int .i64 (i10:Int)) rfl (Zb (v:=.pointer (some ⟨b0,0,none⟩)) rfl (Zaf rfl ?_))))))))))
     refine Z6 0 ZIq rfl sc22.size rfl rfl (Zbv (u0_0) (hC.getP 5 rfl) sc22 rfl rfl ?_)
     obtain ⟨Ad12,c12,hv14⟩:=Z1 (hC.getP 3 rfl)
     refine Zx ZIs (tr rfl hv14) (Zt rfl rfl (Zb (v:=.bool (decide ((i10:Int) < (a0.degrees.length:Int)))) rfl ?_))
     refine Xh (decide ((i10:Int) < (a0.degrees.length:Int))) (fun hb11=>?_) (fun hb11=>?_)
     ·replace h:=ift h (ct hb11)
      refine Zl 7 87 rfl rfl hb11 (Zb (v:=.pointer (some ⟨b0,0,none⟩)) rfl (Zl 7 87 rfl rfl hb11 (Zaf rfl (Zl 7 87 rfl rfl hb11 (Z6 0 ZIq rfl sc22.size rfl rfl (Zl 7 87 rfl rfl hb11 (Zbv (u0_0) (hC.getP 5 rfl) sc22 rfl rfl (Zl 7 87 rfl rfl hb11 (Zb (v:=.int .i64 (i10:Int)) rfl (Zl 7 87 rfl rfl hb11 ?_))))))))))
      obtain ⟨⟨h14,h15⟩,h⟩:=h
      obtain ⟨Ad13,c13,hv11⟩:=Z0 (hC.getP 3 rfl) i10 (show i10 < a0.degrees.length by omega)
      refine Xb (len:=a0.degrees.length) ZIs sc2.size (tr rfl hv11) rfl h14 h15 (Zl 7 87 rfl rfl hb11 (Xm (.int .i64 (a0.degrees.getD i10 Zyt)) (Yf (hC.getP 3 rfl) hv11 i10 (show i10 < a0.degrees.length by omega)) sc2 rfl (Zl 7 87 rfl rfl hb11 (X0 rfl rfl (by decide) (Zl 7 87 rfl rfl hb11 (Jm rfl rfl (Yc (v:=.bool (decide (Zyy (a0.degrees.getD i10 Zyt) 2=1))) (b:=true) (tr rfl (congrArg _ hb11)) rfl (Zb (v:=.bool (decide (Zyy (a0.degrees.getD i10 Zyt) 2=1))) rfl ?_))))))))
      refine Xh (decide (Zyy (a0.degrees.getD i10 Zyt) 2=1)) (fun hb13=>?_) (fun hb13=>?_)
      ·replace h:=ift h (ct hb13)
       refine Zl 18 98 rfl rfl hb13 (Zb (v:=.int .i64 (q10.1.get i10)) rfl (Zl 18 98 rfl rfl hb13 (X0 rfl rfl (by decide) (Zl 18 98 rfl rfl hb13 (Jm rfl rfl (Yc (v:=.bool (decide (Zyy (q10.1.get i10) 2=1))) (b:=true) (tr rfl (congrArg _ hb13)) rfl (dn ?_)))))))
       refine Zr rfl (fun hb17=>?_) (fun hb17=>?_)
       ·replace h:=ift h (ct hb17)
        refine Zh (Zb (v:=.int .i64 s10.2.2) rfl (Zfa rfl (Zc (v:=.int .i64 (ZA7.wrap (0 - s10.2.2))) rfl (done (Zs (Zd (Zh (Zq rfl rfl (Zb (v:=.int .i64 (ZA7.wrap ((i10:Int)+1))) rfl (done ?_))))))))))
        exact hK10 (s10.1.set i10 (q10.1.get i10),s10.2.1,ZA7.wrap (0 - s10.2.2)) _ _ ⟨(sl ⟨rfl,rfl,rfl,rfl,rfl,rfl,rfl,rfl,rfl,(tr rfl (congrArg _ (Yh hi10 (by decide)))),trivial⟩),hC⟩ h
       ·replace h:=Zk h (cf hb17)
        refine ZIe (Zs (Zd (Zh (Zq rfl rfl (Zb (v:=.int .i64 (ZA7.wrap ((i10:Int)+1))) rfl (done ?_))))))
        exact hK10 (s10.1.set i10 (q10.1.get i10),s10.2.1,s10.2.2) _ _ ⟨(sl ⟨rfl,rfl,rfl,rfl,rfl,rfl,rfl,rfl,rfl,(tr rfl (congrArg _ (Yh hi10 (by decide)))),trivial⟩),hC⟩ h
      ·replace h:=Zk h (cf hb13)
       refine Zn (b:=false) 18 98 rfl (tr rfl (congrArg _ hb13)) (by decide) (Zn (b:=false) 18 98 rfl (tr rfl (congrArg _ hb13)) (by decide) (Zn (b:=false) 18 98 rfl (tr rfl (congrArg _ hb13)) (by decide) (Yc (v:=.bool false) (b:=false) (tr rfl (congrArg _ hb13)) rfl (dn (Yi rfl rfl (ZIe (Zs (Zd (Zh (Zq rfl rfl (Zb (v:=.int .i64 (ZA7.wrap ((i10:Int)+1))) rfl ?_)))))))))))
       refine done ?_
       exact hK10 (s10.1.set i10 (q10.1.get i10),s10.2.1,s10.2.2) _ _ ⟨(sl ⟨rfl,rfl,rfl,rfl,rfl,rfl,rfl,rfl,rfl,(tr rfl (congrArg _ (Yh hi10 (by decide)))),trivial⟩),hC⟩ h
     ·replace h:=Zk h (cf hb11)
      refine Zn (b:=false) 7 87 rfl (tr rfl (congrArg _ hb11)) (by decide) (Zn (b:=false) 7 87 rfl (tr rfl (congrArg _ hb11)) (by decide) (Zn (b:=false) 7 87 rfl (tr rfl (congrArg _ hb11)) (by decide) (Zn (b:=false) 7 87 rfl (tr rfl (congrArg _ hb11)) (by decide) (Zn (b:=false) 7 87 rfl (tr rfl (congrArg _ hb11)) (by decide) (Zn (b:=false) 7 87 rfl (tr rfl (congrArg _ hb11)) (by decide) (Zn (b:=false) 7 87 rfl (tr rfl (congrArg _ hb11)) (by decide) (Zn (b:=false) 7 87 rfl (tr rfl (congrArg _ hb11)) (by decide) (Zn (b:=false) 7 87 rfl (tr rfl (congrArg _ hb11)) (by decide) (Yc (v:=.bool false) (b:=false) (tr rfl (congrArg _ hb11)) rfl (Zb (v:=.bool false) rfl (Zn (b:=false) 18 98 rfl (tr rfl (congrArg _ rfl)) (by decide) ?_)))))))))))
      refine Zn (b:=false) 18 98 rfl (tr rfl (congrArg _ rfl)) (by decide) (Zn (b:=false) 18 98 rfl (tr rfl (congrArg _ rfl)) (by decide) (Yc (v:=.bool false) (b:=false) rfl rfl (dn (Yi rfl rfl (ZIe (Zs (Zd (Zh (Zq rfl rfl (Zb (v:=.int .i64 (ZA7.wrap ((i10:Int)+1))) rfl (done ?_)))))))))))
      exact hK10 (s10.1.set i10 (q10.1.get i10),s10.2.1,s10.2.2) _ _ ⟨(sl ⟨rfl,rfl,rfl,rfl,rfl,rfl,rfl,rfl,rfl,(tr rfl (congrArg _ (Yh hi10 (by decide)))),trivial⟩),hC⟩ h
   ·clear hC h
    rintro s10 e_ w77 K10 ⟨hS_,hC⟩ h
    rw [ue hS_]
    refine sr (Zt rfl rfl (dn (ZIa (Yi rfl (decide_eq_false (by omega)) ?_))))
    refine ZIr (Zj (Zj (Z9 ?_)))
    refine Zs ?_
    replace hC:=hC.sM [2,3,4] (M':=[itI (kvA .i64) (vvI .i64) r10 b1 es10 ck10 (some ent10) l10,blk b10 211 cs10,Ze (kvA .i64) (vvI .i64) b7 s10.2.1]) (by decide) rfl
    exact hK11 q10 l10 s10.2.1 _ _ hp10 ⟨(some ent10),(sl ⟨rfl,rfl,rfl,rfl,trivial⟩),hC⟩ h
   ·skip
    exact⟨(sl ⟨rfl,rfl,rfl,rfl,rfl,rfl,rfl,rfl,rfl,rfl,trivial⟩),hC⟩
 ·skip
  replace hC:=hC.sP [0,2,3,4,5,6,7] (Ps':=[Y3 b1 es10 ck10,ZH7 (X3 (kvA .i64) (vvI .i64) 8) r11 cs10 f10,ZH7 ZIo.sl a0.images [u0_1] fp0,ZH7 ((EI .i64).ty.sl) a0.degrees [u0_0] fp0,ZH7 TAlg a0 [u0_0,u0_1] fp0,blk b0 32 [u0_0,u0_1],Ze (kvA .i64) (vvI .i64) b1 a1]) rfl
  exact⟨none,(sl ⟨rfl,rfl,rfl,rfl,trivial⟩),hC⟩
def Zgg (a0:A8) (K:A8→Prop):Prop :=
 Yt (fun i10 (s10:A8) nx10=>nx10 (s10.set i10 (a0.get i10))) (fun (s10:A8)=>K s10) 8 0 ZIg
theorem Zs9 (a0:A8)  {K:A8→Prop} (h:Zgg a0 K) (w0:World)  :
  Calls ZId 177 #[.agg (ZH8 (ZH6 .u8 a0))] w0 fun e w'=>∃ (r0:A8),
   e=.returned (.agg (ZH8 (ZH6 .u8 r0)))∧K r0∧Bel w0 w':=by
 unfold Zgg at h
 refine Z4 (args:=[.agg (ZH8 (ZH6 .u8 a0))]) Tryz.func177 rfl 15 Tryz.ntmps177 (ZIc rfl) ?_
 have hC:=ZIt (X:=Nox) w0 [] (by simp)
 refine sr (Yl (v:=.agg (ZH8 (ZH6 .u8 a0))) hC (ZH6 .u8 a0) rfl rfl fun b1 w3 hB_ hC=>Yj hC (ZH6 .u8 ZIg) Za6 rfl fun b4 w6 hB_ hC=>dn (sr (Yj hC (ZH6 .u8 ZIg) Za6 rfl fun b7 w9 hB_ hC=>dn (ZIa (sr (Zc (v:=.int .i64 0) rfl (dn (ZIj ?_))))))))
 refine Y9 (S:=A8) _ _ (fun i10 s10 e_ w_=>Z3 e_ [(1,.pointer (some ⟨b1,0,none⟩)),(2,.pointer (some ⟨b4,0,none⟩)),(3,.pointer (some ⟨b7,0,none⟩)),(4,.int .i64 (i10:Int))]∧Ctx Nox w0 w_ [blk b7 136 (ZH6 .u8 s10),blk b4 136 (ZH6 .u8 ZIg),blk b1 135 (ZH6 .u8 a0)] []) 8 ?_ ?_ (s0:=ZIg) ?_ h
 ·clear hC h
  rintro i10 s10 e_ w10 nx10 K10 hi10 ⟨hS_,hC⟩ h hK10
  rw [ue hS_]
  refine ZIa (sr (Zb (v:=.int .i64 (i10:Int)) rfl (Zt rfl rfl (dn (Yr rfl (decide_eq_true (by omega)) (ZIe (Zd (ZIa (ZIj (Zh (Zb (v:=.int .i64 (i10:Int)) rfl ?_)))))))))))
  refine Zb (v:=.int .i64 (i10:Int)) rfl (Y5 i10 Tryz.underlying135 sc5.size rfl rfl (ZIv _) (by omega) (by omega) (Z8 hC 2 (.int .u8 (a0.get i10)) rfl sc5 rfl (ZIu _ _ hi10) (Y5 i10 ZIn sc5.size rfl rfl (ZIv _) (by omega) (by omega) (Zw (v:=.int .u8 (a0.get i10)) hC 0 [.int .u8 (a0.get i10)] (ZH6 .u8 (s10.set i10 (a0.get i10))) rfl sc5.size rfl rfl rfl rfl rfl hi10 (ZI3 _ _ _ hi10) fun w11 hC=>done (Zs (Zd (Zh (Zb (v:=.int .i64 (i10:Int)) rfl (Zq rfl rfl (Zc (v:=.int .i64 (ZA7.wrap ((i10:Int)+1))) rfl ?_))))))))))
  refine done ?_
  exact hK10 (s10.set i10 (a0.get i10)) _ _ ⟨(sl ⟨rfl,rfl,rfl,(tr rfl (congrArg _ (Yh hi10 (by decide)))),trivial⟩),hC⟩ h
 ·clear hC h
  rintro s10 e_ w12 K10 ⟨hS_,hC⟩ h
  rw [ue hS_]
  refine ZIa (sr (Zb (v:=.int .i64 8) rfl (Zt rfl rfl (dn (Yi rfl (decide_eq_false (by omega)) ?_)))))
  refine ZIr (Zj (Zj (Z9 ?_)))
  refine Zd (sr (Yy hC 0 (ZH6 .u8 s10) rfl ag136 rfl rfl rfl (Zw (v:=.agg (ZH8 (ZH6 .u8 s10))) hC 1 (ZH6 .u8 s10) (ZH6 .u8 s10) rfl ag136.size rfl rfl rfl rfl rfl (ZIc rfl) rfl fun w13 hC=>dn (ZIi ?_))))
  refine Zp (fn:=Tryz.f177) rfl ?_ ⟨s10,rfl,h,hC.below⟩ (.inl rfl)
  exact Zag hC 1 rfl ag136 rfl rfl
 ·skip
  exact⟨(sl ⟨rfl,rfl,rfl,rfl,trivial⟩),hC⟩
def Zgh (a0:List Int) (K:List Int→Prop):Prop :=
 ((0≤(a0.length:Int)∧(a0.length:Int) * 8≤281474976710656)∧Yt (fun i10 (s10:(List Int)) nx10=>((0≤(i10:Int)∧(i10:Int) < (s10.length:Int))∧nx10 (s10.set i10 (a0.getD i10 Zyt)))) (fun (s10:(List Int))=>K s10) a0.length 0 (Zy0 ((a0.length:Int).toNat) (0:Int)))
theorem Zta (a0:List Int) {u0_0:Value} {fp0:List Nat} {K:List Int→Prop} (h:Zgh a0 K) (w0:World) (q0:((EI .i64).ty.sl).rep a0 [u0_0] fp0 w0) :
  Calls ZId 41 #[u0_0] w0 fun e w'=>∃ (r0:List Int) (z0_0:Value) (fz0:List Nat),
   e=.returned (z0_0)∧K r0∧(Tr.item (Tr.sl 2 ((EI .i64).tr)) r0 [z0_0] fz0).holds w'∧(∀ b,b∈fz0→w0.heap.size≤b)∧Bel w0 w':=by
 unfold Zgh at h
 refine Z4 (args:=[u0_0]) Tryz.func41 rfl 22 Tryz.ntmps41 (ZIc rfl) ?_
 have hC:=ZIt (X:=Nox) w0 [ZH7 ((EI .i64).ty.sl) a0 [u0_0] fp0] (by simp only [Zyz,ZAt,or_false,forall_eq_or_imp,forall_eq]; exact q0)
 refine sr (Zc (v:=.slice none 0 0) rfl (dn (sr (Zb (v:=u0_0) rfl ?_))))
 obtain ⟨Ad2,c3,hv4⟩:=Z1 (hC.getP 0 rfl)
 refine Zx ZIs (tr rfl hv4) ?_
 obtain ⟨hm7,h⟩:=h
 refine Zck (sz:=1) hC ((EI .i64).encs (Zy0 ((a0.length:Int).toNat) (0:Int))) ZIs el2 (tr rfl (congrArg (ZK4 .i64) (ZK5 hm7.1).symm)) (tr rfl (congrArg (ZK4 .i64) (ZK5 hm7.1).symm)) (by omega) (by omega) (Zcl (E:=(EI .i64)) _ _) fun v5 w6 hB_ hC=>?_
 replace hC:=Jg hC 0 ((Zy0 ((a0.length:Int).toNat) (0:Int)).length) ((EI .i64).encs (Zy0 ((a0.length:Int).toNat) (0:Int))) rfl (by simp) rfl
 refine Zc (v:=v5) rfl (dn (ZIa (sr (Zc (v:=.int .i64 0) rfl (dn (ZIj ?_))))))
 have hN10:a0.length≤9223372036854775807:=Xp (hC.getP 0 rfl)
 refine Y9 (S:=(List Int)) _ _ (fun i10 s10 e_ w_=>∃ (v10:Value),Z3 e_ [(0,u0_0),(3,v10),(4,.int .i64 (i10:Int))]∧Ctx Nox w0 w_ [own 2 1 v10 s10.length ((EI .i64).encs s10)] [ZH7 ((EI .i64).ty.sl) a0 [u0_0] fp0]) a0.length ?_ ?_ (s0:=(Zy0 ((a0.length:Int).toNat) (0:Int))) ?_ h
 ·clear hC h
  rintro i10 s10 e_ w10 nx10 K10 hi10 ⟨v10,hS_,hC⟩ h hK10
  rw [ue hS_]
  refine ZIa (sr (Zb (v:=.int .i64 (i10:Int)) rfl (Zb (v:=u0_0) rfl ?_)))
  obtain ⟨Ad10,c10,hv12⟩:=Z1 (hC.getP 0 rfl)
  refine Zx ZIs (tr rfl hv12) (Zt rfl rfl (dn (Yr rfl (decide_eq_true (by omega)) (ZIe (Zd (ZIa (ZIj (Zh (Zb (v:=v10) rfl (Zb (v:=.int .i64 (i10:Int)) rfl (Zb (v:=u0_0) rfl ?_)))))))))))
  refine Zb (v:=.int .i64 (i10:Int)) rfl ?_
  obtain ⟨Ad11,c11,hv10⟩:=Z0 (hC.getP 0 rfl) i10 hi10
  refine Xb (len:=a0.length) ZIs sc2.size (tr rfl hv10) rfl (ZIv _) (ZJi.2 hi10) (Xm (.int .i64 (a0.getD i10 Zyt)) (Yf (hC.getP 0 rfl) hv10 i10 hi10) sc2 rfl ?_)
  obtain ⟨⟨h10,h11⟩,h⟩:=h
  obtain ⟨Ad12,c12,hv11⟩:=Zai (hC.getM 0 rfl) (Nat.lt_of_le_of_lt (Nat.zero_le _) (show i10 < s10.length by omega))
  refine Zao (i10 * 1) ZIs sc2.size (tr rfl hv11) rfl h10 h11 rfl (Zec (v:=.int .i64 (a0.getD i10 Zyt)) hC 0 [.int .i64 (a0.getD i10 Zyt)] ((EI .i64).encs (s10.set i10 (a0.getD i10 Zyt))) rfl hv11 sc2.size rfl rfl rfl rfl rfl (by rw [Enc.encs_len]; exact Zbk (sz:=1) (show i10 < s10.length by omega)) (Zed _ _ _ (show i10 < s10.length by omega)) fun w11 hC=>?_)
  replace hC:=Jg hC 0 ((s10.set i10 (a0.getD i10 Zyt)).length) ((EI .i64).encs (s10.set i10 (a0.getD i10 Zyt))) rfl (by simp) rfl
  refine done (Zs (Zd (Zh (Zb (v:=.int .i64 (i10:Int)) rfl (Zq rfl rfl (Zc (v:=.int .i64 (ZA7.wrap ((i10:Int)+1))) rfl (done ?_)))))))
  exact hK10 (s10.set i10 (a0.getD i10 Zyt)) _ _ ⟨v10,(sl ⟨rfl,rfl,(tr rfl (congrArg _ (Yh hi10 hN10))),trivial⟩),hC⟩ h
 ·clear hC h
  rintro s10 e_ w12 K10 ⟨v10,hS_,hC⟩ h
  rw [ue hS_]
  refine ZIa (sr (Zb (v:=.int .i64 (a0.length:Int)) rfl (Zb (v:=u0_0) rfl ?_)))
  obtain ⟨Ad13,c13,hv13⟩:=Z1 (hC.getP 0 rfl)
  refine Zx ZIs (tr rfl hv13) (Zt rfl rfl (dn (Yi rfl (decide_eq_false (by omega)) ?_)))
  refine ZIr (Zj (Zj (Z9 ?_)))
  refine Zd (sr (Zb (v:=v10) rfl (Zc (v:=v10) rfl (dn (ZIi ?_)))))
  refine Zp (fn:=Tryz.f41) rfl ?_ ⟨s10,v10,(ZI5 (Zzn v10)),rfl,h,(Jr (hC.getM 0 rfl)),(X5 hC 0 rfl),hC.below⟩ (.inl rfl)
  exact Zi rfl
 ·skip
  exact⟨v5,(sl ⟨rfl,rfl,rfl,trivial⟩),hC⟩
def Zgi (a0:A8) (a1:A8) (K:Bool→Prop):Prop :=
 Yt (fun i10 (s10:Unit) nx10=>(if a0.get i10≠a1.get i10 then K false else nx10 ())) (fun (s10:Unit)=>K true) 8 0 ()
theorem Ztb (a0:A8) (a1:A8)  {K:Bool→Prop} (h:Zgi a0 a1 K) (w0:World)  :
  Calls ZId 188 #[.agg (ZH8 (ZH6 .u8 a0)),.agg (ZH8 (ZH6 .u8 a1))] w0 fun e w'=>∃ (r0:Bool),
   e=.returned (.bool r0)∧K r0∧Bel w0 w':=by
 unfold Zgi at h
 refine Z4 (args:=[.agg (ZH8 (ZH6 .u8 a0)),.agg (ZH8 (ZH6 .u8 a1))]) Tryz.func188 rfl 17 Tryz.ntmps188 (ZIc rfl) ?_
 have hC:=ZIt (X:=Nox) w0 [] (by simp)
 refine sr (Yl (v:=.agg (ZH8 (ZH6 .u8 a0))) hC (ZH6 .u8 a0) rfl rfl fun b1 w3 hB_ hC=>Yl (v:=.agg (ZH8 (ZH6 .u8 a1))) hC (ZH6 .u8 a1) rfl rfl fun b4 w6 hB_ hC=>Zc (v:=.bool false) rfl (dn (ZIa (sr (Zc (v:=.int .i64 0) rfl (dn (ZIj ?_)))))))
 refine Y9 (S:=Unit) _ _ (fun i10 s10 e_ w_=>Z3 e_ [(2,.pointer (some ⟨b1,0,none⟩)),(3,.pointer (some ⟨b4,0,none⟩)),(5,.int .i64 (i10:Int))]∧Ctx Nox w0 w_ [blk b4 136 (ZH6 .u8 a1),blk b1 136 (ZH6 .u8 a0)] []) 8 ?_ ?_ (s0:=()) ?_ h
 ·clear hC h
  rintro i10 s10 e_ w10 nx10 K10 hi10 ⟨hS_,hC⟩ h hK10
  rw [ue hS_]
  refine ZIa (sr (Zb (v:=.int .i64 (i10:Int)) rfl (Zt rfl rfl (dn (Yr rfl (decide_eq_true (by omega)) (ZIe (Zd (ZIa (ZIj (ZIa ?_))))))))))
  refine Yg 6 Ye [0,1,3,0,8,24,63] [1,2,4,5] [0,3] (by kernel_rfl) (by kernel_rfl) (by kernel_rfl) (fun hM10 hM11 w11 hB_=>?_)
  replace hC:=hC.grow hB_
  refine aF 0 (.int .i64 (i10:Int)) rfl rfl (hM11 0 rfl) (rfl) (fun _=>by exact Zf (v:=.int .i64 (i10:Int)) rfl) (Za 7 1) (aL 1 (.pointer (some ⟨b1,i10,none⟩)) rfl rfl (hM10 1 rfl) (rfl) (fun _ hB_=>by exact Zaa i10 ZIn sc5.size rfl rfl (ZIv _) (by omega) (by omega)) (Za 7 3) (aL 2 (.int .u8 (a0.get i10)) rfl rfl (hM10 2 rfl) (rfl) (fun _ hB_=>by exact Z5 (hC.grow hB_) 1 (.int .u8 (a0.get i10)) rfl sc5 rfl (ZIu _ _ hi10)) (Za 7 7) (aF 3 (.int .i64 (i10:Int)) rfl rfl (hM11 3 rfl) (rfl) (fun _=>by exact Zf (v:=.int .i64 (i10:Int)) rfl) (Za 7 15) (aL 4 (.pointer (some ⟨b4,i10,none⟩)) rfl rfl (hM10 4 rfl) (rfl) (fun _ hB_=>by exact Zaa i10 ZIn sc5.size rfl rfl (ZIv _) (by omega) (by omega)) (Za 7 31) (aL 5 (.int .u8 (a1.get i10)) rfl rfl (hM10 5 rfl) (rfl) (fun _ hB_=>by exact Z5 (hC.grow hB_) 0 (.int .u8 (a1.get i10)) rfl sc5 rfl (ZIu _ _ hi10)) (Za 7 63) (Zu 6 (by decide) (by decide) (by kernel_rfl) (by kernel_rfl) rfl (Xl rfl rfl (done (Zv (Zd ?_))))))))))
  refine Zr rfl (fun hb10=>?_) (fun hb10=>?_)
  ·replace h:=ift h (ct hb10)
   refine sr (Zc (v:=.bool false) rfl (dn ?_))
   refine ZIi (Yd (Zo (Zo (Yd (Zo ?_)))))
   refine Zp (fn:=Tryz.f188) rfl ?_ ⟨false,rfl,h,hC.below⟩ (.inl rfl)
   exact Zi rfl
  ·replace h:=Zk h (cf hb10)
   refine ZIe (Zs (Zd (Zh (Zb (v:=.int .i64 (i10:Int)) rfl (Zq rfl rfl (Zc (v:=.int .i64 (ZA7.wrap ((i10:Int)+1))) rfl (done ?_)))))))
   exact hK10 () _ _ ⟨(sl ⟨rfl,rfl,(tr rfl (congrArg _ (Yh hi10 (by decide)))),trivial⟩),hC⟩ h
 ·clear hC h
  rintro s10 e_ w12 K10 ⟨hS_,hC⟩ h
  rw [ue hS_]
  refine ZIa (sr (Zb (v:=.int .i64 8) rfl (Zt rfl rfl (dn (Yi rfl (decide_eq_false (by omega)) ?_)))))
  refine ZIr (Zj (Zj (Z9 ?_)))
  refine Zd (sr (Zc (v:=.bool true) rfl (dn (ZIi ?_))))
  refine Zp (fn:=Tryz.f188) rfl ?_ ⟨true,rfl,h,hC.below⟩ (.inl rfl)
  exact Zi rfl
 ·skip
  exact⟨(sl ⟨rfl,rfl,rfl,trivial⟩),hC⟩
def Zgj (a0:List Int) (a1:List Int) (K:Bool→Prop):Prop :=
 (if(a0.length:Int)≠(a1.length:Int) then K false else Yt (fun i10 (s10:Unit) nx10=>((0≤(i10:Int)∧(i10:Int) < (a1.length:Int))∧(if a0.getD i10 Zyt≠a1.getD i10 Zyt then K false else nx10 ()))) (fun (s10:Unit)=>K true) a0.length 0 ())
theorem Ztc (a0:List Int) (a1:List Int) {u0_0:Value} {u1_0:Value} {fp0:List Nat} {fp1:List Nat} {K:Bool→Prop} (h:Zgj a0 a1 K) (w0:World) (q0:((EI .i64).ty.sl).rep a0 [u0_0] fp0 w0) (q1:((EI .i64).ty.sl).rep a1 [u1_0] fp1 w0) :
  Calls ZId 25 #[u0_0,u1_0] w0 fun e w'=>∃ (r0:Bool),
   e=.returned (.bool r0)∧K r0∧Bel w0 w':=by
 unfold Zgj at h
 refine Z4 (args:=[u0_0,u1_0]) Tryz.func25 rfl 26 Tryz.ntmps25 (ZIc rfl) ?_
 have hC:=ZIt (X:=Nox) w0 [ZH7 ((EI .i64).ty.sl) a0 [u0_0] fp0,ZH7 ((EI .i64).ty.sl) a1 [u1_0] fp1] (by simp only [Zyz,ZAt,or_false,forall_eq_or_imp,forall_eq]; exact⟨q0,q1⟩)
 refine sr (Zc (v:=.bool false) rfl (dn (ZIa (sr (Zb (v:=u0_0) rfl ?_)))))
 obtain ⟨Ad3,c4,hv5⟩:=Z1 (hC.getP 0 rfl)
 refine Zx ZIs (tr rfl hv5) (Zb (v:=u1_0) rfl ?_)
 obtain ⟨Ad6,c7,hv8⟩:=Z1 (hC.getP 1 rfl)
 refine Zx ZIs (tr rfl hv8) (Xl rfl rfl (dn ?_))
 refine Zr rfl (fun hb9=>?_) (fun hb9=>?_)
 ·replace h:=ift h (ct hb9)
  refine sr (Zc (v:=.bool false) rfl (dn ?_))
  refine ZIi (Zo ?_)
  refine Zp (fn:=Tryz.f25) rfl ?_ ⟨false,rfl,h,hC.below⟩ (.inl rfl)
  exact Zi rfl
 ·replace h:=Zk h (cf hb9)
  refine ZIe (Zd (ZIa (sr (Zc (v:=.int .i64 0) rfl (dn (ZIj ?_))))))
  have hN10:a0.length≤9223372036854775807:=Xp (hC.getP 0 rfl)
  refine Y9 (S:=Unit) _ _ (fun i10 s10 e_ w_=>Z3 e_ [(0,u0_0),(1,u1_0),(5,.int .i64 (i10:Int))]∧Ctx Nox w0 w_ [] [ZH7 ((EI .i64).ty.sl) a0 [u0_0] fp0,ZH7 ((EI .i64).ty.sl) a1 [u1_0] fp1]) a0.length ?_ ?_ (s0:=()) ?_ h
  ·clear hC h
   rintro i10 s10 e_ w10 nx10 K10 hi10 ⟨hS_,hC⟩ h hK10
   rw [ue hS_]
   refine ZIa (sr (Zb (v:=.int .i64 (i10:Int)) rfl (Zb (v:=u0_0) rfl ?_)))
   obtain ⟨Ad12,c10,hv12⟩:=Z1 (hC.getP 0 rfl)
   refine Zx ZIs (tr rfl hv12) (Zt rfl rfl (dn (Yr rfl (decide_eq_true (by omega)) (ZIe (Zd (ZIa (ZIj (ZIa ?_))))))))
   refine Yg 8 Ye [0,0,3,7,0,0,48,112,255] [2,3,6,7] [0,1,4,5] (by kernel_rfl) (by kernel_rfl) (by kernel_rfl) (fun hM10 hM11 w11 hB_=>?_)
   replace hC:=hC.grow hB_
   refine aF 0 (u0_0) rfl rfl (hM11 0 rfl) (rfl) (fun _=>by exact Zf (v:=u0_0) rfl) (Za 9 1) (aF 1 (.int .i64 (i10:Int)) rfl rfl (hM11 1 rfl) (rfl) (fun _=>by exact Zf (v:=.int .i64 (i10:Int)) rfl) (Za 9 3) ?_)
   obtain ⟨Ad10,c11,hv10⟩:=Z0 (hC.getP 0 rfl) i10 hi10
   refine aL 2 (.pointer (some (Ad10.add (i10 * 1)))) rfl rfl (hM10 2 rfl) (rfl) (fun _ hB_=>by exact Yp (len:=a0.length) ZIs sc2.size (by exact tr rfl hv10) rfl (ZIv _) (ZJi.2 hi10)) (Za 9 7) (aL 3 (.int .i64 (a0.getD i10 Zyt)) rfl rfl (hM10 3 rfl) (rfl) (fun _ hB_=>by exact Xc (.int .i64 (a0.getD i10 Zyt)) (Yf ((hC.grow hB_).getP 0 rfl) hv10 i10 hi10) sc2 rfl) (Za 9 15) (aF 4 (u1_0) rfl rfl (hM11 4 rfl) (rfl) (fun _=>by exact Zf (v:=u1_0) rfl) (Za 9 31) (aF 5 (.int .i64 (i10:Int)) rfl rfl (hM11 5 rfl) (rfl) (fun _=>by exact Zf (v:=.int .i64 (i10:Int)) rfl) (Za 9 63) ?_)))
   obtain ⟨⟨h10,h11⟩,h⟩:=h
   obtain ⟨Ad11,c12,hv11⟩:=Z0 (hC.getP 1 rfl) i10 (show i10 < a1.length by omega)
   refine aL 6 (.pointer (some (Ad11.add (i10 * 1)))) rfl rfl (hM10 6 rfl) (rfl) (fun _ hB_=>by exact Yp (len:=a1.length) ZIs sc2.size (by exact tr rfl hv11) rfl h10 h11) (Za 9 127) (aL 7 (.int .i64 (a1.getD i10 Zyt)) rfl rfl (hM10 7 rfl) (rfl) (fun _ hB_=>by exact Xc (.int .i64 (a1.getD i10 Zyt)) (Yf ((hC.grow hB_).getP 1 rfl) hv11 i10 (show i10 < a1.length by omega)) sc2 rfl) (Za 9 255) (Zu 8 (by decide) (by decide) (by kernel_rfl) (by kernel_rfl) rfl (Xl rfl rfl (done (Zv (Zd ?_))))))
   refine Zr rfl (fun hb10=>?_) (fun hb10=>?_)
   ·replace h:=ift h (ct hb10)
    refine sr (Zc (v:=.bool false) rfl (dn ?_))
    refine ZIi (Yd (Zo (Zo (Yd (Zo ?_)))))
    refine Zp (fn:=Tryz.f25) rfl ?_ ⟨false,rfl,h,hC.below⟩ (.inl rfl)
    exact Zi rfl
   ·replace h:=Zk h (cf hb10)
    refine ZIe (Zs (Zd (Zh (Zb (v:=.int .i64 (i10:Int)) rfl (Zq rfl rfl (Zc (v:=.int .i64 (ZA7.wrap ((i10:Int)+1))) rfl (done ?_)))))))
    exact hK10 () _ _ ⟨(sl ⟨rfl,rfl,(tr rfl (congrArg _ (Yh hi10 hN10))),trivial⟩),hC⟩ h
  ·clear hC h
   rintro s10 e_ w12 K10 ⟨hS_,hC⟩ h
   rw [ue hS_]
   refine ZIa (sr (Zb (v:=.int .i64 (a0.length:Int)) rfl (Zb (v:=u0_0) rfl ?_)))
   obtain ⟨Ad13,c13,hv13⟩:=Z1 (hC.getP 0 rfl)
   refine Zx ZIs (tr rfl hv13) (Zt rfl rfl (dn (Yi rfl (decide_eq_false (by omega)) ?_)))
   refine ZIr (Zj (Zj (Z9 ?_)))
   refine Zd (sr (Zc (v:=.bool true) rfl (dn (ZIi ?_))))
   refine Zp (fn:=Tryz.f25) rfl ?_ ⟨true,rfl,h,hC.below⟩ (.inl rfl)
   exact Zi rfl
  ·skip
   exact⟨(sl ⟨rfl,rfl,rfl,trivial⟩),hC⟩
def Zgk (a0:Term) (K:Term→Prop):Prop :=
 Zgg a0.mono (fun r10=>K (⟨r10,a0.factor⟩:Term))
theorem Ztd (a0:Term)  {K:Term→Prop} (h:Zgk a0 K) (w0:World)  :
  Calls ZId 130 #[.agg (ZH8 (ZIl a0))] w0 fun e w'=>∃ (r0:Term),
   e=.returned (.agg (ZH8 (ZIl r0)))∧K r0∧Bel w0 w':=by
 unfold Zgk at h
 refine Z4 (args:=[.agg (ZH8 (ZIl a0))]) Tryz.func130 rfl 12 Tryz.ntmps130 (ZIc rfl) ?_
 have hC:=ZIt (X:=Nox) w0 [] (by simp)
 refine sr (Yl (v:=.agg (ZH8 (ZIl a0))) hC (ZIl a0) rfl rfl fun b1 w3 hB_ hC=>Yj hC (ZIl (⟨ZIg,0⟩:Term)) Zen rfl fun b4 w6 hB_ hC=>dn (sr (Yj hC (ZIl (⟨ZIg,0⟩:Term)) Zen rfl fun b7 w9 hB_ hC=>dn (sr (Z6 0 Tryz.underlying170 rfl ag135.size rfl rfl (Yy hC 2 (ZH6 .u8 a0.mono) rfl ag135 rfl rfl rfl ?_))))))
 refine Zg [.agg (ZH8 (ZH6 .u8 a0.mono))] _ Tryz.func177 rfl rfl rfl (Zs9 a0.mono h _) (fun ret10 w10 hR10=>?_)
 obtain ⟨r10,rfl,h,hB10⟩:=hR10
 refine⟨_,rfl,?_⟩
 replace hC:=hC.grow hB10
 refine Z6 0 ZIp rfl ag136.size rfl rfl (Zw (v:=.agg (ZH8 (ZH6 .u8 r10))) hC 0 (ZH6 .u8 r10) (ZIl (⟨r10,0⟩:Term)) rfl ag136.size rfl rfl rfl rfl rfl (ZIc rfl) rfl fun w11 hC=>dn (sr (Z6 8 Tryz.underlying170 rfl sc2.size rfl rfl (Z8 hC 2 (.int .i64 a0.factor) rfl sc2 rfl rfl (Z6 8 ZIp rfl sc2.size rfl rfl (Zw (v:=.int .i64 a0.factor) hC 0 [.int .i64 a0.factor] (ZIl (⟨r10,a0.factor⟩:Term)) rfl sc2.size rfl rfl rfl rfl rfl (ZIc rfl) rfl fun w12 hC=>dn (sr (Yy hC 0 (ZIl (⟨r10,a0.factor⟩:Term)) rfl ag162 rfl rfl rfl (Zw (v:=.agg (ZH8 (ZIl (⟨r10,a0.factor⟩:Term)))) hC 1 (ZIl (⟨r10,a0.factor⟩:Term)) (ZIl (⟨r10,a0.factor⟩:Term)) rfl ag162.size rfl rfl rfl rfl rfl (ZIc rfl) rfl fun w13 hC=>?_)))))))))
 refine dn (ZIi ?_)
 refine Zp (fn:=Tryz.f130) rfl ?_ ⟨(⟨r10,a0.factor⟩:Term),rfl,h,hC.below⟩ (.inl rfl)
 exact Zag hC 1 rfl ag162 rfl rfl
def Zgl (a0:List Term) (K:List Term→Prop):Prop :=
 ((0≤(a0.length:Int)∧(a0.length:Int) * 16≤281474976710656)∧Yt (fun i10 (s10:(List Term)) nx10=>Zgk (a0.getD i10 Zyt) (fun r10=>((0≤(i10:Int)∧(i10:Int) < (s10.length:Int))∧nx10 (s10.set i10 r10)))) (fun (s10:(List Term))=>K s10) a0.length 0 (Zy0 ((a0.length:Int).toNat) ((⟨ZIg,0⟩:Term):Term)))
theorem Zte (a0:List Term) {u0_0:Value} {fp0:List Nat} {K:List Term→Prop} (h:Zgl a0 K) (w0:World) (q0:ZH9.ty.sl.rep a0 [u0_0] fp0 w0) :
  Calls ZId 74 #[u0_0] w0 fun e w'=>∃ (r0:List Term) (z0_0:Value) (fz0:List Nat),
   e=.returned (z0_0)∧K r0∧(Tr.item (Tr.sl 162 ZH9.tr) r0 [z0_0] fz0).holds w'∧(∀ b,b∈fz0→w0.heap.size≤b)∧Bel w0 w':=by
 unfold Zgl at h
 refine Z4 (args:=[u0_0]) Tryz.func74 rfl 23 Tryz.ntmps74 (ZIc rfl) ?_
 have hC:=ZIt (X:=Nox) w0 [ZH7 ZH9.ty.sl a0 [u0_0] fp0] (by simp only [Zyz,ZAt,or_false,forall_eq_or_imp,forall_eq]; exact q0)
 refine sr (Zc (v:=.slice none 0 0) rfl (dn (sr (Zb (v:=u0_0) rfl ?_))))
 obtain ⟨Ad2,c3,hv4⟩:=Z1 (hC.getP 0 rfl)
 refine Zx ZK6 (tr rfl hv4) ?_
 obtain ⟨hm7,h⟩:=h
 refine Zck (sz:=9) hC (ZH9.encs (Zy0 ((a0.length:Int).toNat) ((⟨ZIg,0⟩:Term):Term))) ZIh Zfz (tr rfl (congrArg (ZK4 .i64) (ZK5 hm7.1).symm)) (tr rfl (congrArg (ZK4 .i64) (ZK5 hm7.1).symm)) (by omega) (by omega) (Zcl (E:=ETerm) _ _) fun v5 w6 hB_ hC=>?_
 replace hC:=Jg hC 0 ((Zy0 ((a0.length:Int).toNat) ((⟨ZIg,0⟩:Term):Term)).length) (ZH9.encs (Zy0 ((a0.length:Int).toNat) ((⟨ZIg,0⟩:Term):Term))) rfl (by simp) rfl
 refine Zc (v:=v5) rfl (dn (ZIa (sr (Zc (v:=.int .i64 0) rfl (dn (ZIj ?_))))))
 have hN10:a0.length≤9223372036854775807:=Xp (hC.getP 0 rfl)
 refine Y9 (S:=(List Term)) _ _ (fun i10 s10 e_ w_=>∃ (v10:Value),Z3 e_ [(0,u0_0),(3,v10),(4,.int .i64 (i10:Int))]∧Ctx Nox w0 w_ [own 162 9 v10 s10.length (ZH9.encs s10)] [ZH7 ZH9.ty.sl a0 [u0_0] fp0]) a0.length ?_ ?_ (s0:=(Zy0 ((a0.length:Int).toNat) ((⟨ZIg,0⟩:Term):Term))) ?_ h
 ·clear hC h
  rintro i10 s10 e_ w10 nx10 K10 hi10 ⟨v10,hS_,hC⟩ h hK10
  rw [ue hS_]
  refine ZIa (sr (Zb (v:=.int .i64 (i10:Int)) rfl (Zb (v:=u0_0) rfl ?_)))
  obtain ⟨Ad10,c10,hv12⟩:=Z1 (hC.getP 0 rfl)
  refine Zx ZK6 (tr rfl hv12) (Zt rfl rfl (dn (Yr rfl (decide_eq_true (by omega)) (ZIe (Zd (ZIa (ZIj (Zh (Zb (v:=v10) rfl (Zb (v:=.int .i64 (i10:Int)) rfl (Zb (v:=u0_0) rfl ?_)))))))))))
  refine Zb (v:=.int .i64 (i10:Int)) rfl ?_
  obtain ⟨Ad11,c11,hv10⟩:=Z0 (hC.getP 0 rfl) i10 hi10
  refine Xb (len:=a0.length) ZK6 ag170.size (tr rfl hv10) rfl (ZIv _) (ZJi.2 hi10) (Zav (ZIl (a0.getD i10 Zyt)) (Yf (hC.getP 0 rfl) hv10 i10 hi10) ag170 rfl rfl ?_)
  refine Zg [.agg (ZH8 (ZIl (a0.getD i10 Zyt)))] _ Tryz.func130 rfl rfl rfl (Ztd (a0.getD i10 Zyt) h _) (fun ret10 w11 hR10=>?_)
  obtain ⟨r10,rfl,h,hB10⟩:=hR10
  refine⟨_,rfl,?_⟩
  replace hC:=hC.grow hB10
  obtain ⟨⟨h10,h11⟩,h⟩:=h
  obtain ⟨Ad12,c12,hv11⟩:=Zai (hC.getM 0 rfl) (Nat.lt_of_le_of_lt (Nat.zero_le _) (show i10 < s10.length by omega))
  refine Zao (i10 * 9) ZIh ag162.size (tr rfl hv11) rfl h10 h11 rfl (Zec (v:=.agg (ZH8 (ZIl r10))) hC 0 (ZIl r10) (ZH9.encs (s10.set i10 r10)) rfl hv11 ag162.size rfl rfl rfl rfl rfl (by rw [Enc.encs_len]; exact Zbk (sz:=9) (show i10 < s10.length by omega)) (Zed _ _ _ (show i10 < s10.length by omega)) fun w12 hC=>?_)
  replace hC:=Jg hC 0 ((s10.set i10 r10).length) (ZH9.encs (s10.set i10 r10)) rfl (by simp) rfl
  refine done (Zs (Zd (Zh (Zb (v:=.int .i64 (i10:Int)) rfl (Zq rfl rfl (Zc (v:=.int .i64 (ZA7.wrap ((i10:Int)+1))) rfl (done ?_)))))))
  exact hK10 (s10.set i10 r10) _ _ ⟨v10,(sl ⟨rfl,rfl,(tr rfl (congrArg _ (Yh hi10 hN10))),trivial⟩),hC⟩ h
 ·clear hC h
  rintro s10 e_ w13 K10 ⟨v10,hS_,hC⟩ h
  rw [ue hS_]
  refine ZIa (sr (Zb (v:=.int .i64 (a0.length:Int)) rfl (Zb (v:=u0_0) rfl ?_)))
  obtain ⟨Ad13,c13,hv13⟩:=Z1 (hC.getP 0 rfl)
  refine Zx ZK6 (tr rfl hv13) (Zt rfl rfl (dn (Yi rfl (decide_eq_false (by omega)) ?_)))
  refine ZIr (Zj (Zj (Z9 ?_)))
  refine Zd (sr (Zb (v:=v10) rfl (Zc (v:=v10) rfl (dn (ZIi ?_)))))
  refine Zp (fn:=Tryz.f74) rfl ?_ ⟨s10,v10,(ZI5 (Zzn v10)),rfl,h,(Jr (hC.getM 0 rfl)),(X5 hC 0 rfl),hC.below⟩ (.inl rfl)
  exact Zi rfl
 ·skip
  exact⟨v5,(sl ⟨rfl,rfl,rfl,trivial⟩),hC⟩
def Zgm (a0:ZIb) (K:ZIb→Prop):Prop :=
 Zgl a0.terms (fun r10=>K (⟨r10⟩:ZIb))
theorem Ztf (a0:ZIb) {u0_0:Value} {fp0:List Nat} {K:ZIb→Prop} (h:Zgm a0 K) (w0:World) (q0:ZIo.rep a0 [u0_0] fp0 w0) :
  Calls ZId 30 #[.agg #[u0_0]] w0 fun e w'=>∃ (r0:ZIb) (z0_0:Value) (fz0:List Nat),
   e=.returned (.agg #[z0_0])∧K r0∧(Tr.item (Ya 162) r0 [z0_0] fz0).holds w'∧(∀ b,b∈fz0→w0.heap.size≤b)∧Bel w0 w':=by
 unfold Zgm at h
 refine Z4 (args:=[.agg #[u0_0]]) Tryz.func30 rfl 9 Tryz.ntmps30 (ZIc rfl) ?_
 have hC:=ZIt (X:=Nox) w0 [ZH7 TForm a0 [u0_0] fp0] (by simp only [Zyz,ZAt,or_false,forall_eq_or_imp,forall_eq]; exact q0)
 have hp2:=(hC.getP 0 rfl)
 replace hC:=hC.derive 0 rfl (ZH7 ZH9.ty.sl a0.terms [u0_0] fp0) (fun _=>(Xi hp2)) (fun _ hb_=>hb_)
 refine sr (Yl (v:=.agg #[u0_0]) hC [u0_0] rfl rfl fun b4 w6 hB_ hC=>Yj hC [.slice none 0 0] z55 rfl fun b7 w9 hB_ hC=>dn (sr (Yj hC [.slice none 0 0] z55 rfl fun b10 w10 hB_ hC=>dn (sr (Z6 0 Tryz.underlying50 rfl sc48.size rfl rfl (Z8 hC 2 (u0_0) rfl sc48 rfl rfl ?_))))))
 refine Zg [u0_0] _ Tryz.func74 rfl rfl rfl (Zte a0.terms h _ (hC.getP 0 rfl)) (fun ret10 w11 hR10=>?_)
 obtain ⟨r10,u10,f10,rfl,h,hr10,hf10,hB10⟩:=hR10
 refine⟨_,rfl,?_⟩
 replace hC:=hC.push hB10 (Tr.item (Tr.sl 162 ZH9.tr) r10 [u10] f10) hr10 hf10
 obtain ⟨ho10,hf11⟩:=Zac (hC.getM 0 rfl).1
 subst hf11
 replace hC:=hC.recast (c:=own 162 9 u10 r10.length (ZH9.encs r10)) (fun _ h_=>h_) (fun _=>ho10)
 refine Z6 0 ZIf rfl sc53.size rfl rfl (Zw (v:=u10) hC 1 [u10] [u10] rfl sc53.size rfl rfl (Zcm (hC.getM 0 rfl)) rfl (Y6 (Xn (hC.getM 0 rfl)) rfl) (ZIc rfl) rfl fun w12 hC=>dn (sr (Yy hC 1 [u10] rfl ag55 rfl rfl rfl (Zw (v:=.agg #[u10]) hC 2 [u10] [u10] rfl ag55.size rfl rfl rfl rfl (Y6 (Xn (hC.getM 0 rfl)) rfl) (ZIc rfl) rfl fun w13 hC=>dn (ZIi ?_)))))
 refine Zp (fn:=Tryz.f30) rfl ?_ ⟨(⟨r10⟩:ZIb),u10,(ZI5 (Zzn u10)),rfl,h,(Za4 (Jr (hC.getM 0 rfl))),(X5 hC 0 rfl),hC.below⟩ (.inl rfl)
 exact Zag hC 2 rfl ag55 rfl rfl
def Zgn (a0:Term) (a1:Term) (K:Bool→Prop):Prop :=
 Zgi a0.mono a1.mono (fun r10=>(if¬ (r10=true) then K false else(if a0.factor≠a1.factor then K false else K true)))
theorem Ztg (a0:Term) (a1:Term)  {K:Bool→Prop} (h:Zgn a0 a1 K) (w0:World)  :
  Calls ZId 144 #[.agg (ZH8 (ZIl a0)),.agg (ZH8 (ZIl a1))] w0 fun e w'=>∃ (r0:Bool),
   e=.returned (.bool r0)∧K r0∧Bel w0 w':=by
 unfold Zgn at h
 refine Z4 (args:=[.agg (ZH8 (ZIl a0)),.agg (ZH8 (ZIl a1))]) Tryz.func144 rfl 16 Tryz.ntmps144 (ZIc rfl) ?_
 have hC:=ZIt (X:=Nox) w0 [] (by simp)
 refine sr (Yl (v:=.agg (ZH8 (ZIl a0))) hC (ZIl a0) rfl rfl fun b1 w3 hB_ hC=>Yl (v:=.agg (ZH8 (ZIl a1))) hC (ZIl a1) rfl rfl fun b4 w6 hB_ hC=>Zc (v:=.bool false) rfl (dn (ZIa (sr (Z6 0 ZIp rfl ag136.size rfl rfl (Yy hC 1 (ZH6 .u8 a0.mono) rfl ag136 rfl rfl rfl (Z6 0 ZIp rfl ag136.size rfl rfl (Yy hC 0 (ZH6 .u8 a1.mono) rfl ag136 rfl rfl rfl ?_))))))))
 refine Zg [.agg (ZH8 (ZH6 .u8 a0.mono)),.agg (ZH8 (ZH6 .u8 a1.mono))] _ Tryz.func188 rfl rfl rfl (Ztb a0.mono a1.mono h _) (fun ret7 w9 hR8=>?_)
 obtain ⟨r10,rfl,h,hB10⟩:=hR8
 refine⟨_,rfl,?_⟩
 replace hC:=hC.grow hB10
 refine Jf rfl (dn ?_)
 refine Zr rfl (fun hb10=>?_) (fun hb10=>?_)
 ·replace h:=ift h (Xz (Jp hb10))
  refine sr (Zc (v:=.bool false) rfl (dn ?_))
  refine ZIi (Zo ?_)
  refine Zp (fn:=Tryz.f144) rfl ?_ ⟨false,rfl,h,hC.below⟩ (.inl rfl)
  exact Zi rfl
 ·replace h:=Zk h (not_not_intro ((Jq hb10)))
  refine ZIe (Zd (ZIa (sr (Z6 8 ZIp rfl sc2.size rfl rfl (Z8 hC 1 (.int .i64 a0.factor) rfl sc2 rfl rfl (Z6 8 ZIp rfl sc2.size rfl rfl (Z8 hC 0 (.int .i64 a1.factor) rfl sc2 rfl rfl (Xl rfl rfl (dn ?_)))))))))
  refine Zr rfl (fun hb11=>?_) (fun hb11=>?_)
  ·replace h:=ift h (ct hb11)
   refine sr (Zc (v:=.bool false) rfl (dn ?_))
   refine ZIi (Zo ?_)
   refine Zp (fn:=Tryz.f144) rfl ?_ ⟨false,rfl,h,hC.below⟩ (.inl rfl)
   exact Zi rfl
  ·replace h:=Zk h (cf hb11)
   refine ZIe (Zd (sr (Zc (v:=.bool true) rfl (dn (ZIi ?_)))))
   refine Zp (fn:=Tryz.f144) rfl ?_ ⟨true,rfl,h,hC.below⟩ (.inl rfl)
   exact Zi rfl
def Ziu (a0:List Term) (a1:List Term) (K:Bool→Prop):Prop :=
 (if(a0.length:Int)≠(a1.length:Int) then K false else Yt (fun i10 (s10:Unit) nx10=>((0≤(i10:Int)∧(i10:Int) < (a1.length:Int))∧Zgn (a0.getD i10 Zyt) (a1.getD i10 Zyt) (fun r10=>(if¬ (r10=true) then K false else nx10 ())))) (fun (s10:Unit)=>K true) a0.length 0 ())
theorem Zth (a0:List Term) (a1:List Term) {u0_0:Value} {u1_0:Value} {fp0:List Nat} {fp1:List Nat} {K:Bool→Prop} (h:Ziu a0 a1 K) (w0:World) (q0:ZH9.ty.sl.rep a0 [u0_0] fp0 w0) (q1:ZH9.ty.sl.rep a1 [u1_0] fp1 w0) :
  Calls ZId 87 #[u0_0,u1_0] w0 fun e w'=>∃ (r0:Bool),
   e=.returned (.bool r0)∧K r0∧Bel w0 w':=by
 unfold Ziu at h
 refine Z4 (args:=[u0_0,u1_0]) Tryz.func87 rfl 27 Tryz.ntmps87 (ZIc rfl) ?_
 have hC:=ZIt (X:=Nox) w0 [ZH7 ZH9.ty.sl a0 [u0_0] fp0,ZH7 ZH9.ty.sl a1 [u1_0] fp1] (by simp only [Zyz,ZAt,or_false,forall_eq_or_imp,forall_eq]; exact⟨q0,q1⟩)
 refine sr (Zc (v:=.bool false) rfl (dn (ZIa (sr (Zb (v:=u0_0) rfl ?_)))))
 obtain ⟨Ad3,c4,hv5⟩:=Z1 (hC.getP 0 rfl)
 refine Zx ZIh (tr rfl hv5) (Zb (v:=u1_0) rfl ?_)
 obtain ⟨Ad6,c7,hv8⟩:=Z1 (hC.getP 1 rfl)
 refine Zx ZIh (tr rfl hv8) (Xl rfl rfl (dn ?_))
 refine Zr rfl (fun hb9=>?_) (fun hb9=>?_)
 ·replace h:=ift h (ct hb9)
  refine sr (Zc (v:=.bool false) rfl (dn ?_))
  refine ZIi (Zo ?_)
  refine Zp (fn:=Tryz.f87) rfl ?_ ⟨false,rfl,h,hC.below⟩ (.inl rfl)
  exact Zi rfl
 ·replace h:=Zk h (cf hb9)
  refine ZIe (Zd (ZIa (sr (Zc (v:=.int .i64 0) rfl (dn (ZIj ?_))))))
  have hN10:a0.length≤9223372036854775807:=Xp (hC.getP 0 rfl)
  refine Y9 (S:=Unit) _ _ (fun i10 s10 e_ w_=>Z3 e_ [(0,u0_0),(1,u1_0),(5,.int .i64 (i10:Int))]∧Ctx Nox w0 w_ [] [ZH7 ZH9.ty.sl a0 [u0_0] fp0,ZH7 ZH9.ty.sl a1 [u1_0] fp1]) a0.length ?_ ?_ (s0:=()) ?_ h
  ·clear hC h
   rintro i10 s10 e_ w10 nx10 K10 hi10 ⟨hS_,hC⟩ h hK10
   rw [ue hS_]
   refine ZIa (sr (Zb (v:=.int .i64 (i10:Int)) rfl (Zb (v:=u0_0) rfl ?_)))
   obtain ⟨Ad12,c10,hv12⟩:=Z1 (hC.getP 0 rfl)
   refine Zx ZIh (tr rfl hv12) (Zt rfl rfl (dn (Yr rfl (decide_eq_true (by omega)) (ZIe (Zd (ZIa (ZIj (ZIa ?_))))))))
   refine Yg 8 Ye [0,0,3,7,0,0,48,112,255,511] [2,3,6,7] [0,1,4,5] (by kernel_rfl) (by kernel_rfl) (by kernel_rfl) (fun hM10 hM11 w11 hB_=>?_)
   replace hC:=hC.grow hB_
   refine aF 0 (u0_0) rfl rfl (hM11 0 rfl) (rfl) (fun _=>by exact Zf (v:=u0_0) rfl) (Za 10 1) (aF 1 (.int .i64 (i10:Int)) rfl rfl (hM11 1 rfl) (rfl) (fun _=>by exact Zf (v:=.int .i64 (i10:Int)) rfl) (Za 10 3) ?_)
   obtain ⟨Ad10,c11,hv10⟩:=Z0 (hC.getP 0 rfl) i10 hi10
   refine aL 2 (.pointer (some (Ad10.add (i10 * 9)))) rfl rfl (hM10 2 rfl) (rfl) (fun _ hB_=>by exact Yp (len:=a0.length) ZIh ag162.size (by exact tr rfl hv10) rfl (ZIv _) (ZJi.2 hi10)) (Za 10 7) (aL 3 (.agg (ZH8 (ZIl (a0.getD i10 Zyt)))) rfl rfl (hM10 3 rfl) (rfl) (fun _ hB_=>by exact X4 (ZIl (a0.getD i10 Zyt)) (Yf ((hC.grow hB_).getP 0 rfl) hv10 i10 hi10) ag162 rfl rfl) (Za 10 15) (aF 4 (u1_0) rfl rfl (hM11 4 rfl) (rfl) (fun _=>by exact Zf (v:=u1_0) rfl) (Za 10 31) (aF 5 (.int .i64 (i10:Int)) rfl rfl (hM11 5 rfl) (rfl) (fun _=>by exact Zf (v:=.int .i64 (i10:Int)) rfl) (Za 10 63) ?_)))
   obtain ⟨⟨h10,h11⟩,h⟩:=h
   obtain ⟨Ad11,c12,hv11⟩:=Z0 (hC.getP 1 rfl) i10 (show i10 < a1.length by omega)
   refine aL 6 (.pointer (some (Ad11.add (i10 * 9)))) rfl rfl (hM10 6 rfl) (rfl) (fun _ hB_=>by exact Yp (len:=a1.length) ZIh ag162.size (by exact tr rfl hv11) rfl h10 h11) (Za 10 127) (aL 7 (.agg (ZH8 (ZIl (a1.getD i10 Zyt)))) rfl rfl (hM10 7 rfl) (rfl) (fun _ hB_=>by exact X4 (ZIl (a1.getD i10 Zyt)) (Yf ((hC.grow hB_).getP 1 rfl) hv11 i10 (show i10 < a1.length by omega)) ag162 rfl rfl) (Za 10 255) (Zu 8 (by decide) (by decide) (by kernel_rfl) (by kernel_rfl) rfl ?_))
   refine Zg [.agg (ZH8 (ZIl (a0.getD i10 Zyt))),.agg (ZH8 (ZIl (a1.getD i10 Zyt)))] _ Tryz.func144 rfl rfl rfl (Ztg (a0.getD i10 Zyt) (a1.getD i10 Zyt) h _) (fun ret10 w12 hR10=>?_)
   obtain ⟨r10,rfl,h,hB10⟩:=hR10
   refine⟨_,rfl,?_⟩
   replace hC:=hC.grow hB10
   refine Jf rfl (done (Zv (Zd ?_)))
   refine Zr rfl (fun hb10=>?_) (fun hb10=>?_)
   ·replace h:=ift h (Xz (Jp hb10))
    refine sr (Zc (v:=.bool false) rfl (dn ?_))
    refine ZIi (Yd (Zo (Zo (Yd (Zo ?_)))))
    refine Zp (fn:=Tryz.f87) rfl ?_ ⟨false,rfl,h,hC.below⟩ (.inl rfl)
    exact Zi rfl
   ·replace h:=Zk h (not_not_intro ((Jq hb10)))
    refine ZIe (Zs (Zd (Zh (Zb (v:=.int .i64 (i10:Int)) rfl (Zq rfl rfl (Zc (v:=.int .i64 (ZA7.wrap ((i10:Int)+1))) rfl (done ?_)))))))
    exact hK10 () _ _ ⟨(sl ⟨rfl,rfl,(tr rfl (congrArg _ (Yh hi10 hN10))),trivial⟩),hC⟩ h
  ·clear hC h
   rintro s10 e_ w13 K10 ⟨hS_,hC⟩ h
   rw [ue hS_]
   refine ZIa (sr (Zb (v:=.int .i64 (a0.length:Int)) rfl (Zb (v:=u0_0) rfl ?_)))
   obtain ⟨Ad13,c13,hv13⟩:=Z1 (hC.getP 0 rfl)
   refine Zx ZIh (tr rfl hv13) (Zt rfl rfl (dn (Yi rfl (decide_eq_false (by omega)) ?_)))
   refine ZIr (Zj (Zj (Z9 ?_)))
   refine Zd (sr (Zc (v:=.bool true) rfl (dn (ZIi ?_))))
   refine Zp (fn:=Tryz.f87) rfl ?_ ⟨true,rfl,h,hC.below⟩ (.inl rfl)
   exact Zi rfl
  ·skip
   exact⟨(sl ⟨rfl,rfl,rfl,trivial⟩),hC⟩
def Zgo (a0:ZIb) (a1:ZIb) (K:Bool→Prop):Prop :=
 Ziu a0.terms a1.terms (fun r10=>(if¬ (r10=true) then K false else K true))
theorem Zti (a0:ZIb) (a1:ZIb) {u0_0:Value} {u1_0:Value} {fp0:List Nat} {fp1:List Nat} {K:Bool→Prop} (h:Zgo a0 a1 K) (w0:World) (q0:ZIo.rep a0 [u0_0] fp0 w0) (q1:ZIo.rep a1 [u1_0] fp1 w0) :
  Calls ZId 32 #[.agg #[u0_0],.agg #[u1_0]] w0 fun e w'=>∃ (r0:Bool),
   e=.returned (.bool r0)∧K r0∧Bel w0 w':=by
 unfold Zgo at h
 refine Z4 (args:=[.agg #[u0_0],.agg #[u1_0]]) Tryz.func32 rfl 11 Tryz.ntmps32 (ZIc rfl) ?_
 have hC:=ZIt (X:=Nox) w0 [ZH7 TForm a0 [u0_0] fp0,ZH7 TForm a1 [u1_0] fp1] (by simp only [Zyz,ZAt,or_false,forall_eq_or_imp,forall_eq]; exact⟨q0,q1⟩)
 have hp3:=(hC.getP 0 rfl)
 replace hC:=hC.derive 0 rfl (ZH7 ZH9.ty.sl a0.terms [u0_0] fp0) (fun _=>(Xi hp3)) (fun _ hb_=>hb_)
 have hp5:=(hC.getP 2 rfl)
 replace hC:=hC.derive 2 rfl (ZH7 ZH9.ty.sl a1.terms [u1_0] fp1) (fun _=>(Xi hp5)) (fun _ hb_=>hb_)
 refine sr (Yl (v:=.agg #[u0_0]) hC [u0_0] rfl rfl fun b7 w9 hB_ hC=>Yl (v:=.agg #[u1_0]) hC [u1_0] rfl rfl fun b10 w10 hB_ hC=>Zc (v:=.bool false) rfl (dn (ZIa (sr (Z6 0 ZIf rfl sc53.size rfl rfl (Z8 hC 1 (u0_0) rfl sc53 rfl rfl (Z6 0 ZIf rfl sc53.size rfl rfl (Z8 hC 0 (u1_0) rfl sc53 rfl rfl ?_))))))))
 refine Zg [u0_0,u1_0] _ Tryz.func87 rfl rfl rfl (Zth a0.terms a1.terms h _ (hC.getP 1 rfl) (hC.getP 0 rfl)) (fun ret10 w11 hR10=>?_)
 obtain ⟨r10,rfl,h,hB10⟩:=hR10
 refine⟨_,rfl,?_⟩
 replace hC:=hC.grow hB10
 refine Jf rfl (dn ?_)
 refine Zr rfl (fun hb10=>?_) (fun hb10=>?_)
 ·replace h:=ift h (Xz (Jp hb10))
  refine sr (Zc (v:=.bool false) rfl (dn ?_))
  refine ZIi (Zo ?_)
  refine Zp (fn:=Tryz.f32) rfl ?_ ⟨false,rfl,h,hC.below⟩ (.inl rfl)
  exact Zi rfl
 ·replace h:=Zk h (not_not_intro ((Jq hb10)))
  refine ZIe (Zd (sr (Zc (v:=.bool true) rfl (dn (ZIi ?_)))))
  refine Zp (fn:=Tryz.f32) rfl ?_ ⟨true,rfl,h,hC.below⟩ (.inl rfl)
  exact Zi rfl
def Ziv (a0:List ZIb) (a1:List ZIb) (K:Bool→Prop):Prop :=
 (if(a0.length:Int)≠(a1.length:Int) then K false else Yt (fun i10 (s10:Unit) nx10=>((0≤(i10:Int)∧(i10:Int) < (a1.length:Int))∧Zgo (a0.getD i10 Zyt) (a1.getD i10 Zyt) (fun r10=>(if¬ (r10=true) then K false else nx10 ())))) (fun (s10:Unit)=>K true) a0.length 0 ())
theorem Ztj (a0:List ZIb) (a1:List ZIb) {u0_0:Value} {u1_0:Value} {fp0:List Nat} {fp1:List Nat} {K:Bool→Prop} (h:Ziv a0 a1 K) (w0:World) (q0:ZIo.sl.rep a0 [u0_0] fp0 w0) (q1:ZIo.sl.rep a1 [u1_0] fp1 w0) :
  Calls ZId 51 #[u0_0,u1_0] w0 fun e w'=>∃ (r0:Bool),
   e=.returned (.bool r0)∧K r0∧Bel w0 w':=by
 unfold Ziv at h
 refine Z4 (args:=[u0_0,u1_0]) Tryz.func51 rfl 27 Tryz.ntmps51 (ZIc rfl) ?_
 have hC:=ZIt (X:=Nox) w0 [ZH7 ZIo.sl a0 [u0_0] fp0,ZH7 ZIo.sl a1 [u1_0] fp1] (by simp only [Zyz,ZAt,or_false,forall_eq_or_imp,forall_eq]; exact⟨q0,q1⟩)
 refine sr (Zc (v:=.bool false) rfl (dn (ZIa (sr (Zb (v:=u0_0) rfl ?_)))))
 obtain ⟨Ad3,c4,hv5⟩:=Z1 (hC.getP 0 rfl)
 refine Zx ZIw (tr rfl hv5) (Zb (v:=u1_0) rfl ?_)
 obtain ⟨Ad6,c7,hv8⟩:=Z1 (hC.getP 1 rfl)
 refine Zx ZIw (tr rfl hv8) (Xl rfl rfl (dn ?_))
 refine Zr rfl (fun hb9=>?_) (fun hb9=>?_)
 ·replace h:=ift h (ct hb9)
  refine sr (Zc (v:=.bool false) rfl (dn ?_))
  refine ZIi (Zo ?_)
  refine Zp (fn:=Tryz.f51) rfl ?_ ⟨false,rfl,h,hC.below⟩ (.inl rfl)
  exact Zi rfl
 ·replace h:=Zk h (cf hb9)
  refine ZIe (Zd (ZIa (sr (Zc (v:=.int .i64 0) rfl (dn (ZIj ?_))))))
  have hN10:a0.length≤9223372036854775807:=Xp (hC.getP 0 rfl)
  refine Y9 (S:=Unit) _ _ (fun i10 s10 e_ w_=>Z3 e_ [(0,u0_0),(1,u1_0),(5,.int .i64 (i10:Int))]∧Ctx Nox w0 w_ [] [ZH7 ZIo.sl a0 [u0_0] fp0,ZH7 ZIo.sl a1 [u1_0] fp1]) a0.length ?_ ?_ (s0:=()) ?_ h
  ·clear hC h
   rintro i10 s10 e_ w10 nx10 K10 hi10 ⟨hS_,hC⟩ h hK10
   rw [ue hS_]
   refine ZIa (sr (Zb (v:=.int .i64 (i10:Int)) rfl (Zb (v:=u0_0) rfl ?_)))
   obtain ⟨Ad12,c10,hv12⟩:=Z1 (hC.getP 0 rfl)
   refine Zx ZIw (tr rfl hv12) (Zt rfl rfl (dn (Yr rfl (decide_eq_true (by omega)) (ZIe (Zd (ZIa (ZIj (ZIa ?_))))))))
   refine Yg 8 Ye [0,0,3,7,0,0,48,112,255,511] [2,3,6,7] [0,1,4,5] (by kernel_rfl) (by kernel_rfl) (by kernel_rfl) (fun hM10 hM11 w11 hB_=>?_)
   replace hC:=hC.grow hB_
   refine aF 0 (u0_0) rfl rfl (hM11 0 rfl) (rfl) (fun _=>by exact Zf (v:=u0_0) rfl) (Za 10 1) (aF 1 (.int .i64 (i10:Int)) rfl rfl (hM11 1 rfl) (rfl) (fun _=>by exact Zf (v:=.int .i64 (i10:Int)) rfl) (Za 10 3) ?_)
   obtain ⟨Ad10,c11,hv10⟩:=Z0 (hC.getP 0 rfl) i10 hi10
   refine aL 2 (.pointer (some (Ad10.add (i10 * 1)))) rfl rfl (hM10 2 rfl) (rfl) (fun _ hB_=>by exact Yp (len:=a0.length) ZIw ag55.size (by exact tr rfl hv10) rfl (ZIv _) (ZJi.2 hi10)) (Za 10 7) ?_
   obtain ⟨cs_,hl10,hc10,hr10⟩:=Xs (hC.getP 0 rfl) hv10 i10 hi10
   obtain ⟨u10,rfl⟩:=ZI4.1 hl10
   clear hl10
   rw [Xt _ _ hi10] at hr10
   have hp10:=hr10
   replace hC:=hC.derive 0 rfl (ZH7 ZH9.ty.sl ((a0.getD i10 Zyt).terms) [u10] fp0) (fun _=>(Xi hp10)) (fun _ hb_=>hb_)
   refine aL 3 (.agg #[u10]) rfl rfl (hM10 3 rfl) (rfl) (fun _ hB_=>by exact X4 [u10] (Jz hB_ hc10) ag55 rfl rfl) (Za 10 15) (aF 4 (u1_0) rfl rfl (hM11 4 rfl) (rfl) (fun _=>by exact Zf (v:=u1_0) rfl) (Za 10 31) (aF 5 (.int .i64 (i10:Int)) rfl rfl (hM11 5 rfl) (rfl) (fun _=>by exact Zf (v:=.int .i64 (i10:Int)) rfl) (Za 10 63) ?_))
   obtain ⟨⟨h10,h11⟩,h⟩:=h
   obtain ⟨Ad11,c12,hv11⟩:=Z0 (hC.getP 2 rfl) i10 (show i10 < a1.length by omega)
   refine aL 6 (.pointer (some (Ad11.add (i10 * 1)))) rfl rfl (hM10 6 rfl) (rfl) (fun _ hB_=>by exact Yp (len:=a1.length) ZIw ag55.size (by exact tr rfl hv11) rfl h10 h11) (Za 10 127) ?_
   obtain ⟨cs_,hl11,hc11,hr11⟩:=Xs (hC.getP 2 rfl) hv11 i10 (show i10 < a1.length by omega)
   obtain ⟨u11,rfl⟩:=ZI4.1 hl11
   clear hl11
   rw [Xt _ _ (show i10 < a1.length by omega)] at hr11
   have hp11:=hr11
   replace hC:=hC.derive 2 rfl (ZH7 ZH9.ty.sl ((a1.getD i10 Zyt).terms) [u11] fp1) (fun _=>(Xi hp11)) (fun _ hb_=>hb_)
   refine aL 7 (.agg #[u11]) rfl rfl (hM10 7 rfl) (rfl) (fun _ hB_=>by exact X4 [u11] (Jz hB_ hc11) ag55 rfl rfl) (Za 10 255) (Zu 8 (by decide) (by decide) (by kernel_rfl) (by kernel_rfl) rfl ?_)
   refine Zg [.agg #[u10],.agg #[u11]] _ Tryz.func32 rfl rfl rfl (Zti (a0.getD i10 Zyt) (a1.getD i10 Zyt) h _ (Yq (hC.getP 1 rfl)) (Yq (hC.getP 0 rfl))) (fun ret10 w12 hR10=>?_)
   obtain ⟨r10,rfl,h,hB10⟩:=hR10
   refine⟨_,rfl,?_⟩
   replace hC:=hC.grow hB10
   refine Jf rfl (done (Zv (Zd ?_)))
   refine Zr rfl (fun hb10=>?_) (fun hb10=>?_)
   ·replace h:=ift h (Xz (Jp hb10))
    refine sr (Zc (v:=.bool false) rfl (dn ?_))
    refine ZIi (Yd (Zo (Zo (Yd (Zo ?_)))))
    refine Zp (fn:=Tryz.f51) rfl ?_ ⟨false,rfl,h,hC.below⟩ (.inl rfl)
    exact Zi rfl
   ·replace h:=Zk h (not_not_intro ((Jq hb10)))
    refine ZIe (Zs (Zd (Zh (Zb (v:=.int .i64 (i10:Int)) rfl (Zq rfl rfl (Zc (v:=.int .i64 (ZA7.wrap ((i10:Int)+1))) rfl (done ?_)))))))
    replace hC:=hC.sP [2,3] (Ps':=[ZH7 ZIo.sl a0 [u0_0] fp0,ZH7 ZIo.sl a1 [u1_0] fp1]) rfl
    exact hK10 () _ _ ⟨(sl ⟨rfl,rfl,(tr rfl (congrArg _ (Yh hi10 hN10))),trivial⟩),hC⟩ h
  ·clear hC h
   rintro s10 e_ w13 K10 ⟨hS_,hC⟩ h
   rw [ue hS_]
   refine ZIa (sr (Zb (v:=.int .i64 (a0.length:Int)) rfl (Zb (v:=u0_0) rfl ?_)))
   obtain ⟨Ad13,c13,hv13⟩:=Z1 (hC.getP 0 rfl)
   refine Zx ZIw (tr rfl hv13) (Zt rfl rfl (dn (Yi rfl (decide_eq_false (by omega)) ?_)))
   refine ZIr (Zj (Zj (Z9 ?_)))
   refine Zd (sr (Zc (v:=.bool true) rfl (dn (ZIi ?_))))
   refine Zp (fn:=Tryz.f51) rfl ?_ ⟨true,rfl,h,hC.below⟩ (.inl rfl)
   exact Zi rfl
  ·skip
   exact⟨(sl ⟨rfl,rfl,rfl,trivial⟩),hC⟩
end Go.Proofs.YtaagfepgbofmlaaGreat
set_option maxRecDepth 4000
set_option maxHeartbeats 4000000
namespace Go.Proofs.YtaagfepgbofmlaaGreat
open Go Go.RowKit Vc
def Zdv (a0:Bool) (a1:Int) (K:Int→Prop):Prop :=
 (if a0=true then K a1 else K 0)
theorem Zkx (a0:Bool) (a1:Int)  {K:Int→Prop} (h:Zdv a0 a1 K) (w0:World)  :
  Calls ZId 45 #[.bool a0,.int .i64 a1] w0 fun e w'=>∃ (r0:Int),
   e=.returned (.int .i64 r0)∧K r0∧Bel w0 w':=by
 unfold Zdv at h
 refine Z4 (args:=[.bool a0,.int .i64 a1]) Tryz.func45 rfl 7 Tryz.ntmps45 (ZIc rfl) ?_
 have hC:=ZIt (X:=Nox) w0 [] (by simp)
 refine sr (Zc (v:=.int .i64 0) rfl (dn (ZIa (sr (Zb (v:=.bool a0) rfl (dn ?_))))))
 refine Zr rfl (fun hb1=>?_) (fun hb1=>?_)
 ·replace h:=ift h (hb1)
  refine sr (Zb (v:=.int .i64 a1) rfl (Zc (v:=.int .i64 a1) rfl (dn ?_)))
  refine ZIi (Zo ?_)
  refine Zp (fn:=Tryz.f45) rfl ?_ ⟨a1,rfl,h,hC.below⟩ (.inl rfl)
  exact Zi rfl
 ·replace h:=Zk h (Xz hb1)
  refine ZIe (Zd (sr (Zc (v:=.int .i64 0) rfl (dn (ZIi ?_)))))
  refine Zp (fn:=Tryz.f45) rfl ?_ ⟨0,rfl,h,hC.below⟩ (.inl rfl)
  exact Zi rfl
end Go.Proofs.YtaagfepgbofmlaaGreat
namespace Go.Proofs.YtaagfepgbofmlaaGreat
open Go Vc
theorem Zky {a b c:Int} {K:Bool→Prop} (h:K (decide (b≤a∧a≤c))):Zdq a b c K:=by
  unfold Zdq
  split
  · rename_i h1; simpa [show b≤a from h1] using h
  · rename_i h1; simpa [show ¬ b≤a from h1] using h
theorem Ztk {ds:List Int} {K:Bool→Prop} (h:K (decide (OkDeg ds))):Zf1 ds K:=by
  unfold Zf1
  refine Xe (fun i _=>∀ j,j < i→1≤ds.getD j Zyt∧ds.getD j Zyt≤12) ds.length ?_ ?_ _ _ _ (by omega) (by intro j hj; omega)
  · intro i s next hi hI hn
    refine Zky ?_
    split
    · rename_i h1
      have:¬ OkDeg ds:=fun hd=>h1 (by simpa using hd.2 i hi)
      simpa [this] using h
    · rename_i h1
      refine hn _ fun j hj=>?_
      by_cases hji:j=i
      · subst hji; simpa using h1
      · exact hI j (by omega)
  · intro s hI
    have:(decide ((ds.length:Int)≤8))=decide (OkDeg ds):=by
      rw [decide_eq_decide]; unfold OkDeg
      constructor
      · intro h8; exact⟨by omega,hI⟩
      · intro h8; have:=h8.1; omega
    rw [this]; exact h
theorem Ztl {ds : List Int} {a : A8} {K : Bool → Prop} (ha : ∀ i, i < 8 → 0 ≤ a.get i) (hl : ds.length ≤ 8) (h : K (decide (OkMono ds a))) : Zf2 ds a K := by
  unfold Zf2
  refine Xe (fun i _=>∀ j,j < i→(j < ds.length→a.get j≤20∧(Zyy (ds.getD j Zyt) 2≠0→a.get j≤1))∧(ds.length≤j→a.get j=0)) 8 ?_ ?_ _ _ _ (by omega) (by intro j hj; omega)
  · intro i s next hi hI hn
    have no:¬ ((i < ds.length→a.get i≤20∧(Zyy (ds.getD i Zyt) 2≠0→a.get i≤1))∧(ds.length≤i→a.get i=0))→K false:=by
      intro hno
      have:¬ OkMono ds a:=fun hm=>hno (hm i hi)
      simpa [this] using h
    have yes:((i < ds.length→a.get i≤20∧(Zyy (ds.getD i Zyt) 2≠0→a.get i≤1))∧(ds.length≤i→a.get i=0))→next ():=by
      intro hy
      refine hn _ fun j hj=>?_
      by_cases hji:j=i
      · subst hji; exact hy
      · exact hI j (by omega)
    split
    · split
      · exact no (by intro q; have:=q.2 (by omega); contradiction)
      · rename_i q
        exact yes ⟨by omega,by intro _; simpa using q⟩
    · split
      · exact no (by intro q; have:=(q.1 (by omega)).1; omega)
      · refine⟨by omega,?_⟩
        split
        · split
          · exact no (by intro q; rename_i q1 q2; have:=(q.1 (by omega)).2 q1; omega)
          · exact yes ⟨fun _=>⟨by omega,fun _=>by omega⟩,by omega⟩
        · rename_i q1
          exact yes ⟨fun _=>⟨by omega,fun q2=>absurd q2 q1⟩,by omega⟩
  · intro s hI
    have:OkMono ds a:=fun i hi=>hI i hi
    simpa [this] using h
theorem Ztm {ds : List Int} {a : A8} {K : Bool → Prop} (hd : OkDeg ds) (ha : ∀ i, i < 8 → 0 ≤ a.get i) (h : K (decide (OkMono ds a))) : Zgc ds a K := by
  unfold Zgc
  refine Xe (fun i _=>∀ j,j < i→(j < ds.length→a.get j≤20∧(Zyy (ds.getD j Zyt) 2≠0→a.get j≤1))∧(ds.length≤j→a.get j=0)) 8 ?_ ?_ _ _ _ (by omega) (by intro j hj; omega)
  · intro i s next hi hI hn
    have hai:=ha i hi
    have no:¬ ((i < ds.length→a.get i≤20∧(Zyy (ds.getD i Zyt) 2≠0→a.get i≤1))∧(ds.length≤i→a.get i=0))→K false:=by
      intro hno
      have:¬ OkMono ds a:=fun hm=>hno (hm i hi)
      simpa [this] using h
    have yes:((i < ds.length→a.get i≤20∧(Zyy (ds.getD i Zyt) 2≠0→a.get i≤1))∧(ds.length≤i→a.get i=0))→next ():=by
      intro hy
      refine hn _ fun j hj=>?_
      by_cases hji:j=i
      · subst hji; exact hy
      · exact hI j (by omega)
    split
    · refine⟨by omega,?_⟩
      rename_i hl
      have hod:=hd.odd (show i < ds.length by omega)
      split
      · rename_i h1
        split
        · exact no (by intro q; have:=(q.1 (by omega)).2 (by omega); omega)
        · exact yes ⟨fun _=>⟨by omega,fun _=>by omega⟩,by omega⟩
      · rename_i h1
        split
        · exact no (by intro q; have:=(q.1 (by omega)).1; omega)
        · exact yes ⟨fun _=>⟨by omega,fun q=>by omega⟩,by omega⟩
    · split
      · exact no (by intro q; have:=q.2 (by omega); omega)
      · exact yes ⟨by omega,fun _=>by omega⟩
  · intro s hI
    have:OkMono ds a:=fun i hi=>hI i hi
    simpa [this] using h
theorem Ziw {a b c:Int} {K:Bool→Prop} (h:K (decide (b≤a∧a≤c))):Zdu a b c K:=by
  unfold Zdu
  split
  · rename_i h1; simpa [show b≤a from h1] using h
  · rename_i h1; simpa [show ¬ b≤a from h1] using h
theorem Ztn {ds : List Int} {K : Bool → Prop} (h : K (decide (OkDeg ds))) : Zgb ds K := by
  unfold Zgb
  split
  · rename_i h8
    unfold Zis Zir
    refine Xe (fun i _=>∀ j,j < i→1≤ds.getD j Zyt∧ds.getD j Zyt≤12) ds.length ?_ ?_ _ _ _ (by omega) (by intro j hj; omega)
    · intro i s next hi hI hn
      unfold Zga
      refine Ziw ?_
      dsimp only
      split
      · rename_i h1
        have:¬ OkDeg ds:=fun hd=>by have:=hd.2 i hi; simp only [Bool.not_eq_true',decide_eq_false_iff_not] at h1; exact h1 this
        simpa [this,show (i:Int)≥0 by omega] using h
      · rename_i h1
        refine hn _ fun j hj=>?_
        by_cases hji:j=i
        · subst hji; simp only [Bool.not_eq_true',decide_eq_false_iff_not,Decidable.not_not] at h1; exact h1
        · exact hI j (by omega)
    · intro s hI
      have:OkDeg ds:=⟨by omega,hI⟩
      simpa [this] using h
  · have:¬ OkDeg ds:=fun hd=>by have:=hd.1; omega
    simpa [this] using h
theorem Zix {a:A8} {K:A8→Prop} (ha:Za0 .u8 a) (h:K a):Zc7 a K:=by
  unfold Zc7
  refine Xe (fun i (s:A8)=>∀ j,j < 8→s.get j=if j < i then a.get j else 0) 8 ?_ ?_ _ _ _ (by omega) (by intro j hj; simp [A8.get_zero])
  · intro i s next hi hI hn
    have:=Zkb (Zkc ha hi)
    rw [i64_in _ (by omega)]
    refine hn _ fun j hj=>?_
    rw [ZK0 hi]
    by_cases hji:j=i
    · subst hji; simp
    · rw [if_neg hji,hI j hj]
      by_cases hj2:j < i
      · rw [if_pos hj2,if_pos (by omega)]
      · rw [if_neg hj2,if_neg (by omega)]
  · intro s hI
    have:s=a:=ZK1 fun i hi=>by rw [hI i hi,if_pos hi]
    rw [this]; exact h
theorem Zto {a:A8} {K:A8→Prop} (h:K a):Zgg a K:=by
  unfold Zgg
  refine Xe (fun i (s:A8)=>∀ j,j < 8→s.get j=if j < i then a.get j else 0) 8 ?_ ?_ _ _ _ (by omega) (by intro j hj; simp [A8.get_zero])
  · intro i s next hi hI hn
    refine hn _ fun j hj=>?_
    rw [ZK0 hi]
    by_cases hji:j=i
    · subst hji; simp
    · rw [if_neg hji,hI j hj]
      by_cases hj2:j < i
      · rw [if_pos hj2,if_pos (by omega)]
      · rw [if_neg hj2,if_neg (by omega)]
  · intro s hI
    have:s=a:=ZK1 fun i hi=>by rw [hI i hi,if_pos hi]
    rw [this]; exact h
theorem Ztp {ds:List Int} {K:List Int→Prop} (hl:ds.length≤1048576) (h:K ds):Zgh ds K:=by
  unfold Zgh
  refine⟨by omega,?_⟩
  refine Xe (fun i (s:List Int)=>s.length=ds.length∧∀ j,j < i→s.getD j Zyt=ds.getD j Zyt) ds.length ?_ ?_ _ _ _ (by omega) (by simp)
  · intro i s next hi hI hn
    refine⟨by omega,hn _ ⟨by simpa using hI.1,fun j hj=>?_⟩⟩
    by_cases hji:j=i
    · subst hji; simp [Zzm,hI.1,hi]
    · rw [← hI.2 j (by omega)]; simp [Zzm,List.getElem?_set_ne (fun e=>hji e.symm)]
  · intro s hI
    have:s=ds:=by
      apply List.ext_getElem hI.1
      intro i h1 h2
      have:=hI.2 i h2
      simpa [Zzm,h1,h2] using this
    rw [this]; exact h
theorem Ztq {a b:A8} {K:Bool→Prop} (h:K (decide (a=b))):Zgi a b K:=by
  unfold Zgi
  refine Xe (fun i _=>∀ j,j < i→a.get j=b.get j) 8 ?_ ?_ _ _ _ (by omega) (by intro j hj; omega)
  · intro i s next hi hI hn
    split
    · rename_i h1
      have:¬ a=b:=fun e=>h1 (by rw [e])
      simpa [this] using h
    · rename_i h1
      refine hn _ fun j hj=>?_
      by_cases hji:j=i
      · subst hji; simpa using h1
      · exact hI j (by omega)
  · intro s hI
    have:a=b:=ZK1 hI
    simpa [this] using h
theorem Ztr {a b : List Int} {K : Bool → Prop} (h : K (decide (a = b))) : Zgj a b K := by
  unfold Zgj
  split
  · rename_i h1
    have:¬ a=b:=fun e=>h1 (by rw [e])
    simpa [this] using h
  · rename_i h1
    have hl:a.length=b.length:=by omega
    refine Xe (fun i _=>∀ j,j < i→a.getD j Zyt=b.getD j Zyt) a.length ?_ ?_ _ _ _ (by omega) (by intro j hj; omega)
    · intro i s next hi hI hn
      refine⟨by omega,?_⟩
      split
      · rename_i h1
        have:¬ a=b:=fun e=>h1 (by rw [e])
        simpa [this] using h
      · rename_i h1
        refine hn _ fun j hj=>?_
        by_cases hji:j=i
        · subst hji; simpa using h1
        · exact hI j (by omega)
    · intro s hI
      have:a=b:=by
        apply List.ext_getElem hl
        intro i h1 h2
        have:=hI i h1
        simpa [Zzm,h1,h2] using this
      simpa [this] using h
end Go.Proofs.YtaagfepgbofmlaaGreat
namespace Go.Proofs.YtaagfepgbofmlaaGreat
open Go Vc
theorem Ziy {ds:List Int} {a:A8} (h:X2 ds a) (hl:ds.length≤8) {i:Nat} (hi:i < ds.length) (ho:Zyy (ds.getD i Zyt) 2≠0):a.get i≤1:=((h i (by omega)).1 hi).2 ho
theorem Zts {ds:List Int} {a b s:A8} (ha:X2 ds a) (hb:X2 ds b) (hl:ds.length≤8) (h:∀ j,j < 8→s.get j=if j < ds.length then a.get j+b.get j else 0):s=a.add b:=by
  refine ZK1 fun i hi=>?_
  rw [h i hi,A8.get_add]
  split
  · rfl
  · rw [(ha i hi).2 (by omega),(hb i hi).2 (by omega)]; rfl
theorem Ztt {ds : List Int} {a b : A8} {K : A8 → Int → Prop} (hd : OkDeg ds) (ha : X2 ds a) (hb : X2 ds b) (pa : ∀ i, i < 8 → 0 ≤ a.get i) (pb : ∀ i, i < 8 → 0 ≤ b.get i)
    (h:K (Y1 ds a b).1 (Y1 ds a b).2):Zf3 ds a b K:=by
  have h8:=hd.1
  unfold Zf3
  refine Xe (fun i (s:A8×Int)=>(∀ j,j < i→j < ds.length→Zyy (ds.getD j Zyt) 2≠0→¬ (0 < a.get j∧0 < b.get j))∧(∀ j,j < 8→s.1.get j=if j < i then a.get j+b.get j else 0)∧(s.2=1∨s.2=-1)∧s.2 * sg (Zap ds a b (ds.length - i) i)=sg (Zap ds a b ds.length 0)) ds.length ?_ ?_ _ _ _ (by omega) ⟨by intro j hj; omega,by intro j hj; simp [A8.get_zero],by simp,by simp⟩
  · rintro i ⟨s1,s2⟩ next hi ⟨h1,h2,h3,h4⟩ hn
    have hi8:i < 8:=by omega
    have pai:=pa i hi8
    have pbi:=pb i hi8
    have a20:=((ha i hi8).1 hi).1
    have b20:=((hb i hi8).1 hi).1
    have hr:ds.length - i=(ds.length - (i+1))+1:=by omega
    rw [hr] at h4
    simp only [Zap] at h4
    dsimp only at h1 h2 h3 h4 ⊢
    have hw:IntKind.u8.wrap (a.get i+b.get i)=a.get i+b.get i:=Zif _ (by omega)
    rw [hw]
    have hset:∀ j,j < 8→(s1.set i (a.get i+b.get i)).get j=if j < i+1 then a.get j+b.get j else 0:=by
      intro j hj
      rw [ZK0 hi8]
      by_cases hji:j=i
      · subst hji; simp
      · rw [if_neg hji,h2 j hj]
        by_cases hj2:j < i
        · rw [if_pos hj2,if_pos (by omega)]
        · rw [if_neg hj2,if_neg (by omega)]
    refine⟨by omega,by omega,by omega,?_⟩
    split
    · rename_i he
      rw [if_pos (.inl he),ZAd] at h4
      refine hn _ ⟨fun j hj hjl ho=>?_,hset,h3,h4⟩
      by_cases hji:j=i
      · subst hji; exact absurd he ho
      · exact h1 j (by omega) hjl ho
    · rename_i he
      have a1:=Ziy ha h8 hi he
      have b1:=Ziy hb h8 hi he
      refine⟨by omega,?_⟩
      rw [ZK0 hi8,if_pos rfl]
      split
      · rename_i hc
        have:Clash ds a b:=⟨i,hi,he,by omega,by omega⟩
        simpa [Y1,this] using h
      · rename_i hc
        have hnc:∀ j,j < i+1→j < ds.length→Zyy (ds.getD j Zyt) 2≠0→¬ (0 < a.get j∧0 < b.get j):=by
          intro j hj hjl ho
          by_cases hji:j=i
          · subst hji; omega
          · exact h1 j (by omega) hjl ho
        rw [i64_in _ (by omega)]
        refine X9 (fun (t:Int×Int)=>((i:Int)+1≤t.1∧t.1≤ds.length)∧(t.2=1∨t.2=-1)∧(b.get i=1→t.2 * sg (Zbb ds a (ds.length - t.1.toNat) t.1.toNat)=s2 * sg (Zbb ds a (ds.length - (i+1)) (i+1)))∧(b.get i≠1→t.2=s2)) (fun t=>ds.length - t.1.toNat) ?_ ⟨by omega,h3,fun _=>by rw [show ((i:Int)+1).toNat=i+1 by omega],fun _=>rfl⟩
        rintro ⟨j,c⟩ next' ⟨⟨q1,q2⟩,q3,q4,q5⟩ hn'
        dsimp only at q1 q2 q3 q4 q5 ⊢
        split
        · rename_i hj
          refine⟨by omega,?_⟩
          split
          · rename_i hb1
            have hjn:j.toNat < ds.length:=by omega
            refine⟨by omega,?_⟩
            have q4:=q4 hb1
            have hr2:ds.length - j.toNat=(ds.length - (j.toNat+1))+1:=by omega
            rw [hr2] at q4
            simp only [Zbb] at q4
            have hj1:(j+1).toNat=j.toNat+1:=by omega
            rw [i64_in (j+1) (by omega)]
            have pj:=pa j.toNat (by omega)
            split
            · rename_i ho
              have aj:=Ziy ha h8 hjn ho
              have od:=hd.odd hjn
              have od1:Zyy (ds.getD j.toNat Zyt) 2=1:=by omega
              rw [od1,Int.one_mul] at q4
              refine⟨by omega,?_⟩
              split
              · rename_i haj
                rw [haj,Int.add_comm,Zre] at q4
                rw [i64_in (0 - c) (by omega)]
                refine hn' _ ⟨⟨by dsimp only; omega,by dsimp only; omega⟩,by dsimp only; omega,fun _=>?_,fun hne=>absurd hb1 hne⟩ (by dsimp only; omega)
                dsimp only
                rw [hj1,Int.zero_sub,Int.neg_mul,← Int.mul_neg]; exact q4
              · rename_i haj
                rw [show a.get j.toNat=0 by omega,ZAd] at q4
                refine hn' _ ⟨⟨by dsimp only; omega,by dsimp only; omega⟩,q3,fun _=>?_,fun hne=>absurd hb1 hne⟩ (by dsimp only; omega)
                dsimp only
                rw [hj1]; exact q4
            · rename_i ho
              rw [show Zyy (ds.getD j.toNat Zyt) 2=0 by simpa using ho,Int.zero_mul,ZAd] at q4
              refine hn' _ ⟨⟨by dsimp only; omega,by dsimp only; omega⟩,q3,fun _=>?_,fun hne=>absurd hb1 hne⟩ (by dsimp only; omega)
              dsimp only
              rw [hj1]; exact q4
          · rename_i hb1
            refine hn _ ⟨hnc,hset,q3,?_⟩
            rw [if_pos (.inr (by omega)),ZAd] at h4
            dsimp only
            rw [q5 hb1]; exact h4
        · rename_i hj
          refine hn _ ⟨hnc,hset,q3,?_⟩
          dsimp only
          by_cases hb1:b.get i=1
          · have q4:=q4 hb1
            rw [show ds.length - j.toNat=0 by omega] at q4
            simp only [Zbb] at q4
            rw [show sg 0=1 from rfl,Int.mul_one] at q4
            rw [if_neg (by omega),Zig,← Int.mul_assoc] at h4
            rw [q4]; exact h4
          · rw [if_pos (.inr (by omega)),ZAd] at h4
            rw [q5 hb1]; exact h4
  · rintro ⟨s1,s2⟩ ⟨h1,h2,h3,h4⟩
    have hnc:¬ Clash ds a b:=fun ⟨i,hi,ho,hp⟩=>h1 i hi hi ho hp
    rw [Nat.sub_self] at h4
    simp only [Zap] at h4
    rw [show sg 0=1 from rfl,Int.mul_one] at h4
    have hs:s1=a.add b:=Zts ha hb h8 h2
    dsimp only at h4 ⊢
    rw [hs,h4]
    simpa [Y1,hnc] using h
theorem Ztu {ds : List Int} {a b : A8} {K : A8 → Int → Prop} (hd : OkDeg ds) (ha : X2 ds a) (hb : X2 ds b) (pa : ∀ i, i < 8 → 0 ≤ a.get i) (pb : ∀ i, i < 8 → 0 ≤ b.get i)
    (h:K (Y1 ds a b).1 (Y1 ds a b).2):Zf9 a ds b K:=by
  have h8:=hd.1
  have bnd:∀ (x:A8),X2 ds x→∀ i,i < 8→x.get i≤100:=by
    intro x hx i hi
    by_cases hl:i < ds.length
    · exact((hx i hi).1 hl).1
    · rw [(hx i hi).2 (by omega)]; omega
  unfold Zf9
  refine Xe (fun i (c:Int)=>(∀ j,j < i→j < ds.length→Zyy (ds.getD j Zyt) 2≠0→¬ (0 < a.get j∧0 < b.get j))∧(0≤c∧c≤8 * i)∧c+Zap ds a b (ds.length - i) i=Zap ds a b ds.length 0) ds.length ?_ ?_ _ _ _ (by omega) ⟨by intro j hj; omega,by omega,by simp⟩
  · rintro i c next hi ⟨h1,h2,h4⟩ hn
    have hi8:i < 8:=by omega
    have pai:=pa i hi8
    have pbi:=pb i hi8
    have hr:ds.length - i=(ds.length - (i+1))+1:=by omega
    rw [hr] at h4
    simp only [Zap] at h4
    split
    · rename_i he
      rw [if_pos (.inl he),ZAd] at h4
      refine hn _ ⟨fun j hj hjl ho=>?_,by omega,h4⟩
      by_cases hji:j=i
      · subst hji; exact absurd he ho
      · exact h1 j (by omega) hjl ho
    · rename_i he
      refine⟨by omega,?_⟩
      have hnc:¬ (0 < a.get i∧0 < b.get i)→∀ j,j < i+1→j < ds.length→Zyy (ds.getD j Zyt) 2≠0→¬ (0 < a.get j∧0 < b.get j):=by
        intro hno j hj hjl ho
        by_cases hji:j=i
        · subst hji; exact hno
        · exact h1 j (by omega) hjl ho
      split
      · rename_i hap
        refine⟨by omega,?_⟩
        split
        · rename_i hbp
          have:Clash ds a b:=⟨i,hi,he,by omega,by omega⟩
          simpa [Y1,this] using h
        · rename_i hbp
          rw [if_pos (.inr (by omega)),ZAd] at h4
          exact⟨by omega,hn _ ⟨hnc (by omega),by omega,h4⟩⟩
      · rename_i hap
        refine⟨by omega,?_⟩
        split
        · rename_i hbp
          have he0:¬ (Zyy (ds.getD i Zyt) 2=0∨b.get i≤0):=by rintro (q | q); exact he q; omega
          rw [if_neg he0] at h4
          rw [i64_in _ (by omega)]
          refine X9 (fun (t:Int×Int)=>((i:Int)+1≤t.1∧t.1≤ds.length)∧(0≤t.2∧t.2≤8 * i+(t.1 - (i+1)))∧t.2+Zbb ds a (ds.length - t.1.toNat) t.1.toNat=c+Zbb ds a (ds.length - (i+1)) (i+1)) (fun t=>ds.length - t.1.toNat) ?_ ⟨by omega,by omega,by rw [show ((i:Int)+1).toNat=i+1 by omega]⟩
          rintro ⟨j,d⟩ next' ⟨⟨q1,q2⟩,q3,q4⟩ hn'
          dsimp only at q1 q2 q3 q4 ⊢
          split
          · rename_i hj
            have hjn:j.toNat < ds.length:=by omega
            refine⟨by omega,by omega,?_⟩
            have hr2:ds.length - j.toNat=(ds.length - (j.toNat+1))+1:=by omega
            rw [hr2] at q4
            simp only [Zbb] at q4
            have hj1:(j+1).toNat=j.toNat+1:=by omega
            have pj:=pa j.toNat (by omega)
            have hm:0≤Zyy (ds.getD j.toNat Zyt) 2 * a.get j.toNat∧Zyy (ds.getD j.toNat Zyt) 2 * a.get j.toNat≤1:=by
              rcases hd.odd hjn with od | od
              · rw [od]; omega
              · have:=Ziy ha h8 hjn (by omega)
                rw [od]; omega
            rw [i64_in (Zyy (ds.getD j.toNat Zyt) 2 * a.get j.toNat) (by omega),i64_in (d+Zyy (ds.getD j.toNat Zyt) 2 * a.get j.toNat) (by omega),i64_in (j+1) (by omega)]
            refine hn' _ ⟨⟨by dsimp only; omega,by dsimp only; omega⟩,by dsimp only; omega,?_⟩ (by dsimp only; omega)
            dsimp only
            rw [hj1]; omega
          · rename_i hj
            rw [show ds.length - j.toNat=0 by omega] at q4
            simp only [Zbb] at q4
            refine hn _ ⟨hnc (by omega),by omega,by omega⟩
        · rename_i hbp
          rw [if_pos (.inr (by omega)),ZAd] at h4
          exact hn _ ⟨hnc (by omega),by omega,h4⟩
  · rintro c ⟨h1,h2,h4⟩
    have hnc:¬ Clash ds a b:=fun ⟨i,hi,ho,hp⟩=>h1 i hi hi ho hp
    rw [Nat.sub_self] at h4
    simp only [Zap,Int.add_zero] at h4
    refine Xe (fun i (s:A8)=>∀ j,j < 8→s.get j=if j < i then a.get j+b.get j else a.get j) 8 ?_ ?_ _ _ _ (by omega) (by intro j hj; simp)
    · intro i s next hi hI hn
      have e1:=hI i hi
      rw [if_neg (by omega)] at e1
      have:=bnd a ha i hi
      have:=bnd b hb i hi
      have:=pa i hi
      have:=pb i hi
      rw [e1,i64_in _ (by omega)]
      refine hn _ fun j hj=>?_
      rw [ZK0 hi]
      by_cases hji:j=i
      · subst hji; simp
      · rw [if_neg hji,hI j hj]
        by_cases hj2:j < i
        · rw [if_pos hj2,if_pos (by omega)]
        · rw [if_neg hj2,if_neg (by omega)]
    · intro s hI
      have hs:s=a.add b:=ZK1 fun i hi=>by rw [hI i hi,if_pos hi,A8.get_add]
      have hj:Y1 ds a b=(a.add b,sg c):=by simp [Y1,hnc,h4]
      rw [hj] at h
      rw [hs]
      split
      · rename_i ho
        have:sg c=-1:=by unfold sg; rw [ZAy (by omega)] at ho; rw [if_neg (by omega)]
        rw [this] at h; exact h
      · rename_i ho
        have:sg c=1:=by unfold sg; rw [ZAy (by omega)] at ho; rw [if_pos (by omega)]
        rw [this] at h; exact h
end Go.Proofs.YtaagfepgbofmlaaGreat
namespace Go.Proofs.YtaagfepgbofmlaaGreat
open Go Vc
end Go.Proofs.YtaagfepgbofmlaaGreat
namespace Vc
open Go Go.RowKit Go.ChangeShapes Go.WideShapes Go.ChangeAt
theorem Zgp {α:Type} {t:Ty α} {x:α} {cs:List Value} {fp:List Nat} {w:World} (h:t.rep x cs fp w):t.all [x] cs fp w:=by
  have hl:=t.len h
  refine⟨t.low h,by rw [hl]; simp,t.one h,fun i hi=>?_⟩
  obtain rfl:i=0:=by simpa using hi
  rw [Nat.zero_mul,List.drop_zero,List.take_of_length_le (by omega)]
  exact h
section
variable {H:Type} {enc:TypeId×Value→H} {P:Program} {W:World}
end
end Vc
