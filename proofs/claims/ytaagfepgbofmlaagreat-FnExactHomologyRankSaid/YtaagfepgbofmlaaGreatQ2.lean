import Derived.Test.YtaagfepgbofmlaaGreatQ1
set_option linter.unusedSectionVars false
set_option linter.unusedSimpArgs false
set_option linter.unusedVariables false
open Go renaming wp_seq→ZIa,wp_skip→ZIe,wp_ret→ZIi,wp_block→ZIj,wp_exit→ZIr
open Go.Instr renaming build→ZI2
open Go.IntKind renaming i64→ZA7,u8→ZIk
open Go.Proofs.Tryz renaming prog→ZId,underlying55→ZIf,underlying53→ZIh,underlying136→ZIn,underlying162→ZIp,underlying32→ZIq,underlying22→ZIs,underlying30→ZIw,func125→ZIx,func123→ZIy,func95→ZI0,f92→ZI1,underlying5→ZI6,f173→ZI7,func174→ZI8,func124→ZI9,f120→ZJc,func121→ZJd,underlying2→ZJe,underlying73→ZJf,underlying3→ZJg,func196→ZJj
open Go.Value renaming ownBlock→Zzn
open Inhabited renaming default→Zyt
open Int renaming tmod→Zyy,natCast_nonneg→ZIv,ofNat_lt→ZJi
open List renaming toArray→ZH8,mem_cons→Zyz,not_mem_nil→ZAt,length_eq_one_iff→ZI4
open Nat renaming le_of_ble_eq_true→ZIc,le_trans→Zy6
open Option renaming toList→ZI5
open Vc renaming ETerm→ZH9,Form→ZIb,TForm→ZIo
open Vc.A8 renaming enc→ZH6,zero→ZIg,enc_get→ZIu,enc_set→ZI3
open Vc.Ctx renaming start→ZIt
open Vc.Enc renaming encs_append→ZIz,encs_one'→ZJa
open Vc.Term renaming enc→ZIl
open Vc.Tr renaming item→ZIm
open Vc.Ty renaming item→ZH7
set_option maxRecDepth 4000
set_option maxHeartbeats 4000000
namespace Go.Proofs.YtaagfepgbofmlaaGreat
open Go Go.RowKit Vc
theorem sc2:ScaT ZId 2:=⟨⟨_,ZJe,rfl⟩,by kernel_rfl⟩
theorem sc5:ScaT ZId 5:=⟨⟨_,ZI6,rfl⟩,by kernel_rfl⟩
theorem z55:Je ZId 55 (.agg #[.slice none 0 0]):=by unfold Je; kernel_rfl
theorem Zdp  (w:World):(ZI2 55 #[]).run ZId w=.ok (.agg #[.slice none 0 0]) w:=by kernel_rfl
theorem ag55:AggT ZId 55 1:=⟨⟨_,ZIf,rfl⟩,by kernel_rfl⟩
theorem Ye:ZId.follows .mixedOrders=true:=by kernel_rfl
theorem ag136:AggT ZId 136 8:=⟨⟨_,ZIn,rfl⟩,by kernel_rfl⟩
theorem Zim (x0:A8) (x1:Int) (w:World):(ZI2 162 #[(0,.agg (ZH8 (ZH6 .u8 x0))),(1,.int .i64 x1)]).run ZId w=.ok (.agg (ZH8 (ZIl (⟨x0,x1⟩:Term)))) w:=by kernel_rfl
theorem Zfy (x0:Term) (w:World):(Instr.buildSlice 53 1 #[(0,.agg (ZH8 (ZIl x0)))]).run ZId w=.ok (.slice (some ⟨w.heap.size,0,none⟩) 1 1) (w.alloc (.cells (ZH8 (ZH9.encs [x0])) 162)):=by kernel_rfl
theorem Zso (x0:Value) (hx0:Zc2 x0) (w:World):(ZI2 55 #[(0,x0)]).run ZId w=.ok (.agg #[x0]) w:=by obtain ⟨_,_,_,rfl⟩:=hx0; kernel_rfl
theorem sc53:ScaT ZId 53:=⟨⟨_,ZIh,rfl⟩,by kernel_rfl⟩
theorem ag162:AggT ZId 162 9:=⟨⟨_,ZIp,rfl⟩,by kernel_rfl⟩
theorem Zfz:Zab ZId 162 (.agg (ZH8 (ZIl (⟨ZIg,0⟩:Term)))) 9 16:=by unfold Zab; kernel_rfl
theorem Za6:Je ZId 136 (.agg (ZH8 (ZH6 .u8 ZIg))):=by unfold Je; kernel_rfl
theorem Zin  (w:World):(ZI2 136 #[]).run ZId w=.ok (.agg (ZH8 (ZH6 .u8 ZIg))) w:=by kernel_rfl
theorem Zen:Je ZId 162 (.agg (ZH8 (ZIl (⟨ZIg,0⟩:Term)))):=by unfold Je; kernel_rfl
theorem sc22:ScaT ZId 22:=⟨⟨_,ZIs,rfl⟩,by kernel_rfl⟩
theorem sc30:ScaT ZId 30:=⟨⟨_,ZIw,rfl⟩,by kernel_rfl⟩
theorem ag32:AggT ZId 32 2:=⟨⟨_,ZIq,rfl⟩,by kernel_rfl⟩
theorem z73:Je ZId 73 (.agg (ZH8 (ZH6 .i64 ZIg))):=by unfold Je; kernel_rfl
theorem Zf0  (w:World):(ZI2 73 #[]).run ZId w=.ok (.agg (ZH8 (ZH6 .i64 ZIg))) w:=by kernel_rfl
theorem ag73:AggT ZId 73 8:=⟨⟨_,ZJf,rfl⟩,by kernel_rfl⟩
theorem sc3:ScaT ZId 3:=⟨⟨_,ZJg,rfl⟩,by kernel_rfl⟩
theorem Y0:KeyT ZId 73 (kvA .i64):=Zm3 ZJf ZJg sc3
theorem z2:Je ZId 2 (.int .i64 0):=by unfold Je; kernel_rfl
theorem Zsp (x0:A8) (w:World):(Instr.buildSlice 122 1 #[(0,.agg (ZH8 (ZH6 .i64 x0)))]).run ZId w=.ok (.slice (some ⟨w.heap.size,0,none⟩) 1 1) (w.alloc (.cells (ZH8 ((EA .i64).encs [x0])) 73)):=by kernel_rfl
theorem Zsq:Zab ZId 73 (.agg (ZH8 (ZH6 .i64 ZIg))) 8 64:=by unfold Zab; kernel_rfl
theorem Zkr:Je ZId 211 (.agg (ZH8 (List.replicate 8 (Value.map none)))):=by unfold Je; kernel_rfl
theorem Zsr (w:World):(ZI2 211 #[]).run ZId w=.ok (.agg (ZH8 (List.replicate 8 (Value.map none)))) w:=by kernel_rfl
theorem ag211:AggT ZId 211 8:=⟨⟨_,Tryz.underlying211,rfl⟩,by kernel_rfl⟩
theorem sc115:ScaT ZId 115:=⟨⟨_,Tryz.underlying115,rfl⟩,by kernel_rfl⟩
theorem el2:Zab ZId 2 (.int .i64 0) 1 8:=by unfold Zab; kernel_rfl
theorem ag135:AggT ZId 135 8:=⟨⟨_,Tryz.underlying135,rfl⟩,by kernel_rfl⟩
theorem ag170:AggT ZId 170 9:=⟨⟨_,Tryz.underlying170,rfl⟩,by kernel_rfl⟩
theorem sc48:ScaT ZId 48:=⟨⟨_,Tryz.underlying48,rfl⟩,by kernel_rfl⟩
def Zdq (a0:Int) (a1:Int) (a2:Int) (K:Bool→Prop):Prop :=
 (if a0≥a1 then K (decide (a0≤a2)) else K false)
theorem Zks (a0:Int) (a1:Int) (a2:Int)  {K:Bool→Prop} (h:Zdq a0 a1 a2 K) (w0:World)  :
  Calls ZId 59 #[.int .i64 a0,.int .i64 a1,.int .i64 a2] w0 fun e w'=>∃ (r0:Bool),
   e=.returned (.bool r0)∧K r0∧Bel w0 w':=by
 unfold Zdq at h
 refine Z4 (args:=[.int .i64 a0,.int .i64 a1,.int .i64 a2]) Tryz.func59 rfl 15 Tryz.ntmps59 (ZIc rfl) ?_
 have hC:=ZIt (X:=Nox) w0 [] (by simp)
 refine sr (Zc (v:=.bool false) rfl (dn (sr (Zb (v:=.int .i64 a0) rfl (Zb (v:=.int .i64 a1) rfl (Zat rfl rfl (Zb (v:=.bool (decide (a0≥a1))) rfl ?_)))))))
 refine Xh (decide (a0≥a1)) (fun hb1=>?_) (fun hb1=>?_)
 ·replace h:=ift h (ct hb1)
  refine Zl 3 10 rfl rfl hb1 (Zb (v:=.int .i64 a0) rfl (Zl 3 10 rfl rfl hb1 (Zb (v:=.int .i64 a2) rfl (Zl 3 10 rfl rfl hb1 (Zb4 rfl rfl (Yc (v:=.bool (decide (a0≤a2))) (b:=true) (tr rfl (congrArg _ hb1)) rfl (Zc (v:=.bool (decide (a0≤a2))) rfl (dn (ZIi ?_)))))))))
  refine Zp (fn:=Tryz.f59) rfl ?_ ⟨decide (a0≤a2),rfl,h,hC.below⟩ (.inl rfl)
  exact Zi rfl
 ·replace h:=Zk h (cf hb1)
  refine Zn (b:=false) 3 10 rfl (tr rfl (congrArg _ hb1)) (by decide) (Zn (b:=false) 3 10 rfl (tr rfl (congrArg _ hb1)) (by decide) (Zn (b:=false) 3 10 rfl (tr rfl (congrArg _ hb1)) (by decide) (Yc (v:=.bool false) (b:=false) (tr rfl (congrArg _ hb1)) rfl (Zc (v:=.bool false) rfl (dn (ZIi ?_))))))
  refine Zp (fn:=Tryz.f59) rfl ?_ ⟨false,rfl,h,hC.below⟩ (.inl rfl)
  exact Zi rfl
def Zf1 (a0:List Int) (K:Bool→Prop):Prop :=
 Yt (fun i10 (s10:Unit) nx10=>Zdq (a0.getD i10 Zyt) 1 12 (fun r10=>(if¬ (r10=true) then K false else nx10 ()))) (fun (s10:Unit)=>K (decide ((a0.length:Int)≤8))) a0.length 0 ()
theorem Zss (a0:List Int) {u0_0:Value} {fp0:List Nat} {K:Bool→Prop} (h:Zf1 a0 K) (w0:World) (q0:((EI .i64).ty.sl).rep a0 [u0_0] fp0 w0) :
  Calls ZId 149 #[u0_0] w0 fun e w'=>∃ (r0:Bool),
   e=.returned (.bool r0)∧K r0∧Bel w0 w':=by
 unfold Zf1 at h
 refine Z4 (args:=[u0_0]) Tryz.func149 rfl 19 Tryz.ntmps149 (ZIc rfl) ?_
 have hC:=ZIt (X:=Nox) w0 [ZH7 ((EI .i64).ty.sl) a0 [u0_0] fp0] (by simp only [Zyz,ZAt,or_false,forall_eq_or_imp,forall_eq]; exact q0)
 refine sr (Zc (v:=.bool false) rfl (dn (ZIa (sr (Zc (v:=.int .i64 0) rfl (dn (ZIj ?_)))))))
 have hN10:a0.length≤9223372036854775807:=Xp (hC.getP 0 rfl)
 refine Y9 (S:=Unit) _ _ (fun i10 s10 e_ w_=>Z3 e_ [(0,u0_0),(3,.int .i64 (i10:Int))]∧Ctx Nox w0 w_ [] [ZH7 ((EI .i64).ty.sl) a0 [u0_0] fp0]) a0.length ?_ ?_ (s0:=()) ?_ h
 ·clear hC h
  rintro i10 s10 e_ w10 nx10 K10 hi10 ⟨hS_,hC⟩ h hK10
  rw [ue hS_]
  refine ZIa (sr (Zb (v:=.int .i64 (i10:Int)) rfl (Zb (v:=u0_0) rfl ?_)))
  obtain ⟨Ad10,c10,hv11⟩:=Z1 (hC.getP 0 rfl)
  refine Zx ZIs (tr rfl hv11) (Zt rfl rfl (dn (Yr rfl (decide_eq_true (by omega)) (ZIe (Zd (ZIa (ZIj (sr (Zb (v:=u0_0) rfl (Zb (v:=.int .i64 (i10:Int)) rfl ?_))))))))))
  obtain ⟨Ad11,c11,hv10⟩:=Z0 (hC.getP 0 rfl) i10 hi10
  refine Xb (len:=a0.length) ZIs sc2.size (tr rfl hv10) rfl (ZIv _) (ZJi.2 hi10) (Xm (.int .i64 (a0.getD i10 Zyt)) (Yf (hC.getP 0 rfl) hv10 i10 hi10) sc2 rfl ?_)
  refine Zg [.int .i64 (a0.getD i10 Zyt),.int .i64 1,.int .i64 12] _ Tryz.func59 rfl rfl rfl (Zks (a0.getD i10 Zyt) 1 12 h _) (fun ret10 w11 hR10=>?_)
  obtain ⟨r10,rfl,h,hB10⟩:=hR10
  refine⟨_,rfl,?_⟩
  replace hC:=hC.grow hB10
  refine Jf rfl (dn ?_)
  refine Zr rfl (fun hb10=>?_) (fun hb10=>?_)
  ·replace h:=ift h (Xz (Jp hb10))
   refine sr (Zc (v:=.bool false) rfl (dn ?_))
   refine ZIi (Yd (Zo (Zo (Yd (Zo ?_)))))
   refine Zp (fn:=Tryz.f149) rfl ?_ ⟨false,rfl,h,hC.below⟩ (.inl rfl)
   exact Zi rfl
  ·replace h:=Zk h (not_not_intro ((Jq hb10)))
   refine ZIe (Zs (Zd (Zh (Zb (v:=.int .i64 (i10:Int)) rfl (Zq rfl rfl (Zc (v:=.int .i64 (ZA7.wrap ((i10:Int)+1))) rfl (done ?_)))))))
   exact hK10 () _ _ ⟨(sl ⟨rfl,(tr rfl (congrArg _ (Yh hi10 hN10))),trivial⟩),hC⟩ h
 ·clear hC h
  rintro s10 e_ w12 K10 ⟨hS_,hC⟩ h
  rw [ue hS_]
  refine ZIa (sr (Zb (v:=.int .i64 (a0.length:Int)) rfl (Zb (v:=u0_0) rfl ?_)))
  obtain ⟨Ad12,c12,hv12⟩:=Z1 (hC.getP 0 rfl)
  refine Zx ZIs (tr rfl hv12) (Zt rfl rfl (dn (Yi rfl (decide_eq_false (by omega)) ?_)))
  refine ZIr (Zj (Zj (Z9 ?_)))
  refine Zd (sr (Zb (v:=u0_0) rfl ?_))
  obtain ⟨Ad13,c13,hv13⟩:=Z1 (hC.getP 0 rfl)
  refine Zx ZIs (tr rfl hv13) (Zb4 rfl rfl (Zc (v:=.bool (decide ((a0.length:Int)≤8))) rfl (dn (ZIi ?_))))
  refine Zp (fn:=Tryz.f149) rfl ?_ ⟨decide ((a0.length:Int)≤8),rfl,h,hC.below⟩ (.inl rfl)
  exact Zi rfl
 ·skip
  exact⟨(sl ⟨rfl,rfl,trivial⟩),hC⟩
def Zf2 (a0:List Int) (a1:A8) (K:Bool→Prop):Prop :=
 Yt (fun i10 (s10:Unit) nx10=>(if(i10:Int)≥(a0.length:Int) then(if a1.get i10≠0 then K false else nx10 ()) else(if a1.get i10 > 20 then K false else((0≤(i10:Int)∧(i10:Int) < (a0.length:Int))∧(if Zyy (a0.getD i10 Zyt) 2≠0 then(if a1.get i10 > 1 then K false else nx10 ()) else nx10 ()))))) (fun (s10:Unit)=>K true) 8 0 ()
theorem Zst (a0:List Int) (a1:A8) {u0_0:Value} {fp0:List Nat} {K:Bool→Prop} (h:Zf2 a0 a1 K) (w0:World) (q0:((EI .i64).ty.sl).rep a0 [u0_0] fp0 w0) :
  Calls ZId 173 #[u0_0,.agg (ZH8 (ZH6 .u8 a1))] w0 fun e w'=>∃ (r0:Bool),
   e=.returned (.bool r0)∧K r0∧Bel w0 w':=by
 unfold Zf2 at h
 refine Z4 (args:=[u0_0,.agg (ZH8 (ZH6 .u8 a1))]) Tryz.func173 rfl 38 Tryz.ntmps173 (ZIc rfl) ?_
 have hC:=ZIt (X:=Nox) w0 [ZH7 ((EI .i64).ty.sl) a0 [u0_0] fp0] (by simp only [Zyz,ZAt,or_false,forall_eq_or_imp,forall_eq]; exact q0)
 refine sr (Yl (v:=.agg (ZH8 (ZH6 .u8 a1))) hC (ZH6 .u8 a1) rfl rfl fun b2 w4 hB_ hC=>Zc (v:=.bool false) rfl (dn (ZIa (sr (Zc (v:=.int .i64 0) rfl (dn (ZIj ?_)))))))
 refine Y9 (S:=Unit) _ _ (fun i10 s10 e_ w_=>Z3 e_ [(0,u0_0),(3,.pointer (some ⟨b2,0,none⟩)),(5,.int .i64 (i10:Int))]∧Ctx Nox w0 w_ [blk b2 136 (ZH6 .u8 a1)] [ZH7 ((EI .i64).ty.sl) a0 [u0_0] fp0]) 8 ?_ ?_ (s0:=()) ?_ h
 ·clear hC h
  rintro i10 s10 e_ w10 nx10 K10 hi10 ⟨hS_,hC⟩ h hK10
  rw [ue hS_]
  refine ZIa (sr (Zb (v:=.int .i64 (i10:Int)) rfl (Zt rfl rfl (dn (Yr rfl (decide_eq_true (by omega)) (ZIe (Zd (ZIa (ZIj (ZIj (sr ?_)))))))))))
  refine Zb (v:=.int .i64 (i10:Int)) rfl (Zb (v:=u0_0) rfl ?_)
  obtain ⟨Ad10,c10,hv11⟩:=Z1 (hC.getP 0 rfl)
  refine Zx ZIs (tr rfl hv11) (Zat rfl rfl (Zc (v:=.bool (decide ((i10:Int)≥(a0.length:Int)))) rfl (dn ?_)))
  refine Zr rfl (fun hb12=>?_) (fun hb12=>?_)
  ·replace h:=ift h (ct hb12)
   refine sr (Zb (v:=.int .i64 (i10:Int)) rfl (Y5 i10 ZIn sc5.size rfl rfl (ZIv _) (by omega) (by omega) (Z8 hC 0 (.int .u8 (a1.get i10)) rfl sc5 rfl (ZIu _ _ hi10) (Xl rfl rfl (dn ?_)))))
   refine Zr rfl (fun hb13=>?_) (fun hb13=>?_)
   ·replace h:=ift h (ct hb13)
    refine sr (Zc (v:=.bool false) rfl (dn ?_))
    refine ZIi (Yd (Yd (Zo (Zo (Yd (Zo ?_))))))
    refine Zp (fn:=ZI7) rfl ?_ ⟨false,rfl,h,hC.below⟩ (.inl rfl)
    exact Zi rfl
   ·replace h:=Zk h (cf hb13)
    refine ZIe (Zs (Zs (Zd (Zh (Zb (v:=.int .i64 (i10:Int)) rfl (Zq rfl rfl (Zc (v:=.int .i64 (ZA7.wrap ((i10:Int)+1))) rfl (done ?_))))))))
    exact hK10 () _ _ ⟨(sl ⟨rfl,rfl,(tr rfl (congrArg _ (Yh hi10 (by decide)))),trivial⟩),hC⟩ h
  ·replace h:=Zk h (cf hb12)
   refine sr (Zb (v:=.int .i64 (i10:Int)) rfl (Y5 i10 ZIn sc5.size rfl rfl (ZIv _) (by omega) (by omega) (Z8 hC 0 (.int .u8 (a1.get i10)) rfl sc5 rfl (ZIu _ _ hi10) (Jj rfl rfl (Zb (v:=.bool (decide (a1.get i10 > 20))) rfl ?_)))))
   refine Xh (decide (a1.get i10 > 20)) (fun hb10=>?_) (fun hb10=>?_)
   ·replace h:=ift h (ct hb10)
    refine Zn (b:=true) 4 24 rfl (tr rfl (congrArg _ hb10)) (by decide) (Zn (b:=true) 4 24 rfl (tr rfl (congrArg _ hb10)) (by decide) (Zn (b:=true) 4 24 rfl (tr rfl (congrArg _ hb10)) (by decide) (Zn (b:=true) 4 24 rfl (tr rfl (congrArg _ hb10)) (by decide) (Zn (b:=true) 4 24 rfl (tr rfl (congrArg _ hb10)) (by decide) (Zn (b:=true) 4 24 rfl (tr rfl (congrArg _ hb10)) (by decide) (Zn (b:=true) 4 24 rfl (tr rfl (congrArg _ hb10)) (by decide) (Zae 11 31 rfl rfl (Zae 11 31 rfl rfl (Zae 11 31 rfl rfl (Zae 11 31 rfl rfl (Zn (b:=true) 4 24 rfl (tr rfl (congrArg _ hb10)) (by decide) ?_)))))))))))
    refine Yc (v:=.bool true) (b:=true) (tr rfl (congrArg _ hb10)) rfl (Zc (v:=.bool true) rfl (dn (Yr rfl rfl (sr (Zc (v:=.bool false) rfl (dn ?_))))))
    refine ZIi (Yd (Yd (Zo (Zo (Yd (Zo ?_))))))
    refine Zp (fn:=ZI7) rfl ?_ ⟨false,rfl,h,hC.below⟩ (.inl rfl)
    exact Zi rfl
   ·replace h:=Zk h (cf hb10)
    refine Zl 4 24 rfl rfl hb10 (Zb (v:=u0_0) rfl (Zl 4 24 rfl rfl hb10 (Zb (v:=.int .i64 (i10:Int)) rfl (Zl 4 24 rfl rfl hb10 ?_))))
    obtain ⟨⟨h10,h11⟩,h⟩:=h
    obtain ⟨Ad11,c11,hv10⟩:=Z0 (hC.getP 0 rfl) i10 (show i10 < a0.length by omega)
    refine Xb (len:=a0.length) ZIs sc2.size (tr rfl hv10) rfl h10 h11 (Zl 4 24 rfl rfl hb10 (Xm (.int .i64 (a0.getD i10 Zyt)) (Yf (hC.getP 0 rfl) hv10 i10 (show i10 < a0.length by omega)) sc2 rfl (Zl 4 24 rfl rfl hb10 (X0 rfl rfl (by decide) (Zl 4 24 rfl rfl hb10 (Xl rfl rfl (Zl 4 24 rfl rfl hb10 (Zb (v:=.bool (decide (Zyy (a0.getD i10 Zyt) 2≠0))) rfl ?_))))))))
    refine Xh (decide (Zyy (a0.getD i10 Zyt) 2≠0)) (fun hb11=>?_) (fun hb11=>?_)
    ·replace h:=ift h (ct hb11)
     refine Zl 11 31 rfl rfl hb11 (Zb (v:=.int .i64 (i10:Int)) rfl (Zl 11 31 rfl rfl hb11 (Y5 i10 ZIn sc5.size rfl rfl (ZIv _) (by omega) (by omega) (Zl 11 31 rfl rfl hb11 (Z8 hC 0 (.int .u8 (a1.get i10)) rfl sc5 rfl (ZIu _ _ hi10) (Zl 11 31 rfl rfl hb11 (Jj rfl rfl (Zl 4 24 rfl rfl hb10 (Yc (v:=.bool (decide (a1.get i10 > 1))) (b:=true) (tr rfl (congrArg _ hb11)) rfl (Yc (v:=.bool (decide (a1.get i10 > 1))) (b:=false) (tr rfl (congrArg _ hb10)) rfl (Zc (v:=.bool (decide (a1.get i10 > 1))) rfl ?_)))))))))))
     refine dn ?_
     refine Zr rfl (fun hb14=>?_) (fun hb14=>?_)
     ·replace h:=ift h (ct hb14)
      refine sr (Zc (v:=.bool false) rfl (dn ?_))
      refine ZIi (Yd (Yd (Zo (Zo (Yd (Zo ?_))))))
      refine Zp (fn:=ZI7) rfl ?_ ⟨false,rfl,h,hC.below⟩ (.inl rfl)
      exact Zi rfl
     ·replace h:=Zk h (cf hb14)
      refine ZIe (Zs (Zs (Zd (Zh (Zb (v:=.int .i64 (i10:Int)) rfl (Zq rfl rfl (Zc (v:=.int .i64 (ZA7.wrap ((i10:Int)+1))) rfl (done ?_))))))))
      exact hK10 () _ _ ⟨(sl ⟨rfl,rfl,(tr rfl (congrArg _ (Yh hi10 (by decide)))),trivial⟩),hC⟩ h
    ·replace h:=Zk h (cf hb11)
     refine Zn (b:=false) 11 31 rfl (tr rfl (congrArg _ hb11)) (by decide) (Zn (b:=false) 11 31 rfl (tr rfl (congrArg _ hb11)) (by decide) (Zn (b:=false) 11 31 rfl (tr rfl (congrArg _ hb11)) (by decide) (Zn (b:=false) 11 31 rfl (tr rfl (congrArg _ hb11)) (by decide) (Zl 4 24 rfl rfl hb10 (Yc (v:=.bool false) (b:=false) (tr rfl (congrArg _ hb11)) rfl (Yc (v:=.bool false) (b:=false) (tr rfl (congrArg _ hb10)) rfl (Zc (v:=.bool false) rfl (dn (Yi rfl rfl (ZIe (Zs ?_)))))))))))
     refine Zs (Zd (Zh (Zb (v:=.int .i64 (i10:Int)) rfl (Zq rfl rfl (Zc (v:=.int .i64 (ZA7.wrap ((i10:Int)+1))) rfl (done ?_))))))
     exact hK10 () _ _ ⟨(sl ⟨rfl,rfl,(tr rfl (congrArg _ (Yh hi10 (by decide)))),trivial⟩),hC⟩ h
 ·clear hC h
  rintro s10 e_ w11 K10 ⟨hS_,hC⟩ h
  rw [ue hS_]
  refine ZIa (sr (Zb (v:=.int .i64 8) rfl (Zt rfl rfl (dn (Yi rfl (decide_eq_false (by omega)) ?_)))))
  refine ZIr (Zj (Zj (Z9 ?_)))
  refine Zd (sr (Zc (v:=.bool true) rfl (dn (ZIi ?_))))
  refine Zp (fn:=ZI7) rfl ?_ ⟨true,rfl,h,hC.below⟩ (.inl rfl)
  exact Zi rfl
 ·skip
  exact⟨(sl ⟨rfl,rfl,rfl,trivial⟩),hC⟩
def Jh (a0:Int) (K:Int→Prop):Prop :=
 K (Zyy (ZA7.wrap ((Zyy a0 10007)+10007)) 10007)
theorem Zbn (a0:Int)  {K:Int→Prop} (h:Jh a0 K) (w0:World)  :
  Calls ZId 125 #[.int .i64 a0] w0 fun e w'=>∃ (r0:Int),
   e=.returned (.int .i64 r0)∧K r0∧Bel w0 w':=by
 unfold Jh at h
 refine Z4 (args:=[.int .i64 a0]) ZIx rfl 7 Tryz.ntmps125 (ZIc rfl) ?_
 have hC:=ZIt (X:=Nox) w0 [] (by simp)
 refine sr (Zc (v:=.int .i64 0) rfl (dn (sr (Zb (v:=.int .i64 a0) rfl (X0 rfl rfl (by decide) (Zq rfl rfl (X0 rfl rfl (by decide) (Zc (v:=.int .i64 (Zyy (ZA7.wrap ((Zyy a0 10007)+10007)) 10007)) rfl (dn (ZIi ?_))))))))))
 refine Zp (fn:=Tryz.f125) rfl ?_ ⟨Zyy (ZA7.wrap ((Zyy a0 10007)+10007)) 10007,rfl,h,hC.below⟩ (.inl rfl)
 exact Zi rfl
def Jb (a0:A8) (a1:Int) (K:ZIb→Prop):Prop :=
 Jh a1 (fun r11=>(if r11=0 then K (⟨[]⟩:ZIb) else Jh a1 (fun r10=>K (⟨[(⟨a0,r10⟩:Term)]⟩:ZIb))))
theorem Zbd (a0:A8) (a1:Int)  {K:ZIb→Prop} (h:Jb a0 a1 K) (w0:World)  :
  Calls ZId 95 #[.agg (ZH8 (ZH6 .u8 a0)),.int .i64 a1] w0 fun e w'=>∃ (r0:ZIb) (z0_0:Value) (fz0:List Nat),
   e=.returned (.agg #[z0_0])∧K r0∧(ZIm (Ya 162) r0 [z0_0] fz0).holds w'∧(∀ b,b∈fz0→w0.heap.size≤b)∧Bel w0 w':=by
 unfold Jb at h
 refine Z4 (args:=[.agg (ZH8 (ZH6 .u8 a0)),.int .i64 a1]) ZI0 rfl 15 Tryz.ntmps95 (ZIc rfl) ?_
 have hC:=ZIt (X:=Nox) w0 [] (by simp)
 refine sr (Yl (v:=.agg (ZH8 (ZH6 .u8 a0))) hC (ZH6 .u8 a0) rfl rfl fun b1 w3 hB_ hC=>Yj hC [.slice none 0 0] z55 rfl fun b4 w6 hB_ hC=>dn (ZIa (sr (Zb (v:=.int .i64 a1) rfl ?_))))
 refine Zg [.int .i64 a1] _ ZIx rfl rfl rfl (Zbn a1 h _) (fun ret7 w9 hR8=>?_)
 obtain ⟨r11,rfl,h,hB10⟩:=hR8
 refine⟨_,rfl,?_⟩
 replace hC:=hC.grow hB10
 refine Jm rfl rfl (dn ?_)
 refine Zr rfl (fun hb10=>?_) (fun hb10=>?_)
 ·replace h:=ift h (ct hb10)
  refine sr (Jn [] rfl (Zdp   _) (Zw (v:=.agg #[.slice none 0 0]) hC 0 [.slice none 0 0] [.slice none 0 0] rfl ag55.size rfl rfl rfl rfl rfl (ZIc rfl) rfl fun w10 hC=>dn ?_))
  refine ZIi (Zo ?_)
  refine Zp (fn:=Tryz.f95) rfl ?_ ⟨(⟨[]⟩:ZIb),.slice none 0 0,[],rfl,h,(Za4 (Zbz _ _ _)),(fun b hb=>absurd hb (by simp)),hC.below⟩ (.inl rfl)
  exact Zag hC 0 rfl ag55 rfl rfl
 ·replace h:=Zk h (cf hb10)
  refine ZIe (Zd (ZIa ?_))
  refine Yg 3 Ye [0,0,2,7,15,31,63] [0] [1] (by kernel_rfl) (by kernel_rfl) (by kernel_rfl) (fun hM10 hM11 w11 hB_=>?_)
  replace hC:=hC.grow hB_
  refine aL 0 (.agg (ZH8 (ZH6 .u8 a0))) rfl rfl (hM10 0 rfl) (rfl) (fun _ hB_=>by exact Yv (hC.grow hB_) 1 (ZH6 .u8 a0) rfl ag136 rfl rfl rfl) (Za 7 1) (aF 1 (.int .i64 a1) rfl rfl (hM11 1 rfl) (rfl) (fun _=>by exact Zf (v:=.int .i64 a1) rfl) (Za 7 3) (aO 2 rfl ?_))
  refine Zg [.int .i64 a1] _ ZIx rfl rfl rfl (Zbn a1 h _) (fun ret10 w12 hR10=>?_)
  obtain ⟨r10,rfl,h,hB11⟩:=hR10
  refine⟨_,rfl,?_⟩
  replace hC:=hC.grow hB11
  refine done (aK (by assumption) (Za 7 7) (Zu 3 (by decide) (by decide) (by kernel_rfl) (by kernel_rfl) rfl (Jn [(0,.agg (ZH8 (ZH6 .u8 a0))),(1,.int .i64 r10)] rfl (Zim a0 r10  _) (Xr (sz:=9) hC [(0,.agg (ZH8 (ZIl (⟨a0,r10⟩:Term))))] (ZH9.encs [(⟨a0,r10⟩:Term)]) rfl (fun _=>Zfy (⟨a0,r10⟩:Term) _) rfl (by decide) fun b10 w13 hB_ hC=>Jn [(0,.slice (some ⟨b10,0,none⟩) 1 1)] rfl (Zso (.slice (some ⟨b10,0,none⟩) 1 1) (Zfx (hC.getM 0 rfl)) _) (Zw (v:=.agg #[.slice (some ⟨b10,0,none⟩) 1 1]) hC 1 [.slice (some ⟨b10,0,none⟩) 1 1] [.slice (some ⟨b10,0,none⟩) 1 1] rfl ag55.size rfl rfl rfl rfl (Y6 (Xn (hC.getM 0 rfl)) rfl) (ZIc rfl) rfl fun w14 hC=>done (Zv (Zd (ZIi ?_))))))))
  refine Zp (fn:=Tryz.f95) rfl ?_ ⟨(⟨[(⟨a0,r10⟩:Term)]⟩:ZIb),.slice (some ⟨b10,0,none⟩) 1 1,(ZI5 (Zzn (.slice (some ⟨b10,0,none⟩) 1 1))),rfl,h,(Za4 (Jr (hC.getM 0 rfl))),(X5 hC 0 rfl),hC.below⟩ (.inl rfl)
  exact Zag hC 1 rfl ag55 rfl rfl
def Zdr (a0:A8) (a1:A8) (K:Bool→Prop):Prop :=
 Yt (fun i10 (s10:Unit) nx10=>(if a0.get i10≠a1.get i10 then K (decide (a0.get i10 > a1.get i10)) else nx10 ())) (fun (s10:Unit)=>K false) 8 0 ()
theorem Zkt (a0:A8) (a1:A8)  {K:Bool→Prop} (h:Zdr a0 a1 K) (w0:World)  :
  Calls ZId 174 #[.agg (ZH8 (ZH6 .u8 a0)),.agg (ZH8 (ZH6 .u8 a1))] w0 fun e w'=>∃ (r0:Bool),
   e=.returned (.bool r0)∧K r0∧Bel w0 w':=by
 unfold Zdr at h
 refine Z4 (args:=[.agg (ZH8 (ZH6 .u8 a0)),.agg (ZH8 (ZH6 .u8 a1))]) ZI8 rfl 24 Tryz.ntmps174 (ZIc rfl) ?_
 have hC:=ZIt (X:=Nox) w0 [] (by simp)
 refine sr (Yl (v:=.agg (ZH8 (ZH6 .u8 a0))) hC (ZH6 .u8 a0) rfl rfl fun b1 w3 hB_ hC=>Yl (v:=.agg (ZH8 (ZH6 .u8 a1))) hC (ZH6 .u8 a1) rfl rfl fun b4 w6 hB_ hC=>Zc (v:=.bool false) rfl (dn (ZIa (sr (Zc (v:=.int .i64 0) rfl (dn (ZIj ?_)))))))
 refine Y9 (S:=Unit) _ _ (fun i10 s10 e_ w_=>Z3 e_ [(2,.pointer (some ⟨b1,0,none⟩)),(3,.pointer (some ⟨b4,0,none⟩)),(5,.int .i64 (i10:Int))]∧Ctx Nox w0 w_ [blk b4 136 (ZH6 .u8 a1),blk b1 136 (ZH6 .u8 a0)] []) 8 ?_ ?_ (s0:=()) ?_ h
 ·clear hC h
  rintro i10 s10 e_ w10 nx10 K10 hi10 ⟨hS_,hC⟩ h hK10
  rw [ue hS_]
  refine ZIa (sr (Zb (v:=.int .i64 (i10:Int)) rfl (Zt rfl rfl (dn (Yr rfl (decide_eq_true (by omega)) (ZIe (Zd (ZIa (ZIj (ZIa ?_))))))))))
  refine Yg 6 Ye [0,1,3,0,8,24,63] [1,2,4,5] [0,3] (by kernel_rfl) (by kernel_rfl) (by kernel_rfl) (fun hM10 hM12 w11 hB_=>?_)
  replace hC:=hC.grow hB_
  refine aF 0 (.int .i64 (i10:Int)) rfl rfl (hM12 0 rfl) (rfl) (fun _=>by exact Zf (v:=.int .i64 (i10:Int)) rfl) (Za 7 1) (aL 1 (.pointer (some ⟨b1,i10,none⟩)) rfl rfl (hM10 1 rfl) (rfl) (fun _ hB_=>by exact Zaa i10 ZIn sc5.size rfl rfl (ZIv _) (by omega) (by omega)) (Za 7 3) (aL 2 (.int .u8 (a0.get i10)) rfl rfl (hM10 2 rfl) (rfl) (fun _ hB_=>by exact Z5 (hC.grow hB_) 1 (.int .u8 (a0.get i10)) rfl sc5 rfl (ZIu _ _ hi10)) (Za 7 7) (aF 3 (.int .i64 (i10:Int)) rfl rfl (hM12 3 rfl) (rfl) (fun _=>by exact Zf (v:=.int .i64 (i10:Int)) rfl) (Za 7 15) (aL 4 (.pointer (some ⟨b4,i10,none⟩)) rfl rfl (hM10 4 rfl) (rfl) (fun _ hB_=>by exact Zaa i10 ZIn sc5.size rfl rfl (ZIv _) (by omega) (by omega)) (Za 7 31) (aL 5 (.int .u8 (a1.get i10)) rfl rfl (hM10 5 rfl) (rfl) (fun _ hB_=>by exact Z5 (hC.grow hB_) 0 (.int .u8 (a1.get i10)) rfl sc5 rfl (ZIu _ _ hi10)) (Za 7 63) (Zu 6 (by decide) (by decide) (by kernel_rfl) (by kernel_rfl) rfl (Xl rfl rfl (done (Zv (Zd ?_))))))))))
  refine Zr rfl (fun hb10=>?_) (fun hb10=>?_)
  ·replace h:=ift h (ct hb10)
   refine ZIa ?_
   refine Yg 6 Ye [0,1,3,0,8,24,63,127] [1,2,4,5] [0,3] (by kernel_rfl) (by kernel_rfl) (by kernel_rfl) (fun hM11 hM13 w12 hB_=>?_)
   replace hC:=hC.grow hB_
   refine aF 0 (.int .i64 (i10:Int)) rfl rfl (hM13 0 rfl) (rfl) (fun _=>by exact Zf (v:=.int .i64 (i10:Int)) rfl) (Za 8 1) (aL 1 (.pointer (some ⟨b1,i10,none⟩)) rfl rfl (hM11 1 rfl) (rfl) (fun _ hB_=>by exact Zaa i10 ZIn sc5.size rfl rfl (ZIv _) (by omega) (by omega)) (Za 8 3) (aL 2 (.int .u8 (a0.get i10)) rfl rfl (hM11 2 rfl) (rfl) (fun _ hB_=>by exact Z5 (hC.grow hB_) 1 (.int .u8 (a0.get i10)) rfl sc5 rfl (ZIu _ _ hi10)) (Za 8 7) (aF 3 (.int .i64 (i10:Int)) rfl rfl (hM13 3 rfl) (rfl) (fun _=>by exact Zf (v:=.int .i64 (i10:Int)) rfl) (Za 8 15) (aL 4 (.pointer (some ⟨b4,i10,none⟩)) rfl rfl (hM11 4 rfl) (rfl) (fun _ hB_=>by exact Zaa i10 ZIn sc5.size rfl rfl (ZIv _) (by omega) (by omega)) (Za 8 31) (aL 5 (.int .u8 (a1.get i10)) rfl rfl (hM11 5 rfl) (rfl) (fun _ hB_=>by exact Z5 (hC.grow hB_) 0 (.int .u8 (a1.get i10)) rfl sc5 rfl (ZIu _ _ hi10)) (Za 8 63) (Zu 6 (by decide) (by decide) (by kernel_rfl) (by kernel_rfl) rfl (Jj rfl rfl (Zc (v:=.bool (decide (a0.get i10 > a1.get i10))) rfl (done (Zv (Zd ?_)))))))))))
   refine ZIi (Yd (Zo (Zo (Yd (Zo ?_)))))
   refine Zp (fn:=Tryz.f174) rfl ?_ ⟨decide (a0.get i10 > a1.get i10),rfl,h,hC.below⟩ (.inl rfl)
   exact Zi rfl
  ·replace h:=Zk h (cf hb10)
   refine ZIe (Zs (Zd (Zh (Zb (v:=.int .i64 (i10:Int)) rfl (Zq rfl rfl (Zc (v:=.int .i64 (ZA7.wrap ((i10:Int)+1))) rfl (done ?_)))))))
   exact hK10 () _ _ ⟨(sl ⟨rfl,rfl,(tr rfl (congrArg _ (Yh hi10 (by decide)))),trivial⟩),hC⟩ h
 ·clear hC h
  rintro s10 e_ w13 K10 ⟨hS_,hC⟩ h
  rw [ue hS_]
  refine ZIa (sr (Zb (v:=.int .i64 8) rfl (Zt rfl rfl (dn (Yi rfl (decide_eq_false (by omega)) ?_)))))
  refine ZIr (Zj (Zj (Z9 ?_)))
  refine Zd (sr (Zc (v:=.bool false) rfl (dn (ZIi ?_))))
  refine Zp (fn:=Tryz.f174) rfl ?_ ⟨false,rfl,h,hC.below⟩ (.inl rfl)
  exact Zi rfl
 ·skip
  exact⟨(sl ⟨rfl,rfl,rfl,trivial⟩),hC⟩
def Zah (a0:ZIb) (a1:ZIb) (a2:Int) (K:ZIb→Prop):Prop :=
 Xj (fun (s10:(List Term)×Int×Int) nx10=>joinP (fun (jn11:Bool→Prop)=>(if s10.2.1 < (a0.terms.length:Int) then jn11 true else jn11 (decide (s10.2.2 < (a1.terms.length:Int))))) (fun (x10:Bool)=>(if x10=true then joinP (fun (jn10:Bool→Prop)=>(if s10.2.2=(a1.terms.length:Int) then jn10 true else(if s10.2.1 < (a0.terms.length:Int) then((0≤s10.2.1∧s10.2.1 < (a0.terms.length:Int))∧((0≤s10.2.2∧s10.2.2 < (a1.terms.length:Int))∧Zdr ((a0.terms.getD s10.2.1.toNat Zyt).mono) ((a1.terms.getD s10.2.2.toNat Zyt).mono) (fun r12=>jn10 r12))) else jn10 false))) (fun (x11:Bool)=>(if x11=true then((0≤s10.2.1∧s10.2.1 < (a0.terms.length:Int))∧(Yo (s10.1.length+1) 16∧nx10 (s10.1++[a0.terms.getD s10.2.1.toNat Zyt],ZA7.wrap (s10.2.1+1),s10.2.2))) else joinP (fun (jn12:Bool→Prop)=>(if s10.2.1=(a0.terms.length:Int) then jn12 true else((0≤s10.2.2∧s10.2.2 < (a1.terms.length:Int))∧((0≤s10.2.1∧s10.2.1 < (a0.terms.length:Int))∧Zdr ((a1.terms.getD s10.2.2.toNat Zyt).mono) ((a0.terms.getD s10.2.1.toNat Zyt).mono) (fun r13=>jn12 r13))))) (fun (x12:Bool)=>(if x12=true then((0≤s10.2.2∧s10.2.2 < (a1.terms.length:Int))∧Jh (ZA7.wrap (a2 * ((a1.terms.getD s10.2.2.toNat Zyt).factor))) (fun r10=>(if r10≠0 then((0≤s10.2.2∧s10.2.2 < (a1.terms.length:Int))∧(Yo (s10.1.length+1) 16∧nx10 (s10.1++[(⟨(a1.terms.getD s10.2.2.toNat Zyt).mono,r10⟩:Term)],s10.2.1,ZA7.wrap (s10.2.2+1)))) else nx10 (s10.1,s10.2.1,ZA7.wrap (s10.2.2+1))))) else((0≤s10.2.1∧s10.2.1 < (a0.terms.length:Int))∧((0≤s10.2.2∧s10.2.2 < (a1.terms.length:Int))∧Jh (ZA7.wrap (a2 * ((a1.terms.getD s10.2.2.toNat Zyt).factor))) (fun r14=>Jh (ZA7.wrap (((a0.terms.getD s10.2.1.toNat Zyt).factor)+r14)) (fun r11=>(if r11≠0 then((0≤s10.2.1∧s10.2.1 < (a0.terms.length:Int))∧(Yo (s10.1.length+1) 16∧nx10 (s10.1++[(⟨(a0.terms.getD s10.2.1.toNat Zyt).mono,r11⟩:Term)],ZA7.wrap (s10.2.1+1),ZA7.wrap (s10.2.2+1)))) else nx10 (s10.1,ZA7.wrap (s10.2.1+1),ZA7.wrap (s10.2.2+1))))))))))) else K (⟨s10.1⟩:ZIb)))) ([],0,0)
theorem Zds (a0 : ZIb) (a1 : ZIb) (a2 : Int) {u0_0 : Value} {u1_0 : Value} {fp0 : List Nat} {fp1 : List Nat} {K : ZIb → Prop} (h : Zah a0 a1 a2 K) (w0 : World) (q0 : ZIo.rep a0 [u0_0] fp0 w0) (q1 : ZIo.rep a1 [u1_0] fp1 w0) :
  Calls ZId 124 #[.agg #[u0_0],.agg #[u1_0],.int .i64 a2] w0 fun e w'=>∃ (r0:ZIb) (z0_0:Value) (fz0:List Nat),
   e=.returned (.agg #[z0_0])∧K r0∧(ZIm (Ya 162) r0 [z0_0] fz0).holds w'∧(∀ b,b∈fz0→w0.heap.size≤b)∧Bel w0 w':=by
 unfold Zah at h
 refine Z4 (args:=[.agg #[u0_0],.agg #[u1_0],.int .i64 a2]) ZI9 rfl 149 Tryz.ntmps124 (ZIc rfl) ?_
 have hC:=ZIt (X:=Nox) w0 [ZH7 TForm a0 [u0_0] fp0,ZH7 TForm a1 [u1_0] fp1] (by simp only [Zyz,ZAt,or_false,forall_eq_or_imp,forall_eq]; exact⟨q0,q1⟩)
 have hp3:=(hC.getP 0 rfl)
 replace hC:=hC.derive 0 rfl (ZH7 ZH9.ty.sl a0.terms [u0_0] fp0) (fun _=>(Xi hp3)) (fun _ hb_=>hb_)
 have hp5:=(hC.getP 2 rfl)
 replace hC:=hC.derive 2 rfl (ZH7 ZH9.ty.sl a1.terms [u1_0] fp1) (fun _=>(Xi hp5)) (fun _ hb_=>hb_)
 refine sr (Yl (v:=.agg #[u0_0]) hC [u0_0] rfl rfl fun b7 w9 hB_ hC=>Yl (v:=.agg #[u1_0]) hC [u1_0] rfl rfl fun b10 w10 hB_ hC=>Yj hC [.slice none 0 0] z55 rfl fun b12 w11 hB_ hC=>dn (sr (Jn [] rfl (Zdp   _) (Yj hC [.slice none 0 0] z55 rfl fun b11 w12 hB_ hC=>Zw (v:=.agg #[.slice none 0 0]) hC 0 [.slice none 0 0] [.slice none 0 0] rfl ag55.size rfl rfl rfl rfl rfl (ZIc rfl) rfl fun w13 hC=>dn (sr (Zc (v:=.int .i64 0) rfl ?_))))))
 refine Zc (v:=.int .i64 0) rfl (dn (ZIa (ZIj ?_)))
 refine X1 (S:=(List Term)×Int×Int) _ (fun s10 e_ w_=>∃ (v10:Value),Z3 e_ [(2,.int .i64 a2),(3,.pointer (some ⟨b7,0,none⟩)),(4,.pointer (some ⟨b10,0,none⟩)),(6,.pointer (some ⟨b12,0,none⟩)),(7,.pointer (some ⟨b11,0,none⟩)),(8,.int .i64 s10.2.1),(9,.int .i64 s10.2.2)]∧Ctx Nox w0 w_ [own 162 9 v10 s10.1.length (ZH9.encs s10.1),blk b11 55 [v10],blk b12 55 [.slice none 0 0],blk b10 55 [u1_0],blk b7 55 [u0_0]] [ZH7 ZH9.ty.sl a1.terms [u1_0] fp1,ZH7 ZH9.ty.sl a0.terms [u0_0] fp0,ZH7 TForm a0 [u0_0] fp0,ZH7 TForm a1 [u1_0] fp1]) ?_ (s0:=([],0,0)) ?_ h
 ·clear hC h
  rintro s10 e_ w14 nx10 K10 ⟨v10,hS_,hC⟩ h hK10
  rw [ue hS_]
  refine ZIa (ZIa ?_)
  obtain ⟨jn11,hj10,h⟩:=Zjy h
  refine Zj3 (fun e_ w_=>∃ (x10:Bool),Z3 e_ [(2,.int .i64 a2),(3,.pointer (some ⟨b7,0,none⟩)),(4,.pointer (some ⟨b10,0,none⟩)),(6,.pointer (some ⟨b12,0,none⟩)),(7,.pointer (some ⟨b11,0,none⟩)),(8,.int .i64 s10.2.1),(9,.int .i64 s10.2.2),(24,.bool x10)]∧Ctx Nox w0 w_ [own 162 9 v10 s10.1.length (ZH9.encs s10.1),blk b11 55 [v10],blk b12 55 [.slice none 0 0],blk b10 55 [u1_0],blk b7 55 [u0_0]] [ZH7 ZH9.ty.sl a1.terms [u1_0] fp1,ZH7 ZH9.ty.sl a0.terms [u0_0] fp0,ZH7 TForm a0 [u0_0] fp0,ZH7 TForm a1 [u1_0] fp1]∧jn11 x10) ?_ ?_
  ·skip
   refine Zh (Zb (v:=.int .i64 s10.2.1) rfl (Z6 0 ZIf rfl sc53.size rfl rfl (Z8 hC 4 (u0_0) rfl sc53 rfl rfl ?_)))
   obtain ⟨Ad19,c10,hv20⟩:=Z1 (hC.getP 1 rfl)
   refine Zx ZIh (tr rfl hv20) (Zt rfl rfl (Zb (v:=.bool (decide (s10.2.1 < (a0.terms.length:Int)))) rfl ?_))
   refine Xh (decide (s10.2.1 < (a0.terms.length:Int))) (fun hb13=>?_) (fun hb13=>?_)
   ·replace h:=ift h (ct hb13)
    refine Zn (b:=true) 5 18 rfl (tr rfl (congrArg _ hb13)) (by decide) (Zn (b:=true) 5 18 rfl (tr rfl (congrArg _ hb13)) (by decide) (Zn (b:=true) 5 18 rfl (tr rfl (congrArg _ hb13)) (by decide) (Zn (b:=true) 5 18 rfl (tr rfl (congrArg _ hb13)) (by decide) (Zn (b:=true) 5 18 rfl (tr rfl (congrArg _ hb13)) (by decide) (Yc (v:=.bool true) (b:=true) (tr rfl (congrArg _ hb13)) rfl (done ?_))))))
    exact⟨rfl,_,rfl,true,(sl ⟨rfl,rfl,rfl,rfl,rfl,rfl,rfl,rfl,trivial⟩),hC,h⟩
   ·replace h:=Zk h (cf hb13)
    refine Zl 5 18 rfl rfl hb13 (Zb (v:=.int .i64 s10.2.2) rfl (Zl 5 18 rfl rfl hb13 (Z6 0 ZIf rfl sc53.size rfl rfl (Zl 5 18 rfl rfl hb13 (Z8 hC 3 (u1_0) rfl sc53 rfl rfl (Zl 5 18 rfl rfl hb13 ?_))))))
    obtain ⟨Ad20,c11,hv21⟩:=Z1 (hC.getP 0 rfl)
    refine Zx ZIh (tr rfl hv21) (Zl 5 18 rfl rfl hb13 (Zt rfl rfl (Yc (v:=.bool (decide (s10.2.2 < (a1.terms.length:Int)))) (b:=false) (tr rfl (congrArg _ hb13)) rfl (done ?_))))
    exact⟨rfl,_,rfl,decide (s10.2.2 < (a1.terms.length:Int)),(sl ⟨rfl,rfl,rfl,rfl,rfl,rfl,rfl,rfl,trivial⟩),hC,h⟩
  ·clear hC h
   rintro e_ w15 ⟨x10,hS_,hC,h⟩
   replace h:=hj10 _ h
   rw [ue hS_]
   refine Zd ?_
   refine Zr rfl (fun hb14=>?_) (fun hb14=>?_)
   ·replace h:=ift h (hb14)
    refine ZIe (Zd (ZIj (ZIj (ZIa ?_))))
    obtain ⟨jn10,hj11,h⟩:=Zjy h
    refine Zj3 (fun e_ w_=>∃ (x11:Bool),Z3 e_ [(2,.int .i64 a2),(3,.pointer (some ⟨b7,0,none⟩)),(4,.pointer (some ⟨b10,0,none⟩)),(6,.pointer (some ⟨b12,0,none⟩)),(7,.pointer (some ⟨b11,0,none⟩)),(8,.int .i64 s10.2.1),(9,.int .i64 s10.2.2),(61,.bool x11)]∧Ctx Nox w0 w_ [own 162 9 v10 s10.1.length (ZH9.encs s10.1),blk b11 55 [v10],blk b12 55 [.slice none 0 0],blk b10 55 [u1_0],blk b7 55 [u0_0]] [ZH7 ZH9.ty.sl a1.terms [u1_0] fp1,ZH7 ZH9.ty.sl a0.terms [u0_0] fp0,ZH7 TForm a0 [u0_0] fp0,ZH7 TForm a1 [u1_0] fp1]∧jn10 x11) ?_ ?_
    ·skip
     refine Yg 24 Ye [0,0,2,6,15,31,63,63,191,447,1023,2047,4095,8191,4095,32767,65535,131071,4095,266239,4095,1839103,3936255,8130559,16777215,33554431,67108863,134217727] [2,3,8,9,13,15,17,19,21,23] [0,1,4,5,6,7,8,9,10,11,12,13,14,15,16,17,18,19,20,21,22,23] (by kernel_rfl) (by kernel_rfl) (by kernel_rfl) (fun hM12 hM10 w16 hB_=>?_)
     replace hC:=hC.grow hB_
     refine aF 0 (.int .i64 s10.2.2) rfl rfl (hM10 0 rfl) (rfl) (fun _=>by exact Zf (v:=.int .i64 s10.2.2) rfl) (Za 28 1) (aF 1 (.pointer (some ⟨b10,0,none⟩)) rfl rfl (hM10 1 rfl) (rfl) (fun _=>by exact Z7 0 ZIf rfl sc53.size rfl rfl) (Za 28 3) (aL 2 (u1_0) rfl rfl (hM12 2 rfl) (rfl) (fun _ hB_=>by exact Z5 (hC.grow hB_) 3 (u1_0) rfl sc53 rfl rfl) (Za 28 7) ?_))
     obtain ⟨Ad21,c12,hv22⟩:=Z1 (hC.getP 0 rfl)
     refine aL 3 (.int .i64 (a1.terms.length:Int)) rfl rfl (hM12 3 rfl) (rfl) (fun _ hB_=>by exact Zb5 ZIh (by exact tr rfl hv22)) (Za 28 15) (aF 4 (.bool (decide (s10.2.2=(a1.terms.length:Int)))) rfl rfl (hM10 4 rfl) (rfl) (fun _=>by exact Zme rfl rfl) (Za 28 31) (aF 5 (.bool (decide (s10.2.2=(a1.terms.length:Int)))) rfl rfl (hM10 5 rfl) (rfl) (fun _=>by exact Zf (v:=.bool (decide (s10.2.2=(a1.terms.length:Int)))) rfl) (Za 28 63) ?_))
     refine Xh (decide (s10.2.2=(a1.terms.length:Int))) (fun hb12=>?_) (fun hb12=>?_)
     ·replace h:=ift h (ct hb12)
      refine Zm Z2 6 undef rfl rfl (by kernel_rfl) (hM10 6 rfl) (fun w_=>.inr ⟨Yk (b:=true) 5 67 rfl (tr rfl (congrArg _ hb12)) (by decide),rfl⟩) (l9:=(Za 28 127)) (by kernel_rfl) (Zm Z2 7 undef rfl rfl (by kernel_rfl) (hM10 7 rfl) (fun w_=>.inr ⟨Yk (b:=true) 5 67 rfl (tr rfl (congrArg _ hb12)) (by decide),rfl⟩) (l9:=(Za 28 255)) (by kernel_rfl) (Zm Z2 8 undef rfl rfl (by kernel_rfl) (hM10 8 rfl) (fun w_=>.inr ⟨Yk (b:=true) 5 67 rfl (tr rfl (congrArg _ hb12)) (by decide),rfl⟩) (l9:=(Za 28 511)) (by kernel_rfl) (Zm Z2 9 undef rfl rfl (by kernel_rfl) (hM10 9 rfl) (fun w_=>.inr ⟨Yk (b:=true) 5 67 rfl (tr rfl (congrArg _ hb12)) (by decide),rfl⟩) (l9:=(Za 28 1023)) (by kernel_rfl) (Zm Z2 10 undef rfl rfl (by kernel_rfl) (hM10 10 rfl) (fun w_=>.inr ⟨Yk (b:=true) 5 67 rfl (tr rfl (congrArg _ hb12)) (by decide),rfl⟩) (l9:=(Za 28 2047)) (by kernel_rfl) (Zm Z2 11 undef rfl rfl (by kernel_rfl) (hM10 11 rfl) (fun w_=>.inr ⟨Yk (b:=true) 5 67 rfl (tr rfl (congrArg _ hb12)) (by decide),rfl⟩) (l9:=(Za 28 4095)) (by kernel_rfl) (Zm Z2 12 undef rfl rfl (by kernel_rfl) (hM10 12 rfl) (fun w_=>.inr ⟨X6 11 73 rfl rfl,rfl⟩) (l9:=(Za 28 8191)) (by kernel_rfl) (Zm Z2 13 undef rfl rfl (by kernel_rfl) (hM10 13 rfl) (fun w_=>.inr ⟨X6 11 73 rfl rfl,rfl⟩) (l9:=(Za 28 16383)) (by kernel_rfl) (Zm Z2 14 undef rfl rfl (by kernel_rfl) (hM10 14 rfl) (fun w_=>.inr ⟨X6 11 73 rfl rfl,rfl⟩) (l9:=(Za 28 32767)) (by kernel_rfl) ?_))))))))
      refine Zm Z2 15 undef rfl rfl (by kernel_rfl) (hM10 15 rfl) (fun w_=>.inr ⟨X6 11 73 rfl rfl,rfl⟩) (l9:=(Za 28 65535)) (by kernel_rfl) (Zm Z2 16 undef rfl rfl (by kernel_rfl) (hM10 16 rfl) (fun w_=>.inr ⟨X6 11 73 rfl rfl,rfl⟩) (l9:=(Za 28 131071)) (by kernel_rfl) (Zm Z2 17 undef rfl rfl (by kernel_rfl) (hM10 17 rfl) (fun w_=>.inr ⟨X6 11 73 rfl rfl,rfl⟩) (l9:=(Za 28 262143)) (by kernel_rfl) (Zm Z2 18 undef rfl rfl (by kernel_rfl) (hM10 18 rfl) (fun w_=>.inr ⟨X6 11 73 rfl rfl,rfl⟩) (l9:=(Za 28 524287)) (by kernel_rfl) (Zm Z2 19 undef rfl rfl (by kernel_rfl) (hM10 19 rfl) (fun w_=>.inr ⟨X6 11 73 rfl rfl,rfl⟩) (l9:=(Za 28 1048575)) (by kernel_rfl) (Zm Z2 20 undef rfl rfl (by kernel_rfl) (hM10 20 rfl) (fun w_=>.inr ⟨X6 11 73 rfl rfl,rfl⟩) (l9:=(Za 28 2097151)) (by kernel_rfl) (Zm Z2 21 undef rfl rfl (by kernel_rfl) (hM10 21 rfl) (fun w_=>.inr ⟨X6 11 73 rfl rfl,rfl⟩) (l9:=(Za 28 4194303)) (by kernel_rfl) (Zm Z2 22 undef rfl rfl (by kernel_rfl) (hM10 22 rfl) (fun w_=>.inr ⟨X6 11 73 rfl rfl,rfl⟩) (l9:=(Za 28 8388607)) (by kernel_rfl) (Zm Z2 23 undef rfl rfl (by kernel_rfl) (hM10 23 rfl) (fun w_=>.inr ⟨X6 11 73 rfl rfl,rfl⟩) (l9:=(Za 28 16777215)) (by kernel_rfl) (Zu 24 (by decide) (by decide) (by kernel_rfl) (by kernel_rfl) rfl (Zae 11 73 rfl rfl (Zn (b:=true) 5 67 rfl (tr rfl (congrArg _ hb12)) (by decide) ?_)))))))))))
      refine Yc (v:=.bool true) (b:=true) (tr rfl (congrArg _ hb12)) rfl (Zc (v:=.bool true) rfl (done (Zv ?_)))
      exact⟨rfl,_,rfl,true,(sl ⟨rfl,rfl,rfl,rfl,rfl,rfl,rfl,rfl,trivial⟩),hC,h⟩
     ·replace h:=Zk h (cf hb12)
      refine aF 6 (.int .i64 s10.2.1) rfl rfl (hM10 6 rfl) (Yn 5 67 rfl rfl hb12) (fun _=>by exact Zf (v:=.int .i64 s10.2.1) rfl) (Za 28 127) (aF 7 (.pointer (some ⟨b7,0,none⟩)) rfl rfl (hM10 7 rfl) (Yn 5 67 rfl rfl hb12) (fun _=>by exact Z7 0 ZIf rfl sc53.size rfl rfl) (Za 28 255) (aL 8 (u0_0) rfl rfl (hM12 8 rfl) (Yn 5 67 rfl rfl hb12) (fun _ hB_=>by exact Z5 (hC.grow hB_) 4 (u0_0) rfl sc53 rfl rfl) (Za 28 511) ?_))
      obtain ⟨Ad22,c13,hv23⟩:=Z1 (hC.getP 1 rfl)
      refine aL 9 (.int .i64 (a0.terms.length:Int)) rfl rfl (hM12 9 rfl) (Yn 5 67 rfl rfl hb12) (fun _ hB_=>by exact Zb5 ZIh (by exact tr rfl hv23)) (Za 28 1023) (aF 10 (.bool (decide (s10.2.1 < (a0.terms.length:Int)))) rfl rfl (hM10 10 rfl) (Yn 5 67 rfl rfl hb12) (fun _=>by exact Zmf rfl rfl) (Za 28 2047) (aF 11 (.bool (decide (s10.2.1 < (a0.terms.length:Int)))) rfl rfl (hM10 11 rfl) (Yn 5 67 rfl rfl hb12) (fun _=>by exact Zf (v:=.bool (decide (s10.2.1 < (a0.terms.length:Int)))) rfl) (Za 28 4095) ?_))
      refine Xh (decide (s10.2.1 < (a0.terms.length:Int))) (fun hb10=>?_) (fun hb10=>?_)
      ·replace h:=ift h (ct hb10)
       refine aF 12 (.pointer (some ⟨b7,0,none⟩)) rfl rfl (hM10 12 rfl) (Yn 11 73 rfl rfl hb10) (fun _=>by exact Z7 0 ZIf rfl sc53.size rfl rfl) (Za 28 8191) (aL 13 (u0_0) rfl rfl (hM12 13 rfl) (Yn 11 73 rfl rfl hb10) (fun _ hB_=>by exact Z5 (hC.grow hB_) 4 (u0_0) rfl sc53 rfl rfl) (Za 28 16383) (aF 14 (.int .i64 s10.2.1) rfl rfl (hM10 14 rfl) (Yn 11 73 rfl rfl hb10) (fun _=>by exact Zf (v:=.int .i64 s10.2.1) rfl) (Za 28 32767) ?_))
       obtain ⟨⟨h10,h11⟩,h⟩:=h
       obtain ⟨Ad10,c14,hv10⟩:=Z0 (hC.getP 1 rfl) s10.2.1.toNat (show s10.2.1.toNat < a0.terms.length by omega)
       refine aL 15 (.pointer (some (Ad10.add (s10.2.1.toNat * 9)))) rfl rfl (hM12 15 rfl) (Yn 11 73 rfl rfl hb10) (fun _ hB_=>by exact Yp (len:=a0.terms.length) ZIh ag162.size (by exact tr rfl hv10) rfl h10 h11) (Za 28 65535) (aF 16 (.pointer (some (Ad10.add (s10.2.1.toNat * 9+0)))) rfl rfl (hM10 16 rfl) (Yn 11 73 rfl rfl hb10) (fun _=>by exact Zau (s10.2.1.toNat * 9+0) ZIp rfl ag136.size rfl rfl) (Za 28 131071) (aL 17 (.agg (ZH8 (ZH6 .u8 ((a0.terms.getD s10.2.1.toNat Zyt).mono)))) rfl rfl (hM12 17 rfl) (Yn 11 73 rfl rfl hb10) (fun _ hB_=>by exact X4 (ZH6 .u8 ((a0.terms.getD s10.2.1.toNat Zyt).mono)) (J2 (o:=0) (k:=8) (Yf ((hC.grow hB_).getP 1 rfl) hv10 s10.2.1.toNat (show s10.2.1.toNat < a0.terms.length by omega)) rfl) ag136 rfl rfl) (Za 28 262143) (aF 18 (.pointer (some ⟨b10,0,none⟩)) rfl rfl (hM10 18 rfl) (Yn 11 73 rfl rfl hb10) (fun _=>by exact Z7 0 ZIf rfl sc53.size rfl rfl) (Za 28 524287) (aL 19 (u1_0) rfl rfl (hM12 19 rfl) (Yn 11 73 rfl rfl hb10) (fun _ hB_=>by exact Z5 (hC.grow hB_) 3 (u1_0) rfl sc53 rfl rfl) (Za 28 1048575) (aF 20 (.int .i64 s10.2.2) rfl rfl (hM10 20 rfl) (Yn 11 73 rfl rfl hb10) (fun _=>by exact Zf (v:=.int .i64 s10.2.2) rfl) (Za 28 2097151) ?_)))))
       obtain ⟨⟨h12,h13⟩,h⟩:=h
       obtain ⟨Ad11,c15,hv11⟩:=Z0 (hC.getP 0 rfl) s10.2.2.toNat (show s10.2.2.toNat < a1.terms.length by omega)
       refine aL 21 (.pointer (some (Ad11.add (s10.2.2.toNat * 9)))) rfl rfl (hM12 21 rfl) (Yn 11 73 rfl rfl hb10) (fun _ hB_=>by exact Yp (len:=a1.terms.length) ZIh ag162.size (by exact tr rfl hv11) rfl h12 h13) (Za 28 4194303) (aF 22 (.pointer (some (Ad11.add (s10.2.2.toNat * 9+0)))) rfl rfl (hM10 22 rfl) (Yn 11 73 rfl rfl hb10) (fun _=>by exact Zau (s10.2.2.toNat * 9+0) ZIp rfl ag136.size rfl rfl) (Za 28 8388607) (aL 23 (.agg (ZH8 (ZH6 .u8 ((a1.terms.getD s10.2.2.toNat Zyt).mono)))) rfl rfl (hM12 23 rfl) (Yn 11 73 rfl rfl hb10) (fun _ hB_=>by exact X4 (ZH6 .u8 ((a1.terms.getD s10.2.2.toNat Zyt).mono)) (J2 (o:=0) (k:=8) (Yf ((hC.grow hB_).getP 0 rfl) hv11 s10.2.2.toNat (show s10.2.2.toNat < a1.terms.length by omega)) rfl) ag136 rfl rfl) (Za 28 16777215) (Zu 24 (by decide) (by decide) (by kernel_rfl) (by kernel_rfl) rfl (Zl 11 73 rfl rfl hb10 ?_))))
       refine Zg [.agg (ZH8 (ZH6 .u8 ((a0.terms.getD s10.2.1.toNat Zyt).mono))),.agg (ZH8 (ZH6 .u8 ((a1.terms.getD s10.2.2.toNat Zyt).mono)))] _ ZI8 rfl rfl rfl (Zkt ((a0.terms.getD s10.2.1.toNat Zyt).mono) ((a1.terms.getD s10.2.2.toNat Zyt).mono) h _) (fun ret10 w17 hR10=>?_)
       obtain ⟨r12,rfl,h,hB10⟩:=hR10
       refine⟨_,rfl,?_⟩
       replace hC:=hC.grow hB10
       refine Zl 5 67 rfl rfl hb12 (Yc (v:=.bool r12) (b:=true) (tr rfl (congrArg _ hb10)) rfl (Yc (v:=.bool r12) (b:=false) (tr rfl (congrArg _ hb12)) rfl (Zc (v:=.bool r12) rfl (done (Zv ?_)))))
       exact⟨rfl,_,rfl,r12,(sl ⟨rfl,rfl,rfl,rfl,rfl,rfl,rfl,rfl,trivial⟩),hC,h⟩
      ·replace h:=Zk h (cf hb10)
       refine Zm Z2 12 undef rfl rfl (by kernel_rfl) (hM10 12 rfl) (fun w_=>.inr ⟨Yk (b:=false) 11 73 rfl (tr rfl (congrArg _ hb10)) (by decide),rfl⟩) (l9:=(Za 28 8191)) (by kernel_rfl) (Zm Z2 13 undef rfl rfl (by kernel_rfl) (hM10 13 rfl) (fun w_=>.inr ⟨Yk (b:=false) 11 73 rfl (tr rfl (congrArg _ hb10)) (by decide),rfl⟩) (l9:=(Za 28 16383)) (by kernel_rfl) (Zm Z2 14 undef rfl rfl (by kernel_rfl) (hM10 14 rfl) (fun w_=>.inr ⟨Yk (b:=false) 11 73 rfl (tr rfl (congrArg _ hb10)) (by decide),rfl⟩) (l9:=(Za 28 32767)) (by kernel_rfl) (Zm Z2 15 undef rfl rfl (by kernel_rfl) (hM10 15 rfl) (fun w_=>.inr ⟨Yk (b:=false) 11 73 rfl (tr rfl (congrArg _ hb10)) (by decide),rfl⟩) (l9:=(Za 28 65535)) (by kernel_rfl) (Zm Z2 16 undef rfl rfl (by kernel_rfl) (hM10 16 rfl) (fun w_=>.inr ⟨Yk (b:=false) 11 73 rfl (tr rfl (congrArg _ hb10)) (by decide),rfl⟩) (l9:=(Za 28 131071)) (by kernel_rfl) (Zm Z2 17 undef rfl rfl (by kernel_rfl) (hM10 17 rfl) (fun w_=>.inr ⟨Yk (b:=false) 11 73 rfl (tr rfl (congrArg _ hb10)) (by decide),rfl⟩) (l9:=(Za 28 262143)) (by kernel_rfl) (Zm Z2 18 undef rfl rfl (by kernel_rfl) (hM10 18 rfl) (fun w_=>.inr ⟨Yk (b:=false) 11 73 rfl (tr rfl (congrArg _ hb10)) (by decide),rfl⟩) (l9:=(Za 28 524287)) (by kernel_rfl) (Zm Z2 19 undef rfl rfl (by kernel_rfl) (hM10 19 rfl) (fun w_=>.inr ⟨Yk (b:=false) 11 73 rfl (tr rfl (congrArg _ hb10)) (by decide),rfl⟩) (l9:=(Za 28 1048575)) (by kernel_rfl) ?_)))))))
       refine Zm Z2 20 undef rfl rfl (by kernel_rfl) (hM10 20 rfl) (fun w_=>.inr ⟨Yk (b:=false) 11 73 rfl (tr rfl (congrArg _ hb10)) (by decide),rfl⟩) (l9:=(Za 28 2097151)) (by kernel_rfl) (Zm Z2 21 undef rfl rfl (by kernel_rfl) (hM10 21 rfl) (fun w_=>.inr ⟨Yk (b:=false) 11 73 rfl (tr rfl (congrArg _ hb10)) (by decide),rfl⟩) (l9:=(Za 28 4194303)) (by kernel_rfl) (Zm Z2 22 undef rfl rfl (by kernel_rfl) (hM10 22 rfl) (fun w_=>.inr ⟨Yk (b:=false) 11 73 rfl (tr rfl (congrArg _ hb10)) (by decide),rfl⟩) (l9:=(Za 28 8388607)) (by kernel_rfl) (Zm Z2 23 undef rfl rfl (by kernel_rfl) (hM10 23 rfl) (fun w_=>.inr ⟨Yk (b:=false) 11 73 rfl (tr rfl (congrArg _ hb10)) (by decide),rfl⟩) (l9:=(Za 28 16777215)) (by kernel_rfl) (Zu 24 (by decide) (by decide) (by kernel_rfl) (by kernel_rfl) rfl (Zn (b:=false) 11 73 rfl (tr rfl (congrArg _ hb10)) (by decide) (Zl 5 67 rfl rfl hb12 (Yc (v:=.bool false) (b:=false) (tr rfl (congrArg _ hb10)) rfl (Yc (v:=.bool false) (b:=false) (tr rfl (congrArg _ hb12)) rfl (Zc (v:=.bool false) rfl (done (Zv ?_)))))))))))
       exact⟨rfl,_,rfl,false,(sl ⟨rfl,rfl,rfl,rfl,rfl,rfl,rfl,rfl,trivial⟩),hC,h⟩
    ·clear hC h
     rintro e_ w18 ⟨x11,hS_,hC,h⟩
     replace h:=hj11 _ h
     rw [ue hS_]
     refine Zd ?_
     refine Zr rfl (fun hb15=>?_) (fun hb15=>?_)
     ·replace h:=ift h (hb15)
      refine ZIa ?_
      refine Yg 8 Ye [0,1,0,4,0,28,60,124,255,511,1023] [1,3,5,6] [0,2,4] (by kernel_rfl) (by kernel_rfl) (by kernel_rfl) (fun hM20 hM21 w19 hB_=>?_)
      replace hC:=hC.grow hB_
      refine aF 0 (.pointer (some ⟨b11,0,none⟩)) rfl rfl (hM21 0 rfl) (rfl) (fun _=>by exact Z7 0 ZIf rfl sc53.size rfl rfl) (Za 11 1) (aL 1 (v10) rfl rfl (hM20 1 rfl) (rfl) (fun _ hB_=>by exact Z5 (hC.grow hB_) 1 (v10) rfl sc53 rfl rfl) (Za 11 3) (aF 2 (.pointer (some ⟨b7,0,none⟩)) rfl rfl (hM21 2 rfl) (rfl) (fun _=>by exact Z7 0 ZIf rfl sc53.size rfl rfl) (Za 11 7) (aL 3 (u0_0) rfl rfl (hM20 3 rfl) (rfl) (fun _ hB_=>by exact Z5 (hC.grow hB_) 4 (u0_0) rfl sc53 rfl rfl) (Za 11 15) (aF 4 (.int .i64 s10.2.1) rfl rfl (hM21 4 rfl) (rfl) (fun _=>by exact Zf (v:=.int .i64 s10.2.1) rfl) (Za 11 31) ?_))))
      obtain ⟨⟨h14,h15⟩,h⟩:=h
      obtain ⟨Ad18,c16,hv12⟩:=Z0 (hC.getP 1 rfl) s10.2.1.toNat (show s10.2.1.toNat < a0.terms.length by omega)
      refine aL 5 (.pointer (some (Ad18.add (s10.2.1.toNat * 9)))) rfl rfl (hM20 5 rfl) (rfl) (fun _ hB_=>by exact Yp (len:=a0.terms.length) ZIh ag162.size (by exact tr rfl hv12) rfl h14 h15) (Za 11 63) (aL 6 (.agg (ZH8 (ZIl (a0.terms.getD s10.2.1.toNat Zyt)))) rfl rfl (hM20 6 rfl) (rfl) (fun _ hB_=>by exact X4 (ZIl (a0.terms.getD s10.2.1.toNat Zyt)) (Yf ((hC.grow hB_).getP 1 rfl) hv12 s10.2.1.toNat (show s10.2.1.toNat < a0.terms.length by omega)) ag162 rfl rfl) (Za 11 127) (aO 7 rfl (Xr (sz:=9) hC [(0,.agg (ZH8 (ZIl (a0.terms.getD s10.2.1.toNat Zyt))))] (ZH9.encs [a0.terms.getD s10.2.1.toNat Zyt]) rfl (fun _=>Zfy (a0.terms.getD s10.2.1.toNat Zyt) _) rfl (by decide) fun b13 w20 hB_ hC=>done (aK (by assumption) (Za 11 255) (Zu 8 (by decide) (by decide) (by kernel_rfl) (by kernel_rfl) rfl ?_)))))
      obtain ⟨hm10,h⟩:=h
      refine Zaw hC 1 ZIh Zfz rfl (by decide) (by decide) rfl (Za9 (hC.getM 0 rfl)) (fun q hq=>ZJa (E:=ETerm) _ q hq) rfl rfl hm10 fun v11 w21 hC=>?_
      replace hC:=Jg hC 1 ((s10.1++[a0.terms.getD s10.2.1.toNat Zyt]).length) (ZH9.encs (s10.1++[a0.terms.getD s10.2.1.toNat Zyt])) rfl (by simp) (by first | (simp [ZIz]; done) | simp [ZIz,Enc.encs])
      refine Z6 0 ZIf rfl sc53.size rfl rfl (Zw (v:=v11) hC 2 [v11] [v11] rfl sc53.size rfl rfl (Zcm (hC.getM 1 rfl)) rfl (Y6 (Xn (hC.getM 1 rfl)) rfl) (ZIc rfl) rfl fun w22 hC=>done (Zv (Zd (Zh (Zb (v:=.int .i64 s10.2.1) rfl (Zq rfl rfl (Zc (v:=.int .i64 (ZA7.wrap (s10.2.1+1))) rfl (done (Zs (Zs ?_))))))))))
      replace hC:=hC.sM [1,2,3,4,5] (M':=[own 162 9 v11 ((s10.1++[a0.terms.getD s10.2.1.toNat Zyt]).length) (ZH9.encs (s10.1++[a0.terms.getD s10.2.1.toNat Zyt])),blk b11 55 [v11],blk b12 55 [.slice none 0 0],blk b10 55 [u1_0],blk b7 55 [u0_0]]) (by decide) rfl
      exact hK10 (s10.1++[a0.terms.getD s10.2.1.toNat Zyt],ZA7.wrap (s10.2.1+1),s10.2.2) _ _ ⟨v11,(sl ⟨rfl,rfl,rfl,rfl,rfl,rfl,rfl,trivial⟩),hC⟩ h
     ·replace h:=Zk h (Xz hb15)
      refine ZIa ?_
      obtain ⟨jn12,hj12,h⟩:=Zjy h
      refine Zj3 (fun e_ w_=>∃ (x12:Bool),Z3 e_ [(2,.int .i64 a2),(3,.pointer (some ⟨b7,0,none⟩)),(4,.pointer (some ⟨b10,0,none⟩)),(6,.pointer (some ⟨b12,0,none⟩)),(7,.pointer (some ⟨b11,0,none⟩)),(8,.int .i64 s10.2.1),(9,.int .i64 s10.2.2),(101,.bool x12)]∧Ctx Nox w0 w_ [own 162 9 v10 s10.1.length (ZH9.encs s10.1),blk b11 55 [v10],blk b12 55 [.slice none 0 0],blk b10 55 [u1_0],blk b7 55 [u0_0]] [ZH7 ZH9.ty.sl a1.terms [u1_0] fp1,ZH7 ZH9.ty.sl a0.terms [u0_0] fp0,ZH7 TForm a0 [u0_0] fp0,ZH7 TForm a1 [u1_0] fp1]∧jn12 x12) ?_ ?_
      ·skip
       refine Yg 18 Ye [0,0,2,6,15,31,63,127,63,511,1023,2047,63,4159,63,28735,61503,127039,262143,524287,1048575] [2,3,7,9,11,13,15,17] [0,1,4,5,6,7,8,9,10,11,12,13,14,15,16,17] (by kernel_rfl) (by kernel_rfl) (by kernel_rfl) (fun hM13 hM11 w23 hB_=>?_)
       replace hC:=hC.grow hB_
       refine aF 0 (.int .i64 s10.2.1) rfl rfl (hM11 0 rfl) (rfl) (fun _=>by exact Zf (v:=.int .i64 s10.2.1) rfl) (Za 21 1) (aF 1 (.pointer (some ⟨b7,0,none⟩)) rfl rfl (hM11 1 rfl) (rfl) (fun _=>by exact Z7 0 ZIf rfl sc53.size rfl rfl) (Za 21 3) (aL 2 (u0_0) rfl rfl (hM13 2 rfl) (rfl) (fun _ hB_=>by exact Z5 (hC.grow hB_) 4 (u0_0) rfl sc53 rfl rfl) (Za 21 7) ?_))
       obtain ⟨Ad23,c17,hv24⟩:=Z1 (hC.getP 1 rfl)
       refine aL 3 (.int .i64 (a0.terms.length:Int)) rfl rfl (hM13 3 rfl) (rfl) (fun _ hB_=>by exact Zb5 ZIh (by exact tr rfl hv24)) (Za 21 15) (aF 4 (.bool (decide (s10.2.1=(a0.terms.length:Int)))) rfl rfl (hM11 4 rfl) (rfl) (fun _=>by exact Zme rfl rfl) (Za 21 31) (aF 5 (.bool (decide (s10.2.1=(a0.terms.length:Int)))) rfl rfl (hM11 5 rfl) (rfl) (fun _=>by exact Zf (v:=.bool (decide (s10.2.1=(a0.terms.length:Int)))) rfl) (Za 21 63) ?_))
       refine Xh (decide (s10.2.1=(a0.terms.length:Int))) (fun hb11=>?_) (fun hb11=>?_)
       ·replace h:=ift h (ct hb11)
        refine Zm Z2 6 undef rfl rfl (by kernel_rfl) (hM11 6 rfl) (fun w_=>.inr ⟨Yk (b:=true) 5 107 rfl (tr rfl (congrArg _ hb11)) (by decide),rfl⟩) (l9:=(Za 21 127)) (by kernel_rfl) (Zm Z2 7 undef rfl rfl (by kernel_rfl) (hM11 7 rfl) (fun w_=>.inr ⟨Yk (b:=true) 5 107 rfl (tr rfl (congrArg _ hb11)) (by decide),rfl⟩) (l9:=(Za 21 255)) (by kernel_rfl) (Zm Z2 8 undef rfl rfl (by kernel_rfl) (hM11 8 rfl) (fun w_=>.inr ⟨Yk (b:=true) 5 107 rfl (tr rfl (congrArg _ hb11)) (by decide),rfl⟩) (l9:=(Za 21 511)) (by kernel_rfl) (Zm Z2 9 undef rfl rfl (by kernel_rfl) (hM11 9 rfl) (fun w_=>.inr ⟨Yk (b:=true) 5 107 rfl (tr rfl (congrArg _ hb11)) (by decide),rfl⟩) (l9:=(Za 21 1023)) (by kernel_rfl) (Zm Z2 10 undef rfl rfl (by kernel_rfl) (hM11 10 rfl) (fun w_=>.inr ⟨Yk (b:=true) 5 107 rfl (tr rfl (congrArg _ hb11)) (by decide),rfl⟩) (l9:=(Za 21 2047)) (by kernel_rfl) (Zm Z2 11 undef rfl rfl (by kernel_rfl) (hM11 11 rfl) (fun w_=>.inr ⟨Yk (b:=true) 5 107 rfl (tr rfl (congrArg _ hb11)) (by decide),rfl⟩) (l9:=(Za 21 4095)) (by kernel_rfl) (Zm Z2 12 undef rfl rfl (by kernel_rfl) (hM11 12 rfl) (fun w_=>.inr ⟨Yk (b:=true) 5 107 rfl (tr rfl (congrArg _ hb11)) (by decide),rfl⟩) (l9:=(Za 21 8191)) (by kernel_rfl) (Zm Z2 13 undef rfl rfl (by kernel_rfl) (hM11 13 rfl) (fun w_=>.inr ⟨Yk (b:=true) 5 107 rfl (tr rfl (congrArg _ hb11)) (by decide),rfl⟩) (l9:=(Za 21 16383)) (by kernel_rfl) ?_)))))))
        refine Zm Z2 14 undef rfl rfl (by kernel_rfl) (hM11 14 rfl) (fun w_=>.inr ⟨Yk (b:=true) 5 107 rfl (tr rfl (congrArg _ hb11)) (by decide),rfl⟩) (l9:=(Za 21 32767)) (by kernel_rfl) (Zm Z2 15 undef rfl rfl (by kernel_rfl) (hM11 15 rfl) (fun w_=>.inr ⟨Yk (b:=true) 5 107 rfl (tr rfl (congrArg _ hb11)) (by decide),rfl⟩) (l9:=(Za 21 65535)) (by kernel_rfl) (Zm Z2 16 undef rfl rfl (by kernel_rfl) (hM11 16 rfl) (fun w_=>.inr ⟨Yk (b:=true) 5 107 rfl (tr rfl (congrArg _ hb11)) (by decide),rfl⟩) (l9:=(Za 21 131071)) (by kernel_rfl) (Zm Z2 17 undef rfl rfl (by kernel_rfl) (hM11 17 rfl) (fun w_=>.inr ⟨Yk (b:=true) 5 107 rfl (tr rfl (congrArg _ hb11)) (by decide),rfl⟩) (l9:=(Za 21 262143)) (by kernel_rfl) (Zu 18 (by decide) (by decide) (by kernel_rfl) (by kernel_rfl) rfl (Zn (b:=true) 5 107 rfl (tr rfl (congrArg _ hb11)) (by decide) (Yc (v:=.bool true) (b:=true) (tr rfl (congrArg _ hb11)) rfl (Zc (v:=.bool true) rfl (done (Zv ?_)))))))))
        exact⟨rfl,_,rfl,true,(sl ⟨rfl,rfl,rfl,rfl,rfl,rfl,rfl,rfl,trivial⟩),hC,h⟩
       ·replace h:=Zk h (cf hb11)
        refine aF 6 (.pointer (some ⟨b10,0,none⟩)) rfl rfl (hM11 6 rfl) (Yn 5 107 rfl rfl hb11) (fun _=>by exact Z7 0 ZIf rfl sc53.size rfl rfl) (Za 21 127) (aL 7 (u1_0) rfl rfl (hM13 7 rfl) (Yn 5 107 rfl rfl hb11) (fun _ hB_=>by exact Z5 (hC.grow hB_) 3 (u1_0) rfl sc53 rfl rfl) (Za 21 255) (aF 8 (.int .i64 s10.2.2) rfl rfl (hM11 8 rfl) (Yn 5 107 rfl rfl hb11) (fun _=>by exact Zf (v:=.int .i64 s10.2.2) rfl) (Za 21 511) ?_))
        obtain ⟨⟨h16,h17⟩,h⟩:=h
        obtain ⟨Ad12,c18,hv13⟩:=Z0 (hC.getP 0 rfl) s10.2.2.toNat (show s10.2.2.toNat < a1.terms.length by omega)
        refine aL 9 (.pointer (some (Ad12.add (s10.2.2.toNat * 9)))) rfl rfl (hM13 9 rfl) (Yn 5 107 rfl rfl hb11) (fun _ hB_=>by exact Yp (len:=a1.terms.length) ZIh ag162.size (by exact tr rfl hv13) rfl h16 h17) (Za 21 1023) (aF 10 (.pointer (some (Ad12.add (s10.2.2.toNat * 9+0)))) rfl rfl (hM11 10 rfl) (Yn 5 107 rfl rfl hb11) (fun _=>by exact Zau (s10.2.2.toNat * 9+0) ZIp rfl ag136.size rfl rfl) (Za 21 2047) (aL 11 (.agg (ZH8 (ZH6 .u8 ((a1.terms.getD s10.2.2.toNat Zyt).mono)))) rfl rfl (hM13 11 rfl) (Yn 5 107 rfl rfl hb11) (fun _ hB_=>by exact X4 (ZH6 .u8 ((a1.terms.getD s10.2.2.toNat Zyt).mono)) (J2 (o:=0) (k:=8) (Yf ((hC.grow hB_).getP 0 rfl) hv13 s10.2.2.toNat (show s10.2.2.toNat < a1.terms.length by omega)) rfl) ag136 rfl rfl) (Za 21 4095) (aF 12 (.pointer (some ⟨b7,0,none⟩)) rfl rfl (hM11 12 rfl) (Yn 5 107 rfl rfl hb11) (fun _=>by exact Z7 0 ZIf rfl sc53.size rfl rfl) (Za 21 8191) (aL 13 (u0_0) rfl rfl (hM13 13 rfl) (Yn 5 107 rfl rfl hb11) (fun _ hB_=>by exact Z5 (hC.grow hB_) 4 (u0_0) rfl sc53 rfl rfl) (Za 21 16383) (aF 14 (.int .i64 s10.2.1) rfl rfl (hM11 14 rfl) (Yn 5 107 rfl rfl hb11) (fun _=>by exact Zf (v:=.int .i64 s10.2.1) rfl) (Za 21 32767) ?_)))))
        obtain ⟨⟨h18,h19⟩,h⟩:=h
        obtain ⟨Ad13,c19,hv14⟩:=Z0 (hC.getP 1 rfl) s10.2.1.toNat (show s10.2.1.toNat < a0.terms.length by omega)
        refine aL 15 (.pointer (some (Ad13.add (s10.2.1.toNat * 9)))) rfl rfl (hM13 15 rfl) (Yn 5 107 rfl rfl hb11) (fun _ hB_=>by exact Yp (len:=a0.terms.length) ZIh ag162.size (by exact tr rfl hv14) rfl h18 h19) (Za 21 65535) (aF 16 (.pointer (some (Ad13.add (s10.2.1.toNat * 9+0)))) rfl rfl (hM11 16 rfl) (Yn 5 107 rfl rfl hb11) (fun _=>by exact Zau (s10.2.1.toNat * 9+0) ZIp rfl ag136.size rfl rfl) (Za 21 131071) (aL 17 (.agg (ZH8 (ZH6 .u8 ((a0.terms.getD s10.2.1.toNat Zyt).mono)))) rfl rfl (hM13 17 rfl) (Yn 5 107 rfl rfl hb11) (fun _ hB_=>by exact X4 (ZH6 .u8 ((a0.terms.getD s10.2.1.toNat Zyt).mono)) (J2 (o:=0) (k:=8) (Yf ((hC.grow hB_).getP 1 rfl) hv14 s10.2.1.toNat (show s10.2.1.toNat < a0.terms.length by omega)) rfl) ag136 rfl rfl) (Za 21 262143) (Zu 18 (by decide) (by decide) (by kernel_rfl) (by kernel_rfl) rfl (Zl 5 107 rfl rfl hb11 ?_))))
        refine Zg [.agg (ZH8 (ZH6 .u8 ((a1.terms.getD s10.2.2.toNat Zyt).mono))),.agg (ZH8 (ZH6 .u8 ((a0.terms.getD s10.2.1.toNat Zyt).mono)))] _ ZI8 rfl rfl rfl (Zkt ((a1.terms.getD s10.2.2.toNat Zyt).mono) ((a0.terms.getD s10.2.1.toNat Zyt).mono) h _) (fun ret11 w24 hR11=>?_)
        obtain ⟨r13,rfl,h,hB11⟩:=hR11
        refine⟨_,rfl,?_⟩
        replace hC:=hC.grow hB11
        refine Yc (v:=.bool r13) (b:=false) (tr rfl (congrArg _ hb11)) rfl (Zc (v:=.bool r13) rfl (done (Zv ?_)))
        exact⟨rfl,_,rfl,r13,(sl ⟨rfl,rfl,rfl,rfl,rfl,rfl,rfl,rfl,trivial⟩),hC,h⟩
      ·clear hC h
       rintro e_ w25 ⟨x12,hS_,hC,h⟩
       replace h:=hj12 _ h
       rw [ue hS_]
       refine Zd ?_
       refine Zr rfl (fun hb16=>?_) (fun hb16=>?_)
       ·replace h:=ift h (hb16)
        refine ZIa (sr (Zb (v:=.int .i64 a2) rfl (Z6 0 ZIf rfl sc53.size rfl rfl (Z8 hC 3 (u1_0) rfl sc53 rfl rfl (Zb (v:=.int .i64 s10.2.2) rfl ?_)))))
        obtain ⟨⟨h20,h21⟩,h⟩:=h
        obtain ⟨Ad24,c20,hv15⟩:=Z0 (hC.getP 0 rfl) s10.2.2.toNat (show s10.2.2.toNat < a1.terms.length by omega)
        refine Xb (len:=a1.terms.length) ZIh ag162.size (tr rfl hv15) rfl h20 h21 (Zea (s10.2.2.toNat * 9+8) ZIp rfl sc2.size rfl rfl (Xm (.int .i64 ((a1.terms.getD s10.2.2.toNat Zyt).factor)) (J2 (o:=8) (k:=1) (Yf (hC.getP 0 rfl) hv15 s10.2.2.toNat (show s10.2.2.toNat < a1.terms.length by omega)) rfl) sc2 rfl (Ju rfl rfl ?_)))
        refine Zg [.int .i64 (ZA7.wrap (a2 * ((a1.terms.getD s10.2.2.toNat Zyt).factor)))] _ ZIx rfl rfl rfl (Zbn (ZA7.wrap (a2 * ((a1.terms.getD s10.2.2.toNat Zyt).factor))) h _) (fun ret12 w26 hR12=>?_)
        obtain ⟨r10,rfl,h,hB12⟩:=hR12
        refine⟨_,rfl,?_⟩
        replace hC:=hC.grow hB12
        refine Zc (v:=.int .i64 r10) rfl (dn (sr (Zb (v:=.int .i64 r10) rfl (Xl rfl rfl (dn ?_)))))
        refine Zr rfl (fun hb17=>?_) (fun hb17=>?_)
        ·replace h:=ift h (ct hb17)
         refine Yg 11 Ye [0,1,0,4,0,28,60,124,0,508,1020,2047,4095,8191] [1,3,5,7,9] [0,2,4,6,8] (by kernel_rfl) (by kernel_rfl) (by kernel_rfl) (fun hM16 hM17 w27 hB_=>?_)
         replace hC:=hC.grow hB_
         refine aF 0 (.pointer (some ⟨b11,0,none⟩)) rfl rfl (hM17 0 rfl) (rfl) (fun _=>by exact Z7 0 ZIf rfl sc53.size rfl rfl) (Za 14 1) (aL 1 (v10) rfl rfl (hM16 1 rfl) (rfl) (fun _ hB_=>by exact Z5 (hC.grow hB_) 1 (v10) rfl sc53 rfl rfl) (Za 14 3) (aF 2 (.pointer (some ⟨b10,0,none⟩)) rfl rfl (hM17 2 rfl) (rfl) (fun _=>by exact Z7 0 ZIf rfl sc53.size rfl rfl) (Za 14 7) (aL 3 (u1_0) rfl rfl (hM16 3 rfl) (rfl) (fun _ hB_=>by exact Z5 (hC.grow hB_) 3 (u1_0) rfl sc53 rfl rfl) (Za 14 15) (aF 4 (.int .i64 s10.2.2) rfl rfl (hM17 4 rfl) (rfl) (fun _=>by exact Zf (v:=.int .i64 s10.2.2) rfl) (Za 14 31) ?_))))
         obtain ⟨⟨h22,h23⟩,h⟩:=h
         obtain ⟨Ad14,c21,hv16⟩:=Z0 (hC.getP 0 rfl) s10.2.2.toNat (show s10.2.2.toNat < a1.terms.length by omega)
         refine aL 5 (.pointer (some (Ad14.add (s10.2.2.toNat * 9)))) rfl rfl (hM16 5 rfl) (rfl) (fun _ hB_=>by exact Yp (len:=a1.terms.length) ZIh ag162.size (by exact tr rfl hv16) rfl h22 h23) (Za 14 63) (aF 6 (.pointer (some (Ad14.add (s10.2.2.toNat * 9+0)))) rfl rfl (hM17 6 rfl) (rfl) (fun _=>by exact Zau (s10.2.2.toNat * 9+0) ZIp rfl ag136.size rfl rfl) (Za 14 127) (aL 7 (.agg (ZH8 (ZH6 .u8 ((a1.terms.getD s10.2.2.toNat Zyt).mono)))) rfl rfl (hM16 7 rfl) (rfl) (fun _ hB_=>by exact X4 (ZH6 .u8 ((a1.terms.getD s10.2.2.toNat Zyt).mono)) (J2 (o:=0) (k:=8) (Yf ((hC.grow hB_).getP 0 rfl) hv16 s10.2.2.toNat (show s10.2.2.toNat < a1.terms.length by omega)) rfl) ag136 rfl rfl) (Za 14 255) (aF 8 (.int .i64 r10) rfl rfl (hM17 8 rfl) (rfl) (fun _=>by exact Zf (v:=.int .i64 r10) rfl) (Za 14 511) (aL 9 (.agg (ZH8 (ZIl (⟨(a1.terms.getD s10.2.2.toNat Zyt).mono,r10⟩:Term)))) rfl rfl (hM16 9 rfl) (rfl) (fun _ hB_=>by exact Zjx [(0,.agg (ZH8 (ZH6 .u8 ((a1.terms.getD s10.2.2.toNat Zyt).mono)))),(1,.int .i64 r10)] rfl (Zim ((a1.terms.getD s10.2.2.toNat Zyt).mono) r10  _)) (Za 14 1023) (aO 10 rfl (Xr (sz:=9) hC [(0,.agg (ZH8 (ZIl (⟨(a1.terms.getD s10.2.2.toNat Zyt).mono,r10⟩:Term))))] (ZH9.encs [(⟨(a1.terms.getD s10.2.2.toNat Zyt).mono,r10⟩:Term)]) rfl (fun _=>Zfy (⟨(a1.terms.getD s10.2.2.toNat Zyt).mono,r10⟩:Term) _) rfl (by decide) fun b14 w28 hB_ hC=>?_))))))
         refine done (aK (by assumption) (Za 14 2047) (Zu 11 (by decide) (by decide) (by kernel_rfl) (by kernel_rfl) rfl ?_))
         obtain ⟨hm11,h⟩:=h
         refine Zaw hC 1 ZIh Zfz rfl (by decide) (by decide) rfl (Za9 (hC.getM 0 rfl)) (fun q hq=>ZJa (E:=ETerm) _ q hq) rfl rfl hm11 fun v12 w29 hC=>?_
         replace hC:=Jg hC 1 ((s10.1++[(⟨(a1.terms.getD s10.2.2.toNat Zyt).mono,r10⟩:Term)]).length) (ZH9.encs (s10.1++[(⟨(a1.terms.getD s10.2.2.toNat Zyt).mono,r10⟩:Term)])) rfl (by simp) (by first | (simp [ZIz]; done) | simp [ZIz,Enc.encs])
         refine Z6 0 ZIf rfl sc53.size rfl rfl (Zw (v:=v12) hC 2 [v12] [v12] rfl sc53.size rfl rfl (Zcm (hC.getM 1 rfl)) rfl (Y6 (Xn (hC.getM 1 rfl)) rfl) (ZIc rfl) rfl fun w30 hC=>done (Zv (Zd (Zh (Zb (v:=.int .i64 s10.2.2) rfl (Zq rfl rfl (Zc (v:=.int .i64 (ZA7.wrap (s10.2.2+1))) rfl (done (Zs (Zs ?_))))))))))
         replace hC:=hC.sM [1,2,3,4,5] (M':=[own 162 9 v12 ((s10.1++[(⟨(a1.terms.getD s10.2.2.toNat Zyt).mono,r10⟩:Term)]).length) (ZH9.encs (s10.1++[(⟨(a1.terms.getD s10.2.2.toNat Zyt).mono,r10⟩:Term)])),blk b11 55 [v12],blk b12 55 [.slice none 0 0],blk b10 55 [u1_0],blk b7 55 [u0_0]]) (by decide) rfl
         exact hK10 (s10.1++[(⟨(a1.terms.getD s10.2.2.toNat Zyt).mono,r10⟩:Term)],s10.2.1,ZA7.wrap (s10.2.2+1)) _ _ ⟨v12,(sl ⟨rfl,rfl,rfl,rfl,rfl,rfl,rfl,trivial⟩),hC⟩ h
        ·replace h:=Zk h (cf hb17)
         refine ZIe (Zd (Zh (Zb (v:=.int .i64 s10.2.2) rfl (Zq rfl rfl (Zc (v:=.int .i64 (ZA7.wrap (s10.2.2+1))) rfl (done (Zs (Zs ?_))))))))
         exact hK10 (s10.1,s10.2.1,ZA7.wrap (s10.2.2+1)) _ _ ⟨v10,(sl ⟨rfl,rfl,rfl,rfl,rfl,rfl,rfl,trivial⟩),hC⟩ h
       ·replace h:=Zk h (Xz hb16)
        refine ZIa (ZIa ?_)
        refine Yg 15 Ye [0,1,0,7,15,31,0,0,128,0,896,1920,3968,8128,16320,32767,65535,131071] [1,3,5,8,10,12] [0,2,4,6,7,9,11,13] (by kernel_rfl) (by kernel_rfl) (by kernel_rfl) (fun hM15 hM14 w31 hB_=>?_)
        replace hC:=hC.grow hB_
        refine aF 0 (.pointer (some ⟨b7,0,none⟩)) rfl rfl (hM14 0 rfl) (rfl) (fun _=>by exact Z7 0 ZIf rfl sc53.size rfl rfl) (Za 18 1) (aL 1 (u0_0) rfl rfl (hM15 1 rfl) (rfl) (fun _ hB_=>by exact Z5 (hC.grow hB_) 4 (u0_0) rfl sc53 rfl rfl) (Za 18 3) (aF 2 (.int .i64 s10.2.1) rfl rfl (hM14 2 rfl) (rfl) (fun _=>by exact Zf (v:=.int .i64 s10.2.1) rfl) (Za 18 7) ?_))
        obtain ⟨⟨h24,h25⟩,h⟩:=h
        obtain ⟨Ad15,c22,hv17⟩:=Z0 (hC.getP 1 rfl) s10.2.1.toNat (show s10.2.1.toNat < a0.terms.length by omega)
        refine aL 3 (.pointer (some (Ad15.add (s10.2.1.toNat * 9)))) rfl rfl (hM15 3 rfl) (rfl) (fun _ hB_=>by exact Yp (len:=a0.terms.length) ZIh ag162.size (by exact tr rfl hv17) rfl h24 h25) (Za 18 15) (aF 4 (.pointer (some (Ad15.add (s10.2.1.toNat * 9+8)))) rfl rfl (hM14 4 rfl) (rfl) (fun _=>by exact Zau (s10.2.1.toNat * 9+8) ZIp rfl sc2.size rfl rfl) (Za 18 31) (aL 5 (.int .i64 ((a0.terms.getD s10.2.1.toNat Zyt).factor)) rfl rfl (hM15 5 rfl) (rfl) (fun _ hB_=>by exact Xc (.int .i64 ((a0.terms.getD s10.2.1.toNat Zyt).factor)) (J2 (o:=8) (k:=1) (Yf ((hC.grow hB_).getP 1 rfl) hv17 s10.2.1.toNat (show s10.2.1.toNat < a0.terms.length by omega)) rfl) sc2 rfl) (Za 18 63) (aF 6 (.int .i64 a2) rfl rfl (hM14 6 rfl) (rfl) (fun _=>by exact Zf (v:=.int .i64 a2) rfl) (Za 18 127) (aF 7 (.pointer (some ⟨b10,0,none⟩)) rfl rfl (hM14 7 rfl) (rfl) (fun _=>by exact Z7 0 ZIf rfl sc53.size rfl rfl) (Za 18 255) (aL 8 (u1_0) rfl rfl (hM15 8 rfl) (rfl) (fun _ hB_=>by exact Z5 (hC.grow hB_) 3 (u1_0) rfl sc53 rfl rfl) (Za 18 511) (aF 9 (.int .i64 s10.2.2) rfl rfl (hM14 9 rfl) (rfl) (fun _=>by exact Zf (v:=.int .i64 s10.2.2) rfl) (Za 18 1023) ?_))))))
        obtain ⟨⟨h26,h27⟩,h⟩:=h
        obtain ⟨Ad16,c23,hv18⟩:=Z0 (hC.getP 0 rfl) s10.2.2.toNat (show s10.2.2.toNat < a1.terms.length by omega)
        refine aL 10 (.pointer (some (Ad16.add (s10.2.2.toNat * 9)))) rfl rfl (hM15 10 rfl) (rfl) (fun _ hB_=>by exact Yp (len:=a1.terms.length) ZIh ag162.size (by exact tr rfl hv18) rfl h26 h27) (Za 18 2047) (aF 11 (.pointer (some (Ad16.add (s10.2.2.toNat * 9+8)))) rfl rfl (hM14 11 rfl) (rfl) (fun _=>by exact Zau (s10.2.2.toNat * 9+8) ZIp rfl sc2.size rfl rfl) (Za 18 4095) (aL 12 (.int .i64 ((a1.terms.getD s10.2.2.toNat Zyt).factor)) rfl rfl (hM15 12 rfl) (rfl) (fun _ hB_=>by exact Xc (.int .i64 ((a1.terms.getD s10.2.2.toNat Zyt).factor)) (J2 (o:=8) (k:=1) (Yf ((hC.grow hB_).getP 0 rfl) hv18 s10.2.2.toNat (show s10.2.2.toNat < a1.terms.length by omega)) rfl) sc2 rfl) (Za 18 8191) (aF 13 (.int .i64 (ZA7.wrap (a2 * ((a1.terms.getD s10.2.2.toNat Zyt).factor)))) rfl rfl (hM14 13 rfl) (rfl) (fun _=>by exact Zbi rfl rfl) (Za 18 16383) (aO 14 rfl ?_))))
        refine Zg [.int .i64 (ZA7.wrap (a2 * ((a1.terms.getD s10.2.2.toNat Zyt).factor)))] _ ZIx rfl rfl rfl (Zbn (ZA7.wrap (a2 * ((a1.terms.getD s10.2.2.toNat Zyt).factor))) h _) (fun ret13 w32 hR13=>?_)
        obtain ⟨r14,rfl,h,hB13⟩:=hR13
        refine⟨_,rfl,?_⟩
        replace hC:=hC.grow hB13
        refine done (aK (by assumption) (Za 18 32767) (Zu 15 (by decide) (by decide) (by kernel_rfl) (by kernel_rfl) rfl (Zq rfl rfl ?_)))
        refine Zg [.int .i64 (ZA7.wrap (((a0.terms.getD s10.2.1.toNat Zyt).factor)+r14))] _ ZIx rfl rfl rfl (Zbn (ZA7.wrap (((a0.terms.getD s10.2.1.toNat Zyt).factor)+r14)) h _) (fun ret14 w33 hR14=>?_)
        obtain ⟨r11,rfl,h,hB14⟩:=hR14
        refine⟨_,rfl,?_⟩
        replace hC:=hC.grow hB14
        refine Zc (v:=.int .i64 r11) rfl (done (Zv (Zd (sr (Zb (v:=.int .i64 r11) rfl (Xl rfl rfl (dn ?_)))))))
        refine Zr rfl (fun hb18=>?_) (fun hb18=>?_)
        ·replace h:=ift h (ct hb18)
         refine Yg 11 Ye [0,1,0,4,0,28,60,124,0,508,1020,2047,4095,8191] [1,3,5,7,9] [0,2,4,6,8] (by kernel_rfl) (by kernel_rfl) (by kernel_rfl) (fun hM18 hM19 w34 hB_=>?_)
         replace hC:=hC.grow hB_
         refine aF 0 (.pointer (some ⟨b11,0,none⟩)) rfl rfl (hM19 0 rfl) (rfl) (fun _=>by exact Z7 0 ZIf rfl sc53.size rfl rfl) (Za 14 1) (aL 1 (v10) rfl rfl (hM18 1 rfl) (rfl) (fun _ hB_=>by exact Z5 (hC.grow hB_) 1 (v10) rfl sc53 rfl rfl) (Za 14 3) (aF 2 (.pointer (some ⟨b7,0,none⟩)) rfl rfl (hM19 2 rfl) (rfl) (fun _=>by exact Z7 0 ZIf rfl sc53.size rfl rfl) (Za 14 7) (aL 3 (u0_0) rfl rfl (hM18 3 rfl) (rfl) (fun _ hB_=>by exact Z5 (hC.grow hB_) 4 (u0_0) rfl sc53 rfl rfl) (Za 14 15) (aF 4 (.int .i64 s10.2.1) rfl rfl (hM19 4 rfl) (rfl) (fun _=>by exact Zf (v:=.int .i64 s10.2.1) rfl) (Za 14 31) ?_))))
         obtain ⟨⟨h28,h29⟩,h⟩:=h
         obtain ⟨Ad17,c24,hv19⟩:=Z0 (hC.getP 1 rfl) s10.2.1.toNat (show s10.2.1.toNat < a0.terms.length by omega)
         refine aL 5 (.pointer (some (Ad17.add (s10.2.1.toNat * 9)))) rfl rfl (hM18 5 rfl) (rfl) (fun _ hB_=>by exact Yp (len:=a0.terms.length) ZIh ag162.size (by exact tr rfl hv19) rfl h28 h29) (Za 14 63) (aF 6 (.pointer (some (Ad17.add (s10.2.1.toNat * 9+0)))) rfl rfl (hM19 6 rfl) (rfl) (fun _=>by exact Zau (s10.2.1.toNat * 9+0) ZIp rfl ag136.size rfl rfl) (Za 14 127) (aL 7 (.agg (ZH8 (ZH6 .u8 ((a0.terms.getD s10.2.1.toNat Zyt).mono)))) rfl rfl (hM18 7 rfl) (rfl) (fun _ hB_=>by exact X4 (ZH6 .u8 ((a0.terms.getD s10.2.1.toNat Zyt).mono)) (J2 (o:=0) (k:=8) (Yf ((hC.grow hB_).getP 1 rfl) hv19 s10.2.1.toNat (show s10.2.1.toNat < a0.terms.length by omega)) rfl) ag136 rfl rfl) (Za 14 255) (aF 8 (.int .i64 r11) rfl rfl (hM19 8 rfl) (rfl) (fun _=>by exact Zf (v:=.int .i64 r11) rfl) (Za 14 511) (aL 9 (.agg (ZH8 (ZIl (⟨(a0.terms.getD s10.2.1.toNat Zyt).mono,r11⟩:Term)))) rfl rfl (hM18 9 rfl) (rfl) (fun _ hB_=>by exact Zjx [(0,.agg (ZH8 (ZH6 .u8 ((a0.terms.getD s10.2.1.toNat Zyt).mono)))),(1,.int .i64 r11)] rfl (Zim ((a0.terms.getD s10.2.1.toNat Zyt).mono) r11  _)) (Za 14 1023) (aO 10 rfl (Xr (sz:=9) hC [(0,.agg (ZH8 (ZIl (⟨(a0.terms.getD s10.2.1.toNat Zyt).mono,r11⟩:Term))))] (ZH9.encs [(⟨(a0.terms.getD s10.2.1.toNat Zyt).mono,r11⟩:Term)]) rfl (fun _=>Zfy (⟨(a0.terms.getD s10.2.1.toNat Zyt).mono,r11⟩:Term) _) rfl (by decide) fun b15 w35 hB_ hC=>?_))))))
         refine done (aK (by assumption) (Za 14 2047) (Zu 11 (by decide) (by decide) (by kernel_rfl) (by kernel_rfl) rfl ?_))
         obtain ⟨hm12,h⟩:=h
         refine Zaw hC 1 ZIh Zfz rfl (by decide) (by decide) rfl (Za9 (hC.getM 0 rfl)) (fun q hq=>ZJa (E:=ETerm) _ q hq) rfl rfl hm12 fun v13 w36 hC=>?_
         replace hC:=Jg hC 1 ((s10.1++[(⟨(a0.terms.getD s10.2.1.toNat Zyt).mono,r11⟩:Term)]).length) (ZH9.encs (s10.1++[(⟨(a0.terms.getD s10.2.1.toNat Zyt).mono,r11⟩:Term)])) rfl (by simp) (by first | (simp [ZIz]; done) | simp [ZIz,Enc.encs])
         refine Z6 0 ZIf rfl sc53.size rfl rfl (Zw (v:=v13) hC 2 [v13] [v13] rfl sc53.size rfl rfl (Zcm (hC.getM 1 rfl)) rfl (Y6 (Xn (hC.getM 1 rfl)) rfl) (ZIc rfl) rfl fun w37 hC=>done (Zv (Zd (sr (Zb (v:=.int .i64 s10.2.1) rfl (Zq rfl rfl (Zc (v:=.int .i64 (ZA7.wrap (s10.2.1+1))) rfl (dn (Zh (Zb (v:=.int .i64 s10.2.2) rfl ?_))))))))))
         refine Zq rfl rfl (Zc (v:=.int .i64 (ZA7.wrap (s10.2.2+1))) rfl (done (Zs (Zs ?_))))
         replace hC:=hC.sM [1,2,3,4,5] (M':=[own 162 9 v13 ((s10.1++[(⟨(a0.terms.getD s10.2.1.toNat Zyt).mono,r11⟩:Term)]).length) (ZH9.encs (s10.1++[(⟨(a0.terms.getD s10.2.1.toNat Zyt).mono,r11⟩:Term)])),blk b11 55 [v13],blk b12 55 [.slice none 0 0],blk b10 55 [u1_0],blk b7 55 [u0_0]]) (by decide) rfl
         exact hK10 (s10.1++[(⟨(a0.terms.getD s10.2.1.toNat Zyt).mono,r11⟩:Term)],ZA7.wrap (s10.2.1+1),ZA7.wrap (s10.2.2+1)) _ _ ⟨v13,(sl ⟨rfl,rfl,rfl,rfl,rfl,rfl,rfl,trivial⟩),hC⟩ h
        ·replace h:=Zk h (cf hb18)
         refine ZIe (Zd (sr (Zb (v:=.int .i64 s10.2.1) rfl (Zq rfl rfl (Zc (v:=.int .i64 (ZA7.wrap (s10.2.1+1))) rfl (dn (Zh (Zb (v:=.int .i64 s10.2.2) rfl (Zq rfl rfl (Zc (v:=.int .i64 (ZA7.wrap (s10.2.2+1))) rfl (done ?_)))))))))))
         refine Zs (Zs ?_)
         exact hK10 (s10.1,ZA7.wrap (s10.2.1+1),ZA7.wrap (s10.2.2+1)) _ _ ⟨v10,(sl ⟨rfl,rfl,rfl,rfl,rfl,rfl,rfl,trivial⟩),hC⟩ h
   ·replace h:=Zk h (Xz hb14)
    refine ZIr (Zj (Zj (Z9 ?_)))
    refine Zd (sr (Yy hC 1 [v10] rfl ag55 rfl rfl rfl (Zw (v:=.agg #[v10]) hC 2 [v10] [v10] rfl ag55.size rfl rfl rfl rfl (Y6 (Xn (hC.getM 0 rfl)) rfl) (ZIc rfl) rfl fun w38 hC=>dn (ZIi ?_))))
    refine Zp (fn:=Tryz.f124) rfl ?_ ⟨(⟨s10.1⟩:ZIb),v10,(ZI5 (Zzn v10)),rfl,h,(Za4 (Jr (hC.getM 0 rfl))),(X5 hC 0 rfl),hC.below⟩ (.inl rfl)
    exact Zag hC 2 rfl ag55 rfl rfl
 ·skip
  replace hC:=hC.pushNil 162 9
  exact⟨.slice none 0 0,(sl ⟨rfl,rfl,rfl,rfl,rfl,rfl,rfl,trivial⟩),hC⟩
def Zf3 (a0:List Int) (a1:A8) (a2:A8) (K:A8→Int→Prop):Prop :=
 Yt (fun i10 (s11:A8×Int) nx10=>((0≤(i10:Int)∧(i10:Int) < 8)∧((0≤(i10:Int)∧(i10:Int) < 8)∧((0≤(i10:Int)∧(i10:Int) < 8)∧(if Zyy (a0.getD i10 Zyt) 2=0 then nx10 (s11.1.set i10 (ZIk.wrap ((a1.get i10)+(a2.get i10))),s11.2) else((0≤(i10:Int)∧(i10:Int) < 8)∧(if(s11.1.set i10 (ZIk.wrap ((a1.get i10)+(a2.get i10)))).get i10 > 1 then K ZIg 0 else Xj (fun (s10:Int×Int) nx11=>(if s10.1 < (a0.length:Int) then((0≤(i10:Int)∧(i10:Int) < 8)∧(if a2.get i10=1 then((0≤s10.1∧s10.1 < (a0.length:Int))∧(if Zyy (a0.getD s10.1.toNat Zyt) 2≠0 then((0≤s10.1∧s10.1 < 8)∧(if a1.get s10.1.toNat=1 then nx11 (ZA7.wrap (s10.1+1),ZA7.wrap (0 - s10.2)) else nx11 (ZA7.wrap (s10.1+1),s10.2))) else nx11 (ZA7.wrap (s10.1+1),s10.2))) else nx10 (s11.1.set i10 (ZIk.wrap ((a1.get i10)+(a2.get i10))),s10.2))) else nx10 (s11.1.set i10 (ZIk.wrap ((a1.get i10)+(a2.get i10))),s10.2))) (ZA7.wrap ((i10:Int)+1),s11.2)))))))) (fun (s11:A8×Int)=>K s11.1 s11.2) a0.length 0 (ZIg,1)
theorem Znv (a0 : List Int) (a1 : A8) (a2 : A8) {u0_0 : Value} {fp0 : List Nat} {K : A8 → Int → Prop} (h : Zf3 a0 a1 a2 K) (w0 : World) (q0 : ((EI .i64).ty.sl).rep a0 [u0_0] fp0 w0) :
  Calls ZId 196 #[u0_0,.agg (ZH8 (ZH6 .u8 a1)),.agg (ZH8 (ZH6 .u8 a2))] w0 fun e w'=>∃ (r0:A8) (r1:Int),
   e=.returned (.tuple #[.agg (ZH8 (ZH6 .u8 r0)),.int .i64 r1])∧K r0 r1∧Bel w0 w':=by
 unfold Zf3 at h
 refine Z4 (args:=[u0_0,.agg (ZH8 (ZH6 .u8 a1)),.agg (ZH8 (ZH6 .u8 a2))]) ZJj rfl 69 Tryz.ntmps196 (ZIc rfl) ?_
 have hC:=ZIt (X:=Nox) w0 [ZH7 ((EI .i64).ty.sl) a0 [u0_0] fp0] (by simp only [Zyz,ZAt,or_false,forall_eq_or_imp,forall_eq]; exact q0)
 refine sr (Yl (v:=.agg (ZH8 (ZH6 .u8 a1))) hC (ZH6 .u8 a1) rfl rfl fun b2 w4 hB_ hC=>Yl (v:=.agg (ZH8 (ZH6 .u8 a2))) hC (ZH6 .u8 a2) rfl rfl fun b5 w7 hB_ hC=>Yj hC (ZH6 .u8 ZIg) Za6 rfl fun b8 w10 hB_ hC=>Zc (v:=.int .i64 0) rfl (dn (sr (Jn [] rfl (Zin   _) (Yj hC (ZH6 .u8 ZIg) Za6 rfl fun b10 w11 hB_ hC=>Zw (v:=.agg (ZH8 (ZH6 .u8 ZIg))) hC 0 (ZH6 .u8 ZIg) (ZH6 .u8 ZIg) rfl ag136.size rfl rfl rfl rfl rfl (ZIc rfl) rfl fun w12 hC=>Zc (v:=.int .i64 1) rfl (dn ?_))))))
 refine ZIa (sr (Zc (v:=.int .i64 0) rfl (dn (ZIj ?_))))
 have hN10:a0.length≤9223372036854775807:=Xp (hC.getP 0 rfl)
 refine Y9 (S:=A8×Int) _ _ (fun i10 s11 e_ w_=>Z3 e_ [(0,u0_0),(4,.pointer (some ⟨b2,0,none⟩)),(5,.pointer (some ⟨b5,0,none⟩)),(6,.pointer (some ⟨b8,0,none⟩)),(8,.pointer (some ⟨b10,0,none⟩)),(9,.int .i64 s11.2),(10,.int .i64 (i10:Int))]∧Ctx Nox w0 w_ [blk b10 136 (ZH6 .u8 s11.1),blk b8 136 (ZH6 .u8 ZIg),blk b5 136 (ZH6 .u8 a2),blk b2 136 (ZH6 .u8 a1)] [ZH7 ((EI .i64).ty.sl) a0 [u0_0] fp0]) a0.length ?_ ?_ (s0:=(ZIg,1)) ?_ h
 ·clear hC h
  rintro i10 s11 e_ w13 nx10 K10 hi10 ⟨hS_,hC⟩ h hK10
  rw [ue hS_]
  refine ZIa (sr (Zb (v:=.int .i64 (i10:Int)) rfl (Zb (v:=u0_0) rfl ?_)))
  obtain ⟨Ad10,c10,hv12⟩:=Z1 (hC.getP 0 rfl)
  refine Zx ZIs (tr rfl hv12) (Zt rfl rfl (dn (Yr rfl (decide_eq_true (by omega)) (ZIe (Zd (ZIa (ZIj (ZIa ?_))))))))
  refine Yg 8 Ye [0,0,2,6,0,16,48,126,255,511] [2,3,5,6] [0,1,4,7] (by kernel_rfl) (by kernel_rfl) (by kernel_rfl) (fun hM10 hM11 w14 hB_=>?_)
  replace hC:=hC.grow hB_
  refine aF 0 (.int .i64 (i10:Int)) rfl rfl (hM11 0 rfl) (rfl) (fun _=>by exact Zf (v:=.int .i64 (i10:Int)) rfl) (Za 10 1) (aF 1 (.int .i64 (i10:Int)) rfl rfl (hM11 1 rfl) (rfl) (fun _=>by exact Zf (v:=.int .i64 (i10:Int)) rfl) (Za 10 3) ?_)
  obtain ⟨⟨h10,h11⟩,h⟩:=h
  refine aL 2 (.pointer (some ⟨b2,i10,none⟩)) rfl rfl (hM10 2 rfl) (rfl) (fun _ hB_=>by exact Zaa i10 ZIn sc5.size rfl rfl h10 h11 (by omega)) (Za 10 7) (aL 3 (.int .u8 (a1.get i10)) rfl rfl (hM10 3 rfl) (rfl) (fun _ hB_=>by exact Z5 (hC.grow hB_) 3 (.int .u8 (a1.get i10)) rfl sc5 rfl (ZIu _ _ (show i10 < 8 by omega))) (Za 10 15) (aF 4 (.int .i64 (i10:Int)) rfl rfl (hM11 4 rfl) (rfl) (fun _=>by exact Zf (v:=.int .i64 (i10:Int)) rfl) (Za 10 31) ?_))
  obtain ⟨⟨h12,h13⟩,h⟩:=h
  refine aL 5 (.pointer (some ⟨b5,i10,none⟩)) rfl rfl (hM10 5 rfl) (rfl) (fun _ hB_=>by exact Zaa i10 ZIn sc5.size rfl rfl h12 h13 (by omega)) (Za 10 63) (aL 6 (.int .u8 (a2.get i10)) rfl rfl (hM10 6 rfl) (rfl) (fun _ hB_=>by exact Z5 (hC.grow hB_) 2 (.int .u8 (a2.get i10)) rfl sc5 rfl (ZIu _ _ (show i10 < 8 by omega))) (Za 10 127) (aF 7 (.int .u8 (ZIk.wrap ((a1.get i10)+(a2.get i10)))) rfl rfl (hM11 7 rfl) (rfl) (fun _=>by exact Zdh rfl rfl) (Za 10 255) (Zu 8 (by decide) (by decide) (by kernel_rfl) (by kernel_rfl) rfl ?_)))
  obtain ⟨⟨h14,h15⟩,h⟩:=h
  refine Y5 i10 ZIn sc5.size rfl rfl h14 h15 (by omega) (Zw (v:=.int .u8 (ZIk.wrap ((a1.get i10)+(a2.get i10)))) hC 0 [.int .u8 (ZIk.wrap ((a1.get i10)+(a2.get i10)))] (ZH6 .u8 (s11.1.set i10 (ZIk.wrap ((a1.get i10)+(a2.get i10))))) rfl sc5.size rfl rfl rfl rfl rfl (show i10 < 8 by omega) (ZI3 _ _ _ (show i10 < 8 by omega)) fun w15 hC=>done (Zv (Zd (ZIa (sr (Zb (v:=u0_0) rfl (Zb (v:=.int .i64 (i10:Int)) rfl ?_)))))))
  obtain ⟨Ad11,c11,hv10⟩:=Z0 (hC.getP 0 rfl) i10 hi10
  refine Xb (len:=a0.length) ZIs sc2.size (tr rfl hv10) rfl (ZIv _) (ZJi.2 hi10) (Xm (.int .i64 (a0.getD i10 Zyt)) (Yf (hC.getP 0 rfl) hv10 i10 hi10) sc2 rfl (X0 rfl rfl (by decide) (Jm rfl rfl (dn ?_))))
  refine Zr rfl (fun hb12=>?_) (fun hb12=>?_)
  ·replace h:=ift h (ct hb12)
   refine ZIr (Zj (Z9 ?_))
   refine Zd (Zh (Zb (v:=.int .i64 (i10:Int)) rfl (Zq rfl rfl (Zc (v:=.int .i64 (ZA7.wrap ((i10:Int)+1))) rfl (done ?_)))))
   exact hK10 (s11.1.set i10 (ZIk.wrap ((a1.get i10)+(a2.get i10))),s11.2) _ _ ⟨(sl ⟨rfl,rfl,rfl,rfl,rfl,rfl,(tr rfl (congrArg _ (Yh hi10 hN10))),trivial⟩),hC⟩ h
  ·replace h:=Zk h (cf hb12)
   refine ZIe (Zd (ZIa (sr (Zb (v:=.int .i64 (i10:Int)) rfl ?_))))
   obtain ⟨⟨h16,h17⟩,h⟩:=h
   refine Y5 i10 ZIn sc5.size rfl rfl h16 h17 (by omega) (Z8 hC 0 (.int .u8 ((s11.1.set i10 (ZIk.wrap ((a1.get i10)+(a2.get i10)))).get i10)) rfl sc5 rfl (ZIu _ _ (show i10 < 8 by omega)) (Jj rfl rfl (dn ?_)))
   refine Zr rfl (fun hb13=>?_) (fun hb13=>?_)
   ·replace h:=ift h (ct hb13)
    refine sr (Jn [] rfl (Zin   _) (Zw (v:=.agg (ZH8 (ZH6 .u8 ZIg))) hC 1 (ZH6 .u8 ZIg) (ZH6 .u8 ZIg) rfl ag136.size rfl rfl rfl rfl rfl (ZIc rfl) rfl fun w16 hC=>Zc (v:=.int .i64 0) rfl (dn ?_)))
    refine ZIi (Zo (Yd (Zo (Zo (Yd (Zo ?_))))))
    refine Jo (fn:=Tryz.f196) rfl ?_ ?_ ⟨ZIg,0,rfl,h,hC.below⟩ (.inl rfl)
    ·exact Zag hC 1 rfl ag136 rfl rfl
    ·exact Zi rfl
   ·replace h:=Zk h (cf hb13)
    refine ZIe (Zd (sr (Zb (v:=.int .i64 (i10:Int)) rfl (Zq rfl rfl (Zc (v:=.int .i64 (ZA7.wrap ((i10:Int)+1))) rfl (dn (ZIj ?_)))))))
    refine X1 (S:=Int×Int) _ (fun s10 e_ w_=>Z3 e_ [(0,u0_0),(4,.pointer (some ⟨b2,0,none⟩)),(5,.pointer (some ⟨b5,0,none⟩)),(6,.pointer (some ⟨b8,0,none⟩)),(8,.pointer (some ⟨b10,0,none⟩)),(9,.int .i64 s10.2),(10,.int .i64 (i10:Int)),(11,.int .i64 s10.1)]∧Ctx Nox w0 w_ [blk b10 136 (ZH6 .u8 (s11.1.set i10 (ZIk.wrap ((a1.get i10)+(a2.get i10))))),blk b8 136 (ZH6 .u8 ZIg),blk b5 136 (ZH6 .u8 a2),blk b2 136 (ZH6 .u8 a1)] [ZH7 ((EI .i64).ty.sl) a0 [u0_0] fp0]) ?_ (s0:=(ZA7.wrap ((i10:Int)+1),s11.2)) ?_ h
    ·clear hC h
     rintro s10 e_ w17 nx11 K11 ⟨hS_,hC⟩ h hK11
     rw [ue hS_]
     refine ZIa (sr (Zb (v:=.int .i64 s10.1) rfl (Zb (v:=u0_0) rfl ?_)))
     obtain ⟨Ad12,c12,hv13⟩:=Z1 (hC.getP 0 rfl)
     refine Zx ZIs (tr rfl hv13) (Zt rfl rfl (Zb (v:=.bool (decide (s10.1 < (a0.length:Int)))) rfl ?_))
     refine Xh (decide (s10.1 < (a0.length:Int))) (fun hb10=>?_) (fun hb10=>?_)
     ·replace h:=ift h (ct hb10)
      refine Zl 4 45 rfl rfl hb10 (Zb (v:=.int .i64 (i10:Int)) rfl (Zl 4 45 rfl rfl hb10 ?_))
      obtain ⟨⟨h18,h19⟩,h⟩:=h
      refine Y5 i10 ZIn sc5.size rfl rfl h18 h19 (by omega) (Zl 4 45 rfl rfl hb10 (Z8 hC 2 (.int .u8 (a2.get i10)) rfl sc5 rfl (ZIu _ _ (show i10 < 8 by omega)) (Zl 4 45 rfl rfl hb10 (Jm rfl rfl (Yc (v:=.bool (decide (a2.get i10=1))) (b:=true) (tr rfl (congrArg _ hb10)) rfl (dn ?_))))))
      refine Zr rfl (fun hb14=>?_) (fun hb14=>?_)
      ·replace h:=ift h (ct hb14)
       refine ZIe (Zd (ZIa (ZIj (sr (Zb (v:=u0_0) rfl (Zb (v:=.int .i64 s10.1) rfl ?_))))))
       obtain ⟨⟨h20,h21⟩,h⟩:=h
       obtain ⟨Ad13,c13,hv11⟩:=Z0 (hC.getP 0 rfl) s10.1.toNat (show s10.1.toNat < a0.length by omega)
       refine Xb (len:=a0.length) ZIs sc2.size (tr rfl hv11) rfl h20 h21 (Xm (.int .i64 (a0.getD s10.1.toNat Zyt)) (Yf (hC.getP 0 rfl) hv11 s10.1.toNat (show s10.1.toNat < a0.length by omega)) sc2 rfl (X0 rfl rfl (by decide) (Xl rfl rfl (Zb (v:=.bool (decide (Zyy (a0.getD s10.1.toNat Zyt) 2≠0))) rfl ?_))))
       refine Xh (decide (Zyy (a0.getD s10.1.toNat Zyt) 2≠0)) (fun hb11=>?_) (fun hb11=>?_)
       ·replace h:=ift h (ct hb11)
        refine Zl 6 59 rfl rfl hb11 (Zb (v:=.int .i64 s10.1) rfl (Zl 6 59 rfl rfl hb11 ?_))
        obtain ⟨⟨h22,h23⟩,h⟩:=h
        refine Y5 s10.1.toNat ZIn sc5.size rfl rfl h22 h23 (by omega) (Zl 6 59 rfl rfl hb11 (Z8 hC 3 (.int .u8 (a1.get s10.1.toNat)) rfl sc5 rfl (ZIu _ _ (show s10.1.toNat < 8 by omega)) (Zl 6 59 rfl rfl hb11 (Jm rfl rfl (Yc (v:=.bool (decide (a1.get s10.1.toNat=1))) (b:=true) (tr rfl (congrArg _ hb11)) rfl (dn ?_))))))
        refine Zr rfl (fun hb15=>?_) (fun hb15=>?_)
        ·replace h:=ift h (ct hb15)
         refine Zh (Zb (v:=.int .i64 s10.2) rfl (Zfa rfl (Zc (v:=.int .i64 (ZA7.wrap (0 - s10.2))) rfl (done (Zs (Zd (Zh (Zb (v:=.int .i64 s10.1) rfl (Zq rfl rfl (Zc (v:=.int .i64 (ZA7.wrap (s10.1+1))) rfl (done ?_)))))))))))
         exact hK11 (ZA7.wrap (s10.1+1),ZA7.wrap (0 - s10.2)) _ _ ⟨(sl ⟨rfl,rfl,rfl,rfl,rfl,rfl,rfl,rfl,trivial⟩),hC⟩ h
        ·replace h:=Zk h (cf hb15)
         refine ZIe (Zs (Zd (Zh (Zb (v:=.int .i64 s10.1) rfl (Zq rfl rfl (Zc (v:=.int .i64 (ZA7.wrap (s10.1+1))) rfl (done ?_)))))))
         exact hK11 (ZA7.wrap (s10.1+1),s10.2) _ _ ⟨(sl ⟨rfl,rfl,rfl,rfl,rfl,rfl,rfl,rfl,trivial⟩),hC⟩ h
       ·replace h:=Zk h (cf hb11)
        refine Zn (b:=false) 6 59 rfl (tr rfl (congrArg _ hb11)) (by decide) (Zn (b:=false) 6 59 rfl (tr rfl (congrArg _ hb11)) (by decide) (Zn (b:=false) 6 59 rfl (tr rfl (congrArg _ hb11)) (by decide) (Zn (b:=false) 6 59 rfl (tr rfl (congrArg _ hb11)) (by decide) (Yc (v:=.bool false) (b:=false) (tr rfl (congrArg _ hb11)) rfl (dn (Yi rfl rfl (ZIe (Zs (Zd (Zh (Zb (v:=.int .i64 s10.1) rfl ?_)))))))))))
        refine Zq rfl rfl (Zc (v:=.int .i64 (ZA7.wrap (s10.1+1))) rfl (done ?_))
        exact hK11 (ZA7.wrap (s10.1+1),s10.2) _ _ ⟨(sl ⟨rfl,rfl,rfl,rfl,rfl,rfl,rfl,rfl,trivial⟩),hC⟩ h
      ·replace h:=Zk h (cf hb14)
       refine ZIr (Zj (Zj (Z9 ?_)))
       refine Zs (Zd (Zh (Zb (v:=.int .i64 (i10:Int)) rfl (Zq rfl rfl (Zc (v:=.int .i64 (ZA7.wrap ((i10:Int)+1))) rfl (done ?_))))))
       exact hK10 (s11.1.set i10 (ZIk.wrap ((a1.get i10)+(a2.get i10))),s10.2) _ _ ⟨(sl ⟨rfl,rfl,rfl,rfl,rfl,rfl,(tr rfl (congrArg _ (Yh hi10 hN10))),trivial⟩),hC⟩ h
     ·replace h:=Zk h (cf hb10)
      refine Zn (b:=false) 4 45 rfl (tr rfl (congrArg _ hb10)) (by decide) (Zn (b:=false) 4 45 rfl (tr rfl (congrArg _ hb10)) (by decide) (Zn (b:=false) 4 45 rfl (tr rfl (congrArg _ hb10)) (by decide) (Zn (b:=false) 4 45 rfl (tr rfl (congrArg _ hb10)) (by decide) (Yc (v:=.bool false) (b:=false) (tr rfl (congrArg _ hb10)) rfl (dn (Yi rfl rfl ?_))))))
      refine ZIr (Zj (Zj (Z9 ?_)))
      refine Zs (Zd (Zh (Zb (v:=.int .i64 (i10:Int)) rfl (Zq rfl rfl (Zc (v:=.int .i64 (ZA7.wrap ((i10:Int)+1))) rfl (done ?_))))))
      exact hK10 (s11.1.set i10 (ZIk.wrap ((a1.get i10)+(a2.get i10))),s10.2) _ _ ⟨(sl ⟨rfl,rfl,rfl,rfl,rfl,rfl,(tr rfl (congrArg _ (Yh hi10 hN10))),trivial⟩),hC⟩ h
    ·skip
     exact⟨(sl ⟨rfl,rfl,rfl,rfl,rfl,rfl,rfl,rfl,trivial⟩),hC⟩
 ·clear hC h
  rintro s11 e_ w18 K10 ⟨hS_,hC⟩ h
  rw [ue hS_]
  refine ZIa (sr (Zb (v:=.int .i64 (a0.length:Int)) rfl (Zb (v:=u0_0) rfl ?_)))
  obtain ⟨Ad14,c14,hv14⟩:=Z1 (hC.getP 0 rfl)
  refine Zx ZIs (tr rfl hv14) (Zt rfl rfl (dn (Yi rfl (decide_eq_false (by omega)) ?_)))
  refine ZIr (Zj (Zj (Z9 ?_)))
  refine Zd (sr (Yy hC 0 (ZH6 .u8 s11.1) rfl ag136 rfl rfl rfl (Zb (v:=.int .i64 s11.2) rfl (Zw (v:=.agg (ZH8 (ZH6 .u8 s11.1))) hC 1 (ZH6 .u8 s11.1) (ZH6 .u8 s11.1) rfl ag136.size rfl rfl rfl rfl rfl (ZIc rfl) rfl fun w19 hC=>Zc (v:=.int .i64 s11.2) rfl (dn (ZIi ?_))))))
  refine Jo (fn:=Tryz.f196) rfl ?_ ?_ ⟨s11.1,s11.2,rfl,h,hC.below⟩ (.inl rfl)
  ·exact Zag hC 1 rfl ag136 rfl rfl
  ·exact Zi rfl
 ·skip
  exact⟨(sl ⟨rfl,rfl,rfl,rfl,rfl,rfl,rfl,trivial⟩),hC⟩
def Zf4 (a0:List Int) (a1:Term) (a2:ZIb) (K:ZIb→Prop):Prop :=
 Xj (fun (s10:(List Term)×Int) nx10=>(if s10.2 < (a2.terms.length:Int) then((0≤s10.2∧s10.2 < (a2.terms.length:Int))∧Zf3 a0 a1.mono ((a2.terms.getD s10.2.toNat Zyt).mono) (fun r13 r14=>(if r14≠0 then((0≤s10.2∧s10.2 < (a2.terms.length:Int))∧Jh (ZA7.wrap ((ZA7.wrap (r14 * a1.factor)) * ((a2.terms.getD s10.2.toNat Zyt).factor))) (fun r11=>(Yo (s10.1.length+1) 16∧nx10 (s10.1++[(⟨r13,r11⟩:Term)],ZA7.wrap (s10.2+1))))) else nx10 (s10.1,ZA7.wrap (s10.2+1))))) else K (⟨s10.1⟩:ZIb))) ([],0)
theorem Zsu (a0:List Int) (a1:Term) (a2:ZIb) {u0_0:Value} {u2_0:Value} {fp0:List Nat} {fp2:List Nat} {K:ZIb→Prop} (h:Zf4 a0 a1 a2 K) (w0:World) (q0:((EI .i64).ty.sl).rep a0 [u0_0] fp0 w0) (q2:ZIo.rep a2 [u2_0] fp2 w0) :
  Calls ZId 175 #[u0_0,.agg (ZH8 (ZIl a1)),.agg #[u2_0]] w0 fun e w'=>∃ (r0:ZIb) (z0_0:Value) (fz0:List Nat),
   e=.returned (.agg #[z0_0])∧K r0∧(ZIm (Ya 162) r0 [z0_0] fz0).holds w'∧(∀ b,b∈fz0→w0.heap.size≤b)∧Bel w0 w':=by
 unfold Zf4 at h
 refine Z4 (args:=[u0_0,.agg (ZH8 (ZIl a1)),.agg #[u2_0]]) Tryz.func175 rfl 54 Tryz.ntmps175 (ZIc rfl) ?_
 have hC:=ZIt (X:=Nox) w0 [ZH7 ((EI .i64).ty.sl) a0 [u0_0] fp0,ZH7 TForm a2 [u2_0] fp2] (by simp only [Zyz,ZAt,or_false,forall_eq_or_imp,forall_eq]; exact⟨q0,q2⟩)
 have hp3:=(hC.getP 1 rfl)
 replace hC:=hC.derive 1 rfl (ZH7 ZH9.ty.sl a2.terms [u2_0] fp2) (fun _=>(Xi hp3)) (fun _ hb_=>hb_)
 refine sr (Yl (v:=.agg (ZH8 (ZIl a1))) hC (ZIl a1) rfl rfl fun b5 w7 hB_ hC=>Yl (v:=.agg #[u2_0]) hC [u2_0] rfl rfl fun b8 w10 hB_ hC=>Yj hC [.slice none 0 0] z55 rfl fun b11 w11 hB_ hC=>dn (sr (Jn [] rfl (Zdp   _) (Yj hC [.slice none 0 0] z55 rfl fun b10 w12 hB_ hC=>Zw (v:=.agg #[.slice none 0 0]) hC 0 [.slice none 0 0] [.slice none 0 0] rfl ag55.size rfl rfl rfl rfl rfl (ZIc rfl) rfl fun w13 hC=>dn (ZIa (sr ?_))))))
 refine Zc (v:=.int .i64 0) rfl (dn (ZIj ?_))
 refine X1 (S:=(List Term)×Int) _ (fun s10 e_ w_=>∃ (v10:Value),Z3 e_ [(0,u0_0),(4,.pointer (some ⟨b5,0,none⟩)),(5,.pointer (some ⟨b8,0,none⟩)),(6,.pointer (some ⟨b11,0,none⟩)),(7,.pointer (some ⟨b10,0,none⟩)),(8,.int .i64 s10.2)]∧Ctx Nox w0 w_ [own 162 9 v10 s10.1.length (ZH9.encs s10.1),blk b10 55 [v10],blk b11 55 [.slice none 0 0],blk b8 55 [u2_0],blk b5 162 (ZIl a1)] [ZH7 ZH9.ty.sl a2.terms [u2_0] fp2,ZH7 ((EI .i64).ty.sl) a0 [u0_0] fp0,ZH7 TForm a2 [u2_0] fp2]) ?_ (s0:=([],0)) ?_ h
 ·clear hC h
  rintro s10 e_ w14 nx10 K10 ⟨v10,hS_,hC⟩ h hK10
  rw [ue hS_]
  refine ZIa (sr (Zb (v:=.int .i64 s10.2) rfl (Z6 0 ZIf rfl sc53.size rfl rfl (Z8 hC 3 (u2_0) rfl sc53 rfl rfl ?_))))
  obtain ⟨Ad12,c10,hv12⟩:=Z1 (hC.getP 0 rfl)
  refine Zx ZIh (tr rfl hv12) (Zt rfl rfl (dn ?_))
  refine Zr rfl (fun hb10=>?_) (fun hb10=>?_)
  ·replace h:=ift h (ct hb10)
   refine ZIe (Zd (ZIa (ZIj (ZIa ?_))))
   refine Yg 14 Ye [0,0,2,0,8,0,56,120,248,511,1023,2047,2047,0,12287,32767] [2,4,6,8] [0,1,3,5,7,10,11,12] (by kernel_rfl) (by kernel_rfl) (by kernel_rfl) (fun hM13 hM10 w15 hB_=>?_)
   replace hC:=hC.grow hB_
   refine aF 0 (u0_0) rfl rfl (hM10 0 rfl) (rfl) (fun _=>by exact Zf (v:=u0_0) rfl) (Za 16 1) (aF 1 (.pointer (some ⟨b5,0,none⟩)) rfl rfl (hM10 1 rfl) (rfl) (fun _=>by exact Z7 0 ZIp rfl ag136.size rfl rfl) (Za 16 3) (aL 2 (.agg (ZH8 (ZH6 .u8 a1.mono))) rfl rfl (hM13 2 rfl) (rfl) (fun _ hB_=>by exact Yv (hC.grow hB_) 4 (ZH6 .u8 a1.mono) rfl ag136 rfl rfl rfl) (Za 16 7) (aF 3 (.pointer (some ⟨b8,0,none⟩)) rfl rfl (hM10 3 rfl) (rfl) (fun _=>by exact Z7 0 ZIf rfl sc53.size rfl rfl) (Za 16 15) (aL 4 (u2_0) rfl rfl (hM13 4 rfl) (rfl) (fun _ hB_=>by exact Z5 (hC.grow hB_) 3 (u2_0) rfl sc53 rfl rfl) (Za 16 31) (aF 5 (.int .i64 s10.2) rfl rfl (hM10 5 rfl) (rfl) (fun _=>by exact Zf (v:=.int .i64 s10.2) rfl) (Za 16 63) ?_)))))
   obtain ⟨⟨h10,h11⟩,h⟩:=h
   obtain ⟨Ad10,c11,hv10⟩:=Z0 (hC.getP 0 rfl) s10.2.toNat (show s10.2.toNat < a2.terms.length by omega)
   refine aL 6 (.pointer (some (Ad10.add (s10.2.toNat * 9)))) rfl rfl (hM13 6 rfl) (rfl) (fun _ hB_=>by exact Yp (len:=a2.terms.length) ZIh ag162.size (by exact tr rfl hv10) rfl h10 h11) (Za 16 127) (aF 7 (.pointer (some (Ad10.add (s10.2.toNat * 9+0)))) rfl rfl (hM10 7 rfl) (rfl) (fun _=>by exact Zau (s10.2.toNat * 9+0) ZIp rfl ag136.size rfl rfl) (Za 16 255) (aL 8 (.agg (ZH8 (ZH6 .u8 ((a2.terms.getD s10.2.toNat Zyt).mono)))) rfl rfl (hM13 8 rfl) (rfl) (fun _ hB_=>by exact X4 (ZH6 .u8 ((a2.terms.getD s10.2.toNat Zyt).mono)) (J2 (o:=0) (k:=8) (Yf ((hC.grow hB_).getP 0 rfl) hv10 s10.2.toNat (show s10.2.toNat < a2.terms.length by omega)) rfl) ag136 rfl rfl) (Za 16 511) ?_))
   refine Zbj (fun e_ w_=>∃ (b12:Nat),∃ (r10:A8),∃ (r12:Int),Z3 e_ [(0,u0_0),(4,.pointer (some ⟨b5,0,none⟩)),(5,.pointer (some ⟨b8,0,none⟩)),(6,.pointer (some ⟨b11,0,none⟩)),(7,.pointer (some ⟨b10,0,none⟩)),(8,.int .i64 s10.2),(9,.pointer (some ⟨b12,0,none⟩)),(10,.int .i64 r12)]∧Ctx Nox w0 w_ [blk b12 136 (ZH6 .u8 r10),own 162 9 v10 s10.1.length (ZH9.encs s10.1),blk b10 55 [v10],blk b11 55 [.slice none 0 0],blk b8 55 [u2_0],blk b5 162 (ZIl a1)] [ZH7 ZH9.ty.sl a2.terms [u2_0] fp2,ZH7 ((EI .i64).ty.sl) a0 [u0_0] fp0,ZH7 TForm a2 [u2_0] fp2]∧(if r12≠0 then((0≤s10.2∧s10.2 < (a2.terms.length:Int))∧Jh (ZA7.wrap ((ZA7.wrap (r12 * a1.factor)) * ((a2.terms.getD s10.2.toNat Zyt).factor))) (fun r11=>(Yo (s10.1.length+1) 16∧nx10 (s10.1++[(⟨r10,r11⟩:Term)],ZA7.wrap (s10.2+1))))) else nx10 (s10.1,ZA7.wrap (s10.2+1)))) ?_ ?_
   ·clear hC h
    rintro e_ w16 ⟨b12,r10,r12,hS_,hC,h⟩
    rw [ue hS_]
    refine Zd (sr (Zb (v:=.int .i64 r12) rfl (Xl rfl rfl (dn ?_))))
    refine Zr rfl (fun hb11=>?_) (fun hb11=>?_)
    ·replace h:=ift h (ct hb11)
     refine Yg 17 Ye [0,1,0,0,0,16,56,0,128,0,896,1920,3968,8184,16376,32764,65532,131071,262143,524287] [1,2,5,8,10,12,15] [0,3,4,6,7,9,11,13] (by kernel_rfl) (by kernel_rfl) (by kernel_rfl) (fun hM12 hM11 w17 hB_=>?_)
     replace hC:=hC.grow hB_
     refine aF 0 (.pointer (some ⟨b10,0,none⟩)) rfl rfl (hM11 0 rfl) (rfl) (fun _=>by exact Z7 0 ZIf rfl sc53.size rfl rfl) (Za 20 1) (aL 1 (v10) rfl rfl (hM12 1 rfl) (rfl) (fun _ hB_=>by exact Z5 (hC.grow hB_) 2 (v10) rfl sc53 rfl rfl) (Za 20 3) (aL 2 (.agg (ZH8 (ZH6 .u8 r10))) rfl rfl (hM12 2 rfl) (rfl) (fun _ hB_=>by exact Yv (hC.grow hB_) 0 (ZH6 .u8 r10) rfl ag136 rfl rfl rfl) (Za 20 7) (aF 3 (.int .i64 r12) rfl rfl (hM11 3 rfl) (rfl) (fun _=>by exact Zf (v:=.int .i64 r12) rfl) (Za 20 15) (aF 4 (.pointer (some ⟨b5,8,none⟩)) rfl rfl (hM11 4 rfl) (rfl) (fun _=>by exact Z7 8 ZIp rfl sc2.size rfl rfl) (Za 20 31) (aL 5 (.int .i64 a1.factor) rfl rfl (hM12 5 rfl) (rfl) (fun _ hB_=>by exact Z5 (hC.grow hB_) 5 (.int .i64 a1.factor) rfl sc2 rfl rfl) (Za 20 63) (aF 6 (.int .i64 (ZA7.wrap (r12 * a1.factor))) rfl rfl (hM11 6 rfl) (rfl) (fun _=>by exact Zbi rfl rfl) (Za 20 127) (aF 7 (.pointer (some ⟨b8,0,none⟩)) rfl rfl (hM11 7 rfl) (rfl) (fun _=>by exact Z7 0 ZIf rfl sc53.size rfl rfl) (Za 20 255) (aL 8 (u2_0) rfl rfl (hM12 8 rfl) (rfl) (fun _ hB_=>by exact Z5 (hC.grow hB_) 4 (u2_0) rfl sc53 rfl rfl) (Za 20 511) (aF 9 (.int .i64 s10.2) rfl rfl (hM11 9 rfl) (rfl) (fun _=>by exact Zf (v:=.int .i64 s10.2) rfl) (Za 20 1023) ?_)))))))))
     obtain ⟨⟨h12,h13⟩,h⟩:=h
     obtain ⟨Ad11,c12,hv11⟩:=Z0 (hC.getP 0 rfl) s10.2.toNat (show s10.2.toNat < a2.terms.length by omega)
     refine aL 10 (.pointer (some (Ad11.add (s10.2.toNat * 9)))) rfl rfl (hM12 10 rfl) (rfl) (fun _ hB_=>by exact Yp (len:=a2.terms.length) ZIh ag162.size (by exact tr rfl hv11) rfl h12 h13) (Za 20 2047) (aF 11 (.pointer (some (Ad11.add (s10.2.toNat * 9+8)))) rfl rfl (hM11 11 rfl) (rfl) (fun _=>by exact Zau (s10.2.toNat * 9+8) ZIp rfl sc2.size rfl rfl) (Za 20 4095) (aL 12 (.int .i64 ((a2.terms.getD s10.2.toNat Zyt).factor)) rfl rfl (hM12 12 rfl) (rfl) (fun _ hB_=>by exact Xc (.int .i64 ((a2.terms.getD s10.2.toNat Zyt).factor)) (J2 (o:=8) (k:=1) (Yf ((hC.grow hB_).getP 0 rfl) hv11 s10.2.toNat (show s10.2.toNat < a2.terms.length by omega)) rfl) sc2 rfl) (Za 20 8191) (aF 13 (.int .i64 (ZA7.wrap ((ZA7.wrap (r12 * a1.factor)) * ((a2.terms.getD s10.2.toNat Zyt).factor)))) rfl rfl (hM11 13 rfl) (rfl) (fun _=>by exact Zbi rfl rfl) (Za 20 16383) (aO 14 rfl ?_))))
     refine Zg [.int .i64 (ZA7.wrap ((ZA7.wrap (r12 * a1.factor)) * ((a2.terms.getD s10.2.toNat Zyt).factor)))] _ ZIx rfl rfl rfl (Zbn (ZA7.wrap ((ZA7.wrap (r12 * a1.factor)) * ((a2.terms.getD s10.2.toNat Zyt).factor))) h _) (fun ret10 w18 hR10=>?_)
     obtain ⟨r11,rfl,h,hB10⟩:=hR10
     refine⟨_,rfl,?_⟩
     replace hC:=hC.grow hB10
     refine done (aK (by assumption) (Za 20 32767) (aL 15 (.agg (ZH8 (ZIl (⟨r10,r11⟩:Term)))) rfl rfl (hM12 15 rfl) (rfl) (fun _ hB_=>by exact Zjx [(0,.agg (ZH8 (ZH6 .u8 r10))),(1,.int .i64 r11)] rfl (Zim r10 r11  _)) (Za 20 65535) (aO 16 rfl (Xr (sz:=9) hC [(0,.agg (ZH8 (ZIl (⟨r10,r11⟩:Term))))] (ZH9.encs [(⟨r10,r11⟩:Term)]) rfl (fun _=>Zfy (⟨r10,r11⟩:Term) _) rfl (by decide) fun b15 w19 hB_ hC=>done (aK (by assumption) (Za 20 131071) (Zu 17 (by decide) (by decide) (by kernel_rfl) (by kernel_rfl) rfl ?_))))))
     obtain ⟨hm10,h⟩:=h
     refine Zaw hC 2 ZIh Zfz rfl (by decide) (by decide) rfl (Za9 (hC.getM 0 rfl)) (fun q hq=>ZJa (E:=ETerm) _ q hq) rfl rfl hm10 fun v11 w20 hC=>?_
     replace hC:=Jg hC 2 ((s10.1++[(⟨r10,r11⟩:Term)]).length) (ZH9.encs (s10.1++[(⟨r10,r11⟩:Term)])) rfl (by simp) (by first | (simp [ZIz]; done) | simp [ZIz,Enc.encs])
     refine Z6 0 ZIf rfl sc53.size rfl rfl (Zw (v:=v11) hC 3 [v11] [v11] rfl sc53.size rfl rfl (Zcm (hC.getM 2 rfl)) rfl (Y6 (Xn (hC.getM 2 rfl)) rfl) (ZIc rfl) rfl fun w21 hC=>done (Zv (Zs (Zd (Zh (Zb (v:=.int .i64 s10.2) rfl (Zq rfl rfl (Zc (v:=.int .i64 (ZA7.wrap (s10.2+1))) rfl (done ?_)))))))))
     replace hC:=hC.sM [2,3,4,5,6] (M':=[own 162 9 v11 ((s10.1++[(⟨r10,r11⟩:Term)]).length) (ZH9.encs (s10.1++[(⟨r10,r11⟩:Term)])),blk b10 55 [v11],blk b11 55 [.slice none 0 0],blk b8 55 [u2_0],blk b5 162 (ZIl a1)]) (by decide) rfl
     exact hK10 (s10.1++[(⟨r10,r11⟩:Term)],ZA7.wrap (s10.2+1)) _ _ ⟨v11,(sl ⟨rfl,rfl,rfl,rfl,rfl,rfl,trivial⟩),hC⟩ h
    ·replace h:=Zk h (cf hb11)
     refine ZIe (Zs (Zd (Zh (Zb (v:=.int .i64 s10.2) rfl (Zq rfl rfl (Zc (v:=.int .i64 (ZA7.wrap (s10.2+1))) rfl (done ?_)))))))
     replace hC:=hC.sM [1,2,3,4,5] (M':=[own 162 9 v10 s10.1.length (ZH9.encs s10.1),blk b10 55 [v10],blk b11 55 [.slice none 0 0],blk b8 55 [u2_0],blk b5 162 (ZIl a1)]) (by decide) rfl
     exact hK10 (s10.1,ZA7.wrap (s10.2+1)) _ _ ⟨v10,(sl ⟨rfl,rfl,rfl,rfl,rfl,rfl,trivial⟩),hC⟩ h
   refine Xg 9 13 rfl rfl (by kernel_rfl) ?_ ?_
   ·skip
    refine Zg [u0_0,.agg (ZH8 (ZH6 .u8 a1.mono)),.agg (ZH8 (ZH6 .u8 ((a2.terms.getD s10.2.toNat Zyt).mono)))] _ ZJj rfl rfl rfl (Znv a0 a1.mono ((a2.terms.getD s10.2.toNat Zyt).mono) h _ (hC.getP 1 rfl)) (fun ret11 w22 hR11=>?_)
    obtain ⟨r13,r14,rfl,h,hB11⟩:=hR11
    refine⟨_,rfl,?_⟩
    replace hC:=hC.grow hB11
    refine done (aK (by assumption) (Za 16 1023) (aF 10 (.tuple #[.agg (ZH8 (ZH6 .u8 r13)),.int .i64 r14]) rfl rfl (hM10 10 rfl) (rfl) (fun _=>by exact Zf (v:=.tuple #[.agg (ZH8 (ZH6 .u8 r13)),.int .i64 r14]) rfl) (Za 16 2047) (aF 11 (.agg (ZH8 (ZH6 .u8 r13))) rfl rfl (hM10 11 rfl) (rfl) (fun _=>by exact Zd9 (v:=.agg (ZH8 (ZH6 .u8 r13))) rfl rfl) (Za 16 4095) (aF 12 (.int .i64 r14) rfl rfl (hM10 12 rfl) (rfl) (fun _=>by exact Zd9 (v:=.int .i64 r14) rfl rfl) (Za 16 8191) (aO 13 rfl (Yj hC (ZH6 .u8 ZIg) Za6 rfl fun b13 w23 hB_ hC=>done (aK (by assumption) (Za 16 16383) (aO 14 rfl (Zw (v:=.agg (ZH8 (ZH6 .u8 r13))) hC 0 (ZH6 .u8 r13) (ZH6 .u8 r13) rfl ag136.size rfl rfl rfl rfl rfl (ZIc rfl) rfl fun w24 hC=>done ?_)))))))))
    refine Zib (by decide) (l9:=(Za 16 32767)) (by kernel_rfl) (Zu 15 (by decide) (by decide) (by kernel_rfl) (by kernel_rfl) rfl (Zc (v:=.int .i64 r14) rfl (done (Zv ?_))))
    exact⟨rfl,_,rfl,⟨b13,r13,r14,(sl ⟨rfl,rfl,rfl,rfl,rfl,rfl,rfl,rfl,trivial⟩),hC,h⟩⟩
   ·skip
    refine Yj hC (ZH6 .u8 ZIg) Za6 rfl fun b14 w25 hB_ hC=>done (aK (by assumption) (Za 16 8703) (aO 9 rfl ?_))
    refine Zg [u0_0,.agg (ZH8 (ZH6 .u8 a1.mono)),.agg (ZH8 (ZH6 .u8 ((a2.terms.getD s10.2.toNat Zyt).mono)))] _ ZJj rfl rfl rfl (Znv a0 a1.mono ((a2.terms.getD s10.2.toNat Zyt).mono) h _ (hC.getP 1 rfl)) (fun ret12 w26 hR12=>?_)
    obtain ⟨r15,r16,rfl,h,hB12⟩:=hR12
    refine⟨_,rfl,?_⟩
    replace hC:=hC.grow hB12
    refine done (aK (by assumption) (Za 16 9215) (aF 10 (.tuple #[.agg (ZH8 (ZH6 .u8 r15)),.int .i64 r16]) rfl rfl (hM10 10 rfl) (rfl) (fun _=>by exact Zf (v:=.tuple #[.agg (ZH8 (ZH6 .u8 r15)),.int .i64 r16]) rfl) (Za 16 10239) (aF 11 (.agg (ZH8 (ZH6 .u8 r15))) rfl rfl (hM10 11 rfl) (rfl) (fun _=>by exact Zd9 (v:=.agg (ZH8 (ZH6 .u8 r15))) rfl rfl) (Za 16 12287) (aF 12 (.int .i64 r16) rfl rfl (hM10 12 rfl) (rfl) (fun _=>by exact Zd9 (v:=.int .i64 r16) rfl rfl) (Za 16 16383) (aO 14 rfl (Zw (v:=.agg (ZH8 (ZH6 .u8 r15))) hC 0 (ZH6 .u8 r15) (ZH6 .u8 r15) rfl ag136.size rfl rfl rfl rfl rfl (ZIc rfl) rfl fun w27 hC=>done (Zib (by decide) (l9:=(Za 16 32767)) (by kernel_rfl) (Zu 15 (by decide) (by decide) (by kernel_rfl) (by kernel_rfl) rfl (Zc (v:=.int .i64 r16) rfl (done ?_))))))))))
    refine Zv ?_
    exact⟨rfl,_,rfl,⟨b14,r15,r16,(sl ⟨rfl,rfl,rfl,rfl,rfl,rfl,rfl,rfl,trivial⟩),hC,h⟩⟩
  ·replace h:=Zk h (cf hb10)
   refine ZIr (Zj (Zj (Z9 ?_)))
   refine Zd (sr (Yy hC 1 [v10] rfl ag55 rfl rfl rfl (Zw (v:=.agg #[v10]) hC 2 [v10] [v10] rfl ag55.size rfl rfl rfl rfl (Y6 (Xn (hC.getM 0 rfl)) rfl) (ZIc rfl) rfl fun w28 hC=>dn (ZIi ?_))))
   refine Zp (fn:=Tryz.f175) rfl ?_ ⟨(⟨s10.1⟩:ZIb),v10,(ZI5 (Zzn v10)),rfl,h,(Za4 (Jr (hC.getM 0 rfl))),(X5 hC 0 rfl),hC.below⟩ (.inl rfl)
   exact Zag hC 2 rfl ag55 rfl rfl
 ·skip
  replace hC:=hC.pushNil 162 9
  exact⟨.slice none 0 0,(sl ⟨rfl,rfl,rfl,rfl,rfl,rfl,trivial⟩),hC⟩
def Jk (a0:List Int) (a1:ZIb) (a2:ZIb) (K:ZIb→Prop):Prop :=
 Xj (fun (s10:(List Term)×Int) nx10=>(if s10.2 < (a1.terms.length:Int) then((0≤s10.2∧s10.2 < (a1.terms.length:Int))∧Zf4 a0 (a1.terms.getD s10.2.toNat Zyt) a2 (fun r11=>Zah (⟨s10.1⟩:ZIb) r11 1 (fun r10=>nx10 (r10.terms,ZA7.wrap (s10.2+1))))) else K (⟨s10.1⟩:ZIb))) ([],0)
theorem Zax (a0:List Int) (a1:ZIb) (a2:ZIb) {u0_0:Value} {u1_0:Value} {u2_0:Value} {fp0:List Nat} {fp1:List Nat} {fp2:List Nat} {K:ZIb→Prop} (h:Jk a0 a1 a2 K) (w0:World) (q0:((EI .i64).ty.sl).rep a0 [u0_0] fp0 w0) (q1:ZIo.rep a1 [u1_0] fp1 w0) (q2:ZIo.rep a2 [u2_0] fp2 w0) :
  Calls ZId 123 #[u0_0,.agg #[u1_0],.agg #[u2_0]] w0 fun e w'=>∃ (r0:ZIb) (z0_0:Value) (fz0:List Nat),
   e=.returned (.agg #[z0_0])∧K r0∧(ZIm (Ya 162) r0 [z0_0] fz0).holds w'∧(∀ b,b∈fz0→w0.heap.size≤b)∧Bel w0 w':=by
 unfold Jk at h
 refine Z4 (args:=[u0_0,.agg #[u1_0],.agg #[u2_0]]) ZIy rfl 28 Tryz.ntmps123 (ZIc rfl) ?_
 have hC:=ZIt (X:=Nox) w0 [ZH7 ((EI .i64).ty.sl) a0 [u0_0] fp0,ZH7 TForm a1 [u1_0] fp1,ZH7 TForm a2 [u2_0] fp2] (by simp only [Zyz,ZAt,or_false,forall_eq_or_imp,forall_eq]; exact⟨q0,q1,q2⟩)
 have hp4:=(hC.getP 1 rfl)
 replace hC:=hC.derive 1 rfl (ZH7 ZH9.ty.sl a1.terms [u1_0] fp1) (fun _=>(Xi hp4)) (fun _ hb_=>hb_)
 have hp6:=(hC.getP 3 rfl)
 replace hC:=hC.derive 3 rfl (ZH7 ZH9.ty.sl a2.terms [u2_0] fp2) (fun _=>(Xi hp6)) (fun _ hb_=>hb_)
 refine sr (Yl (v:=.agg #[u1_0]) hC [u1_0] rfl rfl fun b8 w10 hB_ hC=>Yl (v:=.agg #[u2_0]) hC [u2_0] rfl rfl fun b10 w11 hB_ hC=>Yj hC [.slice none 0 0] z55 rfl fun b11 w12 hB_ hC=>dn (sr (Jn [] rfl (Zdp   _) (Yj hC [.slice none 0 0] z55 rfl fun b12 w13 hB_ hC=>Zw (v:=.agg #[.slice none 0 0]) hC 0 [.slice none 0 0] [.slice none 0 0] rfl ag55.size rfl rfl rfl rfl rfl (ZIc rfl) rfl fun w14 hC=>dn (ZIa (sr ?_))))))
 refine Zc (v:=.int .i64 0) rfl (dn (ZIj ?_))
 refine X1 (S:=(List Term)×Int) _ (fun s10 e_ w_=>∃ (v10:Value),Z3 e_ [(0,u0_0),(4,.pointer (some ⟨b8,0,none⟩)),(5,.pointer (some ⟨b10,0,none⟩)),(6,.pointer (some ⟨b11,0,none⟩)),(7,.pointer (some ⟨b12,0,none⟩)),(8,.int .i64 s10.2)]∧Ctx Nox w0 w_ [own 162 9 v10 s10.1.length (ZH9.encs s10.1),blk b12 55 [v10],blk b11 55 [.slice none 0 0],blk b10 55 [u2_0],blk b8 55 [u1_0]] [ZH7 ZH9.ty.sl a2.terms [u2_0] fp2,ZH7 ZH9.ty.sl a1.terms [u1_0] fp1,ZH7 ((EI .i64).ty.sl) a0 [u0_0] fp0,ZH7 TForm a1 [u1_0] fp1,ZH7 TForm a2 [u2_0] fp2]) ?_ (s0:=([],0)) ?_ h
 ·clear hC h
  rintro s10 e_ w15 nx10 K10 ⟨v10,hS_,hC⟩ h hK10
  rw [ue hS_]
  refine ZIa (sr (Zb (v:=.int .i64 s10.2) rfl (Z6 0 ZIf rfl sc53.size rfl rfl (Z8 hC 4 (u1_0) rfl sc53 rfl rfl ?_))))
  obtain ⟨Ad11,c10,hv11⟩:=Z1 (hC.getP 1 rfl)
  refine Zx ZIh (tr rfl hv11) (Zt rfl rfl (dn ?_))
  refine Zr rfl (fun hb10=>?_) (fun hb10=>?_)
  ·replace h:=ift h (ct hb10)
   refine ZIe (Zd (ZIa (ZIj ?_)))
   refine Yg 9 Ye [0,0,0,4,0,28,60,0,254,511,1023] [0,3,5,6,7] [1,2,4] (by kernel_rfl) (by kernel_rfl) (by kernel_rfl) (fun hM10 hM11 w16 hB_=>?_)
   replace hC:=hC.grow hB_
   refine aL 0 (.agg #[v10]) rfl rfl (hM10 0 rfl) (rfl) (fun _ hB_=>by exact Yv (hC.grow hB_) 1 [v10] rfl ag55 rfl rfl rfl) (Za 11 1) (aF 1 (u0_0) rfl rfl (hM11 1 rfl) (rfl) (fun _=>by exact Zf (v:=u0_0) rfl) (Za 11 3) (aF 2 (.pointer (some ⟨b8,0,none⟩)) rfl rfl (hM11 2 rfl) (rfl) (fun _=>by exact Z7 0 ZIf rfl sc53.size rfl rfl) (Za 11 7) (aL 3 (u1_0) rfl rfl (hM10 3 rfl) (rfl) (fun _ hB_=>by exact Z5 (hC.grow hB_) 4 (u1_0) rfl sc53 rfl rfl) (Za 11 15) (aF 4 (.int .i64 s10.2) rfl rfl (hM11 4 rfl) (rfl) (fun _=>by exact Zf (v:=.int .i64 s10.2) rfl) (Za 11 31) ?_))))
   obtain ⟨⟨h10,h11⟩,h⟩:=h
   obtain ⟨Ad10,c11,hv10⟩:=Z0 (hC.getP 1 rfl) s10.2.toNat (show s10.2.toNat < a1.terms.length by omega)
   refine aL 5 (.pointer (some (Ad10.add (s10.2.toNat * 9)))) rfl rfl (hM10 5 rfl) (rfl) (fun _ hB_=>by exact Yp (len:=a1.terms.length) ZIh ag162.size (by exact tr rfl hv10) rfl h10 h11) (Za 11 63) (aL 6 (.agg (ZH8 (ZIl (a1.terms.getD s10.2.toNat Zyt)))) rfl rfl (hM10 6 rfl) (rfl) (fun _ hB_=>by exact X4 (ZIl (a1.terms.getD s10.2.toNat Zyt)) (Yf ((hC.grow hB_).getP 1 rfl) hv10 s10.2.toNat (show s10.2.toNat < a1.terms.length by omega)) ag162 rfl rfl) (Za 11 127) (aL 7 (.agg #[u2_0]) rfl rfl (hM10 7 rfl) (rfl) (fun _ hB_=>by exact Yv (hC.grow hB_) 3 [u2_0] rfl ag55 rfl rfl rfl) (Za 11 255) (aO 8 rfl ?_)))
   refine Zg [u0_0,.agg (ZH8 (ZIl (a1.terms.getD s10.2.toNat Zyt))),.agg #[u2_0]] _ Tryz.func175 rfl rfl rfl (Zsu a0 (a1.terms.getD s10.2.toNat Zyt) a2 h _ (hC.getP 2 rfl) (Yq (hC.getP 0 rfl))) (fun ret10 w17 hR10=>?_)
   obtain ⟨r11,u11,f10,rfl,h,hr10,hf10,hB10⟩:=hR10
   refine⟨_,rfl,?_⟩
   replace hC:=hC.push hB10 (ZIm (Ya 162) r11 [u11] f10) hr10 hf10
   obtain ⟨ho10,hf11⟩:=Xf (hC.getM 0 rfl)
   subst hf11
   replace hC:=hC.recast (c:=own 162 9 u11 r11.terms.length (ZH9.encs r11.terms)) (fun _ h_=>h_) (fun _=>ho10)
   refine done (aK (by assumption) (Za 11 511) (Zu 9 (by decide) (by decide) (by kernel_rfl) (by kernel_rfl) rfl ?_))
   refine Zg [.agg #[v10],.agg #[u11],.int .i64 1] _ ZI9 rfl rfl rfl (Zds (⟨s10.1⟩:ZIb) r11 1 h _ (Yq (Y2 (hC.getM 1 rfl))) (Yq (Y2 (hC.getM 0 rfl)))) (fun ret11 w18 hR11=>?_)
   obtain ⟨r10,u10,f11,rfl,h,hr11,hf12,hB11⟩:=hR11
   refine⟨_,rfl,?_⟩
   replace hC:=hC.push hB11 (ZIm (Ya 162) r10 [u10] f11) hr11 hf12
   obtain ⟨ho11,hf13⟩:=Xf (hC.getM 0 rfl)
   subst hf13
   replace hC:=hC.recast (c:=own 162 9 u10 r10.terms.length (ZH9.encs r10.terms)) (fun _ h_=>h_) (fun _=>ho11)
   refine Zw (v:=.agg #[u10]) hC 3 [u10] [u10] rfl ag55.size rfl rfl rfl rfl (Y6 (Xn (hC.getM 0 rfl)) rfl) (ZIc rfl) rfl fun w19 hC=>done (Zv (Zs (Zd (Zh (Zb (v:=.int .i64 s10.2) rfl (Zq rfl rfl (Zc (v:=.int .i64 (ZA7.wrap (s10.2+1))) rfl (done ?_))))))))
   replace hC:=hC.sM [0,3,4,5,6] (M':=[own 162 9 u10 r10.terms.length (ZH9.encs r10.terms),blk b12 55 [u10],blk b11 55 [.slice none 0 0],blk b10 55 [u2_0],blk b8 55 [u1_0]]) (by decide) rfl
   exact hK10 (r10.terms,ZA7.wrap (s10.2+1)) _ _ ⟨u10,(sl ⟨rfl,rfl,rfl,rfl,rfl,rfl,trivial⟩),hC⟩ h
  ·replace h:=Zk h (cf hb10)
   refine ZIr (Zj (Zj (Z9 ?_)))
   refine Zd (sr (Yy hC 1 [v10] rfl ag55 rfl rfl rfl (Zw (v:=.agg #[v10]) hC 2 [v10] [v10] rfl ag55.size rfl rfl rfl rfl (Y6 (Xn (hC.getM 0 rfl)) rfl) (ZIc rfl) rfl fun w20 hC=>dn (ZIi ?_))))
   refine Zp (fn:=Tryz.f123) rfl ?_ ⟨(⟨s10.1⟩:ZIb),v10,(ZI5 (Zzn v10)),rfl,h,(Za4 (Jr (hC.getM 0 rfl))),(X5 hC 0 rfl),hC.below⟩ (.inl rfl)
   exact Zag hC 2 rfl ag55 rfl rfl
 ·skip
  replace hC:=hC.pushNil 162 9
  exact⟨.slice none 0 0,(sl ⟨rfl,rfl,rfl,rfl,rfl,rfl,trivial⟩),hC⟩
def Zf5 (a0:List Int) (a1:ZIb) (K:Bool→Prop):Prop :=
 Xj (fun (s10:Int) nx10=>(if s10 < (a1.terms.length:Int) then((0≤s10∧s10 < (a1.terms.length:Int))∧Zf2 a0 ((a1.terms.getD s10.toNat Zyt).mono) (fun r11=>(if¬ (r11=true) then K false else Zdq ((a1.terms.getD s10.toNat Zyt).factor) 1 10006 (fun r10=>(if¬ (r10=true) then K false else(if s10 > 0 then((0≤ZA7.wrap (s10 - 1)∧ZA7.wrap (s10 - 1) < (a1.terms.length:Int))∧Zdr ((a1.terms.getD ((ZA7.wrap (s10 - 1)).toNat) Zyt).mono) ((a1.terms.getD s10.toNat Zyt).mono) (fun r12=>(if¬ (r12=true) then K false else nx10 (ZA7.wrap (s10+1))))) else nx10 (ZA7.wrap (s10+1)))))))) else K (decide ((a1.terms.length:Int)≤400)))) 0
theorem Zsv (a0:List Int) (a1:ZIb) {u0_0:Value} {u1_0:Value} {fp0:List Nat} {fp1:List Nat} {K:Bool→Prop} (h:Zf5 a0 a1 K) (w0:World) (q0:((EI .i64).ty.sl).rep a0 [u0_0] fp0 w0) (q1:ZIo.rep a1 [u1_0] fp1 w0) :
  Calls ZId 120 #[u0_0,.agg #[u1_0]] w0 fun e w'=>∃ (r0:Bool),
   e=.returned (.bool r0)∧K r0∧Bel w0 w':=by
 unfold Zf5 at h
 refine Z4 (args:=[u0_0,.agg #[u1_0]]) Tryz.func120 rfl 51 Tryz.ntmps120 (ZIc rfl) ?_
 have hC:=ZIt (X:=Nox) w0 [ZH7 ((EI .i64).ty.sl) a0 [u0_0] fp0,ZH7 TForm a1 [u1_0] fp1] (by simp only [Zyz,ZAt,or_false,forall_eq_or_imp,forall_eq]; exact⟨q0,q1⟩)
 have hp3:=(hC.getP 1 rfl)
 replace hC:=hC.derive 1 rfl (ZH7 ZH9.ty.sl a1.terms [u1_0] fp1) (fun _=>(Xi hp3)) (fun _ hb_=>hb_)
 refine sr (Yl (v:=.agg #[u1_0]) hC [u1_0] rfl rfl fun b5 w7 hB_ hC=>Zc (v:=.bool false) rfl (dn (ZIa (sr (Zc (v:=.int .i64 0) rfl (dn (ZIj ?_)))))))
 refine X1 (S:=Int) _ (fun s10 e_ w_=>Z3 e_ [(0,u0_0),(3,.pointer (some ⟨b5,0,none⟩)),(5,.int .i64 s10)]∧Ctx Nox w0 w_ [blk b5 55 [u1_0]] [ZH7 ZH9.ty.sl a1.terms [u1_0] fp1,ZH7 ((EI .i64).ty.sl) a0 [u0_0] fp0,ZH7 TForm a1 [u1_0] fp1]) ?_ (s0:=0) ?_ h
 ·clear hC h
  rintro s10 e_ w10 nx10 K10 ⟨hS_,hC⟩ h hK10
  rw [ue hS_]
  refine ZIa (sr (Zb (v:=.int .i64 s10) rfl (Z6 0 ZIf rfl sc53.size rfl rfl (Z8 hC 0 (u1_0) rfl sc53 rfl rfl ?_))))
  obtain ⟨Ad11,c10,hv12⟩:=Z1 (hC.getP 0 rfl)
  refine Zx ZIh (tr rfl hv12) (Zt rfl rfl (dn ?_))
  refine Zr rfl (fun hb13=>?_) (fun hb13=>?_)
  ·replace h:=ift h (ct hb13)
   refine ZIe (Zd (ZIa (ZIj (sr (Z6 0 ZIf rfl sc53.size rfl rfl (Z8 hC 0 (u1_0) rfl sc53 rfl rfl (Zb (v:=.int .i64 s10) rfl ?_)))))))
   obtain ⟨⟨h10,h11⟩,h⟩:=h
   obtain ⟨Ad12,c11,hv10⟩:=Z0 (hC.getP 0 rfl) s10.toNat (show s10.toNat < a1.terms.length by omega)
   refine Xb (len:=a1.terms.length) ZIh ag162.size (tr rfl hv10) rfl h10 h11 (Zav (ZIl (a1.terms.getD s10.toNat Zyt)) (Yf (hC.getP 0 rfl) hv10 s10.toNat (show s10.toNat < a1.terms.length by omega)) ag162 rfl rfl (Yj hC (ZIl (⟨ZIg,0⟩:Term)) Zen rfl fun b10 w11 hB_ hC=>Zw (v:=.agg (ZH8 (ZIl (a1.terms.getD s10.toNat Zyt)))) hC 0 (ZIl (a1.terms.getD s10.toNat Zyt)) (ZIl (a1.terms.getD s10.toNat Zyt)) rfl ag162.size rfl rfl rfl rfl rfl (ZIc rfl) rfl fun w12 hC=>dn (ZIa ?_)))
   refine Yg 24 Ye [0,0,2,7,15,31,63,127,255,511,1023,2047,4095,8191,16383,32767,65535,32767,163839,524287,1048575,2097151,32767,4227071,16777215,33554431,67108863,134217727] [2,7,16,19,21,23] [0,1,4,5,6,7,8,9,10,11,12,13,14,15,16,17,18,19,20,21,22,23] (by kernel_rfl) (by kernel_rfl) (by kernel_rfl) (fun hM11 hM10 w13 hB_=>?_)
   replace hC:=hC.grow hB_
   refine aF 0 (u0_0) rfl rfl (hM10 0 rfl) (rfl) (fun _=>by exact Zf (v:=u0_0) rfl) (Za 28 1) (aF 1 (.pointer (some ⟨b10,0,none⟩)) rfl rfl (hM10 1 rfl) (rfl) (fun _=>by exact Z7 0 ZIp rfl ag136.size rfl rfl) (Za 28 3) (aL 2 (.agg (ZH8 (ZH6 .u8 ((a1.terms.getD s10.toNat Zyt).mono)))) rfl rfl (hM11 2 rfl) (rfl) (fun _ hB_=>by exact Yv (hC.grow hB_) 0 (ZH6 .u8 ((a1.terms.getD s10.toNat Zyt).mono)) rfl ag136 rfl rfl rfl) (Za 28 7) (aO 3 rfl ?_)))
   refine Zg [u0_0,.agg (ZH8 (ZH6 .u8 ((a1.terms.getD s10.toNat Zyt).mono)))] _ Tryz.func173 rfl rfl rfl (Zst a0 ((a1.terms.getD s10.toNat Zyt).mono) h _ (hC.getP 1 rfl)) (fun ret10 w14 hR10=>?_)
   obtain ⟨r11,rfl,h,hB10⟩:=hR10
   refine⟨_,rfl,?_⟩
   replace hC:=hC.grow hB10
   refine done (aK (by assumption) (Za 28 15) (aF 4 (.bool (!r11)) rfl rfl (hM10 4 rfl) (rfl) (fun _=>by exact Zjv rfl) (Za 28 31) (aF 5 (.bool (!r11)) rfl rfl (hM10 5 rfl) (rfl) (fun _=>by exact Zf (v:=.bool (!r11)) rfl) (Za 28 63) ?_)))
   refine Xh (!r11) (fun hb12=>?_) (fun hb12=>?_)
   ·replace h:=ift h (Xz (Jp hb12))
    refine Zm Z2 6 undef rfl rfl (by kernel_rfl) (hM10 6 rfl) (fun w_=>.inr ⟨Yk (b:=true) 5 24 rfl (tr rfl (congrArg _ hb12)) (by decide),rfl⟩) (l9:=(Za 28 127)) (by kernel_rfl) (Zm Z2 7 undef rfl rfl (by kernel_rfl) (hM10 7 rfl) (fun w_=>.inr ⟨Yk (b:=true) 5 24 rfl (tr rfl (congrArg _ hb12)) (by decide),rfl⟩) (l9:=(Za 28 255)) (by kernel_rfl) (Zm Z2 8 undef rfl rfl (by kernel_rfl) (hM10 8 rfl) (fun w_=>.inr ⟨Yk (b:=true) 5 24 rfl (tr rfl (congrArg _ hb12)) (by decide),rfl⟩) (l9:=(Za 28 511)) (by kernel_rfl) (Zm Z2 9 undef rfl rfl (by kernel_rfl) (hM10 9 rfl) (fun w_=>.inr ⟨Yk (b:=true) 5 24 rfl (tr rfl (congrArg _ hb12)) (by decide),rfl⟩) (l9:=(Za 28 1023)) (by kernel_rfl) (aF 10 (.bool true) rfl rfl (hM10 10 rfl) (rfl) (fun _=>by exact Zmc (v:=.bool true) (b:=true) (by exact tr rfl (congrArg _ hb12)) rfl) (Za 28 2047) (aF 11 (.bool true) rfl rfl (hM10 11 rfl) (rfl) (fun _=>by exact Zf (v:=.bool true) rfl) (Za 28 4095) (Zm Z2 12 undef rfl rfl (by kernel_rfl) (hM10 12 rfl) (fun w_=>.inr ⟨Yk (b:=true) 11 30 rfl (tr rfl (congrArg _ rfl)) (by decide),rfl⟩) (l9:=(Za 28 8191)) (by kernel_rfl) (Zm Z2 13 undef rfl rfl (by kernel_rfl) (hM10 13 rfl) (fun w_=>.inr ⟨Yk (b:=true) 11 30 rfl (tr rfl (congrArg _ rfl)) (by decide),rfl⟩) (l9:=(Za 28 16383)) (by kernel_rfl) (Zm Z2 14 undef rfl rfl (by kernel_rfl) (hM10 14 rfl) (fun w_=>.inr ⟨Yk (b:=true) 11 30 rfl (tr rfl (congrArg _ rfl)) (by decide),rfl⟩) (l9:=(Za 28 32767)) (by kernel_rfl) ?_))))))))
    refine Zm Z2 15 undef rfl rfl (by kernel_rfl) (hM10 15 rfl) (fun w_=>.inr ⟨X6 14 33 rfl rfl,rfl⟩) (l9:=(Za 28 65535)) (by kernel_rfl) (Zm Z2 16 undef rfl rfl (by kernel_rfl) (hM10 16 rfl) (fun w_=>.inr ⟨X6 14 33 rfl rfl,rfl⟩) (l9:=(Za 28 131071)) (by kernel_rfl) (Zm Z2 17 undef rfl rfl (by kernel_rfl) (hM10 17 rfl) (fun w_=>.inr ⟨X6 14 33 rfl rfl,rfl⟩) (l9:=(Za 28 262143)) (by kernel_rfl) (Zm Z2 18 undef rfl rfl (by kernel_rfl) (hM10 18 rfl) (fun w_=>.inr ⟨X6 14 33 rfl rfl,rfl⟩) (l9:=(Za 28 524287)) (by kernel_rfl) (Zm Z2 19 undef rfl rfl (by kernel_rfl) (hM10 19 rfl) (fun w_=>.inr ⟨X6 14 33 rfl rfl,rfl⟩) (l9:=(Za 28 1048575)) (by kernel_rfl) (Zm Z2 20 undef rfl rfl (by kernel_rfl) (hM10 20 rfl) (fun w_=>.inr ⟨X6 14 33 rfl rfl,rfl⟩) (l9:=(Za 28 2097151)) (by kernel_rfl) (Zm Z2 21 undef rfl rfl (by kernel_rfl) (hM10 21 rfl) (fun w_=>.inr ⟨X6 14 33 rfl rfl,rfl⟩) (l9:=(Za 28 4194303)) (by kernel_rfl) (Zm Z2 22 undef rfl rfl (by kernel_rfl) (hM10 22 rfl) (fun w_=>.inr ⟨X6 14 33 rfl rfl,rfl⟩) (l9:=(Za 28 8388607)) (by kernel_rfl) (Zm Z2 23 undef rfl rfl (by kernel_rfl) (hM10 23 rfl) (fun w_=>.inr ⟨X6 14 33 rfl rfl,rfl⟩) (l9:=(Za 28 16777215)) (by kernel_rfl) (Zu 24 (by decide) (by decide) (by kernel_rfl) (by kernel_rfl) rfl (Zae 14 33 rfl rfl (Zae 14 33 rfl rfl ?_)))))))))))
    refine Zn (b:=true) 11 30 rfl (tr rfl (congrArg _ rfl)) (by decide) (Yc (v:=.bool true) (b:=true) rfl rfl (done (Zv (Zd (Yr rfl rfl (sr (Zc (v:=.bool false) rfl (dn ?_))))))))
    refine ZIi (Yd (Zo (Zo (Yd (Zo ?_)))))
    refine Zp (fn:=ZJc) rfl ?_ ⟨false,rfl,h,hC.below⟩ (.inl rfl)
    exact Zi rfl
   ·replace h:=Zk h (not_not_intro ((Jq hb12)))
    refine aF 6 (.pointer (some ⟨b10,8,none⟩)) rfl rfl (hM10 6 rfl) (Yn 5 24 rfl rfl hb12) (fun _=>by exact Z7 8 ZIp rfl sc2.size rfl rfl) (Za 28 127) (aL 7 (.int .i64 ((a1.terms.getD s10.toNat Zyt).factor)) rfl rfl (hM11 7 rfl) (Yn 5 24 rfl rfl hb12) (fun _ hB_=>by exact Z5 (hC.grow hB_) 0 (.int .i64 ((a1.terms.getD s10.toNat Zyt).factor)) rfl sc2 rfl rfl) (Za 28 255) (aO 8 rfl (Zl 5 24 rfl rfl hb12 ?_)))
    refine Zg [.int .i64 ((a1.terms.getD s10.toNat Zyt).factor),.int .i64 1,.int .i64 10006] _ Tryz.func59 rfl rfl rfl (Zks ((a1.terms.getD s10.toNat Zyt).factor) 1 10006 h _) (fun ret11 w15 hR11=>?_)
    obtain ⟨r10,rfl,h,hB11⟩:=hR11
    refine⟨_,rfl,?_⟩
    replace hC:=hC.grow hB11
    refine done (aK (by assumption) (Za 28 511) (aF 9 (.bool (!r10)) rfl rfl (hM10 9 rfl) (Yn 5 24 rfl rfl hb12) (fun _=>by exact Zjv rfl) (Za 28 1023) (aF 10 (.bool (!r10)) rfl rfl (hM10 10 rfl) (rfl) (fun _=>by exact Zmc (v:=.bool (!r10)) (b:=false) (by exact tr rfl (congrArg _ hb12)) rfl) (Za 28 2047) (aF 11 (.bool (!r10)) rfl rfl (hM10 11 rfl) (rfl) (fun _=>by exact Zf (v:=.bool (!r10)) rfl) (Za 28 4095) ?_))))
    refine Xh (!r10) (fun hb11=>?_) (fun hb11=>?_)
    ·replace h:=ift h (Xz (Jp hb11))
     refine Zm Z2 12 undef rfl rfl (by kernel_rfl) (hM10 12 rfl) (fun w_=>.inr ⟨Yk (b:=true) 11 30 rfl (tr rfl (congrArg _ hb11)) (by decide),rfl⟩) (l9:=(Za 28 8191)) (by kernel_rfl) (Zm Z2 13 undef rfl rfl (by kernel_rfl) (hM10 13 rfl) (fun w_=>.inr ⟨Yk (b:=true) 11 30 rfl (tr rfl (congrArg _ hb11)) (by decide),rfl⟩) (l9:=(Za 28 16383)) (by kernel_rfl) (Zm Z2 14 undef rfl rfl (by kernel_rfl) (hM10 14 rfl) (fun w_=>.inr ⟨Yk (b:=true) 11 30 rfl (tr rfl (congrArg _ hb11)) (by decide),rfl⟩) (l9:=(Za 28 32767)) (by kernel_rfl) (Zm Z2 15 undef rfl rfl (by kernel_rfl) (hM10 15 rfl) (fun w_=>.inr ⟨X6 14 33 rfl rfl,rfl⟩) (l9:=(Za 28 65535)) (by kernel_rfl) (Zm Z2 16 undef rfl rfl (by kernel_rfl) (hM10 16 rfl) (fun w_=>.inr ⟨X6 14 33 rfl rfl,rfl⟩) (l9:=(Za 28 131071)) (by kernel_rfl) (Zm Z2 17 undef rfl rfl (by kernel_rfl) (hM10 17 rfl) (fun w_=>.inr ⟨X6 14 33 rfl rfl,rfl⟩) (l9:=(Za 28 262143)) (by kernel_rfl) (Zm Z2 18 undef rfl rfl (by kernel_rfl) (hM10 18 rfl) (fun w_=>.inr ⟨X6 14 33 rfl rfl,rfl⟩) (l9:=(Za 28 524287)) (by kernel_rfl) (Zm Z2 19 undef rfl rfl (by kernel_rfl) (hM10 19 rfl) (fun w_=>.inr ⟨X6 14 33 rfl rfl,rfl⟩) (l9:=(Za 28 1048575)) (by kernel_rfl) (Zm Z2 20 undef rfl rfl (by kernel_rfl) (hM10 20 rfl) (fun w_=>.inr ⟨X6 14 33 rfl rfl,rfl⟩) (l9:=(Za 28 2097151)) (by kernel_rfl) ?_))))))))
     refine Zm Z2 21 undef rfl rfl (by kernel_rfl) (hM10 21 rfl) (fun w_=>.inr ⟨X6 14 33 rfl rfl,rfl⟩) (l9:=(Za 28 4194303)) (by kernel_rfl) (Zm Z2 22 undef rfl rfl (by kernel_rfl) (hM10 22 rfl) (fun w_=>.inr ⟨X6 14 33 rfl rfl,rfl⟩) (l9:=(Za 28 8388607)) (by kernel_rfl) (Zm Z2 23 undef rfl rfl (by kernel_rfl) (hM10 23 rfl) (fun w_=>.inr ⟨X6 14 33 rfl rfl,rfl⟩) (l9:=(Za 28 16777215)) (by kernel_rfl) (Zu 24 (by decide) (by decide) (by kernel_rfl) (by kernel_rfl) rfl (Zae 14 33 rfl rfl (Zae 14 33 rfl rfl (Zn (b:=true) 11 30 rfl (tr rfl (congrArg _ hb11)) (by decide) (Yc (v:=.bool true) (b:=true) (tr rfl (congrArg _ hb11)) rfl (done (Zv (Zd (Yr rfl rfl ?_)))))))))))
     refine sr (Zc (v:=.bool false) rfl (dn ?_))
     refine ZIi (Yd (Zo (Zo (Yd (Zo ?_)))))
     refine Zp (fn:=ZJc) rfl ?_ ⟨false,rfl,h,hC.below⟩ (.inl rfl)
     exact Zi rfl
    ·replace h:=Zk h (not_not_intro ((Jq hb11)))
     refine aF 12 (.int .i64 s10) rfl rfl (hM10 12 rfl) (Yn 11 30 rfl rfl hb11) (fun _=>by exact Zf (v:=.int .i64 s10) rfl) (Za 28 8191) (aF 13 (.bool (decide (s10 > 0))) rfl rfl (hM10 13 rfl) (Yn 11 30 rfl rfl hb11) (fun _=>by exact Zmh rfl rfl) (Za 28 16383) (aF 14 (.bool (decide (s10 > 0))) rfl rfl (hM10 14 rfl) (Yn 11 30 rfl rfl hb11) (fun _=>by exact Zf (v:=.bool (decide (s10 > 0))) rfl) (Za 28 32767) ?_))
     refine Xh (decide (s10 > 0)) (fun hb10=>?_) (fun hb10=>?_)
     ·replace h:=ift h (ct hb10)
      refine aF 15 (.pointer (some ⟨b5,0,none⟩)) rfl rfl (hM10 15 rfl) (Yn 14 33 rfl rfl hb10) (fun _=>by exact Z7 0 ZIf rfl sc53.size rfl rfl) (Za 28 65535) (aL 16 (u1_0) rfl rfl (hM11 16 rfl) (Yn 14 33 rfl rfl hb10) (fun _ hB_=>by exact Z5 (hC.grow hB_) 1 (u1_0) rfl sc53 rfl rfl) (Za 28 131071) (aF 17 (.int .i64 s10) rfl rfl (hM10 17 rfl) (Yn 14 33 rfl rfl hb10) (fun _=>by exact Zf (v:=.int .i64 s10) rfl) (Za 28 262143) (aF 18 (.int .i64 (ZA7.wrap (s10 - 1))) rfl rfl (hM10 18 rfl) (Yn 14 33 rfl rfl hb10) (fun _=>by exact Zci rfl rfl) (Za 28 524287) ?_)))
      obtain ⟨⟨h12,h13⟩,h⟩:=h
      obtain ⟨Ad10,c12,hv11⟩:=Z0 (hC.getP 0 rfl) ((ZA7.wrap (s10 - 1)).toNat) (show (ZA7.wrap (s10 - 1)).toNat < a1.terms.length by omega)
      refine aL 19 (.pointer (some (Ad10.add ((ZA7.wrap (s10 - 1)).toNat * 9)))) rfl rfl (hM11 19 rfl) (Yn 14 33 rfl rfl hb10) (fun _ hB_=>by exact Yp (len:=a1.terms.length) ZIh ag162.size (by exact tr rfl hv11) rfl h12 h13) (Za 28 1048575) (aF 20 (.pointer (some (Ad10.add ((ZA7.wrap (s10 - 1)).toNat * 9+0)))) rfl rfl (hM10 20 rfl) (Yn 14 33 rfl rfl hb10) (fun _=>by exact Zau ((ZA7.wrap (s10 - 1)).toNat * 9+0) ZIp rfl ag136.size rfl rfl) (Za 28 2097151) (aL 21 (.agg (ZH8 (ZH6 .u8 ((a1.terms.getD ((ZA7.wrap (s10 - 1)).toNat) Zyt).mono)))) rfl rfl (hM11 21 rfl) (Yn 14 33 rfl rfl hb10) (fun _ hB_=>by exact X4 (ZH6 .u8 ((a1.terms.getD ((ZA7.wrap (s10 - 1)).toNat) Zyt).mono)) (J2 (o:=0) (k:=8) (Yf ((hC.grow hB_).getP 0 rfl) hv11 ((ZA7.wrap (s10 - 1)).toNat) (show (ZA7.wrap (s10 - 1)).toNat < a1.terms.length by omega)) rfl) ag136 rfl rfl) (Za 28 4194303) (aF 22 (.pointer (some ⟨b10,0,none⟩)) rfl rfl (hM10 22 rfl) (Yn 14 33 rfl rfl hb10) (fun _=>by exact Z7 0 ZIp rfl ag136.size rfl rfl) (Za 28 8388607) (aL 23 (.agg (ZH8 (ZH6 .u8 ((a1.terms.getD s10.toNat Zyt).mono)))) rfl rfl (hM11 23 rfl) (Yn 14 33 rfl rfl hb10) (fun _ hB_=>by exact Yv (hC.grow hB_) 0 (ZH6 .u8 ((a1.terms.getD s10.toNat Zyt).mono)) rfl ag136 rfl rfl rfl) (Za 28 16777215) ?_))))
      refine Zu 24 (by decide) (by decide) (by kernel_rfl) (by kernel_rfl) rfl (Zl 14 33 rfl rfl hb10 ?_)
      refine Zg [.agg (ZH8 (ZH6 .u8 ((a1.terms.getD ((ZA7.wrap (s10 - 1)).toNat) Zyt).mono))),.agg (ZH8 (ZH6 .u8 ((a1.terms.getD s10.toNat Zyt).mono)))] _ ZI8 rfl rfl rfl (Zkt ((a1.terms.getD ((ZA7.wrap (s10 - 1)).toNat) Zyt).mono) ((a1.terms.getD s10.toNat Zyt).mono) h _) (fun ret12 w16 hR12=>?_)
      obtain ⟨r12,rfl,h,hB12⟩:=hR12
      refine⟨_,rfl,?_⟩
      replace hC:=hC.grow hB12
      refine Zl 14 33 rfl rfl hb10 (Jf rfl (Zl 11 30 rfl rfl hb11 (Yc (v:=.bool (!r12)) (b:=true) (tr rfl (congrArg _ hb10)) rfl (Yc (v:=.bool (!r12)) (b:=false) (tr rfl (congrArg _ hb11)) rfl (done (Zv (Zd ?_)))))))
      refine Zr rfl (fun hb14=>?_) (fun hb14=>?_)
      ·replace h:=ift h (Xz (Jp hb14))
       refine sr (Zc (v:=.bool false) rfl (dn ?_))
       refine ZIi (Yd (Zo (Zo (Yd (Zo ?_)))))
       refine Zp (fn:=ZJc) rfl ?_ ⟨false,rfl,h,hC.below⟩ (.inl rfl)
       exact Zi rfl
      ·replace h:=Zk h (not_not_intro ((Jq hb14)))
       refine ZIe (Zs (Zd (Zh (Zb (v:=.int .i64 s10) rfl (Zq rfl rfl (Zc (v:=.int .i64 (ZA7.wrap (s10+1))) rfl (done ?_)))))))
       replace hC:=hC.sM [1] (M':=[blk b5 55 [u1_0]]) (by decide) rfl
       exact hK10 (ZA7.wrap (s10+1)) _ _ ⟨(sl ⟨rfl,rfl,rfl,trivial⟩),hC⟩ h
     ·replace h:=Zk h (cf hb10)
      refine Zm Z2 15 undef rfl rfl (by kernel_rfl) (hM10 15 rfl) (fun w_=>.inr ⟨Yk (b:=false) 14 33 rfl (tr rfl (congrArg _ hb10)) (by decide),rfl⟩) (l9:=(Za 28 65535)) (by kernel_rfl) (Zm Z2 16 undef rfl rfl (by kernel_rfl) (hM10 16 rfl) (fun w_=>.inr ⟨Yk (b:=false) 14 33 rfl (tr rfl (congrArg _ hb10)) (by decide),rfl⟩) (l9:=(Za 28 131071)) (by kernel_rfl) (Zm Z2 17 undef rfl rfl (by kernel_rfl) (hM10 17 rfl) (fun w_=>.inr ⟨Yk (b:=false) 14 33 rfl (tr rfl (congrArg _ hb10)) (by decide),rfl⟩) (l9:=(Za 28 262143)) (by kernel_rfl) (Zm Z2 18 undef rfl rfl (by kernel_rfl) (hM10 18 rfl) (fun w_=>.inr ⟨Yk (b:=false) 14 33 rfl (tr rfl (congrArg _ hb10)) (by decide),rfl⟩) (l9:=(Za 28 524287)) (by kernel_rfl) (Zm Z2 19 undef rfl rfl (by kernel_rfl) (hM10 19 rfl) (fun w_=>.inr ⟨Yk (b:=false) 14 33 rfl (tr rfl (congrArg _ hb10)) (by decide),rfl⟩) (l9:=(Za 28 1048575)) (by kernel_rfl) (Zm Z2 20 undef rfl rfl (by kernel_rfl) (hM10 20 rfl) (fun w_=>.inr ⟨Yk (b:=false) 14 33 rfl (tr rfl (congrArg _ hb10)) (by decide),rfl⟩) (l9:=(Za 28 2097151)) (by kernel_rfl) (Zm Z2 21 undef rfl rfl (by kernel_rfl) (hM10 21 rfl) (fun w_=>.inr ⟨Yk (b:=false) 14 33 rfl (tr rfl (congrArg _ hb10)) (by decide),rfl⟩) (l9:=(Za 28 4194303)) (by kernel_rfl) (Zm Z2 22 undef rfl rfl (by kernel_rfl) (hM10 22 rfl) (fun w_=>.inr ⟨Yk (b:=false) 14 33 rfl (tr rfl (congrArg _ hb10)) (by decide),rfl⟩) (l9:=(Za 28 8388607)) (by kernel_rfl) ?_)))))))
      refine Zm Z2 23 undef rfl rfl (by kernel_rfl) (hM10 23 rfl) (fun w_=>.inr ⟨Yk (b:=false) 14 33 rfl (tr rfl (congrArg _ hb10)) (by decide),rfl⟩) (l9:=(Za 28 16777215)) (by kernel_rfl) (Zu 24 (by decide) (by decide) (by kernel_rfl) (by kernel_rfl) rfl (Zn (b:=false) 14 33 rfl (tr rfl (congrArg _ hb10)) (by decide) (Zn (b:=false) 14 33 rfl (tr rfl (congrArg _ hb10)) (by decide) (Zl 11 30 rfl rfl hb11 (Yc (v:=.bool false) (b:=false) (tr rfl (congrArg _ hb10)) rfl (Yc (v:=.bool false) (b:=false) (tr rfl (congrArg _ hb11)) rfl (done (Zv (Zd (Yi rfl rfl (ZIe ?_)))))))))))
      refine Zs (Zd (Zh (Zb (v:=.int .i64 s10) rfl (Zq rfl rfl (Zc (v:=.int .i64 (ZA7.wrap (s10+1))) rfl (done ?_))))))
      replace hC:=hC.sM [1] (M':=[blk b5 55 [u1_0]]) (by decide) rfl
      exact hK10 (ZA7.wrap (s10+1)) _ _ ⟨(sl ⟨rfl,rfl,rfl,trivial⟩),hC⟩ h
  ·replace h:=Zk h (cf hb13)
   refine ZIr (Zj (Zj (Z9 ?_)))
   refine Zd (sr (Z6 0 ZIf rfl sc53.size rfl rfl (Z8 hC 0 (u1_0) rfl sc53 rfl rfl ?_)))
   obtain ⟨Ad13,c13,hv13⟩:=Z1 (hC.getP 0 rfl)
   refine Zx ZIh (tr rfl hv13) (Zb4 rfl rfl (Zc (v:=.bool (decide ((a1.terms.length:Int)≤400))) rfl (dn (ZIi ?_))))
   refine Zp (fn:=ZJc) rfl ?_ ⟨decide ((a1.terms.length:Int)≤400),rfl,h,hC.below⟩ (.inl rfl)
   exact Zi rfl
 ·skip
  exact⟨(sl ⟨rfl,rfl,rfl,trivial⟩),hC⟩
def Zc6 (a0:List Int) (a1:A8) (K:Int→Prop):Prop :=
 Yt (fun i10 (s10:Int) nx10=>((0≤(i10:Int)∧(i10:Int) < 8)∧nx10 (ZA7.wrap (s10+(ZA7.wrap ((a0.getD i10 Zyt) * (ZA7.wrap (a1.get i10)))))))) (fun (s10:Int)=>K s10) a0.length 0 0
theorem Zku (a0:List Int) (a1:A8) {u0_0:Value} {fp0:List Nat} {K:Int→Prop} (h:Zc6 a0 a1 K) (w0:World) (q0:((EI .i64).ty.sl).rep a0 [u0_0] fp0 w0) :
  Calls ZId 121 #[u0_0,.agg (ZH8 (ZH6 .u8 a1))] w0 fun e w'=>∃ (r0:Int),
   e=.returned (.int .i64 r0)∧K r0∧Bel w0 w':=by
 unfold Zc6 at h
 refine Z4 (args:=[u0_0,.agg (ZH8 (ZH6 .u8 a1))]) ZJd rfl 25 Tryz.ntmps121 (ZIc rfl) ?_
 have hC:=ZIt (X:=Nox) w0 [ZH7 ((EI .i64).ty.sl) a0 [u0_0] fp0] (by simp only [Zyz,ZAt,or_false,forall_eq_or_imp,forall_eq]; exact q0)
 refine sr (Yl (v:=.agg (ZH8 (ZH6 .u8 a1))) hC (ZH6 .u8 a1) rfl rfl fun b2 w4 hB_ hC=>Zc (v:=.int .i64 0) rfl (dn (sr (Zc (v:=.int .i64 0) rfl (dn (ZIa (sr (Zc (v:=.int .i64 0) rfl (dn (ZIj ?_))))))))))
 have hN10:a0.length≤9223372036854775807:=Xp (hC.getP 0 rfl)
 refine Y9 (S:=Int) _ _ (fun i10 s10 e_ w_=>Z3 e_ [(0,u0_0),(3,.pointer (some ⟨b2,0,none⟩)),(5,.int .i64 s10),(6,.int .i64 (i10:Int))]∧Ctx Nox w0 w_ [blk b2 136 (ZH6 .u8 a1)] [ZH7 ((EI .i64).ty.sl) a0 [u0_0] fp0]) a0.length ?_ ?_ (s0:=0) ?_ h
 ·clear hC h
  rintro i10 s10 e_ w10 nx10 K10 hi10 ⟨hS_,hC⟩ h hK10
  rw [ue hS_]
  refine ZIa (sr (Zb (v:=.int .i64 (i10:Int)) rfl (Zb (v:=u0_0) rfl ?_)))
  obtain ⟨Ad11,c10,hv11⟩:=Z1 (hC.getP 0 rfl)
  refine Zx ZIs (tr rfl hv11) (Zt rfl rfl (dn (Yr rfl (decide_eq_true (by omega)) (ZIe (Zd (ZIa (ZIj ?_)))))))
  refine Yg 10 Ye [0,0,0,6,14,0,32,96,224,510,1023,2047] [3,4,6,7] [0,1,2,5,8,9] (by kernel_rfl) (by kernel_rfl) (by kernel_rfl) (fun hM11 hM10 w11 hB_=>?_)
  replace hC:=hC.grow hB_
  refine aF 0 (.int .i64 s10) rfl rfl (hM10 0 rfl) (rfl) (fun _=>by exact Zf (v:=.int .i64 s10) rfl) (Za 12 1) (aF 1 (u0_0) rfl rfl (hM10 1 rfl) (rfl) (fun _=>by exact Zf (v:=u0_0) rfl) (Za 12 3) (aF 2 (.int .i64 (i10:Int)) rfl rfl (hM10 2 rfl) (rfl) (fun _=>by exact Zf (v:=.int .i64 (i10:Int)) rfl) (Za 12 7) ?_))
  obtain ⟨Ad10,c11,hv10⟩:=Z0 (hC.getP 0 rfl) i10 hi10
  refine aL 3 (.pointer (some (Ad10.add (i10 * 1)))) rfl rfl (hM11 3 rfl) (rfl) (fun _ hB_=>by exact Yp (len:=a0.length) ZIs sc2.size (by exact tr rfl hv10) rfl (ZIv _) (ZJi.2 hi10)) (Za 12 15) (aL 4 (.int .i64 (a0.getD i10 Zyt)) rfl rfl (hM11 4 rfl) (rfl) (fun _ hB_=>by exact Xc (.int .i64 (a0.getD i10 Zyt)) (Yf ((hC.grow hB_).getP 0 rfl) hv10 i10 hi10) sc2 rfl) (Za 12 31) (aF 5 (.int .i64 (i10:Int)) rfl rfl (hM10 5 rfl) (rfl) (fun _=>by exact Zf (v:=.int .i64 (i10:Int)) rfl) (Za 12 63) ?_))
  obtain ⟨⟨h10,h11⟩,h⟩:=h
  refine aL 6 (.pointer (some ⟨b2,i10,none⟩)) rfl rfl (hM11 6 rfl) (rfl) (fun _ hB_=>by exact Zaa i10 ZIn sc5.size rfl rfl h10 h11 (by omega)) (Za 12 127) (aL 7 (.int .u8 (a1.get i10)) rfl rfl (hM11 7 rfl) (rfl) (fun _ hB_=>by exact Z5 (hC.grow hB_) 0 (.int .u8 (a1.get i10)) rfl sc5 rfl (ZIu _ _ (show i10 < 8 by omega))) (Za 12 255) (aF 8 (.int .i64 (ZA7.wrap (a1.get i10))) rfl rfl (hM10 8 rfl) (rfl) (fun _=>by exact Zfb ZI6 ZJe rfl) (Za 12 511) (aF 9 (.int .i64 (ZA7.wrap ((a0.getD i10 Zyt) * (ZA7.wrap (a1.get i10))))) rfl rfl (hM10 9 rfl) (rfl) (fun _=>by exact Zbi rfl rfl) (Za 12 1023) (Zu 10 (by decide) (by decide) (by kernel_rfl) (by kernel_rfl) rfl (Zq rfl rfl (Zc (v:=.int .i64 (ZA7.wrap (s10+(ZA7.wrap ((a0.getD i10 Zyt) * (ZA7.wrap (a1.get i10))))))) rfl (done (Zv (Zs (Zd (Zh ?_)))))))))))
  refine Zb (v:=.int .i64 (i10:Int)) rfl (Zq rfl rfl (Zc (v:=.int .i64 (ZA7.wrap ((i10:Int)+1))) rfl (done ?_)))
  exact hK10 (ZA7.wrap (s10+(ZA7.wrap ((a0.getD i10 Zyt) * (ZA7.wrap (a1.get i10)))))) _ _ ⟨(sl ⟨rfl,rfl,rfl,(tr rfl (congrArg _ (Yh hi10 hN10))),trivial⟩),hC⟩ h
 ·clear hC h
  rintro s10 e_ w12 K10 ⟨hS_,hC⟩ h
  rw [ue hS_]
  refine ZIa (sr (Zb (v:=.int .i64 (a0.length:Int)) rfl (Zb (v:=u0_0) rfl ?_)))
  obtain ⟨Ad12,c12,hv12⟩:=Z1 (hC.getP 0 rfl)
  refine Zx ZIs (tr rfl hv12) (Zt rfl rfl (dn (Yi rfl (decide_eq_false (by omega)) ?_)))
  refine ZIr (Zj (Zj (Z9 ?_)))
  refine Zd (sr (Zb (v:=.int .i64 s10) rfl (Zc (v:=.int .i64 s10) rfl (dn (ZIi ?_)))))
  refine Zp (fn:=Tryz.f121) rfl ?_ ⟨s10,rfl,h,hC.below⟩ (.inl rfl)
  exact Zi rfl
 ·skip
  exact⟨(sl ⟨rfl,rfl,rfl,rfl,trivial⟩),hC⟩
def Zf6 (a0:List Int) (a1:ZIb) (K:Int→Bool→Prop):Prop :=
 (if(a1.terms.length:Int)=0 then K (-1) true else((0≤(0:Int)∧(0:Int) < (a1.terms.length:Int))∧Zc6 a0 ((a1.terms.getD 0 Zyt).mono) (fun r10=>Xj (fun (s10:Int) nx10=>(if s10 < (a1.terms.length:Int) then((0≤s10∧s10 < (a1.terms.length:Int))∧Zc6 a0 ((a1.terms.getD s10.toNat Zyt).mono) (fun r11=>(if r11≠r10 then K 0 false else nx10 (ZA7.wrap (s10+1))))) else K r10 true)) 1)))
theorem Zsw (a0:List Int) (a1:ZIb) {u0_0:Value} {u1_0:Value} {fp0:List Nat} {fp1:List Nat} {K:Int→Bool→Prop} (h:Zf6 a0 a1 K) (w0:World) (q0:((EI .i64).ty.sl).rep a0 [u0_0] fp0 w0) (q1:ZIo.rep a1 [u1_0] fp1 w0) :
  Calls ZId 69 #[u0_0,.agg #[u1_0]] w0 fun e w'=>∃ (r0:Int) (r1:Bool),
   e=.returned (.tuple #[.int .i64 r0,.bool r1])∧K r0 r1∧Bel w0 w':=by
 unfold Zf6 at h
 refine Z4 (args:=[u0_0,.agg #[u1_0]]) Tryz.func69 rfl 37 Tryz.ntmps69 (ZIc rfl) ?_
 have hC:=ZIt (X:=Nox) w0 [ZH7 ((EI .i64).ty.sl) a0 [u0_0] fp0,ZH7 TForm a1 [u1_0] fp1] (by simp only [Zyz,ZAt,or_false,forall_eq_or_imp,forall_eq]; exact⟨q0,q1⟩)
 have hp3:=(hC.getP 1 rfl)
 replace hC:=hC.derive 1 rfl (ZH7 ZH9.ty.sl a1.terms [u1_0] fp1) (fun _=>(Xi hp3)) (fun _ hb_=>hb_)
 refine sr (Yl (v:=.agg #[u1_0]) hC [u1_0] rfl rfl fun b5 w7 hB_ hC=>Zc (v:=.int .i64 0) rfl (Zc (v:=.bool false) rfl (dn (ZIa (sr (Z6 0 ZIf rfl sc53.size rfl rfl (Z8 hC 0 (u1_0) rfl sc53 rfl rfl ?_)))))))
 obtain ⟨Ad8,c9,hv12⟩:=Z1 (hC.getP 0 rfl)
 refine Zx ZIh (tr rfl hv12) (Jm rfl rfl (dn ?_))
 refine Zr rfl (fun hb10=>?_) (fun hb10=>?_)
 ·replace h:=ift h (ct hb10)
  refine sr (Zc (v:=.int .i64 (-1)) rfl (Zc (v:=.bool true) rfl (dn ?_)))
  refine ZIi (Zo ?_)
  refine Jo (fn:=Tryz.f69) rfl ?_ ?_ ⟨(-1),true,rfl,h,hC.below⟩ (.inl rfl)
  ·exact Zi rfl
  ·exact Zi rfl
 ·replace h:=Zk h (cf hb10)
  refine ZIe (Zd (sr (Zb (v:=u0_0) rfl (Z6 0 ZIf rfl sc53.size rfl rfl (Z8 hC 0 (u1_0) rfl sc53 rfl rfl ?_)))))
  obtain ⟨⟨h10,h11⟩,h⟩:=h
  obtain ⟨Ad10,c10,hv10⟩:=Z0 (hC.getP 0 rfl) 0 (show 0 < a1.terms.length by omega)
  refine Xb (len:=a1.terms.length) ZIh ag162.size (tr rfl hv10) rfl h10 h11 (Zea (0 * 9+0) ZIp rfl ag136.size rfl rfl (Zav (ZH6 .u8 ((a1.terms.getD 0 Zyt).mono)) (J2 (o:=0) (k:=8) (Yf (hC.getP 0 rfl) hv10 0 (show 0 < a1.terms.length by omega)) rfl) ag136 rfl rfl ?_))
  refine Zg [u0_0,.agg (ZH8 (ZH6 .u8 ((a1.terms.getD 0 Zyt).mono)))] _ ZJd rfl rfl rfl (Zku a0 ((a1.terms.getD 0 Zyt).mono) h _ (hC.getP 1 rfl)) (fun ret10 w10 hR10=>?_)
  obtain ⟨r10,rfl,h,hB10⟩:=hR10
  refine⟨_,rfl,?_⟩
  replace hC:=hC.grow hB10
  refine Zc (v:=.int .i64 r10) rfl (dn (ZIa (sr (Zc (v:=.int .i64 1) rfl (dn (ZIj ?_))))))
  refine X1 (S:=Int) _ (fun s10 e_ w_=>Z3 e_ [(0,u0_0),(3,.pointer (some ⟨b5,0,none⟩)),(6,.int .i64 r10),(7,.int .i64 s10)]∧Ctx Nox w0 w_ [blk b5 55 [u1_0]] [ZH7 ZH9.ty.sl a1.terms [u1_0] fp1,ZH7 ((EI .i64).ty.sl) a0 [u0_0] fp0,ZH7 TForm a1 [u1_0] fp1]) ?_ (s0:=1) ?_ h
  ·clear hC h
   rintro s10 e_ w11 nx10 K10 ⟨hS_,hC⟩ h hK10
   rw [ue hS_]
   refine ZIa (sr (Zb (v:=.int .i64 s10) rfl (Z6 0 ZIf rfl sc53.size rfl rfl (Z8 hC 0 (u1_0) rfl sc53 rfl rfl ?_))))
   obtain ⟨Ad11,c11,hv13⟩:=Z1 (hC.getP 0 rfl)
   refine Zx ZIh (tr rfl hv13) (Zt rfl rfl (dn ?_))
   refine Zr rfl (fun hb11=>?_) (fun hb11=>?_)
   ·replace h:=ift h (ct hb11)
    refine ZIe (Zd (ZIa (ZIj (sr (Zb (v:=u0_0) rfl (Z6 0 ZIf rfl sc53.size rfl rfl (Z8 hC 0 (u1_0) rfl sc53 rfl rfl (Zb (v:=.int .i64 s10) rfl ?_))))))))
    obtain ⟨⟨h12,h13⟩,h⟩:=h
    obtain ⟨Ad12,c12,hv11⟩:=Z0 (hC.getP 0 rfl) s10.toNat (show s10.toNat < a1.terms.length by omega)
    refine Xb (len:=a1.terms.length) ZIh ag162.size (tr rfl hv11) rfl h12 h13 (Zea (s10.toNat * 9+0) ZIp rfl ag136.size rfl rfl (Zav (ZH6 .u8 ((a1.terms.getD s10.toNat Zyt).mono)) (J2 (o:=0) (k:=8) (Yf (hC.getP 0 rfl) hv11 s10.toNat (show s10.toNat < a1.terms.length by omega)) rfl) ag136 rfl rfl ?_))
    refine Zg [u0_0,.agg (ZH8 (ZH6 .u8 ((a1.terms.getD s10.toNat Zyt).mono)))] _ ZJd rfl rfl rfl (Zku a0 ((a1.terms.getD s10.toNat Zyt).mono) h _ (hC.getP 1 rfl)) (fun ret11 w12 hR11=>?_)
    obtain ⟨r11,rfl,h,hB11⟩:=hR11
    refine⟨_,rfl,?_⟩
    replace hC:=hC.grow hB11
    refine Zb (v:=.int .i64 r10) rfl (Xl rfl rfl (dn ?_))
    refine Zr rfl (fun hb12=>?_) (fun hb12=>?_)
    ·replace h:=ift h (ct hb12)
     refine sr (Zc (v:=.int .i64 0) rfl (Zc (v:=.bool false) rfl (dn ?_)))
     refine ZIi (Yd (Zo (Zo (Yd (Zo ?_)))))
     refine Jo (fn:=Tryz.f69) rfl ?_ ?_ ⟨0,false,rfl,h,hC.below⟩ (.inl rfl)
     ·exact Zi rfl
     ·exact Zi rfl
    ·replace h:=Zk h (cf hb12)
     refine ZIe (Zs (Zd (Zh (Zb (v:=.int .i64 s10) rfl (Zq rfl rfl (Zc (v:=.int .i64 (ZA7.wrap (s10+1))) rfl (done ?_)))))))
     exact hK10 (ZA7.wrap (s10+1)) _ _ ⟨(sl ⟨rfl,rfl,rfl,rfl,trivial⟩),hC⟩ h
   ·replace h:=Zk h (cf hb11)
    refine ZIr (Zj (Zj (Z9 ?_)))
    refine Zd (sr (Zb (v:=.int .i64 r10) rfl (Zc (v:=.int .i64 r10) rfl (Zc (v:=.bool true) rfl (dn (ZIi ?_))))))
    refine Jo (fn:=Tryz.f69) rfl ?_ ?_ ⟨r10,true,rfl,h,hC.below⟩ (.inl rfl)
    ·exact Zi rfl
    ·exact Zi rfl
  ·skip
   exact⟨(sl ⟨rfl,rfl,rfl,rfl,trivial⟩),hC⟩
def Zeo (a0:Alg) (a1:ZIb) (K:ZIb→Prop):Prop :=
 Xj (fun (s11:(List Term)×Int) nx12=>(if s11.2 < (a1.terms.length:Int) then((0≤s11.2∧s11.2 < (a1.terms.length:Int))∧Xj (fun (s10:(List Term)×Int) nx11=>(if s10.2 < (a0.degrees.length:Int) then((0≤s10.2∧s10.2 < 8)∧(if((a1.terms.getD s11.2.toNat Zyt).mono).get s10.2.toNat=0 then nx11 (s10.1,ZA7.wrap (s10.2+1)) else Yt (fun i10 (s12:A8×A8) nx10=>(if(i10:Int)≥s10.2 then(if(i10:Int)≤s10.2 then nx10 (s12.1.set i10 0,s12.2.set i10 0) else nx10 (s12.1.set i10 0,s12.2)) else(if(i10:Int)≤s10.2 then nx10 (s12.1,s12.2.set i10 0) else nx10 (s12.1,s12.2)))) (fun (s12:A8×A8)=>((0≤s10.2∧s10.2 < 8)∧((0≤s10.2∧s10.2 < 8)∧((0≤s11.2∧s11.2 < (a1.terms.length:Int))∧((0≤s10.2∧s10.2 < 8)∧Zc6 a0.degrees s12.1 (fun r28=>(if Zyy r28 2≠0 then((0≤s10.2∧s10.2 < (a0.images.length:Int))∧Jb (s12.1.set s10.2.toNat (ZIk.wrap ((((a1.terms.getD s11.2.toNat Zyt).mono).get s10.2.toNat) - 1))) 1 (fun r18=>Jk a0.degrees r18 (a0.images.getD s10.2.toNat Zyt) (fun r12=>Jb s12.2 1 (fun r13=>Jk a0.degrees r12 r13 (fun r14=>Jh (ZA7.wrap (0 - (ZA7.wrap (((a1.terms.getD s11.2.toNat Zyt).factor) * (ZA7.wrap (((a1.terms.getD s11.2.toNat Zyt).mono).get s10.2.toNat)))))) (fun r20=>Zah (⟨s10.1⟩:ZIb) r14 r20 (fun r10=>nx11 (r10.terms,ZA7.wrap (s10.2+1))))))))) else((0≤s10.2∧s10.2 < (a0.images.length:Int))∧Jb (s12.1.set s10.2.toNat (ZIk.wrap ((((a1.terms.getD s11.2.toNat Zyt).mono).get s10.2.toNat) - 1))) 1 (fun r19=>Jk a0.degrees r19 (a0.images.getD s10.2.toNat Zyt) (fun r15=>Jb s12.2 1 (fun r16=>Jk a0.degrees r15 r16 (fun r17=>Jh (ZA7.wrap (((a1.terms.getD s11.2.toNat Zyt).factor) * (ZA7.wrap (((a1.terms.getD s11.2.toNat Zyt).mono).get s10.2.toNat)))) (fun r21=>Zah (⟨s10.1⟩:ZIb) r17 r21 (fun r11=>nx11 (r11.terms,ZA7.wrap (s10.2+1)))))))))))))))) 8 0 ((a1.terms.getD s11.2.toNat Zyt).mono,(a1.terms.getD s11.2.toNat Zyt).mono))) else nx12 (s10.1,ZA7.wrap (s11.2+1)))) (s11.1,0)) else K (⟨s11.1⟩:ZIb))) ([],0)
theorem Znw (a0 : Alg) (a1 : ZIb) {u0_0 : Value} {u0_1 : Value} {u1_0 : Value} {fp0 : List Nat} {fp1 : List Nat} {K : ZIb → Prop} (h : Zeo a0 a1 K) (w0 : World) (q0 : TAlg.rep a0 [u0_0, u0_1] fp0 w0) (q1 : ZIo.rep a1 [u1_0] fp1 w0) :
  Calls ZId 71 #[.agg #[u0_0,u0_1],.agg #[u1_0]] w0 fun e w'=>∃ (r0:ZIb) (z0_0:Value) (fz0:List Nat),
   e=.returned (.agg #[z0_0])∧K r0∧(ZIm (Ya 162) r0 [z0_0] fz0).holds w'∧(∀ b,b∈fz0→w0.heap.size≤b)∧Bel w0 w':=by
 unfold Zeo at h
 refine Z4 (args:=[.agg #[u0_0,u0_1],.agg #[u1_0]]) Tryz.func71 rfl 103 Tryz.ntmps71 (ZIc rfl) ?_
 have hC:=ZIt (X:=Nox) w0 [ZH7 TAlg a0 [u0_0,u0_1] fp0,ZH7 TForm a1 [u1_0] fp1] (by simp only [Zyz,ZAt,or_false,forall_eq_or_imp,forall_eq]; exact⟨q0,q1⟩)
 have hp3:=(hC.getP 0 rfl)
 replace hC:=hC.derive 0 rfl (ZH7 ((EI .i64).ty.sl) a0.degrees [u0_0] fp0) (fun _=>(Yw hp3).1) (fun _ hb_=>hb_)
 replace hC:=hC.derive 1 rfl (ZH7 ZIo.sl a0.images [u0_1] fp0) (fun _=>(Yw hp3).2) (fun _ hb_=>hb_)
 have hp6:=(hC.getP 3 rfl)
 replace hC:=hC.derive 3 rfl (ZH7 ZH9.ty.sl a1.terms [u1_0] fp1) (fun _=>(Xi hp6)) (fun _ hb_=>hb_)
 refine sr (Yl (v:=.agg #[u0_0,u0_1]) hC [u0_0,u0_1] rfl rfl fun b8 w11 hB_ hC=>Yl (v:=.agg #[u1_0]) hC [u1_0] rfl rfl fun b10 w12 hB_ hC=>Yj hC [.slice none 0 0] z55 rfl fun b11 w13 hB_ hC=>dn (sr (Jn [] rfl (Zdp   _) (Yj hC [.slice none 0 0] z55 rfl fun b12 w14 hB_ hC=>Zw (v:=.agg #[.slice none 0 0]) hC 0 [.slice none 0 0] [.slice none 0 0] rfl ag55.size rfl rfl rfl rfl rfl (ZIc rfl) rfl fun w15 hC=>dn (ZIa (sr ?_))))))
 refine Zc (v:=.int .i64 0) rfl (dn (ZIj ?_))
 refine X1 (S:=(List Term)×Int) _ (fun s11 e_ w_=>∃ (v11:Value),Z3 e_ [(2,.pointer (some ⟨b8,0,none⟩)),(3,.pointer (some ⟨b10,0,none⟩)),(4,.pointer (some ⟨b11,0,none⟩)),(5,.pointer (some ⟨b12,0,none⟩)),(6,.int .i64 s11.2)]∧Ctx Nox w0 w_ [own 162 9 v11 s11.1.length (ZH9.encs s11.1),blk b12 55 [v11],blk b11 55 [.slice none 0 0],blk b10 55 [u1_0],blk b8 32 [u0_0,u0_1]] [ZH7 ZH9.ty.sl a1.terms [u1_0] fp1,ZH7 ZIo.sl a0.images [u0_1] fp0,ZH7 ((EI .i64).ty.sl) a0.degrees [u0_0] fp0,ZH7 TAlg a0 [u0_0,u0_1] fp0,ZH7 TForm a1 [u1_0] fp1]) ?_ (s0:=([],0)) ?_ h
 ·clear hC h
  rintro s11 e_ w16 nx12 K11 ⟨v11,hS_,hC⟩ h hK12
  rw [ue hS_]
  refine ZIa (sr (Zb (v:=.int .i64 s11.2) rfl (Z6 0 ZIf rfl sc53.size rfl rfl (Z8 hC 3 (u1_0) rfl sc53 rfl rfl ?_))))
  obtain ⟨Ad13,c10,hv14⟩:=Z1 (hC.getP 0 rfl)
  refine Zx ZIh (tr rfl hv14) (Zt rfl rfl (dn ?_))
  refine Zr rfl (fun hb10=>?_) (fun hb10=>?_)
  ·replace h := ift h (ct hb10)
   refine ZIe (Zd (ZIa (ZIj (sr (Z6 0 ZIf rfl sc53.size rfl rfl (Z8 hC 3 (u1_0) rfl sc53 rfl rfl (Zb (v:=.int .i64 s11.2) rfl ?_)))))))
   obtain ⟨⟨h10,h11⟩,h⟩:=h
   obtain ⟨Ad14,c11,hv10⟩:=Z0 (hC.getP 0 rfl) s11.2.toNat (show s11.2.toNat < a1.terms.length by omega)
   refine Xb (len:=a1.terms.length) ZIh ag162.size (tr rfl hv10) rfl h10 h11 (Zea (s11.2.toNat * 9+0) ZIp rfl ag136.size rfl rfl (Zav (ZH6 .u8 ((a1.terms.getD s11.2.toNat Zyt).mono)) (J2 (o:=0) (k:=8) (Yf (hC.getP 0 rfl) hv10 s11.2.toNat (show s11.2.toNat < a1.terms.length by omega)) rfl) ag136 rfl rfl (Yj hC (ZH6 .u8 ZIg) Za6 rfl fun b13 w17 hB_ hC=>Zw (v:=.agg (ZH8 (ZH6 .u8 ((a1.terms.getD s11.2.toNat Zyt).mono)))) hC 0 (ZH6 .u8 ((a1.terms.getD s11.2.toNat Zyt).mono)) (ZH6 .u8 ((a1.terms.getD s11.2.toNat Zyt).mono)) rfl ag136.size rfl rfl rfl rfl rfl (ZIc rfl) rfl fun w18 hC=>dn (sr (Zc (v:=.int .i64 0) rfl (dn (ZIj ?_)))))))
   refine X1 (S:=(List Term)×Int) _ (fun s10 e_ w_=>∃ (v10:Value),Z3 e_ [(2,.pointer (some ⟨b8,0,none⟩)),(3,.pointer (some ⟨b10,0,none⟩)),(4,.pointer (some ⟨b11,0,none⟩)),(5,.pointer (some ⟨b12,0,none⟩)),(6,.int .i64 s11.2),(7,.pointer (some ⟨b13,0,none⟩)),(8,.int .i64 s10.2)]∧Ctx Nox w0 w_ [own 162 9 v10 s10.1.length (ZH9.encs s10.1),blk b13 136 (ZH6 .u8 ((a1.terms.getD s11.2.toNat Zyt).mono)),blk b12 55 [v10],blk b11 55 [.slice none 0 0],blk b10 55 [u1_0],blk b8 32 [u0_0,u0_1]] [ZH7 ZH9.ty.sl a1.terms [u1_0] fp1,ZH7 ZIo.sl a0.images [u0_1] fp0,ZH7 ((EI .i64).ty.sl) a0.degrees [u0_0] fp0,ZH7 TAlg a0 [u0_0,u0_1] fp0,ZH7 TForm a1 [u1_0] fp1]) ?_ (s0:=(s11.1,0)) ?_ h
   ·clear hC h
    rintro s10 e_ w19 nx11 K12 ⟨v10,hS_,hC⟩ h hK11
    rw [ue hS_]
    refine ZIa (sr (Zb (v:=.int .i64 s10.2) rfl (Z6 0 ZIq rfl sc22.size rfl rfl (Z8 hC 5 (u0_0) rfl sc22 rfl rfl ?_))))
    obtain ⟨Ad15,c12,hv15⟩:=Z1 (hC.getP 2 rfl)
    refine Zx ZIs (tr rfl hv15) (Zt rfl rfl (dn ?_))
    refine Zr rfl (fun hb11=>?_) (fun hb11=>?_)
    ·replace h:=ift h (ct hb11)
     refine ZIe (Zd (ZIa (ZIj (ZIa (sr (Zb (v:=.int .i64 s10.2) rfl ?_))))))
     obtain ⟨⟨h12,h13⟩,h⟩:=h
     refine Y5 s10.2.toNat ZIn sc5.size rfl rfl h12 h13 (by omega) (Z8 hC 1 (.int .u8 (((a1.terms.getD s11.2.toNat Zyt).mono).get s10.2.toNat)) rfl sc5 rfl (ZIu _ _ (show s10.2.toNat < 8 by omega)) (Jm rfl rfl (dn ?_)))
     refine Zr rfl (fun hb12=>?_) (fun hb12=>?_)
     ·replace h:=ift h (ct hb12)
      refine ZIr (Zj (Z9 ?_))
      refine Zd (Zh (Zb (v:=.int .i64 s10.2) rfl (Zq rfl rfl (Zc (v:=.int .i64 (ZA7.wrap (s10.2+1))) rfl (done ?_)))))
      exact hK11 (s10.1,ZA7.wrap (s10.2+1)) _ _ ⟨v10,(sl ⟨rfl,rfl,rfl,rfl,rfl,rfl,rfl,trivial⟩),hC⟩ h
     ·replace h:=Zk h (cf hb12)
      refine ZIe (Zd (ZIa ?_))
      refine Zei 5 Ye [0,0,0,0,13,31] [0,1] [] (by kernel_rfl) (by kernel_rfl) (by kernel_rfl) (fun hM18 hM21 w10 hB_=>?_)
      replace hC:=hC.grow hB_
      have hN_:w10.heap.size≤w10.heap.size:=Nat.le_refl _
      refine Jy (Yb _) 0 (.agg (ZH8 (ZH6 .u8 ((a1.terms.getD s11.2.toNat Zyt).mono)))) rfl rfl (by kernel_rfl) (hM18 0 rfl) (fun w_ hB_=>.inl ⟨rfl,by exact Yv (hC.grow (Zaj hB_)) 1 (ZH6 .u8 ((a1.terms.getD s11.2.toNat Zyt).mono)) rfl ag136 rfl rfl rfl⟩) (l9:=(Za 6 1)) (by kernel_rfl) (Jy (Yb _) 1 (.agg (ZH8 (ZH6 .u8 ((a1.terms.getD s11.2.toNat Zyt).mono)))) rfl rfl (by kernel_rfl) (hM18 1 rfl) (fun w_ hB_=>.inl ⟨rfl,by exact Yv (hC.grow (Zaj hB_)) 1 (ZH6 .u8 ((a1.terms.getD s11.2.toNat Zyt).mono)) rfl ag136 rfl rfl rfl⟩) (l9:=(Za 6 3)) (by kernel_rfl) ?_)
      refine Zbj (fun e_ w_=>∃ (b14:Nat),∃ (b15:Nat),Z3 e_ [(2,.pointer (some ⟨b8,0,none⟩)),(3,.pointer (some ⟨b10,0,none⟩)),(4,.pointer (some ⟨b11,0,none⟩)),(5,.pointer (some ⟨b12,0,none⟩)),(6,.int .i64 s11.2),(7,.pointer (some ⟨b13,0,none⟩)),(8,.int .i64 s10.2),(9,.pointer (some ⟨b15,0,none⟩)),(10,.pointer (some ⟨b14,0,none⟩))]∧Ctx Nox w0 w_ [blk b14 136 (ZH6 .u8 ((a1.terms.getD s11.2.toNat Zyt).mono)),blk b15 136 (ZH6 .u8 ((a1.terms.getD s11.2.toNat Zyt).mono)),own 162 9 v10 s10.1.length (ZH9.encs s10.1),blk b13 136 (ZH6 .u8 ((a1.terms.getD s11.2.toNat Zyt).mono)),blk b12 55 [v10],blk b11 55 [.slice none 0 0],blk b10 55 [u1_0],blk b8 32 [u0_0,u0_1]] [ZH7 ZH9.ty.sl a1.terms [u1_0] fp1,ZH7 ZIo.sl a0.images [u0_1] fp0,ZH7 ((EI .i64).ty.sl) a0.degrees [u0_0] fp0,ZH7 TAlg a0 [u0_0,u0_1] fp0,ZH7 TForm a1 [u1_0] fp1]∧(Yt (fun i10 (s12:A8×A8) nx10=>(if(i10:Int)≥s10.2 then(if(i10:Int)≤s10.2 then nx10 (s12.1.set i10 0,s12.2.set i10 0) else nx10 (s12.1.set i10 0,s12.2)) else(if(i10:Int)≤s10.2 then nx10 (s12.1,s12.2.set i10 0) else nx10 (s12.1,s12.2)))) (fun (s12:A8×A8)=>((0≤s10.2∧s10.2 < 8)∧((0≤s10.2∧s10.2 < 8)∧((0≤s11.2∧s11.2 < (a1.terms.length:Int))∧((0≤s10.2∧s10.2 < 8)∧Zc6 a0.degrees s12.1 (fun r28=>(if Zyy r28 2≠0 then((0≤s10.2∧s10.2 < (a0.images.length:Int))∧Jb (s12.1.set s10.2.toNat (ZIk.wrap ((((a1.terms.getD s11.2.toNat Zyt).mono).get s10.2.toNat) - 1))) 1 (fun r18=>Jk a0.degrees r18 (a0.images.getD s10.2.toNat Zyt) (fun r12=>Jb s12.2 1 (fun r13=>Jk a0.degrees r12 r13 (fun r14=>Jh (ZA7.wrap (0 - (ZA7.wrap (((a1.terms.getD s11.2.toNat Zyt).factor) * (ZA7.wrap (((a1.terms.getD s11.2.toNat Zyt).mono).get s10.2.toNat)))))) (fun r20=>Zah (⟨s10.1⟩:ZIb) r14 r20 (fun r10=>nx11 (r10.terms,ZA7.wrap (s10.2+1))))))))) else((0≤s10.2∧s10.2 < (a0.images.length:Int))∧Jb (s12.1.set s10.2.toNat (ZIk.wrap ((((a1.terms.getD s11.2.toNat Zyt).mono).get s10.2.toNat) - 1))) 1 (fun r19=>Jk a0.degrees r19 (a0.images.getD s10.2.toNat Zyt) (fun r15=>Jb s12.2 1 (fun r16=>Jk a0.degrees r15 r16 (fun r17=>Jh (ZA7.wrap (((a1.terms.getD s11.2.toNat Zyt).factor) * (ZA7.wrap (((a1.terms.getD s11.2.toNat Zyt).mono).get s10.2.toNat)))) (fun r21=>Zah (⟨s10.1⟩:ZIb) r17 r21 (fun r11=>nx11 (r11.terms,ZA7.wrap (s10.2+1)))))))))))))))) 8 0 ((a1.terms.getD s11.2.toNat Zyt).mono,(a1.terms.getD s11.2.toNat Zyt).mono))) ?_ ?_
      ·clear hC h
       rintro e_ w20 ⟨b14,b15,hS_,hC,h⟩
       rw [ue hS_]
       refine Zd (ZIa (sr (Zc (v:=.int .i64 0) rfl (dn (ZIj ?_)))))
       refine Y9 (S:=A8×A8) _ _ (fun i10 s12 e_ w_=>Z3 e_ [(2,.pointer (some ⟨b8,0,none⟩)),(3,.pointer (some ⟨b10,0,none⟩)),(4,.pointer (some ⟨b11,0,none⟩)),(5,.pointer (some ⟨b12,0,none⟩)),(6,.int .i64 s11.2),(7,.pointer (some ⟨b13,0,none⟩)),(8,.int .i64 s10.2),(9,.pointer (some ⟨b15,0,none⟩)),(10,.pointer (some ⟨b14,0,none⟩)),(11,.int .i64 (i10:Int))]∧Ctx Nox w0 w_ [blk b14 136 (ZH6 .u8 s12.2),blk b15 136 (ZH6 .u8 s12.1),own 162 9 v10 s10.1.length (ZH9.encs s10.1),blk b13 136 (ZH6 .u8 ((a1.terms.getD s11.2.toNat Zyt).mono)),blk b12 55 [v10],blk b11 55 [.slice none 0 0],blk b10 55 [u1_0],blk b8 32 [u0_0,u0_1]] [ZH7 ZH9.ty.sl a1.terms [u1_0] fp1,ZH7 ZIo.sl a0.images [u0_1] fp0,ZH7 ((EI .i64).ty.sl) a0.degrees [u0_0] fp0,ZH7 TAlg a0 [u0_0,u0_1] fp0,ZH7 TForm a1 [u1_0] fp1]) 8 ?_ ?_ (s0:=((a1.terms.getD s11.2.toNat Zyt).mono,(a1.terms.getD s11.2.toNat Zyt).mono)) ?_ h
       ·clear hC h
        rintro i10 s12 e_ w21 nx10 K10 hi10 ⟨hS_,hC⟩ h hK10
        rw [ue hS_]
        refine ZIa (sr (Zb (v:=.int .i64 (i10:Int)) rfl (Zt rfl rfl (dn (Yr rfl (decide_eq_true (by omega)) (ZIe (Zd (ZIa (ZIj (ZIa (sr ?_)))))))))))
        refine Zb (v:=.int .i64 (i10:Int)) rfl (Zb (v:=.int .i64 s10.2) rfl (Zat rfl rfl (dn ?_)))
        refine Zr rfl (fun hb13=>?_) (fun hb13=>?_)
        ·replace h:=ift h (ct hb13)
         refine Zh (Zb (v:=.int .i64 (i10:Int)) rfl (Y5 i10 ZIn sc5.size rfl rfl (ZIv _) (by omega) (by omega) (Zw (v:=.int .u8 0) hC 1 [.int .u8 0] (ZH6 .u8 (s12.1.set i10 0)) rfl sc5.size rfl rfl rfl rfl rfl hi10 (ZI3 _ _ _ hi10) fun w22 hC=>dn (sr (Zb (v:=.int .i64 (i10:Int)) rfl (Zb (v:=.int .i64 s10.2) rfl (Zb4 rfl rfl (dn ?_))))))))
         refine Zr rfl (fun hb14=>?_) (fun hb14=>?_)
         ·replace h:=ift h (ct hb14)
          refine Zh (Zb (v:=.int .i64 (i10:Int)) rfl (Y5 i10 ZIn sc5.size rfl rfl (ZIv _) (by omega) (by omega) (Zw (v:=.int .u8 0) hC 0 [.int .u8 0] (ZH6 .u8 (s12.2.set i10 0)) rfl sc5.size rfl rfl rfl rfl rfl hi10 (ZI3 _ _ _ hi10) fun w23 hC=>done (Zs (Zd (Zh (Zb (v:=.int .i64 (i10:Int)) rfl (Zq rfl rfl (Zc (v:=.int .i64 (ZA7.wrap ((i10:Int)+1))) rfl (done ?_))))))))))
          exact hK10 (s12.1.set i10 0,s12.2.set i10 0) _ _ ⟨(sl ⟨rfl,rfl,rfl,rfl,rfl,rfl,rfl,rfl,rfl,(tr rfl (congrArg _ (Yh hi10 (by decide)))),trivial⟩),hC⟩ h
         ·replace h:=Zk h (cf hb14)
          refine ZIe (Zs (Zd (Zh (Zb (v:=.int .i64 (i10:Int)) rfl (Zq rfl rfl (Zc (v:=.int .i64 (ZA7.wrap ((i10:Int)+1))) rfl (done ?_)))))))
          exact hK10 (s12.1.set i10 0,s12.2) _ _ ⟨(sl ⟨rfl,rfl,rfl,rfl,rfl,rfl,rfl,rfl,rfl,(tr rfl (congrArg _ (Yh hi10 (by decide)))),trivial⟩),hC⟩ h
        ·replace h:=Zk h (cf hb13)
         refine ZIe (Zd (sr (Zb (v:=.int .i64 (i10:Int)) rfl (Zb (v:=.int .i64 s10.2) rfl (Zb4 rfl rfl (dn ?_))))))
         refine Zr rfl (fun hb15=>?_) (fun hb15=>?_)
         ·replace h:=ift h (ct hb15)
          refine Zh (Zb (v:=.int .i64 (i10:Int)) rfl (Y5 i10 ZIn sc5.size rfl rfl (ZIv _) (by omega) (by omega) (Zw (v:=.int .u8 0) hC 0 [.int .u8 0] (ZH6 .u8 (s12.2.set i10 0)) rfl sc5.size rfl rfl rfl rfl rfl hi10 (ZI3 _ _ _ hi10) fun w24 hC=>done (Zs (Zd (Zh (Zb (v:=.int .i64 (i10:Int)) rfl (Zq rfl rfl (Zc (v:=.int .i64 (ZA7.wrap ((i10:Int)+1))) rfl (done ?_))))))))))
          exact hK10 (s12.1,s12.2.set i10 0) _ _ ⟨(sl ⟨rfl,rfl,rfl,rfl,rfl,rfl,rfl,rfl,rfl,(tr rfl (congrArg _ (Yh hi10 (by decide)))),trivial⟩),hC⟩ h
         ·replace h:=Zk h (cf hb15)
          refine ZIe (Zs (Zd (Zh (Zb (v:=.int .i64 (i10:Int)) rfl (Zq rfl rfl (Zc (v:=.int .i64 (ZA7.wrap ((i10:Int)+1))) rfl (done ?_)))))))
          exact hK10 (s12.1,s12.2) _ _ ⟨(sl ⟨rfl,rfl,rfl,rfl,rfl,rfl,rfl,rfl,rfl,(tr rfl (congrArg _ (Yh hi10 (by decide)))),trivial⟩),hC⟩ h
       ·clear hC h
        rintro s12 e_ w25 K10 ⟨hS_,hC⟩ h
        rw [ue hS_]
        refine ZIa (sr (Zb (v:=.int .i64 8) rfl (Zt rfl rfl (dn (Yi rfl (decide_eq_false (by omega)) ?_)))))
        refine ZIr (Zj (Zj (Z9 ?_)))
        refine Zd (sr (Yy hC 1 (ZH6 .u8 s12.1) rfl ag136 rfl rfl rfl (Yj hC (ZH6 .u8 ZIg) Za6 rfl fun b28 w26 hB_ hC=>Zw (v:=.agg (ZH8 (ZH6 .u8 s12.1))) hC 0 (ZH6 .u8 s12.1) (ZH6 .u8 s12.1) rfl ag136.size rfl rfl rfl rfl rfl (ZIc rfl) rfl fun w27 hC=>dn (sr (Zb (v:=.int .i64 s10.2) rfl (Zb (v:=.int .i64 s10.2) rfl ?_))))))
        obtain ⟨⟨h14,h15⟩,h⟩:=h
        refine Y5 s10.2.toNat ZIn sc5.size rfl rfl h14 h15 (by omega) (Z8 hC 4 (.int .u8 (((a1.terms.getD s11.2.toNat Zyt).mono).get s10.2.toNat)) rfl sc5 rfl (ZIu _ _ (show s10.2.toNat < 8 by omega)) (Jt rfl rfl ?_))
        obtain ⟨⟨h16,h17⟩,h⟩:=h
        refine Y5 s10.2.toNat ZIn sc5.size rfl rfl h16 h17 (by omega) (Zw (v:=.int .u8 (ZIk.wrap ((((a1.terms.getD s11.2.toNat Zyt).mono).get s10.2.toNat) - 1))) hC 0 [.int .u8 (ZIk.wrap ((((a1.terms.getD s11.2.toNat Zyt).mono).get s10.2.toNat) - 1))] (ZH6 .u8 (s12.1.set s10.2.toNat (ZIk.wrap ((((a1.terms.getD s11.2.toNat Zyt).mono).get s10.2.toNat) - 1)))) rfl sc5.size rfl rfl rfl rfl rfl (show s10.2.toNat < 8 by omega) (ZI3 _ _ _ (show s10.2.toNat < 8 by omega)) fun w28 hC=>dn (ZIa ?_))
        refine Yg 10 Ye [0,1,0,7,15,31,0,64,192,448,1023,2047] [1,3,5,7,8] [0,2,4,6,9] (by kernel_rfl) (by kernel_rfl) (by kernel_rfl) (fun hM10 hM11 w29 hB_=>?_)
        replace hC:=hC.grow hB_
        refine aF 0 (.pointer (some ⟨b10,0,none⟩)) rfl rfl (hM11 0 rfl) (rfl) (fun _=>by exact Z7 0 ZIf rfl sc53.size rfl rfl) (Za 12 1) (aL 1 (u1_0) rfl rfl (hM10 1 rfl) (rfl) (fun _ hB_=>by exact Z5 (hC.grow hB_) 7 (u1_0) rfl sc53 rfl rfl) (Za 12 3) (aF 2 (.int .i64 s11.2) rfl rfl (hM11 2 rfl) (rfl) (fun _=>by exact Zf (v:=.int .i64 s11.2) rfl) (Za 12 7) ?_))
        obtain ⟨⟨h18,h19⟩,h⟩:=h
        obtain ⟨Ad10,c13,hv11⟩:=Z0 (hC.getP 0 rfl) s11.2.toNat (show s11.2.toNat < a1.terms.length by omega)
        refine aL 3 (.pointer (some (Ad10.add (s11.2.toNat * 9)))) rfl rfl (hM10 3 rfl) (rfl) (fun _ hB_=>by exact Yp (len:=a1.terms.length) ZIh ag162.size (by exact tr rfl hv11) rfl h18 h19) (Za 12 15) (aF 4 (.pointer (some (Ad10.add (s11.2.toNat * 9+8)))) rfl rfl (hM11 4 rfl) (rfl) (fun _=>by exact Zau (s11.2.toNat * 9+8) ZIp rfl sc2.size rfl rfl) (Za 12 31) (aL 5 (.int .i64 ((a1.terms.getD s11.2.toNat Zyt).factor)) rfl rfl (hM10 5 rfl) (rfl) (fun _ hB_=>by exact Xc (.int .i64 ((a1.terms.getD s11.2.toNat Zyt).factor)) (J2 (o:=8) (k:=1) (Yf ((hC.grow hB_).getP 0 rfl) hv11 s11.2.toNat (show s11.2.toNat < a1.terms.length by omega)) rfl) sc2 rfl) (Za 12 63) (aF 6 (.int .i64 s10.2) rfl rfl (hM11 6 rfl) (rfl) (fun _=>by exact Zf (v:=.int .i64 s10.2) rfl) (Za 12 127) ?_)))
        obtain ⟨⟨h20,h21⟩,h⟩:=h
        refine aL 7 (.pointer (some ⟨b13,s10.2.toNat,none⟩)) rfl rfl (hM10 7 rfl) (rfl) (fun _ hB_=>by exact Zaa s10.2.toNat ZIn sc5.size rfl rfl h20 h21 (by omega)) (Za 12 255) (aL 8 (.int .u8 (((a1.terms.getD s11.2.toNat Zyt).mono).get s10.2.toNat)) rfl rfl (hM10 8 rfl) (rfl) (fun _ hB_=>by exact Z5 (hC.grow hB_) 4 (.int .u8 (((a1.terms.getD s11.2.toNat Zyt).mono).get s10.2.toNat)) rfl sc5 rfl (ZIu _ _ (show s10.2.toNat < 8 by omega))) (Za 12 511) (aF 9 (.int .i64 (ZA7.wrap (((a1.terms.getD s11.2.toNat Zyt).mono).get s10.2.toNat))) rfl rfl (hM11 9 rfl) (rfl) (fun _=>by exact Zfb ZI6 ZJe rfl) (Za 12 1023) (Zu 10 (by decide) (by decide) (by kernel_rfl) (by kernel_rfl) rfl (Ju rfl rfl (Zc (v:=.int .i64 (ZA7.wrap (((a1.terms.getD s11.2.toNat Zyt).factor) * (ZA7.wrap (((a1.terms.getD s11.2.toNat Zyt).mono).get s10.2.toNat))))) rfl (done (Zv (Zd (ZIa (sr (Z6 0 ZIq rfl sc22.size rfl rfl ?_)))))))))))
        refine Z8 hC 8 (u0_0) rfl sc22 rfl rfl (Yy hC 2 (ZH6 .u8 s12.1) rfl ag136 rfl rfl rfl ?_)
        refine Zg [u0_0,.agg (ZH8 (ZH6 .u8 s12.1))] _ ZJd rfl rfl rfl (Zku a0.degrees s12.1 h _ (hC.getP 2 rfl)) (fun ret10 w30 hR10=>?_)
        obtain ⟨r28,rfl,h,hB10⟩:=hR10
        refine⟨_,rfl,?_⟩
        replace hC:=hC.grow hB10
        refine X0 rfl rfl (by decide) (Xl rfl rfl (dn ?_))
        refine Zr rfl (fun hb16=>?_) (fun hb16=>?_)
        ·replace h:=ift h (ct hb16)
         refine Zh (Zb (v:=.int .i64 (ZA7.wrap (((a1.terms.getD s11.2.toNat Zyt).factor) * (ZA7.wrap (((a1.terms.getD s11.2.toNat Zyt).mono).get s10.2.toNat))))) rfl (Zfa rfl (Zc (v:=.int .i64 (ZA7.wrap (0 - (ZA7.wrap (((a1.terms.getD s11.2.toNat Zyt).factor) * (ZA7.wrap (((a1.terms.getD s11.2.toNat Zyt).mono).get s10.2.toNat))))))) rfl (dn (ZIa ?_)))))
         refine Yg 11 Ye [0,1,0,4,0,16,0,112,240,511,0,2047] [1,2,5,7,8] [0,4,6] (by kernel_rfl) (by kernel_rfl) (by kernel_rfl) (fun hM12 hM16 w31 hB_=>?_)
         replace hC:=hC.grow hB_
         refine aF 0 (.pointer (some ⟨b8,0,none⟩)) rfl rfl (hM16 0 rfl) (rfl) (fun _=>by exact Z7 0 ZIq rfl sc22.size rfl rfl) (Za 12 1) (aL 1 (u0_0) rfl rfl (hM12 1 rfl) (rfl) (fun _ hB_=>by exact Z5 (hC.grow hB_) 8 (u0_0) rfl sc22 rfl rfl) (Za 12 3) (aL 2 (.agg (ZH8 (ZH6 .u8 (s12.1.set s10.2.toNat (ZIk.wrap ((((a1.terms.getD s11.2.toNat Zyt).mono).get s10.2.toNat) - 1)))))) rfl rfl (hM12 2 rfl) (rfl) (fun _ hB_=>by exact Yv (hC.grow hB_) 0 (ZH6 .u8 (s12.1.set s10.2.toNat (ZIk.wrap ((((a1.terms.getD s11.2.toNat Zyt).mono).get s10.2.toNat) - 1)))) rfl ag136 rfl rfl rfl) (Za 12 7) (aF 4 (.pointer (some ⟨b8,1,none⟩)) rfl rfl (hM16 4 rfl) (rfl) (fun _=>by exact Z7 1 ZIq rfl sc30.size rfl rfl) (Za 12 23) (aL 5 (u0_1) rfl rfl (hM12 5 rfl) (rfl) (fun _ hB_=>by exact Z5 (hC.grow hB_) 8 (u0_1) rfl sc30 rfl rfl) (Za 12 55) (aF 6 (.int .i64 s10.2) rfl rfl (hM16 6 rfl) (rfl) (fun _=>by exact Zf (v:=.int .i64 s10.2) rfl) (Za 12 119) ?_)))))
         obtain ⟨⟨h22,h23⟩,h⟩:=h
         obtain ⟨Ad11,c14,hv12⟩:=Z0 (hC.getP 1 rfl) s10.2.toNat (show s10.2.toNat < a0.images.length by omega)
         refine aL 7 (.pointer (some (Ad11.add (s10.2.toNat * 1)))) rfl rfl (hM12 7 rfl) (rfl) (fun _ hB_=>by exact Yp (len:=a0.images.length) ZIw ag55.size (by exact tr rfl hv12) rfl h22 h23) (Za 12 247) ?_
         obtain ⟨cs_,hl10,hc10,hr10⟩:=Xs (hC.getP 1 rfl) hv12 s10.2.toNat (show s10.2.toNat < a0.images.length by omega)
         obtain ⟨u18,rfl⟩:=ZI4.1 hl10
         clear hl10
         rw [Xt _ _ (show s10.2.toNat < a0.images.length by omega)] at hr10
         have hp10:=hr10
         replace hC:=hC.derive 1 rfl (ZH7 ZH9.ty.sl ((a0.images.getD s10.2.toNat Zyt).terms) [u18] fp0) (fun _=>(Xi hp10)) (fun _ hb_=>hb_)
         refine aL 8 (.agg #[u18]) rfl rfl (hM12 8 rfl) (rfl) (fun _ hB_=>by exact X4 [u18] (Jz hB_ hc10) ag55 rfl rfl) (Za 12 503) ?_
         refine Zbj (fun e_ w_=>∃ (b16:Nat),∃ (u20:Value),∃ (r26:ZIb),Z3 e_ [(2,.pointer (some ⟨b8,0,none⟩)),(3,.pointer (some ⟨b10,0,none⟩)),(4,.pointer (some ⟨b11,0,none⟩)),(5,.pointer (some ⟨b12,0,none⟩)),(6,.int .i64 s11.2),(7,.pointer (some ⟨b13,0,none⟩)),(8,.int .i64 s10.2),(10,.pointer (some ⟨b14,0,none⟩)),(13,.int .i64 (ZA7.wrap (0 - (ZA7.wrap (((a1.terms.getD s11.2.toNat Zyt).factor) * (ZA7.wrap (((a1.terms.getD s11.2.toNat Zyt).mono).get s10.2.toNat))))))),(14,.pointer (some ⟨b16,0,none⟩))]∧Ctx Nox w0 w_ [blk b16 55 [u20],own 162 9 u20 r26.terms.length (ZH9.encs r26.terms),blk b14 136 (ZH6 .u8 s12.2),own 162 9 v10 s10.1.length (ZH9.encs s10.1),blk b13 136 (ZH6 .u8 ((a1.terms.getD s11.2.toNat Zyt).mono)),blk b12 55 [v10],blk b11 55 [.slice none 0 0],blk b10 55 [u1_0],blk b8 32 [u0_0,u0_1]] [ZH7 ZH9.ty.sl ((a0.images.getD s10.2.toNat Zyt).terms) [u18] fp0,ZH7 ZH9.ty.sl a1.terms [u1_0] fp1,ZH7 ZIo.sl a0.images [u0_1] fp0,ZH7 ((EI .i64).ty.sl) a0.degrees [u0_0] fp0,ZH7 TAlg a0 [u0_0,u0_1] fp0,ZH7 TForm a1 [u1_0] fp1]∧(Jb s12.2 1 (fun r13=>Jk a0.degrees r26 r13 (fun r14=>Jh (ZA7.wrap (0 - (ZA7.wrap (((a1.terms.getD s11.2.toNat Zyt).factor) * (ZA7.wrap (((a1.terms.getD s11.2.toNat Zyt).mono).get s10.2.toNat)))))) (fun r20=>Zah (⟨s10.1⟩:ZIb) r14 r20 (fun r10=>nx11 (r10.terms,ZA7.wrap (s10.2+1)))))))) ?_ ?_
         ·clear hC h
          rintro e_ w32 ⟨b16,u20,r26,hS_,hC,h⟩
          rw [ue hS_]
          refine Zd ?_
          refine Yg 9 Ye [0,0,2,0,0,16,62,0,254,511,1023] [0,2,3,4] [1,7] (by kernel_rfl) (by kernel_rfl) (by kernel_rfl) (fun hM14 hM19 w33 hB_=>?_)
          replace hC:=hC.grow hB_
          refine aL 0 (.agg #[v10]) rfl rfl (hM14 0 rfl) (rfl) (fun _ hB_=>by exact Yv (hC.grow hB_) 5 [v10] rfl ag55 rfl rfl rfl) (Za 11 1) (aF 1 (.pointer (some ⟨b8,0,none⟩)) rfl rfl (hM19 1 rfl) (rfl) (fun _=>by exact Z7 0 ZIq rfl sc22.size rfl rfl) (Za 11 3) (aL 2 (u0_0) rfl rfl (hM14 2 rfl) (rfl) (fun _ hB_=>by exact Z5 (hC.grow hB_) 8 (u0_0) rfl sc22 rfl rfl) (Za 11 7) (aL 3 (.agg #[u20]) rfl rfl (hM14 3 rfl) (rfl) (fun _ hB_=>by exact Yv (hC.grow hB_) 0 [u20] rfl ag55 rfl rfl rfl) (Za 11 15) (aL 4 (.agg (ZH8 (ZH6 .u8 s12.2))) rfl rfl (hM14 4 rfl) (rfl) (fun _ hB_=>by exact Yv (hC.grow hB_) 2 (ZH6 .u8 s12.2) rfl ag136 rfl rfl rfl) (Za 11 31) (aF 7 (.int .i64 (ZA7.wrap (0 - (ZA7.wrap (((a1.terms.getD s11.2.toNat Zyt).factor) * (ZA7.wrap (((a1.terms.getD s11.2.toNat Zyt).mono).get s10.2.toNat))))))) rfl rfl (hM19 7 rfl) (rfl) (fun _=>by exact Zf (v:=.int .i64 (ZA7.wrap (0 - (ZA7.wrap (((a1.terms.getD s11.2.toNat Zyt).factor) * (ZA7.wrap (((a1.terms.getD s11.2.toNat Zyt).mono).get s10.2.toNat))))))) rfl) (Za 11 159) (aO 5 rfl ?_))))))
          refine Zg [.agg (ZH8 (ZH6 .u8 s12.2)),.int .i64 1] _ ZI0 rfl rfl rfl (Zbd s12.2 1 h _) (fun ret11 w34 hR11=>?_)
          obtain ⟨r13,u24,f10,rfl,h,hr12,hf10,hB11⟩:=hR11
          refine⟨_,rfl,?_⟩
          replace hC:=hC.push hB11 (ZIm (Ya 162) r13 [u24] f10) hr12 hf10
          obtain ⟨ho10,hf11⟩:=Xf (hC.getM 0 rfl)
          subst hf11
          replace hC:=hC.recast (c:=own 162 9 u24 r13.terms.length (ZH9.encs r13.terms)) (fun _ h_=>h_) (fun _=>ho10)
          refine done (aK (by assumption) (Za 11 191) (aO 6 rfl ?_))
          refine Zg [u0_0,.agg #[u20],.agg #[u24]] _ ZIy rfl rfl rfl (Zax a0.degrees r26 r13 h _ (hC.getP 3 rfl) (Yq (Y2 (hC.getM 2 rfl))) (Yq (Y2 (hC.getM 0 rfl)))) (fun ret12 w35 hR12=>?_)
          obtain ⟨r14,u25,f11,rfl,h,hr13,hf12,hB12⟩:=hR12
          refine⟨_,rfl,?_⟩
          replace hC:=hC.push hB12 (ZIm (Ya 162) r14 [u25] f11) hr13 hf12
          obtain ⟨ho11,hf13⟩:=Xf (hC.getM 0 rfl)
          subst hf13
          replace hC:=hC.recast (c:=own 162 9 u25 r14.terms.length (ZH9.encs r14.terms)) (fun _ h_=>h_) (fun _=>ho11)
          refine done (aK (by assumption) (Za 11 255) (aO 8 rfl ?_))
          refine Zg [.int .i64 (ZA7.wrap (0 - (ZA7.wrap (((a1.terms.getD s11.2.toNat Zyt).factor) * (ZA7.wrap (((a1.terms.getD s11.2.toNat Zyt).mono).get s10.2.toNat))))))] _ ZIx rfl rfl rfl (Zbn (ZA7.wrap (0 - (ZA7.wrap (((a1.terms.getD s11.2.toNat Zyt).factor) * (ZA7.wrap (((a1.terms.getD s11.2.toNat Zyt).mono).get s10.2.toNat)))))) h _) (fun ret13 w36 hR13=>?_)
          obtain ⟨r20,rfl,h,hB13⟩:=hR13
          refine⟨_,rfl,?_⟩
          replace hC:=hC.grow hB13
          refine done (aK (by assumption) (Za 11 511) (Zu 9 (by decide) (by decide) (by kernel_rfl) (by kernel_rfl) rfl ?_))
          refine Zg [.agg #[v10],.agg #[u25],.int .i64 r20] _ ZI9 rfl rfl rfl (Zds (⟨s10.1⟩:ZIb) r14 r20 h _ (Yq (Y2 (hC.getM 5 rfl))) (Yq (Y2 (hC.getM 0 rfl)))) (fun ret14 w37 hR14=>?_)
          obtain ⟨r10,u10,f12,rfl,h,hr14,hf14,hB14⟩:=hR14
          refine⟨_,rfl,?_⟩
          replace hC:=hC.push hB14 (ZIm (Ya 162) r10 [u10] f12) hr14 hf14
          obtain ⟨ho12,hf15⟩:=Xf (hC.getM 0 rfl)
          subst hf15
          replace hC:=hC.recast (c:=own 162 9 u10 r10.terms.length (ZH9.encs r10.terms)) (fun _ h_=>h_) (fun _=>ho12)
          refine Zw (v:=.agg #[u10]) hC 8 [u10] [u10] rfl ag55.size rfl rfl rfl rfl (Y6 (Xn (hC.getM 0 rfl)) rfl) (ZIc rfl) rfl fun w38 hC=>done (Zv (Zs (Zd (Zh (Zb (v:=.int .i64 s10.2) rfl (Zq rfl rfl (Zc (v:=.int .i64 (ZA7.wrap (s10.2+1))) rfl (done ?_))))))))
          replace hC:=hC.sM [0,7,8,9,10,11] (M':=[own 162 9 u10 r10.terms.length (ZH9.encs r10.terms),blk b13 136 (ZH6 .u8 ((a1.terms.getD s11.2.toNat Zyt).mono)),blk b12 55 [u10],blk b11 55 [.slice none 0 0],blk b10 55 [u1_0],blk b8 32 [u0_0,u0_1]]) (by decide) rfl
          replace hC:=hC.sP [1,2,3,4,5] (Ps':=[ZH7 ZH9.ty.sl a1.terms [u1_0] fp1,ZH7 ZIo.sl a0.images [u0_1] fp0,ZH7 ((EI .i64).ty.sl) a0.degrees [u0_0] fp0,ZH7 TAlg a0 [u0_0,u0_1] fp0,ZH7 TForm a1 [u1_0] fp1]) rfl
          exact hK11 (r10.terms,ZA7.wrap (s10.2+1)) _ _ ⟨u10,(sl ⟨rfl,rfl,rfl,rfl,rfl,rfl,rfl,trivial⟩),hC⟩ h
         refine Xg 3 10 rfl rfl (by kernel_rfl) ?_ ?_
         ·skip
          refine Zg [.agg (ZH8 (ZH6 .u8 (s12.1.set s10.2.toNat (ZIk.wrap ((((a1.terms.getD s11.2.toNat Zyt).mono).get s10.2.toNat) - 1))))),.int .i64 1] _ ZI0 rfl rfl rfl (Zbd (s12.1.set s10.2.toNat (ZIk.wrap ((((a1.terms.getD s11.2.toNat Zyt).mono).get s10.2.toNat) - 1))) 1 h _) (fun ret15 w39 hR15=>?_)
          obtain ⟨r18,u22,f13,rfl,h,hr15,hf16,hB15⟩:=hR15
          refine⟨_,rfl,?_⟩
          replace hC:=hC.push hB15 (ZIm (Ya 162) r18 [u22] f13) hr15 hf16
          obtain ⟨ho13,hf17⟩:=Xf (hC.getM 0 rfl)
          subst hf17
          replace hC:=hC.recast (c:=own 162 9 u22 r18.terms.length (ZH9.encs r18.terms)) (fun _ h_=>h_) (fun _=>ho13)
          refine done (aK (by assumption) (Za 12 511) ?_)
          refine Xg 9 10 rfl rfl (by kernel_rfl) ?_ ?_
          ·skip
           refine Zg [u0_0,.agg #[u22],.agg #[u18]] _ ZIy rfl rfl rfl (Zax a0.degrees r18 (a0.images.getD s10.2.toNat Zyt) h _ (hC.getP 3 rfl) (Yq (Y2 (hC.getM 0 rfl))) (Yq (hC.getP 0 rfl))) (fun ret16 w40 hR16=>?_)
           obtain ⟨r12,u11,f14,rfl,h,hr16,hf18,hB16⟩:=hR16
           refine⟨_,rfl,?_⟩
           replace hC:=hC.push hB16 (ZIm (Ya 162) r12 [u11] f14) hr16 hf18
           obtain ⟨ho14,hf19⟩:=Xf (hC.getM 0 rfl)
           subst hf19
           replace hC:=hC.recast (c:=own 162 9 u11 r12.terms.length (ZH9.encs r12.terms)) (fun _ h_=>h_) (fun _=>ho14)
           refine done (aK (by assumption) (Za 12 1023) (aO 10 rfl (Yj hC [.slice none 0 0] z55 rfl fun b18 w41 hB_ hC=>done (aK (by assumption) (Za 12 2047) (Zu 11 (by decide) (by decide) (by kernel_rfl) (by kernel_rfl) rfl (Zw (v:=.agg #[u11]) hC 0 [u11] [u11] rfl ag55.size rfl rfl rfl rfl (Y6 (Xn (hC.getM 1 rfl)) rfl) (ZIc rfl) rfl fun w42 hC=>done (Zv ?_)))))))
           replace hC:=hC.sM [0,1,4,6,7,8,9,10,11] (M':=[blk b18 55 [u11],own 162 9 u11 r12.terms.length (ZH9.encs r12.terms),blk b14 136 (ZH6 .u8 s12.2),own 162 9 v10 s10.1.length (ZH9.encs s10.1),blk b13 136 (ZH6 .u8 ((a1.terms.getD s11.2.toNat Zyt).mono)),blk b12 55 [v10],blk b11 55 [.slice none 0 0],blk b10 55 [u1_0],blk b8 32 [u0_0,u0_1]]) (by decide) rfl
           exact⟨rfl,_,rfl,⟨b18,u11,r12,(sl ⟨rfl,rfl,rfl,rfl,rfl,rfl,rfl,rfl,rfl,rfl,trivial⟩),hC,h⟩⟩
          ·skip
           refine Yj hC [.slice none 0 0] z55 rfl fun b19 w43 hB_ hC=>done (aK (by assumption) (Za 12 1535) (aO 9 rfl ?_))
           refine Zg [u0_0,.agg #[u22],.agg #[u18]] _ ZIy rfl rfl rfl (Zax a0.degrees r18 (a0.images.getD s10.2.toNat Zyt) h _ (hC.getP 3 rfl) (Yq (Y2 (hC.getM 1 rfl))) (Yq (hC.getP 0 rfl))) (fun ret17 w44 hR17=>?_)
           obtain ⟨r22,u12,f15,rfl,h,hr17,hf20,hB17⟩:=hR17
           refine⟨_,rfl,?_⟩
           replace hC:=hC.push hB17 (ZIm (Ya 162) r22 [u12] f15) hr17 hf20
           obtain ⟨ho15,hf21⟩:=Xf (hC.getM 0 rfl)
           subst hf21
           replace hC:=hC.recast (c:=own 162 9 u12 r22.terms.length (ZH9.encs r22.terms)) (fun _ h_=>h_) (fun _=>ho15)
           refine done (aK (by assumption) (Za 12 2047) (Zu 11 (by decide) (by decide) (by kernel_rfl) (by kernel_rfl) rfl (Zw (v:=.agg #[u12]) hC 1 [u12] [u12] rfl ag55.size rfl rfl rfl rfl (Y6 (Xn (hC.getM 0 rfl)) rfl) (ZIc rfl) rfl fun w45 hC=>done (Zv ?_))))
           replace hC:=hC.sM [1,0,4,6,7,8,9,10,11] (M':=[blk b19 55 [u12],own 162 9 u12 r22.terms.length (ZH9.encs r22.terms),blk b14 136 (ZH6 .u8 s12.2),own 162 9 v10 s10.1.length (ZH9.encs s10.1),blk b13 136 (ZH6 .u8 ((a1.terms.getD s11.2.toNat Zyt).mono)),blk b12 55 [v10],blk b11 55 [.slice none 0 0],blk b10 55 [u1_0],blk b8 32 [u0_0,u0_1]]) (by decide) rfl
           exact⟨rfl,_,rfl,⟨b19,u12,r22,(sl ⟨rfl,rfl,rfl,rfl,rfl,rfl,rfl,rfl,rfl,rfl,trivial⟩),hC,h⟩⟩
         ·skip
          refine Yj hC [.slice none 0 0] z55 rfl fun b20 w46 hB_ hC=>done (aK (by assumption) (Za 12 1527) (aO 3 rfl ?_))
          refine Zg [.agg (ZH8 (ZH6 .u8 (s12.1.set s10.2.toNat (ZIk.wrap ((((a1.terms.getD s11.2.toNat Zyt).mono).get s10.2.toNat) - 1))))),.int .i64 1] _ ZI0 rfl rfl rfl (Zbd (s12.1.set s10.2.toNat (ZIk.wrap ((((a1.terms.getD s11.2.toNat Zyt).mono).get s10.2.toNat) - 1))) 1 h _) (fun ret18 w47 hR18=>?_)
          obtain ⟨r29,u26,f16,rfl,h,hr18,hf22,hB18⟩:=hR18
          refine⟨_,rfl,?_⟩
          replace hC:=hC.push hB18 (ZIm (Ya 162) r29 [u26] f16) hr18 hf22
          obtain ⟨ho16,hf23⟩:=Xf (hC.getM 0 rfl)
          subst hf23
          replace hC:=hC.recast (c:=own 162 9 u26 r29.terms.length (ZH9.encs r29.terms)) (fun _ h_=>h_) (fun _=>ho16)
          refine done (aK (by assumption) (Za 12 1535) (aO 9 rfl ?_))
          refine Zg [u0_0,.agg #[u26],.agg #[u18]] _ ZIy rfl rfl rfl (Zax a0.degrees r29 (a0.images.getD s10.2.toNat Zyt) h _ (hC.getP 3 rfl) (Yq (Y2 (hC.getM 0 rfl))) (Yq (hC.getP 0 rfl))) (fun ret19 w48 hR19=>?_)
          obtain ⟨r23,u13,f17,rfl,h,hr19,hf24,hB19⟩:=hR19
          refine⟨_,rfl,?_⟩
          replace hC:=hC.push hB19 (ZIm (Ya 162) r23 [u13] f17) hr19 hf24
          obtain ⟨ho17,hf25⟩:=Xf (hC.getM 0 rfl)
          subst hf25
          replace hC:=hC.recast (c:=own 162 9 u13 r23.terms.length (ZH9.encs r23.terms)) (fun _ h_=>h_) (fun _=>ho17)
          refine done (aK (by assumption) (Za 12 2047) (Zu 11 (by decide) (by decide) (by kernel_rfl) (by kernel_rfl) rfl (Zw (v:=.agg #[u13]) hC 2 [u13] [u13] rfl ag55.size rfl rfl rfl rfl (Y6 (Xn (hC.getM 0 rfl)) rfl) (ZIc rfl) rfl fun w49 hC=>done (Zv ?_))))
          replace hC:=hC.sM [2,0,4,6,7,8,9,10,11] (M':=[blk b20 55 [u13],own 162 9 u13 r23.terms.length (ZH9.encs r23.terms),blk b14 136 (ZH6 .u8 s12.2),own 162 9 v10 s10.1.length (ZH9.encs s10.1),blk b13 136 (ZH6 .u8 ((a1.terms.getD s11.2.toNat Zyt).mono)),blk b12 55 [v10],blk b11 55 [.slice none 0 0],blk b10 55 [u1_0],blk b8 32 [u0_0,u0_1]]) (by decide) rfl
          exact⟨rfl,_,rfl,⟨b20,u13,r23,(sl ⟨rfl,rfl,rfl,rfl,rfl,rfl,rfl,rfl,rfl,rfl,trivial⟩),hC,h⟩⟩
        ·replace h:=Zk h (cf hb16)
         refine ZIe (Zd (ZIa ?_))
         refine Yg 11 Ye [0,1,0,4,0,16,0,112,240,511,0,2047] [1,2,5,7,8] [0,4,6] (by kernel_rfl) (by kernel_rfl) (by kernel_rfl) (fun hM13 hM17 w50 hB_=>?_)
         replace hC:=hC.grow hB_
         refine aF 0 (.pointer (some ⟨b8,0,none⟩)) rfl rfl (hM17 0 rfl) (rfl) (fun _=>by exact Z7 0 ZIq rfl sc22.size rfl rfl) (Za 12 1) (aL 1 (u0_0) rfl rfl (hM13 1 rfl) (rfl) (fun _ hB_=>by exact Z5 (hC.grow hB_) 8 (u0_0) rfl sc22 rfl rfl) (Za 12 3) (aL 2 (.agg (ZH8 (ZH6 .u8 (s12.1.set s10.2.toNat (ZIk.wrap ((((a1.terms.getD s11.2.toNat Zyt).mono).get s10.2.toNat) - 1)))))) rfl rfl (hM13 2 rfl) (rfl) (fun _ hB_=>by exact Yv (hC.grow hB_) 0 (ZH6 .u8 (s12.1.set s10.2.toNat (ZIk.wrap ((((a1.terms.getD s11.2.toNat Zyt).mono).get s10.2.toNat) - 1)))) rfl ag136 rfl rfl rfl) (Za 12 7) (aF 4 (.pointer (some ⟨b8,1,none⟩)) rfl rfl (hM17 4 rfl) (rfl) (fun _=>by exact Z7 1 ZIq rfl sc30.size rfl rfl) (Za 12 23) (aL 5 (u0_1) rfl rfl (hM13 5 rfl) (rfl) (fun _ hB_=>by exact Z5 (hC.grow hB_) 8 (u0_1) rfl sc30 rfl rfl) (Za 12 55) (aF 6 (.int .i64 s10.2) rfl rfl (hM17 6 rfl) (rfl) (fun _=>by exact Zf (v:=.int .i64 s10.2) rfl) (Za 12 119) ?_)))))
         obtain ⟨⟨h24,h25⟩,h⟩:=h
         obtain ⟨Ad12,c15,hv13⟩:=Z0 (hC.getP 1 rfl) s10.2.toNat (show s10.2.toNat < a0.images.length by omega)
         refine aL 7 (.pointer (some (Ad12.add (s10.2.toNat * 1)))) rfl rfl (hM13 7 rfl) (rfl) (fun _ hB_=>by exact Yp (len:=a0.images.length) ZIw ag55.size (by exact tr rfl hv13) rfl h24 h25) (Za 12 247) ?_
         obtain ⟨cs_,hl11,hc11,hr11⟩:=Xs (hC.getP 1 rfl) hv13 s10.2.toNat (show s10.2.toNat < a0.images.length by omega)
         obtain ⟨u19,rfl⟩:=ZI4.1 hl11
         clear hl11
         rw [Xt _ _ (show s10.2.toNat < a0.images.length by omega)] at hr11
         have hp11:=hr11
         replace hC:=hC.derive 1 rfl (ZH7 ZH9.ty.sl ((a0.images.getD s10.2.toNat Zyt).terms) [u19] fp0) (fun _=>(Xi hp11)) (fun _ hb_=>hb_)
         refine aL 8 (.agg #[u19]) rfl rfl (hM13 8 rfl) (rfl) (fun _ hB_=>by exact X4 [u19] (Jz hB_ hc11) ag55 rfl rfl) (Za 12 503) ?_
         refine Zbj (fun e_ w_=>∃ (b17:Nat),∃ (u21:Value),∃ (r27:ZIb),Z3 e_ [(2,.pointer (some ⟨b8,0,none⟩)),(3,.pointer (some ⟨b10,0,none⟩)),(4,.pointer (some ⟨b11,0,none⟩)),(5,.pointer (some ⟨b12,0,none⟩)),(6,.int .i64 s11.2),(7,.pointer (some ⟨b13,0,none⟩)),(8,.int .i64 s10.2),(10,.pointer (some ⟨b14,0,none⟩)),(13,.int .i64 (ZA7.wrap (((a1.terms.getD s11.2.toNat Zyt).factor) * (ZA7.wrap (((a1.terms.getD s11.2.toNat Zyt).mono).get s10.2.toNat))))),(14,.pointer (some ⟨b17,0,none⟩))]∧Ctx Nox w0 w_ [blk b17 55 [u21],own 162 9 u21 r27.terms.length (ZH9.encs r27.terms),blk b14 136 (ZH6 .u8 s12.2),own 162 9 v10 s10.1.length (ZH9.encs s10.1),blk b13 136 (ZH6 .u8 ((a1.terms.getD s11.2.toNat Zyt).mono)),blk b12 55 [v10],blk b11 55 [.slice none 0 0],blk b10 55 [u1_0],blk b8 32 [u0_0,u0_1]] [ZH7 ZH9.ty.sl ((a0.images.getD s10.2.toNat Zyt).terms) [u19] fp0,ZH7 ZH9.ty.sl a1.terms [u1_0] fp1,ZH7 ZIo.sl a0.images [u0_1] fp0,ZH7 ((EI .i64).ty.sl) a0.degrees [u0_0] fp0,ZH7 TAlg a0 [u0_0,u0_1] fp0,ZH7 TForm a1 [u1_0] fp1]∧(Jb s12.2 1 (fun r16=>Jk a0.degrees r27 r16 (fun r17=>Jh (ZA7.wrap (((a1.terms.getD s11.2.toNat Zyt).factor) * (ZA7.wrap (((a1.terms.getD s11.2.toNat Zyt).mono).get s10.2.toNat)))) (fun r21=>Zah (⟨s10.1⟩:ZIb) r17 r21 (fun r11=>nx11 (r11.terms,ZA7.wrap (s10.2+1)))))))) ?_ ?_
         ·clear hC h
          rintro e_ w51 ⟨b17,u21,r27,hS_,hC,h⟩
          rw [ue hS_]
          refine Zd ?_
          refine Yg 9 Ye [0,0,2,0,0,16,62,0,254,511,1023] [0,2,3,4] [1,7] (by kernel_rfl) (by kernel_rfl) (by kernel_rfl) (fun hM15 hM20 w52 hB_=>?_)
          replace hC:=hC.grow hB_
          refine aL 0 (.agg #[v10]) rfl rfl (hM15 0 rfl) (rfl) (fun _ hB_=>by exact Yv (hC.grow hB_) 5 [v10] rfl ag55 rfl rfl rfl) (Za 11 1) (aF 1 (.pointer (some ⟨b8,0,none⟩)) rfl rfl (hM20 1 rfl) (rfl) (fun _=>by exact Z7 0 ZIq rfl sc22.size rfl rfl) (Za 11 3) (aL 2 (u0_0) rfl rfl (hM15 2 rfl) (rfl) (fun _ hB_=>by exact Z5 (hC.grow hB_) 8 (u0_0) rfl sc22 rfl rfl) (Za 11 7) (aL 3 (.agg #[u21]) rfl rfl (hM15 3 rfl) (rfl) (fun _ hB_=>by exact Yv (hC.grow hB_) 0 [u21] rfl ag55 rfl rfl rfl) (Za 11 15) (aL 4 (.agg (ZH8 (ZH6 .u8 s12.2))) rfl rfl (hM15 4 rfl) (rfl) (fun _ hB_=>by exact Yv (hC.grow hB_) 2 (ZH6 .u8 s12.2) rfl ag136 rfl rfl rfl) (Za 11 31) (aF 7 (.int .i64 (ZA7.wrap (((a1.terms.getD s11.2.toNat Zyt).factor) * (ZA7.wrap (((a1.terms.getD s11.2.toNat Zyt).mono).get s10.2.toNat))))) rfl rfl (hM20 7 rfl) (rfl) (fun _=>by exact Zf (v:=.int .i64 (ZA7.wrap (((a1.terms.getD s11.2.toNat Zyt).factor) * (ZA7.wrap (((a1.terms.getD s11.2.toNat Zyt).mono).get s10.2.toNat))))) rfl) (Za 11 159) (aO 5 rfl ?_))))))
          refine Zg [.agg (ZH8 (ZH6 .u8 s12.2)),.int .i64 1] _ ZI0 rfl rfl rfl (Zbd s12.2 1 h _) (fun ret20 w53 hR20=>?_)
          obtain ⟨r16,u27,f18,rfl,h,hr20,hf26,hB20⟩:=hR20
          refine⟨_,rfl,?_⟩
          replace hC:=hC.push hB20 (ZIm (Ya 162) r16 [u27] f18) hr20 hf26
          obtain ⟨ho18,hf27⟩:=Xf (hC.getM 0 rfl)
          subst hf27
          replace hC:=hC.recast (c:=own 162 9 u27 r16.terms.length (ZH9.encs r16.terms)) (fun _ h_=>h_) (fun _=>ho18)
          refine done (aK (by assumption) (Za 11 191) (aO 6 rfl ?_))
          refine Zg [u0_0,.agg #[u21],.agg #[u27]] _ ZIy rfl rfl rfl (Zax a0.degrees r27 r16 h _ (hC.getP 3 rfl) (Yq (Y2 (hC.getM 2 rfl))) (Yq (Y2 (hC.getM 0 rfl)))) (fun ret21 w54 hR21=>?_)
          obtain ⟨r17,u28,f19,rfl,h,hr21,hf28,hB21⟩:=hR21
          refine⟨_,rfl,?_⟩
          replace hC:=hC.push hB21 (ZIm (Ya 162) r17 [u28] f19) hr21 hf28
          obtain ⟨ho19,hf29⟩:=Xf (hC.getM 0 rfl)
          subst hf29
          replace hC:=hC.recast (c:=own 162 9 u28 r17.terms.length (ZH9.encs r17.terms)) (fun _ h_=>h_) (fun _=>ho19)
          refine done (aK (by assumption) (Za 11 255) (aO 8 rfl ?_))
          refine Zg [.int .i64 (ZA7.wrap (((a1.terms.getD s11.2.toNat Zyt).factor) * (ZA7.wrap (((a1.terms.getD s11.2.toNat Zyt).mono).get s10.2.toNat))))] _ ZIx rfl rfl rfl (Zbn (ZA7.wrap (((a1.terms.getD s11.2.toNat Zyt).factor) * (ZA7.wrap (((a1.terms.getD s11.2.toNat Zyt).mono).get s10.2.toNat)))) h _) (fun ret22 w55 hR22=>?_)
          obtain ⟨r21,rfl,h,hB22⟩:=hR22
          refine⟨_,rfl,?_⟩
          replace hC:=hC.grow hB22
          refine done (aK (by assumption) (Za 11 511) (Zu 9 (by decide) (by decide) (by kernel_rfl) (by kernel_rfl) rfl ?_))
          refine Zg [.agg #[v10],.agg #[u28],.int .i64 r21] _ ZI9 rfl rfl rfl (Zds (⟨s10.1⟩:ZIb) r17 r21 h _ (Yq (Y2 (hC.getM 5 rfl))) (Yq (Y2 (hC.getM 0 rfl)))) (fun ret23 w56 hR23=>?_)
          obtain ⟨r11,u14,f20,rfl,h,hr22,hf30,hB23⟩:=hR23
          refine⟨_,rfl,?_⟩
          replace hC:=hC.push hB23 (ZIm (Ya 162) r11 [u14] f20) hr22 hf30
          obtain ⟨ho20,hf31⟩:=Xf (hC.getM 0 rfl)
          subst hf31
          replace hC:=hC.recast (c:=own 162 9 u14 r11.terms.length (ZH9.encs r11.terms)) (fun _ h_=>h_) (fun _=>ho20)
          refine Zw (v:=.agg #[u14]) hC 8 [u14] [u14] rfl ag55.size rfl rfl rfl rfl (Y6 (Xn (hC.getM 0 rfl)) rfl) (ZIc rfl) rfl fun w57 hC=>done (Zv (Zs (Zd (Zh (Zb (v:=.int .i64 s10.2) rfl (Zq rfl rfl (Zc (v:=.int .i64 (ZA7.wrap (s10.2+1))) rfl (done ?_))))))))
          replace hC:=hC.sM [0,7,8,9,10,11] (M':=[own 162 9 u14 r11.terms.length (ZH9.encs r11.terms),blk b13 136 (ZH6 .u8 ((a1.terms.getD s11.2.toNat Zyt).mono)),blk b12 55 [u14],blk b11 55 [.slice none 0 0],blk b10 55 [u1_0],blk b8 32 [u0_0,u0_1]]) (by decide) rfl
          replace hC:=hC.sP [1,2,3,4,5] (Ps':=[ZH7 ZH9.ty.sl a1.terms [u1_0] fp1,ZH7 ZIo.sl a0.images [u0_1] fp0,ZH7 ((EI .i64).ty.sl) a0.degrees [u0_0] fp0,ZH7 TAlg a0 [u0_0,u0_1] fp0,ZH7 TForm a1 [u1_0] fp1]) rfl
          exact hK11 (r11.terms,ZA7.wrap (s10.2+1)) _ _ ⟨u14,(sl ⟨rfl,rfl,rfl,rfl,rfl,rfl,rfl,trivial⟩),hC⟩ h
         refine Xg 3 10 rfl rfl (by kernel_rfl) ?_ ?_
         ·skip
          refine Zg [.agg (ZH8 (ZH6 .u8 (s12.1.set s10.2.toNat (ZIk.wrap ((((a1.terms.getD s11.2.toNat Zyt).mono).get s10.2.toNat) - 1))))),.int .i64 1] _ ZI0 rfl rfl rfl (Zbd (s12.1.set s10.2.toNat (ZIk.wrap ((((a1.terms.getD s11.2.toNat Zyt).mono).get s10.2.toNat) - 1))) 1 h _) (fun ret24 w58 hR24=>?_)
          obtain ⟨r19,u23,f21,rfl,h,hr23,hf32,hB24⟩:=hR24
          refine⟨_,rfl,?_⟩
          replace hC:=hC.push hB24 (ZIm (Ya 162) r19 [u23] f21) hr23 hf32
          obtain ⟨ho21,hf33⟩:=Xf (hC.getM 0 rfl)
          subst hf33
          replace hC:=hC.recast (c:=own 162 9 u23 r19.terms.length (ZH9.encs r19.terms)) (fun _ h_=>h_) (fun _=>ho21)
          refine done (aK (by assumption) (Za 12 511) ?_)
          refine Xg 9 10 rfl rfl (by kernel_rfl) ?_ ?_
          ·skip
           refine Zg [u0_0,.agg #[u23],.agg #[u19]] _ ZIy rfl rfl rfl (Zax a0.degrees r19 (a0.images.getD s10.2.toNat Zyt) h _ (hC.getP 3 rfl) (Yq (Y2 (hC.getM 0 rfl))) (Yq (hC.getP 0 rfl))) (fun ret25 w59 hR25=>?_)
           obtain ⟨r15,u15,f22,rfl,h,hr24,hf34,hB25⟩:=hR25
           refine⟨_,rfl,?_⟩
           replace hC:=hC.push hB25 (ZIm (Ya 162) r15 [u15] f22) hr24 hf34
           obtain ⟨ho22,hf35⟩:=Xf (hC.getM 0 rfl)
           subst hf35
           replace hC:=hC.recast (c:=own 162 9 u15 r15.terms.length (ZH9.encs r15.terms)) (fun _ h_=>h_) (fun _=>ho22)
           refine done (aK (by assumption) (Za 12 1023) (aO 10 rfl (Yj hC [.slice none 0 0] z55 rfl fun b21 w60 hB_ hC=>done (aK (by assumption) (Za 12 2047) (Zu 11 (by decide) (by decide) (by kernel_rfl) (by kernel_rfl) rfl (Zw (v:=.agg #[u15]) hC 0 [u15] [u15] rfl ag55.size rfl rfl rfl rfl (Y6 (Xn (hC.getM 1 rfl)) rfl) (ZIc rfl) rfl fun w61 hC=>done (Zv ?_)))))))
           replace hC:=hC.sM [0,1,4,6,7,8,9,10,11] (M':=[blk b21 55 [u15],own 162 9 u15 r15.terms.length (ZH9.encs r15.terms),blk b14 136 (ZH6 .u8 s12.2),own 162 9 v10 s10.1.length (ZH9.encs s10.1),blk b13 136 (ZH6 .u8 ((a1.terms.getD s11.2.toNat Zyt).mono)),blk b12 55 [v10],blk b11 55 [.slice none 0 0],blk b10 55 [u1_0],blk b8 32 [u0_0,u0_1]]) (by decide) rfl
           exact⟨rfl,_,rfl,⟨b21,u15,r15,(sl ⟨rfl,rfl,rfl,rfl,rfl,rfl,rfl,rfl,rfl,rfl,trivial⟩),hC,h⟩⟩
          ·skip
           refine Yj hC [.slice none 0 0] z55 rfl fun b22 w62 hB_ hC=>done (aK (by assumption) (Za 12 1535) (aO 9 rfl ?_))
           refine Zg [u0_0,.agg #[u23],.agg #[u19]] _ ZIy rfl rfl rfl (Zax a0.degrees r19 (a0.images.getD s10.2.toNat Zyt) h _ (hC.getP 3 rfl) (Yq (Y2 (hC.getM 1 rfl))) (Yq (hC.getP 0 rfl))) (fun ret26 w63 hR26=>?_)
           obtain ⟨r24,u16,f23,rfl,h,hr25,hf36,hB26⟩:=hR26
           refine⟨_,rfl,?_⟩
           replace hC:=hC.push hB26 (ZIm (Ya 162) r24 [u16] f23) hr25 hf36
           obtain ⟨ho23,hf37⟩:=Xf (hC.getM 0 rfl)
           subst hf37
           replace hC:=hC.recast (c:=own 162 9 u16 r24.terms.length (ZH9.encs r24.terms)) (fun _ h_=>h_) (fun _=>ho23)
           refine done (aK (by assumption) (Za 12 2047) (Zu 11 (by decide) (by decide) (by kernel_rfl) (by kernel_rfl) rfl (Zw (v:=.agg #[u16]) hC 1 [u16] [u16] rfl ag55.size rfl rfl rfl rfl (Y6 (Xn (hC.getM 0 rfl)) rfl) (ZIc rfl) rfl fun w64 hC=>done (Zv ?_))))
           replace hC:=hC.sM [1,0,4,6,7,8,9,10,11] (M':=[blk b22 55 [u16],own 162 9 u16 r24.terms.length (ZH9.encs r24.terms),blk b14 136 (ZH6 .u8 s12.2),own 162 9 v10 s10.1.length (ZH9.encs s10.1),blk b13 136 (ZH6 .u8 ((a1.terms.getD s11.2.toNat Zyt).mono)),blk b12 55 [v10],blk b11 55 [.slice none 0 0],blk b10 55 [u1_0],blk b8 32 [u0_0,u0_1]]) (by decide) rfl
           exact⟨rfl,_,rfl,⟨b22,u16,r24,(sl ⟨rfl,rfl,rfl,rfl,rfl,rfl,rfl,rfl,rfl,rfl,trivial⟩),hC,h⟩⟩
         ·skip
          refine Yj hC [.slice none 0 0] z55 rfl fun b23 w65 hB_ hC=>done (aK (by assumption) (Za 12 1527) (aO 3 rfl ?_))
          refine Zg [.agg (ZH8 (ZH6 .u8 (s12.1.set s10.2.toNat (ZIk.wrap ((((a1.terms.getD s11.2.toNat Zyt).mono).get s10.2.toNat) - 1))))),.int .i64 1] _ ZI0 rfl rfl rfl (Zbd (s12.1.set s10.2.toNat (ZIk.wrap ((((a1.terms.getD s11.2.toNat Zyt).mono).get s10.2.toNat) - 1))) 1 h _) (fun ret27 w66 hR27=>?_)
          obtain ⟨r30,u29,f24,rfl,h,hr26,hf38,hB27⟩:=hR27
          refine⟨_,rfl,?_⟩
          replace hC:=hC.push hB27 (ZIm (Ya 162) r30 [u29] f24) hr26 hf38
          obtain ⟨ho24,hf39⟩:=Xf (hC.getM 0 rfl)
          subst hf39
          replace hC:=hC.recast (c:=own 162 9 u29 r30.terms.length (ZH9.encs r30.terms)) (fun _ h_=>h_) (fun _=>ho24)
          refine done (aK (by assumption) (Za 12 1535) (aO 9 rfl ?_))
          refine Zg [u0_0,.agg #[u29],.agg #[u19]] _ ZIy rfl rfl rfl (Zax a0.degrees r30 (a0.images.getD s10.2.toNat Zyt) h _ (hC.getP 3 rfl) (Yq (Y2 (hC.getM 0 rfl))) (Yq (hC.getP 0 rfl))) (fun ret28 w67 hR28=>?_)
          obtain ⟨r25,u17,f25,rfl,h,hr27,hf40,hB28⟩:=hR28
          refine⟨_,rfl,?_⟩
          replace hC:=hC.push hB28 (ZIm (Ya 162) r25 [u17] f25) hr27 hf40
          obtain ⟨ho25,hf41⟩:=Xf (hC.getM 0 rfl)
          subst hf41
          replace hC:=hC.recast (c:=own 162 9 u17 r25.terms.length (ZH9.encs r25.terms)) (fun _ h_=>h_) (fun _=>ho25)
          refine done (aK (by assumption) (Za 12 2047) (Zu 11 (by decide) (by decide) (by kernel_rfl) (by kernel_rfl) rfl (Zw (v:=.agg #[u17]) hC 2 [u17] [u17] rfl ag55.size rfl rfl rfl rfl (Y6 (Xn (hC.getM 0 rfl)) rfl) (ZIc rfl) rfl fun w68 hC=>done (Zv ?_))))
          replace hC:=hC.sM [2,0,4,6,7,8,9,10,11] (M':=[blk b23 55 [u17],own 162 9 u17 r25.terms.length (ZH9.encs r25.terms),blk b14 136 (ZH6 .u8 s12.2),own 162 9 v10 s10.1.length (ZH9.encs s10.1),blk b13 136 (ZH6 .u8 ((a1.terms.getD s11.2.toNat Zyt).mono)),blk b12 55 [v10],blk b11 55 [.slice none 0 0],blk b10 55 [u1_0],blk b8 32 [u0_0,u0_1]]) (by decide) rfl
          exact⟨rfl,_,rfl,⟨b23,u17,r25,(sl ⟨rfl,rfl,rfl,rfl,rfl,rfl,rfl,rfl,rfl,rfl,trivial⟩),hC,h⟩⟩
       ·skip
        exact⟨(sl ⟨rfl,rfl,rfl,rfl,rfl,rfl,rfl,rfl,rfl,rfl,trivial⟩),hC⟩
      refine Xg 2 3 rfl rfl (by kernel_rfl) ?_ ?_
      ·skip
       refine Zbm hC (ZH6 .u8 ZIg) Za6 rfl fun b26 w69 hn_ hB_ hC=>?_
       have hnb_b13099:=Zy6 hN_ hn_
       refine done ?_
       refine Zy (Ys hN_ (by assumption)) hN_ (l9:=(Za 6 7)) (by kernel_rfl) (fun hN_=>?_)
       refine aO 3 rfl (Zbm hC (ZH6 .u8 ZIg) Za6 rfl fun b27 w70 hn_ hB_ hC=>?_)
       have hnb_b13102:=Zy6 hN_ hn_
       refine done ?_
       refine Zy (Ys hN_ (by assumption)) hN_ (l9:=(Za 6 15)) (by kernel_rfl) (fun hN_=>?_)
       refine aO 4 rfl (Zem (v:=.agg (ZH8 (ZH6 .u8 ((a1.terms.getD s11.2.toNat Zyt).mono)))) hC 1 (ZH6 .u8 ((a1.terms.getD s11.2.toNat Zyt).mono)) (ZH6 .u8 ((a1.terms.getD s11.2.toNat Zyt).mono)) rfl ag136.size rfl rfl rfl rfl rfl (ZIc rfl) rfl fun w71 hBB_ hC=>done ?_)
       refine Zy (Yz hN_ hnb_b13099 hBB_) hN_ (l9:=(Za 6 31)) (by kernel_rfl) (fun hN_=>?_)
       refine Zu 5 (by decide) (by decide) (by kernel_rfl) (by kernel_rfl) rfl (Zw (v:=.agg (ZH8 (ZH6 .u8 ((a1.terms.getD s11.2.toNat Zyt).mono)))) hC 0 (ZH6 .u8 ((a1.terms.getD s11.2.toNat Zyt).mono)) (ZH6 .u8 ((a1.terms.getD s11.2.toNat Zyt).mono)) rfl ag136.size rfl rfl rfl rfl rfl (ZIc rfl) rfl fun w72 hC=>done (Zv ?_))
       exact⟨rfl,_,rfl,⟨b27,b26,(sl ⟨rfl,rfl,rfl,rfl,rfl,rfl,rfl,rfl,rfl,trivial⟩),hC,h⟩⟩
      ·skip
       refine Zbm hC (ZH6 .u8 ZIg) Za6 rfl fun b24 w73 hn_ hB_ hC=>?_
       have hnb_b13107:=Zy6 hN_ hn_
       refine done ?_
       refine Zy (Ys hN_ (by assumption)) hN_ (l9:=(Za 6 11)) (by kernel_rfl) (fun hN_=>?_)
       refine aO 2 rfl (Zbm hC (ZH6 .u8 ZIg) Za6 rfl fun b25 w74 hn_ hB_ hC=>?_)
       have hnb_b13110:=Zy6 hN_ hn_
       refine done ?_
       refine Zy (Ys hN_ (by assumption)) hN_ (l9:=(Za 6 15)) (by kernel_rfl) (fun hN_=>?_)
       refine aO 4 rfl (Zem (v:=.agg (ZH8 (ZH6 .u8 ((a1.terms.getD s11.2.toNat Zyt).mono)))) hC 0 (ZH6 .u8 ((a1.terms.getD s11.2.toNat Zyt).mono)) (ZH6 .u8 ((a1.terms.getD s11.2.toNat Zyt).mono)) rfl ag136.size rfl rfl rfl rfl rfl (ZIc rfl) rfl fun w75 hBB_ hC=>done ?_)
       refine Zy (Yz hN_ hnb_b13110 hBB_) hN_ (l9:=(Za 6 31)) (by kernel_rfl) (fun hN_=>?_)
       refine Zu 5 (by decide) (by decide) (by kernel_rfl) (by kernel_rfl) rfl (Zw (v:=.agg (ZH8 (ZH6 .u8 ((a1.terms.getD s11.2.toNat Zyt).mono)))) hC 1 (ZH6 .u8 ((a1.terms.getD s11.2.toNat Zyt).mono)) (ZH6 .u8 ((a1.terms.getD s11.2.toNat Zyt).mono)) rfl ag136.size rfl rfl rfl rfl rfl (ZIc rfl) rfl fun w76 hC=>done (Zv ?_))
       replace hC:=hC.sM [1,0,2,3,4,5,6,7] (M':=[blk b24 136 (ZH6 .u8 ((a1.terms.getD s11.2.toNat Zyt).mono)),blk b25 136 (ZH6 .u8 ((a1.terms.getD s11.2.toNat Zyt).mono)),own 162 9 v10 s10.1.length (ZH9.encs s10.1),blk b13 136 (ZH6 .u8 ((a1.terms.getD s11.2.toNat Zyt).mono)),blk b12 55 [v10],blk b11 55 [.slice none 0 0],blk b10 55 [u1_0],blk b8 32 [u0_0,u0_1]]) (by decide) rfl
       exact⟨rfl,_,rfl,⟨b24,b25,(sl ⟨rfl,rfl,rfl,rfl,rfl,rfl,rfl,rfl,rfl,trivial⟩),hC,h⟩⟩
    ·replace h:=Zk h (cf hb11)
     refine ZIr (Zj (Zj (Z9 ?_)))
     refine Zs (Zd (Zh (Zb (v:=.int .i64 s11.2) rfl (Zq rfl rfl (Zc (v:=.int .i64 (ZA7.wrap (s11.2+1))) rfl (done ?_))))))
     replace hC:=hC.sM [0,2,3,4,5] (M':=[own 162 9 v10 s10.1.length (ZH9.encs s10.1),blk b12 55 [v10],blk b11 55 [.slice none 0 0],blk b10 55 [u1_0],blk b8 32 [u0_0,u0_1]]) (by decide) rfl
     exact hK12 (s10.1,ZA7.wrap (s11.2+1)) _ _ ⟨v10,(sl ⟨rfl,rfl,rfl,rfl,rfl,trivial⟩),hC⟩ h
   ·skip
    replace hC:=hC.sM [1,0,2,3,4,5] (M':=[own 162 9 v11 s11.1.length (ZH9.encs s11.1),blk b13 136 (ZH6 .u8 ((a1.terms.getD s11.2.toNat Zyt).mono)),blk b12 55 [v11],blk b11 55 [.slice none 0 0],blk b10 55 [u1_0],blk b8 32 [u0_0,u0_1]]) (by decide) rfl
    exact⟨v11,(sl ⟨rfl,rfl,rfl,rfl,rfl,rfl,rfl,trivial⟩),hC⟩
  ·replace h:=Zk h (cf hb10)
   refine ZIr (Zj (Zj (Z9 ?_)))
   refine Zd (sr (Yy hC 1 [v11] rfl ag55 rfl rfl rfl (Zw (v:=.agg #[v11]) hC 2 [v11] [v11] rfl ag55.size rfl rfl rfl rfl (Y6 (Xn (hC.getM 0 rfl)) rfl) (ZIc rfl) rfl fun w77 hC=>dn (ZIi ?_))))
   refine Zp (fn:=Tryz.f71) rfl ?_ ⟨(⟨s11.1⟩:ZIb),v11,(ZI5 (Zzn v11)),rfl,h,(Za4 (Jr (hC.getM 0 rfl))),(X5 hC 0 rfl),hC.below⟩ (.inl rfl)
   exact Zag hC 2 rfl ag55 rfl rfl
 ·skip
  replace hC:=hC.pushNil 162 9
  exact⟨.slice none 0 0,(sl ⟨rfl,rfl,rfl,rfl,rfl,trivial⟩),hC⟩
def Zf7 (a0:Alg) (K:Bool→Prop):Prop :=
 Zf1 a0.degrees (fun r13=>(if¬ (r13=true) then K false else(if(a0.images.length:Int)≠(a0.degrees.length:Int) then K false else Xj (fun (s10:Int) nx10=>(if s10 < (a0.images.length:Int) then((0≤s10∧s10 < (a0.images.length:Int))∧Zf5 a0.degrees (a0.images.getD s10.toNat Zyt) (fun r14=>(if¬ (r14=true) then K false else((0≤s10∧s10 < (a0.images.length:Int))∧Zf6 a0.degrees (a0.images.getD s10.toNat Zyt) (fun r10 r11=>(if¬ (r11=true) then K false else((0≤s10∧s10 < (a0.images.length:Int))∧(if(((a0.images.getD s10.toNat Zyt).terms).length:Int) > 0 then((0≤s10∧s10 < (a0.degrees.length:Int))∧(if r10≠ZA7.wrap ((a0.degrees.getD s10.toNat Zyt)+1) then K false else nx10 (ZA7.wrap (s10+1)))) else nx10 (ZA7.wrap (s10+1)))))))))) else Xj (fun (s11:Int) nx11=>(if s11 < (a0.images.length:Int) then((0≤s11∧s11 < (a0.images.length:Int))∧Zeo a0 (a0.images.getD s11.toNat Zyt) (fun r12=>(if(r12.terms.length:Int) > 0 then K false else nx11 (ZA7.wrap (s11+1))))) else K true)) 0)) 0)))
theorem Zsx (a0 : Alg) {u0_0 : Value} {u0_1 : Value} {fp0 : List Nat} {K : Bool → Prop} (h : Zf7 a0 K) (w0 : World) (q0 : TAlg.rep a0 [u0_0, u0_1] fp0 w0) :
  Calls ZId 92 #[.agg #[u0_0,u0_1]] w0 fun e w'=>∃ (r0:Bool),
   e=.returned (.bool r0)∧K r0∧Bel w0 w':=by
 unfold Zf7 at h
 refine Z4 (args:=[.agg #[u0_0,u0_1]]) Tryz.func92 rfl 86 Tryz.ntmps92 (ZIc rfl) ?_
 have hC:=ZIt (X:=Nox) w0 [ZH7 TAlg a0 [u0_0,u0_1] fp0] (by simp only [Zyz,ZAt,or_false,forall_eq_or_imp,forall_eq]; exact q0)
 have hp2:=(hC.getP 0 rfl)
 replace hC:=hC.derive 0 rfl (ZH7 ((EI .i64).ty.sl) a0.degrees [u0_0] fp0) (fun _=>(Yw hp2).1) (fun _ hb_=>hb_)
 replace hC:=hC.derive 1 rfl (ZH7 ZIo.sl a0.images [u0_1] fp0) (fun _=>(Yw hp2).2) (fun _ hb_=>hb_)
 refine sr (Yl (v:=.agg #[u0_0,u0_1]) hC [u0_0,u0_1] rfl rfl fun b5 w7 hB_ hC=>Zc (v:=.bool false) rfl (dn (ZIa (sr (Z6 0 ZIq rfl sc22.size rfl rfl (Z8 hC 0 (u0_0) rfl sc22 rfl rfl ?_))))))
 refine Zg [u0_0] _ Tryz.func149 rfl rfl rfl (Zss a0.degrees h _ (hC.getP 1 rfl)) (fun ret8 w10 hR9=>?_)
 obtain ⟨r13,rfl,h,hB10⟩:=hR9
 refine⟨_,rfl,?_⟩
 replace hC:=hC.grow hB10
 refine Jf rfl (Zb (v:=.bool (!r13)) rfl ?_)
 refine Xh (!r13) (fun hb12=>?_) (fun hb12=>?_)
 ·replace h:=ift h (Xz (Jp hb12))
  refine Zn (b:=true) 4 11 rfl (tr rfl (congrArg _ hb12)) (by decide) (Zn (b:=true) 4 11 rfl (tr rfl (congrArg _ hb12)) (by decide) (Zn (b:=true) 4 11 rfl (tr rfl (congrArg _ hb12)) (by decide) (Zn (b:=true) 4 11 rfl (tr rfl (congrArg _ hb12)) (by decide) (Zn (b:=true) 4 11 rfl (tr rfl (congrArg _ hb12)) (by decide) (Zn (b:=true) 4 11 rfl (tr rfl (congrArg _ hb12)) (by decide) (Zn (b:=true) 4 11 rfl (tr rfl (congrArg _ hb12)) (by decide) (Yc (v:=.bool true) (b:=true) (tr rfl (congrArg _ hb12)) rfl (dn (Yr rfl rfl (sr (Zc (v:=.bool false) rfl ?_)))))))))))
  refine dn ?_
  refine ZIi (Zo ?_)
  refine Zp (fn:=ZI1) rfl ?_ ⟨false,rfl,h,hC.below⟩ (.inl rfl)
  exact Zi rfl
 ·replace h:=Zk h (not_not_intro ((Jq hb12)))
  refine Zl 4 11 rfl rfl hb12 (Z6 1 ZIq rfl sc30.size rfl rfl (Zl 4 11 rfl rfl hb12 (Z8 hC 0 (u0_1) rfl sc30 rfl rfl (Zl 4 11 rfl rfl hb12 ?_))))
  obtain ⟨Ad13,c10,hv15⟩:=Z1 (hC.getP 0 rfl)
  refine Zx ZIw (tr rfl hv15) (Zl 4 11 rfl rfl hb12 (Z6 0 ZIq rfl sc22.size rfl rfl (Zl 4 11 rfl rfl hb12 (Z8 hC 0 (u0_0) rfl sc22 rfl rfl (Zl 4 11 rfl rfl hb12 ?_)))))
  obtain ⟨Ad14,c11,hv16⟩:=Z1 (hC.getP 1 rfl)
  refine Zx ZIs (tr rfl hv16) (Zl 4 11 rfl rfl hb12 (Xl rfl rfl (Yc (v:=.bool (decide ((a0.images.length:Int)≠(a0.degrees.length:Int)))) (b:=false) (tr rfl (congrArg _ hb12)) rfl (dn ?_))))
  refine Zr rfl (fun hb13=>?_) (fun hb13=>?_)
  ·replace h:=ift h (ct hb13)
   refine sr (Zc (v:=.bool false) rfl (dn ?_))
   refine ZIi (Zo ?_)
   refine Zp (fn:=ZI1) rfl ?_ ⟨false,rfl,h,hC.below⟩ (.inl rfl)
   exact Zi rfl
  ·replace h:=Zk h (cf hb13)
   refine ZIe (Zd (ZIa (sr (Zc (v:=.int .i64 0) rfl (dn (ZIj ?_))))))
   refine X1 (S:=Int) _ (fun s10 e_ w_=>Z3 e_ [(1,.pointer (some ⟨b5,0,none⟩)),(3,.int .i64 s10)]∧Ctx Nox w0 w_ [blk b5 32 [u0_0,u0_1]] [ZH7 ZIo.sl a0.images [u0_1] fp0,ZH7 ((EI .i64).ty.sl) a0.degrees [u0_0] fp0,ZH7 TAlg a0 [u0_0,u0_1] fp0]) ?_ (s0:=0) ?_ h
   ·clear hC h
    rintro s10 e_ w11 nx10 K10 ⟨hS_,hC⟩ h hK10
    rw [ue hS_]
    refine ZIa (sr (Zb (v:=.int .i64 s10) rfl (Z6 1 ZIq rfl sc30.size rfl rfl (Z8 hC 0 (u0_1) rfl sc30 rfl rfl ?_))))
    obtain ⟨Ad15,c12,hv17⟩:=Z1 (hC.getP 0 rfl)
    refine Zx ZIw (tr rfl hv17) (Zt rfl rfl (dn ?_))
    refine Zr rfl (fun hb14=>?_) (fun hb14=>?_)
    ·replace h:=ift h (ct hb14)
     refine ZIe (Zd (ZIa (ZIj (ZIa (ZIa ?_)))))
     refine Yg 7 Ye [0,1,0,4,0,28,60,127,255] [1,3,5,6] [0,2,4] (by kernel_rfl) (by kernel_rfl) (by kernel_rfl) (fun hM11 hM14 w12 hB_=>?_)
     replace hC:=hC.grow hB_
     refine aF 0 (.pointer (some ⟨b5,0,none⟩)) rfl rfl (hM14 0 rfl) (rfl) (fun _=>by exact Z7 0 ZIq rfl sc22.size rfl rfl) (Za 9 1) (aL 1 (u0_0) rfl rfl (hM11 1 rfl) (rfl) (fun _ hB_=>by exact Z5 (hC.grow hB_) 0 (u0_0) rfl sc22 rfl rfl) (Za 9 3) (aF 2 (.pointer (some ⟨b5,1,none⟩)) rfl rfl (hM14 2 rfl) (rfl) (fun _=>by exact Z7 1 ZIq rfl sc30.size rfl rfl) (Za 9 7) (aL 3 (u0_1) rfl rfl (hM11 3 rfl) (rfl) (fun _ hB_=>by exact Z5 (hC.grow hB_) 0 (u0_1) rfl sc30 rfl rfl) (Za 9 15) (aF 4 (.int .i64 s10) rfl rfl (hM14 4 rfl) (rfl) (fun _=>by exact Zf (v:=.int .i64 s10) rfl) (Za 9 31) ?_))))
     obtain ⟨⟨h10,h11⟩,h⟩:=h
     obtain ⟨Ad10,c13,hv10⟩:=Z0 (hC.getP 0 rfl) s10.toNat (show s10.toNat < a0.images.length by omega)
     refine aL 5 (.pointer (some (Ad10.add (s10.toNat * 1)))) rfl rfl (hM11 5 rfl) (rfl) (fun _ hB_=>by exact Yp (len:=a0.images.length) ZIw ag55.size (by exact tr rfl hv10) rfl h10 h11) (Za 9 63) ?_
     obtain ⟨cs_,hl10,hc10,hr10⟩:=Xs (hC.getP 0 rfl) hv10 s10.toNat (show s10.toNat < a0.images.length by omega)
     obtain ⟨u10,rfl⟩:=ZI4.1 hl10
     clear hl10
     rw [Xt _ _ (show s10.toNat < a0.images.length by omega)] at hr10
     have hp10:=hr10
     replace hC:=hC.derive 0 rfl (ZH7 ZH9.ty.sl ((a0.images.getD s10.toNat Zyt).terms) [u10] fp0) (fun _=>(Xi hp10)) (fun _ hb_=>hb_)
     refine aL 6 (.agg #[u10]) rfl rfl (hM11 6 rfl) (rfl) (fun _ hB_=>by exact X4 [u10] (Jz hB_ hc10) ag55 rfl rfl) (Za 9 127) (Zu 7 (by decide) (by decide) (by kernel_rfl) (by kernel_rfl) rfl ?_)
     refine Zg [u0_0,.agg #[u10]] _ Tryz.func120 rfl rfl rfl (Zsv a0.degrees (a0.images.getD s10.toNat Zyt) h _ (hC.getP 2 rfl) (Yq (hC.getP 0 rfl))) (fun ret10 w13 hR10=>?_)
     obtain ⟨r14,rfl,h,hB11⟩:=hR10
     refine⟨_,rfl,?_⟩
     replace hC:=hC.grow hB11
     refine Jf rfl (done (Zv (Zd ?_)))
     refine Zr rfl (fun hb15=>?_) (fun hb15=>?_)
     ·replace h:=ift h (Xz (Jp hb15))
      refine sr (Zc (v:=.bool false) rfl (dn ?_))
      refine ZIi (Zo (Yd (Zo (Zo (Yd (Zo ?_))))))
      refine Zp (fn:=ZI1) rfl ?_ ⟨false,rfl,h,hC.below⟩ (.inl rfl)
      exact Zi rfl
     ·replace h:=Zk h (not_not_intro ((Jq hb15)))
      refine ZIe (Zd (ZIa ?_))
      refine Yg 12 Ye [0,1,0,4,0,28,60,127,255,511,511,1023,4095] [1,3,5,6] [0,2,4,8,9,10,11] (by kernel_rfl) (by kernel_rfl) (by kernel_rfl) (fun hM12 hM10 w14 hB_=>?_)
      replace hC:=hC.grow hB_
      refine aF 0 (.pointer (some ⟨b5,0,none⟩)) rfl rfl (hM10 0 rfl) (rfl) (fun _=>by exact Z7 0 ZIq rfl sc22.size rfl rfl) (Za 13 1) (aL 1 (u0_0) rfl rfl (hM12 1 rfl) (rfl) (fun _ hB_=>by exact Z5 (hC.grow hB_) 0 (u0_0) rfl sc22 rfl rfl) (Za 13 3) (aF 2 (.pointer (some ⟨b5,1,none⟩)) rfl rfl (hM10 2 rfl) (rfl) (fun _=>by exact Z7 1 ZIq rfl sc30.size rfl rfl) (Za 13 7) (aL 3 (u0_1) rfl rfl (hM12 3 rfl) (rfl) (fun _ hB_=>by exact Z5 (hC.grow hB_) 0 (u0_1) rfl sc30 rfl rfl) (Za 13 15) (aF 4 (.int .i64 s10) rfl rfl (hM10 4 rfl) (rfl) (fun _=>by exact Zf (v:=.int .i64 s10) rfl) (Za 13 31) ?_))))
      obtain ⟨⟨h12,h13⟩,h⟩:=h
      obtain ⟨Ad11,c14,hv11⟩:=Z0 (hC.getP 1 rfl) s10.toNat (show s10.toNat < a0.images.length by omega)
      refine aL 5 (.pointer (some (Ad11.add (s10.toNat * 1)))) rfl rfl (hM12 5 rfl) (rfl) (fun _ hB_=>by exact Yp (len:=a0.images.length) ZIw ag55.size (by exact tr rfl hv11) rfl h12 h13) (Za 13 63) ?_
      obtain ⟨cs_,hl11,hc11,hr11⟩:=Xs (hC.getP 1 rfl) hv11 s10.toNat (show s10.toNat < a0.images.length by omega)
      obtain ⟨u11,rfl⟩:=ZI4.1 hl11
      clear hl11
      rw [Xt _ _ (show s10.toNat < a0.images.length by omega)] at hr11
      have hp11:=hr11
      replace hC:=hC.derive 1 rfl (ZH7 ZH9.ty.sl ((a0.images.getD s10.toNat Zyt).terms) [u11] fp0) (fun _=>(Xi hp11)) (fun _ hb_=>hb_)
      refine aL 6 (.agg #[u11]) rfl rfl (hM12 6 rfl) (rfl) (fun _ hB_=>by exact X4 [u11] (Jz hB_ hc11) ag55 rfl rfl) (Za 13 127) (aO 7 rfl ?_)
      refine Zg [u0_0,.agg #[u11]] _ Tryz.func69 rfl rfl rfl (Zsw a0.degrees (a0.images.getD s10.toNat Zyt) h _ (hC.getP 3 rfl) (Yq (hC.getP 0 rfl))) (fun ret11 w15 hR11=>?_)
      obtain ⟨r10,r11,rfl,h,hB12⟩:=hR11
      refine⟨_,rfl,?_⟩
      replace hC:=hC.grow hB12
      refine done (aK (by assumption) (Za 13 255) (aF 8 (.tuple #[.int .i64 r10,.bool r11]) rfl rfl (hM10 8 rfl) (rfl) (fun _=>by exact Zf (v:=.tuple #[.int .i64 r10,.bool r11]) rfl) (Za 13 511) (aF 9 (.int .i64 r10) rfl rfl (hM10 9 rfl) (rfl) (fun _=>by exact Zd9 (v:=.int .i64 r10) rfl rfl) (Za 13 1023) (aF 10 (.bool r11) rfl rfl (hM10 10 rfl) (rfl) (fun _=>by exact Zd9 (v:=.bool r11) rfl rfl) (Za 13 2047) (aF 11 (.int .i64 r10) rfl rfl (hM10 11 rfl) (rfl) (fun _=>by exact Zhv (v:=.int .i64 r10) rfl) (Za 13 4095) (Zu 12 (by decide) (by decide) (by kernel_rfl) (by kernel_rfl) rfl (Zc (v:=.bool r11) rfl (done (Zv (Zd (sr ?_)))))))))))
      refine Zb (v:=.bool r11) rfl (Jf rfl (Zb (v:=.bool (!r11)) rfl ?_))
      refine Xh (!r11) (fun hb10=>?_) (fun hb10=>?_)
      ·replace h:=ift h (Xz (Jp hb10))
       refine Zn (b:=true) 2 49 rfl (tr rfl (congrArg _ hb10)) (by decide) (Zn (b:=true) 2 49 rfl (tr rfl (congrArg _ hb10)) (by decide) (Zn (b:=true) 2 49 rfl (tr rfl (congrArg _ hb10)) (by decide) (Zn (b:=true) 2 49 rfl (tr rfl (congrArg _ hb10)) (by decide) (Zn (b:=true) 2 49 rfl (tr rfl (congrArg _ hb10)) (by decide) (Zn (b:=true) 2 49 rfl (tr rfl (congrArg _ hb10)) (by decide) (Zn (b:=true) 2 49 rfl (tr rfl (congrArg _ hb10)) (by decide) (Zn (b:=true) 2 49 rfl (tr rfl (congrArg _ hb10)) (by decide) (Zn (b:=true) 2 49 rfl (tr rfl (congrArg _ hb10)) (by decide) (Zae 11 58 rfl rfl (Zae 11 58 rfl rfl (Zae 11 58 rfl rfl ?_)))))))))))
       refine Zae 11 58 rfl rfl (Zae 11 58 rfl rfl (Zae 11 58 rfl rfl (Zae 11 58 rfl rfl (Zae 11 58 rfl rfl (Zn (b:=true) 2 49 rfl (tr rfl (congrArg _ hb10)) (by decide) (Yc (v:=.bool true) (b:=true) (tr rfl (congrArg _ hb10)) rfl (dn (Yr rfl rfl (sr (Zc (v:=.bool false) rfl (dn ?_)))))))))))
       refine ZIi (Yd (Zo (Zo (Yd (Zo ?_)))))
       refine Zp (fn:=ZI1) rfl ?_ ⟨false,rfl,h,hC.below⟩ (.inl rfl)
       exact Zi rfl
      ·replace h:=Zk h (not_not_intro ((Jq hb10)))
       refine Zl 2 49 rfl rfl hb10 (Z6 1 ZIq rfl sc30.size rfl rfl (Zl 2 49 rfl rfl hb10 (Z8 hC 0 (u0_1) rfl sc30 rfl rfl (Zl 2 49 rfl rfl hb10 (Zb (v:=.int .i64 s10) rfl (Zl 2 49 rfl rfl hb10 ?_))))))
       obtain ⟨⟨h14,h15⟩,h⟩:=h
       obtain ⟨Ad16,c15,hv12⟩:=Z0 (hC.getP 2 rfl) s10.toNat (show s10.toNat < a0.images.length by omega)
       refine Xb (len:=a0.images.length) ZIw ag55.size (tr rfl hv12) rfl h14 h15 (Zl 2 49 rfl rfl hb10 (Zea (s10.toNat * 1+0) ZIf rfl sc53.size rfl rfl (Zl 2 49 rfl rfl hb10 ?_)))
       obtain ⟨cs_,hl12,hc12,hr12⟩:=Xs (hC.getP 2 rfl) hv12 s10.toNat (show s10.toNat < a0.images.length by omega)
       obtain ⟨u14,rfl⟩:=ZI4.1 hl12
       clear hl12
       rw [Xt _ _ (show s10.toNat < a0.images.length by omega)] at hr12
       have hp12:=hr12
       replace hC:=hC.derive 2 rfl (ZH7 ZH9.ty.sl ((a0.images.getD s10.toNat Zyt).terms) [u14] fp0) (fun _=>(Xi hp12)) (fun _ hb_=>hb_)
       refine Xm (u14) (J2 (o:=0) (k:=1) hc12 rfl) sc53 rfl (Zl 2 49 rfl rfl hb10 ?_)
       obtain ⟨Ad17,c16,hv18⟩:=Z1 (hC.getP 0 rfl)
       refine Zx ZIh (tr rfl hv18) (Zl 2 49 rfl rfl hb10 (Jj rfl rfl (Zl 2 49 rfl rfl hb10 (Zb (v:=.bool (decide ((((a0.images.getD s10.toNat Zyt).terms).length:Int) > 0))) rfl ?_))))
       refine Xh (decide ((((a0.images.getD s10.toNat Zyt).terms).length:Int) > 0)) (fun hb11=>?_) (fun hb11=>?_)
       ·replace h:=ift h (ct hb11)
        refine Zl 11 58 rfl rfl hb11 (Zb (v:=.int .i64 r10) rfl (Zl 11 58 rfl rfl hb11 (Z6 0 ZIq rfl sc22.size rfl rfl (Zl 11 58 rfl rfl hb11 (Z8 hC 0 (u0_0) rfl sc22 rfl rfl (Zl 11 58 rfl rfl hb11 (Zb (v:=.int .i64 s10) rfl (Zl 11 58 rfl rfl hb11 ?_))))))))
        obtain ⟨⟨h16,h17⟩,h⟩:=h
        obtain ⟨Ad18,c17,hv13⟩:=Z0 (hC.getP 4 rfl) s10.toNat (show s10.toNat < a0.degrees.length by omega)
        refine Xb (len:=a0.degrees.length) ZIs sc2.size (tr rfl hv13) rfl h16 h17 (Zl 11 58 rfl rfl hb11 (Xm (.int .i64 (a0.degrees.getD s10.toNat Zyt)) (Yf (hC.getP 4 rfl) hv13 s10.toNat (show s10.toNat < a0.degrees.length by omega)) sc2 rfl (Zl 11 58 rfl rfl hb11 (Zq rfl rfl (Zl 11 58 rfl rfl hb11 (Xl rfl rfl (Zl 2 49 rfl rfl hb10 (Yc (v:=.bool (decide (r10≠ZA7.wrap ((a0.degrees.getD s10.toNat Zyt)+1)))) (b:=true) (tr rfl (congrArg _ hb11)) rfl (Yc (v:=.bool (decide (r10≠ZA7.wrap ((a0.degrees.getD s10.toNat Zyt)+1)))) (b:=false) (tr rfl (congrArg _ hb10)) rfl (dn ?_))))))))))
        refine Zr rfl (fun hb16=>?_) (fun hb16=>?_)
        ·replace h:=ift h (ct hb16)
         refine sr (Zc (v:=.bool false) rfl (dn ?_))
         refine ZIi (Yd (Zo (Zo (Yd (Zo ?_)))))
         refine Zp (fn:=ZI1) rfl ?_ ⟨false,rfl,h,hC.below⟩ (.inl rfl)
         exact Zi rfl
        ·replace h:=Zk h (cf hb16)
         refine ZIe (Zs (Zd (Zh (Zb (v:=.int .i64 s10) rfl (Zq rfl rfl (Zc (v:=.int .i64 (ZA7.wrap (s10+1))) rfl (done ?_)))))))
         replace hC:=hC.sP [3,4,5] (Ps':=[ZH7 ZIo.sl a0.images [u0_1] fp0,ZH7 ((EI .i64).ty.sl) a0.degrees [u0_0] fp0,ZH7 TAlg a0 [u0_0,u0_1] fp0]) rfl
         exact hK10 (ZA7.wrap (s10+1)) _ _ ⟨(sl ⟨rfl,rfl,trivial⟩),hC⟩ h
       ·replace h:=Zk h (cf hb11)
        refine Zn (b:=false) 11 58 rfl (tr rfl (congrArg _ hb11)) (by decide) (Zn (b:=false) 11 58 rfl (tr rfl (congrArg _ hb11)) (by decide) (Zn (b:=false) 11 58 rfl (tr rfl (congrArg _ hb11)) (by decide) (Zn (b:=false) 11 58 rfl (tr rfl (congrArg _ hb11)) (by decide) (Zn (b:=false) 11 58 rfl (tr rfl (congrArg _ hb11)) (by decide) (Zn (b:=false) 11 58 rfl (tr rfl (congrArg _ hb11)) (by decide) (Zn (b:=false) 11 58 rfl (tr rfl (congrArg _ hb11)) (by decide) (Zn (b:=false) 11 58 rfl (tr rfl (congrArg _ hb11)) (by decide) (Zl 2 49 rfl rfl hb10 (Yc (v:=.bool false) (b:=false) (tr rfl (congrArg _ hb11)) rfl (Yc (v:=.bool false) (b:=false) (tr rfl (congrArg _ hb10)) rfl (dn ?_)))))))))))
        refine Yi rfl rfl (ZIe (Zs (Zd (Zh (Zb (v:=.int .i64 s10) rfl (Zq rfl rfl (Zc (v:=.int .i64 (ZA7.wrap (s10+1))) rfl (done ?_))))))))
        replace hC:=hC.sP [3,4,5] (Ps':=[ZH7 ZIo.sl a0.images [u0_1] fp0,ZH7 ((EI .i64).ty.sl) a0.degrees [u0_0] fp0,ZH7 TAlg a0 [u0_0,u0_1] fp0]) rfl
        exact hK10 (ZA7.wrap (s10+1)) _ _ ⟨(sl ⟨rfl,rfl,trivial⟩),hC⟩ h
    ·replace h:=Zk h (cf hb14)
     refine ZIr (Zj (Zj (Z9 ?_)))
     refine Zd (ZIa (sr (Zc (v:=.int .i64 0) rfl (dn (ZIj ?_)))))
     refine X1 (S:=Int) _ (fun s11 e_ w_=>Z3 e_ [(1,.pointer (some ⟨b5,0,none⟩)),(6,.int .i64 s11)]∧Ctx Nox w0 w_ [blk b5 32 [u0_0,u0_1]] [ZH7 ZIo.sl a0.images [u0_1] fp0,ZH7 ((EI .i64).ty.sl) a0.degrees [u0_0] fp0,ZH7 TAlg a0 [u0_0,u0_1] fp0]) ?_ (s0:=0) ?_ h
     ·clear hC h
      rintro s11 e_ w16 nx11 K11 ⟨hS_,hC⟩ h hK11
      rw [ue hS_]
      refine ZIa (sr (Zb (v:=.int .i64 s11) rfl (Z6 1 ZIq rfl sc30.size rfl rfl (Z8 hC 0 (u0_1) rfl sc30 rfl rfl ?_))))
      obtain ⟨Ad19,c18,hv19⟩:=Z1 (hC.getP 0 rfl)
      refine Zx ZIw (tr rfl hv19) (Zt rfl rfl (dn ?_))
      refine Zr rfl (fun hb17=>?_) (fun hb17=>?_)
      ·replace h:=ift h (ct hb17)
       refine ZIe (Zd (ZIa (ZIj (ZIa ?_))))
       refine Yg 6 Ye [0,0,2,0,14,30,63,127,255,511] [0,2,4,5] [1,3] (by kernel_rfl) (by kernel_rfl) (by kernel_rfl) (fun hM13 hM15 w17 hB_=>?_)
       replace hC:=hC.grow hB_
       refine aL 0 (.agg #[u0_0,u0_1]) rfl rfl (hM13 0 rfl) (rfl) (fun _ hB_=>by exact Yv (hC.grow hB_) 0 [u0_0,u0_1] rfl ag32 rfl rfl rfl) (Za 10 1) (aF 1 (.pointer (some ⟨b5,1,none⟩)) rfl rfl (hM15 1 rfl) (rfl) (fun _=>by exact Z7 1 ZIq rfl sc30.size rfl rfl) (Za 10 3) (aL 2 (u0_1) rfl rfl (hM13 2 rfl) (rfl) (fun _ hB_=>by exact Z5 (hC.grow hB_) 0 (u0_1) rfl sc30 rfl rfl) (Za 10 7) (aF 3 (.int .i64 s11) rfl rfl (hM15 3 rfl) (rfl) (fun _=>by exact Zf (v:=.int .i64 s11) rfl) (Za 10 15) ?_)))
       obtain ⟨⟨h18,h19⟩,h⟩:=h
       obtain ⟨Ad12,c19,hv14⟩:=Z0 (hC.getP 0 rfl) s11.toNat (show s11.toNat < a0.images.length by omega)
       refine aL 4 (.pointer (some (Ad12.add (s11.toNat * 1)))) rfl rfl (hM13 4 rfl) (rfl) (fun _ hB_=>by exact Yp (len:=a0.images.length) ZIw ag55.size (by exact tr rfl hv14) rfl h18 h19) (Za 10 31) ?_
       obtain ⟨cs_,hl13,hc13,hr13⟩:=Xs (hC.getP 0 rfl) hv14 s11.toNat (show s11.toNat < a0.images.length by omega)
       obtain ⟨u12,rfl⟩:=ZI4.1 hl13
       clear hl13
       rw [Xt _ _ (show s11.toNat < a0.images.length by omega)] at hr13
       have hp13:=hr13
       replace hC:=hC.derive 0 rfl (ZH7 ZH9.ty.sl ((a0.images.getD s11.toNat Zyt).terms) [u12] fp0) (fun _=>(Xi hp13)) (fun _ hb_=>hb_)
       refine aL 5 (.agg #[u12]) rfl rfl (hM13 5 rfl) (rfl) (fun _ hB_=>by exact X4 [u12] (Jz hB_ hc13) ag55 rfl rfl) (Za 10 63) (Zu 6 (by decide) (by decide) (by kernel_rfl) (by kernel_rfl) rfl ?_)
       refine Zg [.agg #[u0_0,u0_1],.agg #[u12]] _ Tryz.func71 rfl rfl rfl (Znw a0 (a0.images.getD s11.toNat Zyt) h _ (Xy (hC.getP 2 rfl) (hC.getP 1 rfl)) (Yq (hC.getP 0 rfl))) (fun ret12 w18 hR12=>?_)
       obtain ⟨r12,u13,f10,rfl,h,hr14,hf10,hB13⟩:=hR12
       refine⟨_,rfl,?_⟩
       replace hC:=hC.push hB13 (ZIm (Ya 162) r12 [u13] f10) hr14 hf10
       obtain ⟨ho10,hf11⟩:=Xf (hC.getM 0 rfl)
       subst hf11
       replace hC:=hC.recast (c:=own 162 9 u13 r12.terms.length (ZH9.encs r12.terms)) (fun _ h_=>h_) (fun _=>ho10)
       refine Zsb (u13) ZIf rfl sc53 rfl rfl ?_
       obtain ⟨Ad20,c20,hv20⟩:=J1 (hC.getM 0 rfl)
       refine Zx ZIh (tr rfl hv20) (Jj rfl rfl (done (Zv (Zd ?_))))
       refine Zr rfl (fun hb18=>?_) (fun hb18=>?_)
       ·replace h:=ift h (ct hb18)
        refine sr (Zc (v:=.bool false) rfl (dn ?_))
        refine ZIi (Yd (Zo (Zo (Yd (Zo ?_)))))
        refine Zp (fn:=ZI1) rfl ?_ ⟨false,rfl,h,hC.below⟩ (.inl rfl)
        exact Zi rfl
       ·replace h:=Zk h (cf hb18)
        refine ZIe (Zs (Zd (Zh (Zb (v:=.int .i64 s11) rfl (Zq rfl rfl (Zc (v:=.int .i64 (ZA7.wrap (s11+1))) rfl (done ?_)))))))
        replace hC:=hC.sM [1] (M':=[blk b5 32 [u0_0,u0_1]]) (by decide) rfl
        replace hC:=hC.sP [1,2,3] (Ps':=[ZH7 ZIo.sl a0.images [u0_1] fp0,ZH7 ((EI .i64).ty.sl) a0.degrees [u0_0] fp0,ZH7 TAlg a0 [u0_0,u0_1] fp0]) rfl
        exact hK11 (ZA7.wrap (s11+1)) _ _ ⟨(sl ⟨rfl,rfl,trivial⟩),hC⟩ h
      ·replace h:=Zk h (cf hb17)
       refine ZIr (Zj (Zj (Z9 ?_)))
       refine Zd (sr (Zc (v:=.bool true) rfl (dn (ZIi ?_))))
       refine Zp (fn:=ZI1) rfl ?_ ⟨true,rfl,h,hC.below⟩ (.inl rfl)
       exact Zi rfl
     ·skip
      exact⟨(sl ⟨rfl,rfl,trivial⟩),hC⟩
   ·skip
    exact⟨(sl ⟨rfl,rfl,trivial⟩),hC⟩
def Zak (a0:Int) (K:Int→Prop):Prop :=
 K (Zyy (ZA7.wrap ((Zyy a0 10007)+10007)) 10007)
theorem Zf8 (a0:Int)  {K:Int→Prop} (h:Zak a0 K) (w0:World)  :
  Calls ZId 187 #[.int .i64 a0] w0 fun e w'=>∃ (r0:Int),
   e=.returned (.int .i64 r0)∧K r0∧Bel w0 w':=by
 unfold Zak at h
 refine Z4 (args:=[.int .i64 a0]) Tryz.func187 rfl 7 Tryz.ntmps187 (ZIc rfl) ?_
 have hC:=ZIt (X:=Nox) w0 [] (by simp)
 refine sr (Zc (v:=.int .i64 0) rfl (dn (sr (Zb (v:=.int .i64 a0) rfl (X0 rfl rfl (by decide) (Zq rfl rfl (X0 rfl rfl (by decide) (Zc (v:=.int .i64 (Zyy (ZA7.wrap ((Zyy a0 10007)+10007)) 10007)) rfl (dn (ZIi ?_))))))))))
 refine Zp (fn:=Tryz.f187) rfl ?_ ⟨Zyy (ZA7.wrap ((Zyy a0 10007)+10007)) 10007,rfl,h,hC.below⟩ (.inl rfl)
 exact Zi rfl
def Zc7 (a0:A8) (K:A8→Prop):Prop :=
 Yt (fun i10 (s10:A8) nx10=>nx10 (s10.set i10 (ZA7.wrap (a0.get i10)))) (fun (s10:A8)=>K s10) 8 0 ZIg
theorem Zio (a0:A8)  {K:A8→Prop} (h:Zc7 a0 K) (w0:World)  :
  Calls ZId 134 #[.agg (ZH8 (ZH6 .u8 a0))] w0 fun e w'=>∃ (r0:A8),
   e=.returned (.agg (ZH8 (ZH6 .i64 r0)))∧K r0∧Bel w0 w':=by
 unfold Zc7 at h
 refine Z4 (args:=[.agg (ZH8 (ZH6 .u8 a0))]) Tryz.func134 rfl 18 Tryz.ntmps134 (ZIc rfl) ?_
 have hC:=ZIt (X:=Nox) w0 [] (by simp)
 refine sr (Yl (v:=.agg (ZH8 (ZH6 .u8 a0))) hC (ZH6 .u8 a0) rfl rfl fun b1 w3 hB_ hC=>Yj hC (ZH6 .i64 ZIg) z73 rfl fun b4 w6 hB_ hC=>dn (sr (Jn [] rfl (Zf0   _) (Yj hC (ZH6 .i64 ZIg) z73 rfl fun b7 w9 hB_ hC=>Zw (v:=.agg (ZH8 (ZH6 .i64 ZIg))) hC 0 (ZH6 .i64 ZIg) (ZH6 .i64 ZIg) rfl ag73.size rfl rfl rfl rfl rfl (ZIc rfl) rfl fun w10 hC=>dn (ZIa (sr (Yy hC 2 (ZH6 .u8 a0) rfl ag136 rfl rfl rfl ?_)))))))
 refine Zb (v:=.int .i64 0) rfl (dn (ZIj ?_))
 refine Y9 (S:=A8) _ _ (fun i10 s10 e_ w_=>Z3 e_ [(2,.pointer (some ⟨b4,0,none⟩)),(3,.pointer (some ⟨b7,0,none⟩)),(7,.agg (ZH8 (ZH6 .u8 a0))),(8,.int .i64 (i10:Int))]∧Ctx Nox w0 w_ [blk b7 73 (ZH6 .i64 s10),blk b4 73 (ZH6 .i64 ZIg)] []) 8 ?_ ?_ (s0:=ZIg) ?_ h
 ·clear hC h
  rintro i10 s10 e_ w11 nx10 K10 hi10 ⟨hS_,hC⟩ h hK10
  rw [ue hS_]
  refine sr (Zt rfl rfl (dn (ZIa (Yr rfl (decide_eq_true (by omega)) (ZIe (Zd (ZIa (ZIj (sr (Zb (v:=.int .i64 (i10:Int)) rfl (Zjw (.int .u8 (a0.get i10)) ZIn rfl rfl (ZIv _) (by omega) sc5 (ZIu _ _ hi10) ?_)))))))))))
  refine Zc (v:=.int .i64 (i10:Int)) rfl (Zc (v:=.int .u8 (a0.get i10)) rfl (dn (Zh (Zb (v:=.int .i64 (i10:Int)) rfl (Zb (v:=.int .u8 (a0.get i10)) rfl (Zhw ZI6 ZJg rfl (Y5 i10 ZJf sc3.size rfl rfl (ZIv _) (by omega) (by omega) (Zw (v:=.int .i64 (ZA7.wrap (a0.get i10))) hC 0 [.int .i64 (ZA7.wrap (a0.get i10))] (ZH6 .i64 (s10.set i10 (ZA7.wrap (a0.get i10)))) rfl sc3.size rfl rfl rfl rfl rfl hi10 (ZI3 _ _ _ hi10) fun w12 hC=>done (Zs (Zd ?_))))))))))
  refine Zh (Zq rfl rfl (Zb (v:=.int .i64 (ZA7.wrap ((i10:Int)+1))) rfl (done ?_)))
  exact hK10 (s10.set i10 (ZA7.wrap (a0.get i10))) _ _ ⟨(sl ⟨rfl,rfl,rfl,(tr rfl (congrArg _ (Yh hi10 (by decide)))),trivial⟩),hC⟩ h
 ·clear hC h
  rintro s10 e_ w13 K10 ⟨hS_,hC⟩ h
  rw [ue hS_]
  refine sr (Zt rfl rfl (dn (ZIa (Yi rfl (decide_eq_false (by omega)) ?_))))
  refine ZIr (Zj (Zj (Z9 ?_)))
  refine Zd (sr (Yy hC 0 (ZH6 .i64 s10) rfl ag73 rfl rfl rfl (Zw (v:=.agg (ZH8 (ZH6 .i64 s10))) hC 1 (ZH6 .i64 s10) (ZH6 .i64 s10) rfl ag73.size rfl rfl rfl rfl rfl (ZIc rfl) rfl fun w14 hC=>dn (ZIi ?_))))
  refine Zp (fn:=Tryz.f134) rfl ?_ ⟨s10,rfl,h,hC.below⟩ (.inl rfl)
  exact Zag hC 1 rfl ag73 rfl rfl
 ·skip
  replace hC:=hC.sM [0,1] (M':=[blk b7 73 (ZH6 .i64 ZIg),blk b4 73 (ZH6 .i64 ZIg)]) (by decide) rfl
  exact⟨(sl ⟨rfl,rfl,rfl,rfl,trivial⟩),hC⟩
end Go.Proofs.YtaagfepgbofmlaaGreat
